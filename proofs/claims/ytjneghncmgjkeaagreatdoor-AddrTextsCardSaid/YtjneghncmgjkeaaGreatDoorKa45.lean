/-
  apportionref17: Check (printed by tools/genIa.py).
-/
import Derived.Deep.RegionHeld3
import Derived.Test.YtjneghncmgjkeaaGreatDoorKa44
import Derived.Test.YtjneghncmgjkeaaGreatDoorKa27
set_option linter.unusedVariables false
namespace Go.Proofs.YtjneghncmgjkeaaGreatDoor
open Go.RowKit

set_option maxRecDepth 100000 in
set_option maxHeartbeats 4000000 in
theorem rcheck_any (a : Ad) (h : AdS a 1000) (W : World) :
    Calls Tryz.prog 19 #[adV a] W fun e w' => e = .returned (.int .i64 (checkP a)) ∧ Ext W w' := by
  rw [← rcheck_eq]
  have h2 := h.name
  have h6 := h.city
  have B0 := Blk.new W 23 (adC a)
  have H4t := Lib.hid (fun (w' : World) (hy : Ext (W.alloc (.cells (adC a) 23)) w') => rck4 (W := W) w' W.heap.size a (namedP a.name [1, 2, 3]) (namedP a.city [1, 2, 3]) ((if namedP a.city [1, 2, 3] then (tokensP a.city).1 else []).all fun t => t.k == 1) (rcheckP a) h (((Ext.refl W).alloc _).trans hy) (B0.ext hy) rfl)
  have H1 := Lib.hid (fun w => rlist_any a.name (by omega) w)
  have H2 := Lib.hid (fun w => rlist_any a.city (by omega) w)
  have hsm : ∀ t ∈ (if namedP a.city [1, 2, 3] then (tokensP a.city).1 else []), t.t.length ≤ 300 := by
    intro t ht
    split at ht
    · exact tokensP_sm _ t ht
    · cases ht
  have hl40 : (if namedP a.city [1, 2, 3] then (tokensP a.city).1 else []).length ≤ 100 := by
    have := (tokensP_ok a.city).l40
    split
    · omega
    · simp
  clear h
  unfold LiR at H1 H2
  generalize namedP a.name [1, 2, 3] = n1 at *
  generalize (if n1 then (tokensP a.name).1 else []) = ln at *
  generalize (if namedP a.city [1, 2, 3] then (tokensP a.city).1 else []) = lc at *
  generalize namedP a.city [1, 2, 3] = n2 at *
  generalize rcheckP a = R at *
  obtain ⟨zn, zh, zpre, zname, zsuf, zpost, zunit, zcity, zstate, zzip, zmore⟩ := a
  rw [adV_eq]
  unfold adC at B0 H4t
  dsimp only at *
  go_enter Tryz.func19, Tryz.ntmps19
  go_upto_region 1 with (fail)
  generalize W.alloc (.cells #[.int .i64 zn, .bool zh, .string ⟨zpre.toArray⟩, .string ⟨zname.toArray⟩, .string ⟨zsuf.toArray⟩, .string ⟨zpost.toArray⟩, .string ⟨zunit.toArray⟩, .string ⟨zcity.toArray⟩, .string ⟨zstate.toArray⟩, .string ⟨zzip.toArray⟩, .string ⟨zmore.toArray⟩] 23) = w at *
  generalize W.heap.size = ga at *
  have BA := Lib.hid (fun w' (hx : Ext w w') => (show (∀ i, w'.cell? ⟨ga, i, none⟩ = (#[.int .i64 zn, .bool zh, .string ⟨zpre.toArray⟩, .string ⟨zname.toArray⟩, .string ⟨zsuf.toArray⟩, .string ⟨zpost.toArray⟩, .string ⟨zunit.toArray⟩, .string ⟨zcity.toArray⟩, .string ⟨zstate.toArray⟩, .string ⟨zzip.toArray⟩, .string ⟨zmore.toArray⟩] : Array Value)[i]?) ∧ ga < w'.heap.size ∧ (∀ i, w'.frozen? ⟨ga, i, none⟩ = false) from
    have B := B0.ext hx; ⟨B.cell, B.lt, B.frozen⟩))
  clear B0
  have Xw := Lib.hid (Ext.refl w)
  obtain ⟨qa, la, qb⟩ := BA.out _ Xw.out
  go_wp2_with fail
  refine (H1.out _).mono ?_
  rintro e w1 ⟨v1, rfl, _, hx1⟩
  replace Xw := Lib.hid (Xw.out.trans hx1)
  clear hx1 H1
  obtain ⟨qa, la, qb⟩ := BA.out _ Xw.out
  go_wp2_with fail
  refine (H2.out _).mono ?_
  rintro e w2 ⟨v2, rfl, hown, hx2⟩
  obtain ⟨A, cp, rfl, c1, c2, c3⟩ := own_slice hown
  have T2 : TokS w2 A lc.length cp lc := ⟨rfl, c3, c1, c2, hl40, hsm⟩
  have HK := Lib.hid (rkinds_any lc A lc.length cp 1 w2 T2)
  replace Xw := Lib.hid (Xw.out.trans hx2)
  clear hx2 H2 hown c1 c2 c3 T2 hl40 hsm
  obtain ⟨qa, la, qb⟩ := BA.out _ Xw.out
  go_wp2_with fail
  refine HK.out.mono ?_
  rintro e w3 ⟨rfl, hx3⟩
  have X3 := Xw.out.trans hx3
  clear hx3 HK qa la qb
  go_upto_region 4 with (fail)
  exact H4t.out _ X3 _ (by assumption) _ (by assumption)
end Go.Proofs.YtjneghncmgjkeaaGreatDoor

set_option linter.unusedVariables false
namespace Go.Proofs.YtjneghncmgjkeaaGreatDoor
open Go.RowKit

theorem two_ite {c : Prop} [Decidable c] {x : Int} (h : x = 0 ∨ x = 2) : (if c then 2 else x) = 0 ∨ (if c then 2 else x) = 2 := by
  by_cases hc : c
  · rw [if_pos hc]; exact .inr rfl
  · rw [if_neg hc]; exact h
theorem checkP_two {a : Ad} (h : checkP a ≠ 0) : checkP a = 2 := by
  have h2 : rcheckP a = 0 ∨ rcheckP a = 2 := by
    unfold rcheckP
    dsimp only
    exact two_ite (two_ite (two_ite (two_ite (.inl rfl))))
  rw [rcheck_eq] at h2
  exact h2.resolve_left h
set_option maxRecDepth 100000 in
set_option maxHeartbeats 4000000 in
theorem rtext_any (a : Ad) (h : AdS a 1000) (hn : i64 a.n) (W : World) (hS : Std W) :
    Calls Tryz.prog 17 #[adV a] W fun e w' => e = .returned (.tuple #[.string ⟨(textA a).1.toArray⟩, .int .i64 (textA a).2]) ∧ Ext W w' := by
  have HC := Lib.hid (fun w => rcheck_any a h w)
  have h1 := h.pre
  have h2 := h.name
  have h3 := h.suf
  have h4 := h.post
  have HLn := Lib.hid (fun w0 w (hx : Ext w0 w) => (rline_any a (by omega) (by omega) (by omega) (by omega) w).mono fun e w' (hh : _ ∧ _) => (show e = .returned (.string ⟨(lineP a).toArray⟩) ∧ Ext w0 w' from ⟨hh.1, hx.trans hh.2⟩))
  have HI := Lib.hid (fun w0 (hx0 : Ext W w0) w (hx : Ext w0 w) => (itoaS_any a.n hn w (hS.ext (hx0.trans hx))).mono fun e w' (hh : _ ∧ _) => (show e = .returned (.string ⟨(Lib.itoa a.n).toArray⟩) ∧ Ext w0 w' from ⟨hh.1, hx.trans hh.2⟩))
  have HB := Lib.hid (fun hc : checkP a = 0 => txtB hc)
  have H2 := Lib.hid (fun hc : checkP a ≠ 0 => checkP_two hc)
  obtain ⟨T, hT⟩ : ∃ T, textA a = T := ⟨_, rfl⟩
  rw [hT]
  unfold textA at hT
  obtain ⟨q, hq⟩ : ∃ q, checkP a = q := ⟨_, rfl⟩
  rw [hq] at hT HB H2
  simp only [hq] at HC
  replace hT := Lib.hid hT
  replace hq := Lib.hid hq
  clear hS h hn h1 h2 h3 h4
  by_cases hz : q = 0
  rotate_left
  · have hq2 := H2.out hz
    subst hq2
    have hR := Lib.hid (show T = ([], 2) by rw [← hT.out, if_pos hz])
    clear hT hz HB HI HLn H2
    obtain ⟨zn, zh, zpre, zname, zsuf, zpost, zunit, zcity, zstate, zzip, zmore⟩ := a
    rw [adV_eq] at HC ⊢
    dsimp only at *
    go_enter Tryz.func17, Tryz.ntmps17
    go_wp2_with fail
    refine (HC.out _).mono ?_
    rintro e w2 ⟨rfl, hx2⟩
    have X2 := Lib.hid (((Ext.refl W).alloc (.cells #[.int .i64 zn, .bool zh, .string ⟨zpre.toArray⟩, .string ⟨zname.toArray⟩, .string ⟨zsuf.toArray⟩, .string ⟨zpost.toArray⟩, .string ⟨zunit.toArray⟩, .string ⟨zcity.toArray⟩, .string ⟨zstate.toArray⟩, .string ⟨zzip.toArray⟩, .string ⟨zmore.toArray⟩] 23)).trans hx2)
    clear hx2
    go_wp2_with fail
    go_ret2
    exact ⟨by rw [hR.out]; rfl, X2.out⟩
  subst hz
  obtain ⟨bi, bl, bu, bc, bs, bz, bm⟩ := HB.out rfl
  clear HB H2
  have hT2 := Lib.hid (show T = (Lib.itoa a.n ++ lineP a ++ (if a.unit = [] then [] else 44 :: 32 :: a.unit) ++ [44, 32] ++ a.city ++ [44, 32] ++ a.state ++ 32 :: a.zip ++ (if a.more = [] then [] else 45 :: a.more), 0) by rw [← hT.out, if_neg (by simp)])
  clear hT
  generalize Lib.itoa a.n = I at *
  generalize lineP a = L at *
  obtain ⟨zn, zh, zpre, zname, zsuf, zpost, zunit, zcity, zstate, zzip, zmore⟩ := a
  rw [adV_eq] at HLn HC ⊢
  dsimp only at *
  obtain ⟨tu, htu⟩ : ∃ t, (zunit != []) = t := ⟨_, rfl⟩
  obtain ⟨tm, htm⟩ : ∃ t, (zmore != []) = t := ⟨_, rfl⟩
  have htu1 : (!decide (zunit = [])) = tu := by rw [bs_dec]; exact htu
  have htm1 : (!decide (zmore = [])) = tm := by rw [bs_dec]; exact htm
  have htu2 : zunit.isEmpty = (!tu) := by rw [← htu]; cases zunit <;> rfl
  have htm2 : zmore.isEmpty = (!tm) := by rw [← htm]; cases zmore <;> rfl
  obtain ⟨IL, hIL⟩ : ∃ x, I ++ L = x := ⟨_, rfl⟩
  have cIL : (⟨I.toArray⟩ ++ ⟨L.toArray⟩ : ByteArray) = ⟨IL.toArray⟩ := by rw [← hIL]; exact bs_app I L
  have sIL : (9223372036854775807 < I.length + List.length L) = False := eq_false (by omega)
  have bIL : IL.length ≤ 66 := by rw [← hIL, List.length_append]; omega
  obtain ⟨V1, hV1⟩ : ∃ x, IL ++ [44, 32] = x := ⟨_, rfl⟩
  have cV1 : (⟨IL.toArray⟩ ++ ⟨#[44, 32]⟩ : ByteArray) = ⟨V1.toArray⟩ := by rw [← hV1]; exact bs_app _ _
  have sV1 : (9223372036854775807 < IL.length + 2) = False := eq_false (by omega)
  have bV1 : V1.length ≤ 68 := by rw [← hV1, List.length_append]; (try simp only [List.length_cons, List.length_nil]); omega
  obtain ⟨V2, hV2⟩ : ∃ x, V1 ++ zunit = x := ⟨_, rfl⟩
  have cV2 : (⟨V1.toArray⟩ ++ ⟨zunit.toArray⟩ : ByteArray) = ⟨V2.toArray⟩ := by rw [← hV2]; exact bs_app _ _
  have sV2 : (9223372036854775807 < V1.length + List.length zunit) = False := eq_false (by omega)
  have bV2 : V2.length ≤ 85 := by rw [← hV2, List.length_append]; (try simp only [List.length_cons, List.length_nil]); omega
  obtain ⟨P1, hP1⟩ : ∃ x, IL ++ (if zunit = [] then [] else 44 :: 32 :: zunit) = x := ⟨_, rfl⟩
  have hPV : tu = true → V2 = P1 := fun h => by rw [← hP1, ← hV2, ← hV1, if_neg (by rw [h] at htu; simpa using htu)]; simp
  have hPN : tu = false → IL = P1 := fun h => by rw [← hP1, if_pos (by rw [h] at htu; simpa using htu)]; simp
  have bP1 : P1.length ≤ 85 := by cases tu with | true => rw [← hPV rfl]; exact bV2 | false => rw [← hPN rfl]; omega
  obtain ⟨V3, hV3⟩ : ∃ x, P1 ++ [44, 32] = x := ⟨_, rfl⟩
  have cV3 : (⟨P1.toArray⟩ ++ ⟨#[44, 32]⟩ : ByteArray) = ⟨V3.toArray⟩ := by rw [← hV3]; exact bs_app _ _
  have sV3 : (9223372036854775807 < P1.length + 2) = False := eq_false (by omega)
  have bV3 : V3.length ≤ 87 := by rw [← hV3, List.length_append]; (try simp only [List.length_cons, List.length_nil]); omega
  obtain ⟨V4, hV4⟩ : ∃ x, V3 ++ zcity = x := ⟨_, rfl⟩
  have cV4 : (⟨V3.toArray⟩ ++ ⟨zcity.toArray⟩ : ByteArray) = ⟨V4.toArray⟩ := by rw [← hV4]; exact bs_app _ _
  have sV4 : (9223372036854775807 < V3.length + List.length zcity) = False := eq_false (by omega)
  have bV4 : V4.length ≤ 127 := by rw [← hV4, List.length_append]; (try simp only [List.length_cons, List.length_nil]); omega
  obtain ⟨V5, hV5⟩ : ∃ x, V4 ++ [44, 32] = x := ⟨_, rfl⟩
  have cV5 : (⟨V4.toArray⟩ ++ ⟨#[44, 32]⟩ : ByteArray) = ⟨V5.toArray⟩ := by rw [← hV5]; exact bs_app _ _
  have sV5 : (9223372036854775807 < V4.length + 2) = False := eq_false (by omega)
  have bV5 : V5.length ≤ 129 := by rw [← hV5, List.length_append]; (try simp only [List.length_cons, List.length_nil]); omega
  obtain ⟨V6, hV6⟩ : ∃ x, V5 ++ zstate = x := ⟨_, rfl⟩
  have cV6 : (⟨V5.toArray⟩ ++ ⟨zstate.toArray⟩ : ByteArray) = ⟨V6.toArray⟩ := by rw [← hV6]; exact bs_app _ _
  have sV6 : (9223372036854775807 < V5.length + List.length zstate) = False := eq_false (by omega)
  have bV6 : V6.length ≤ 131 := by rw [← hV6, List.length_append]; (try simp only [List.length_cons, List.length_nil]); omega
  obtain ⟨V7, hV7⟩ : ∃ x, V6 ++ [32] = x := ⟨_, rfl⟩
  have cV7 : (⟨V6.toArray⟩ ++ ⟨#[32]⟩ : ByteArray) = ⟨V7.toArray⟩ := by rw [← hV7]; exact bs_app _ _
  have sV7 : (9223372036854775807 < V6.length + 1) = False := eq_false (by omega)
  have bV7 : V7.length ≤ 132 := by rw [← hV7, List.length_append]; (try simp only [List.length_cons, List.length_nil]); omega
  obtain ⟨V8, hV8⟩ : ∃ x, V7 ++ zzip = x := ⟨_, rfl⟩
  have cV8 : (⟨V7.toArray⟩ ++ ⟨zzip.toArray⟩ : ByteArray) = ⟨V8.toArray⟩ := by rw [← hV8]; exact bs_app _ _
  have sV8 : (9223372036854775807 < V7.length + List.length zzip) = False := eq_false (by omega)
  have bV8 : V8.length ≤ 137 := by rw [← hV8, List.length_append]; (try simp only [List.length_cons, List.length_nil]); omega
  obtain ⟨V9, hV9⟩ : ∃ x, V8 ++ [45] = x := ⟨_, rfl⟩
  have cV9 : (⟨V8.toArray⟩ ++ ⟨#[45]⟩ : ByteArray) = ⟨V9.toArray⟩ := by rw [← hV9]; exact bs_app _ _
  have sV9 : (9223372036854775807 < V8.length + 1) = False := eq_false (by omega)
  have bV9 : V9.length ≤ 138 := by rw [← hV9, List.length_append]; (try simp only [List.length_cons, List.length_nil]); omega
  obtain ⟨V10, hV10⟩ : ∃ x, V9 ++ zmore = x := ⟨_, rfl⟩
  have cV10 : (⟨V9.toArray⟩ ++ ⟨zmore.toArray⟩ : ByteArray) = ⟨V10.toArray⟩ := by rw [← hV10]; exact bs_app _ _
  have sV10 : (9223372036854775807 < V9.length + List.length zmore) = False := eq_false (by omega)
  have bV10 : V10.length ≤ 142 := by rw [← hV10, List.length_append]; (try simp only [List.length_cons, List.length_nil]); omega
  obtain ⟨P2, hP2⟩ : ∃ x, V8 ++ (if zmore = [] then [] else 45 :: zmore) = x := ⟨_, rfl⟩
  have hQV : tm = true → V10 = P2 := fun h => by rw [← hP2, ← hV10, ← hV9, if_neg (by rw [h] at htm; simpa using htm)]; simp
  have hQN : tm = false → V8 = P2 := fun h => by rw [← hP2, if_pos (by rw [h] at htm; simpa using htm)]; simp
  have hTP := Lib.hid (show T = (P2, 0) by
    rw [hT2.out, ← hP2, ← hV8, ← hV7, ← hV6, ← hV5, ← hV4, ← hV3, ← hP1, ← hIL]
    simp)
  replace hPV := Lib.hid hPV
  replace hPN := Lib.hid hPN
  replace hQV := Lib.hid hQV
  replace hQN := Lib.hid hQN
  clear htu htm hT2
  replace hIL := Lib.hid hIL
  replace hV1 := Lib.hid hV1
  replace hV2 := Lib.hid hV2
  replace hP1 := Lib.hid hP1
  replace hV3 := Lib.hid hV3
  replace hV4 := Lib.hid hV4
  replace hV5 := Lib.hid hV5
  replace hV6 := Lib.hid hV6
  replace hV7 := Lib.hid hV7
  replace hV8 := Lib.hid hV8
  replace hV9 := Lib.hid hV9
  replace hV10 := Lib.hid hV10
  replace hP2 := Lib.hid hP2
  go_enter Tryz.func17, Tryz.ntmps17
  go_upto_region 1 with (fail)
  generalize hw0 : W.alloc (.cells #[.int .i64 zn, .bool zh, .string ⟨zpre.toArray⟩, .string ⟨zname.toArray⟩, .string ⟨zsuf.toArray⟩, .string ⟨zpost.toArray⟩, .string ⟨zunit.toArray⟩, .string ⟨zcity.toArray⟩, .string ⟨zstate.toArray⟩, .string ⟨zzip.toArray⟩, .string ⟨zmore.toArray⟩] 23) = w0
  have X0 := Lib.hid (show Ext W w0 by rw [← hw0]; exact (Ext.refl W).alloc _)
  have BA := Lib.hid (show Blk w0 W.heap.size 23 #[.int .i64 zn, .bool zh, .string ⟨zpre.toArray⟩, .string ⟨zname.toArray⟩, .string ⟨zsuf.toArray⟩, .string ⟨zpost.toArray⟩, .string ⟨zunit.toArray⟩, .string ⟨zcity.toArray⟩, .string ⟨zstate.toArray⟩, .string ⟨zzip.toArray⟩, .string ⟨zmore.toArray⟩] by rw [← hw0]; exact Blk.new W _ _)
  clear hw0
  generalize W.heap.size = ga at *
  obtain ⟨qa, qb⟩ := BA.out.cells
  have la := BA.out.lt
  go_wp2_with fail
  refine (HC.out _).mono ?_
  rintro e w2 ⟨rfl, hx2⟩
  replace BA := Lib.hid (BA.out.ext hx2)
  replace X0 := Lib.hid (X0.out.trans hx2)
  clear hx2 HC qa qb la w0
  go_upto_region 3 with (fail)
  have HX := Lib.hid (fun w' (hx : Ext w2 w') => (show (∀ i, w'.cell? ⟨ga, i, none⟩ = (#[.int .i64 zn, .bool zh, .string ⟨zpre.toArray⟩, .string ⟨zname.toArray⟩, .string ⟨zsuf.toArray⟩, .string ⟨zpost.toArray⟩, .string ⟨zunit.toArray⟩, .string ⟨zcity.toArray⟩, .string ⟨zstate.toArray⟩, .string ⟨zzip.toArray⟩, .string ⟨zmore.toArray⟩] : Array Value)[i]?) ∧ ga < w'.heap.size from
    have B := BA.out.ext hx; ⟨B.cell, B.lt⟩))
  have HY := Lib.hid (fun w' (hx : Ext w2 w') => (show w'.cell? ⟨ga, 0, none⟩ = some (.int .i64 zn) ∧ w'.cell? ⟨ga, 1, none⟩ = some (.bool zh) ∧ w'.cell? ⟨ga, 2, none⟩ = some (.string ⟨zpre.toArray⟩) ∧ w'.cell? ⟨ga, 3, none⟩ = some (.string ⟨zname.toArray⟩) ∧ w'.cell? ⟨ga, 4, none⟩ = some (.string ⟨zsuf.toArray⟩) ∧ w'.cell? ⟨ga, 5, none⟩ = some (.string ⟨zpost.toArray⟩) ∧ w'.cell? ⟨ga, 6, none⟩ = some (.string ⟨zunit.toArray⟩) ∧ w'.cell? ⟨ga, 7, none⟩ = some (.string ⟨zcity.toArray⟩) ∧ w'.cell? ⟨ga, 8, none⟩ = some (.string ⟨zstate.toArray⟩) ∧ w'.cell? ⟨ga, 9, none⟩ = some (.string ⟨zzip.toArray⟩) ∧ w'.cell? ⟨ga, 10, none⟩ = some (.string ⟨zmore.toArray⟩) from
    have B := BA.out.ext hx; ⟨B.cell 0, B.cell 1, B.cell 2, B.cell 3, B.cell 4, B.cell 5, B.cell 6, B.cell 7, B.cell 8, B.cell 9, B.cell 10⟩))
  obtain ⟨k0, k1, k2, k3, k4, k5, k6, k7, k8, k9, k10⟩ := HY.out _ (Ext.refl w2)
  replace HI := Lib.hid (HI.out w2 X0.out)
  replace HLn := Lib.hid (HLn.out w2)
  have X2 := Ext.refl w2
  go_region_held3 (fun w' => w'.cell? ⟨ga, 0, none⟩ = some (.int .i64 zn) ∧ w'.cell? ⟨ga, 1, none⟩ = some (.bool zh) ∧ w'.cell? ⟨ga, 2, none⟩ = some (.string ⟨zpre.toArray⟩) ∧ w'.cell? ⟨ga, 3, none⟩ = some (.string ⟨zname.toArray⟩) ∧ w'.cell? ⟨ga, 4, none⟩ = some (.string ⟨zsuf.toArray⟩) ∧ w'.cell? ⟨ga, 5, none⟩ = some (.string ⟨zpost.toArray⟩) ∧ w'.cell? ⟨ga, 6, none⟩ = some (.string ⟨zunit.toArray⟩) ∧ w'.cell? ⟨ga, 7, none⟩ = some (.string ⟨zcity.toArray⟩) ∧ w'.cell? ⟨ga, 8, none⟩ = some (.string ⟨zstate.toArray⟩) ∧ w'.cell? ⟨ga, 9, none⟩ = some (.string ⟨zzip.toArray⟩) ∧ w'.cell? ⟨ga, 10, none⟩ = some (.string ⟨zmore.toArray⟩))
    (with_reducible refine HY.out _ ?_; with_reducible repeat (first | assumption | refine Ext.drew ?_ | refine Ext.alloc ?_ _))
    (first
      | (go_at_call 53; refine (HI.out _ (by with_reducible repeat (first | assumption | refine Ext.drew ?_ | refine Ext.alloc ?_ _))).mono ?_; rintro e v1 ⟨rfl, hv1⟩)
      | (go_at_call 56; refine (HLn.out _ (by with_reducible repeat (first | assumption | refine Ext.drew ?_ | refine Ext.alloc ?_ _))).mono ?_; rintro e v2 ⟨rfl, hv2⟩))
  have X3 := Lib.hid (X0.out.trans hv2)
  obtain ⟨qa, la⟩ := HX.out _ hv2
  clear k0 k1 k2 k3 k4 k5 k6 k7 k8 k9 k10 HI HLn X2 HY HX BA X0
  try clear hv1
  clear hv2
  go_upto_if 16 with (fail)
  go_cut [4] from 17 to 21 (fun u wx => u = .string ⟨P1.toArray⟩ ∧ wx = v2)
  case first =>
    cases tu with
    | true =>
      have e := Lib.hid (hPV.out rfl)
      go_wp2_with fail
      go_meet
      exact ⟨by rw [← e.out], rfl⟩
    | false =>
      have e := Lib.hid (hPN.out rfl)
      go_wp2_with fail
      go_meet
      exact ⟨by rw [← e.out], rfl⟩
  case rest =>
    obtain ⟨rfl, rfl⟩ := hcut
    cases tm with
    | true =>
      have e := Lib.hid (hQV.out rfl)
      go_wp2_with fail
      go_ret2
      exact ⟨by rw [hTP.out, ← e.out]; rfl, X3.out⟩
    | false =>
      have e := Lib.hid (hQN.out rfl)
      go_wp2_with fail
      go_ret2
      exact ⟨by rw [hTP.out, ← e.out]; rfl, X3.out⟩
end Go.Proofs.YtjneghncmgjkeaaGreatDoor
