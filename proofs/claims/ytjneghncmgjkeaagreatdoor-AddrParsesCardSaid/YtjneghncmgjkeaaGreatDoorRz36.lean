/-
  apportionref17: line (printed by tools/genHn.py).
-/
import Derived.Test.YtjneghncmgjkeaaGreatDoorRz35
set_option linter.unusedVariables false
namespace Go.Proofs.YtjneghncmgjkeaaGreatDoor
open Go.RowKit

theorem aheadP_len (s : Bs) : (aheadP s).length ≤ s.length + 1 := by
  unfold aheadP
  split
  · simp
  · simp
set_option maxRecDepth 100000 in
set_option maxHeartbeats 2000000 in
theorem rline_any (a : Ad) (hp : a.pre.length ≤ 20000) (hn : a.name.length ≤ 20000) (hs : a.suf.length ≤ 20000) (ho : a.post.length ≤ 20000) (W : World) :
    Calls Tryz.prog 56 #[adV a] W fun e w' => e = .returned (.string ⟨(lineP a).toArray⟩) ∧ Ext W w' := by
  have hL : lineP a = (if a.half then [32, 49, 47, 50] else []) ++ aheadP a.pre ++ aheadP a.name ++ aheadP a.suf ++ aheadP a.post := rfl
  obtain ⟨R, hR⟩ : ∃ R, lineP a = R := ⟨_, rfl⟩
  rw [hR] at hL ⊢
  replace hR := Lib.hid hR
  obtain ⟨zn, zh, zpre, zname, zsuf, zpost, zunit, zcity, zstate, zzip, zmore⟩ := a
  dsimp only at *
  have HA := Lib.hid (fun (x : Bs) (hx : x.length ≤ 100000) (w : World) => rahead_any x hx w)
  have b1 := aheadP_len zpre
  have b2 := aheadP_len zname
  have b3 := aheadP_len zsuf
  have b4 := aheadP_len zpost
  have BA := Blk.new W 23 (adC ⟨zn, zh, zpre, zname, zsuf, zpost, zunit, zcity, zstate, zzip, zmore⟩)
  have X0 := (Ext.refl W).alloc (.cells (adC ⟨zn, zh, zpre, zname, zsuf, zpost, zunit, zcity, zstate, zzip, zmore⟩) 23)
  unfold adC at BA X0
  dsimp only at BA X0
  replace hL := Lib.hid hL
  unfold adV adC
  dsimp only
  go_enter Tryz.func56, Tryz.ntmps56
  go_upto_region 1 with (fail)
  generalize W.alloc (.cells #[.int .i64 zn, .bool zh, .string ⟨zpre.toArray⟩, .string ⟨zname.toArray⟩, .string ⟨zsuf.toArray⟩, .string ⟨zpost.toArray⟩, .string ⟨zunit.toArray⟩, .string ⟨zcity.toArray⟩, .string ⟨zstate.toArray⟩, .string ⟨zzip.toArray⟩, .string ⟨zmore.toArray⟩] 23) = w1 at *
  generalize W.heap.size = g at *
  have HX := Lib.hid (fun w' (hx : Ext w1 w') => (show w'.cell? ⟨g, 2, none⟩ = some (.string ⟨zpre.toArray⟩) ∧ w'.cell? ⟨g, 3, none⟩ = some (.string ⟨zname.toArray⟩) ∧ w'.cell? ⟨g, 4, none⟩ = some (.string ⟨zsuf.toArray⟩) ∧ w'.cell? ⟨g, 5, none⟩ = some (.string ⟨zpost.toArray⟩) from
    have B := BA.ext hx; ⟨B.cell 2, B.cell 3, B.cell 4, B.cell 5⟩))
  have kh : w1.cell? ⟨g, 1, none⟩ = some (.bool zh) := BA.cell 1
  have la := BA.lt
  obtain ⟨k2, k3, k4, k5⟩ := HX.out _ (Ext.refl w1)
  have HAw := Lib.hid (fun (x : Bs) (hx : x.length ≤ 100000) (w : World) (hw : Ext w1 w) => (HA.out x hx w).mono (fun e w' h => (⟨h.1, hw.trans h.2⟩ : _ ∧ Ext w1 w')))
  replace X0 := Lib.hid X0
  replace BA := Lib.hid BA
  clear HA
  cases zh
  · have hL2 := Lib.hid (show R = [] ++ aheadP zpre ++ aheadP zname ++ aheadP zsuf ++ aheadP zpost from hL.out)
    clear hL
    obtain ⟨p1, hp1⟩ : ∃ p, aheadP zpre = p := ⟨_, rfl⟩
    obtain ⟨p2, hp2⟩ : ∃ p, aheadP zname = p := ⟨_, rfl⟩
    obtain ⟨p3, hp3⟩ : ∃ p, aheadP zsuf = p := ⟨_, rfl⟩
    obtain ⟨p4, hp4⟩ : ∃ p, aheadP zpost = p := ⟨_, rfl⟩
    have H1 := Lib.hid (fun w (hw : Ext w1 w) => HAw.out zpre (by omega) w hw)
    rw [hp1] at b1
    simp only [hp1] at H1
    have H2 := Lib.hid (fun w (hw : Ext w1 w) => HAw.out zname (by omega) w hw)
    rw [hp2] at b2
    simp only [hp2] at H2
    have H3 := Lib.hid (fun w (hw : Ext w1 w) => HAw.out zsuf (by omega) w hw)
    rw [hp3] at b3
    simp only [hp3] at H3
    have H4 := Lib.hid (fun w (hw : Ext w1 w) => HAw.out zpost (by omega) w hw)
    rw [hp4] at b4
    simp only [hp4] at H4
    rw [hp1, hp2, hp3, hp4] at hL2
    obtain ⟨W1, hW1⟩ : ∃ x, [] ++ p1 = x := ⟨_, rfl⟩
    have cW1 : (⟨#[]⟩ ++ ⟨p1.toArray⟩ : ByteArray) = ⟨W1.toArray⟩ := by rw [← hW1]; exact bs_app _ _
    have sW1 : (9223372036854775807 < List.length p1) = False := eq_false (by omega)
    have bW1 : W1.length ≤ 20001 := by rw [← hW1, List.length_append]; (try simp only [List.length_cons, List.length_nil]); omega
    obtain ⟨W2, hW2⟩ : ∃ x, W1 ++ p2 = x := ⟨_, rfl⟩
    have cW2 : (⟨W1.toArray⟩ ++ ⟨p2.toArray⟩ : ByteArray) = ⟨W2.toArray⟩ := by rw [← hW2]; exact bs_app _ _
    have sW2 : (9223372036854775807 < W1.length + List.length p2) = False := eq_false (by omega)
    have bW2 : W2.length ≤ 40002 := by rw [← hW2, List.length_append]; (try simp only [List.length_cons, List.length_nil]); omega
    obtain ⟨W3, hW3⟩ : ∃ x, W2 ++ p3 = x := ⟨_, rfl⟩
    have cW3 : (⟨W2.toArray⟩ ++ ⟨p3.toArray⟩ : ByteArray) = ⟨W3.toArray⟩ := by rw [← hW3]; exact bs_app _ _
    have sW3 : (9223372036854775807 < W2.length + List.length p3) = False := eq_false (by omega)
    have bW3 : W3.length ≤ 60003 := by rw [← hW3, List.length_append]; (try simp only [List.length_cons, List.length_nil]); omega
    obtain ⟨W4, hW4⟩ : ∃ x, W3 ++ p4 = x := ⟨_, rfl⟩
    have cW4 : (⟨W3.toArray⟩ ++ ⟨p4.toArray⟩ : ByteArray) = ⟨W4.toArray⟩ := by rw [← hW4]; exact bs_app _ _
    have sW4 : (9223372036854775807 < W3.length + List.length p4) = False := eq_false (by omega)
    have bW4 : W4.length ≤ 80004 := by rw [← hW4, List.length_append]; (try simp only [List.length_cons, List.length_nil]); omega
    have hRW := Lib.hid (show R = W4 by rw [hL2.out, hW1, hW2, hW3, hW4])
    clear hL2 HAw b1 b2 b3 b4
    replace hW1 := Lib.hid hW1
    replace hp1 := Lib.hid hp1
    replace hW2 := Lib.hid hW2
    replace hp2 := Lib.hid hp2
    replace hW3 := Lib.hid hW3
    replace hp3 := Lib.hid hp3
    replace hW4 := Lib.hid hW4
    replace hp4 := Lib.hid hp4
    have Xr := Ext.refl w1
    go_upto_region 4 with (fail)
    go_region_held3 (fun w' => w'.cell? ⟨g, 2, none⟩ = some (.string ⟨zpre.toArray⟩) ∧ w'.cell? ⟨g, 3, none⟩ = some (.string ⟨zname.toArray⟩) ∧ w'.cell? ⟨g, 4, none⟩ = some (.string ⟨zsuf.toArray⟩) ∧ w'.cell? ⟨g, 5, none⟩ = some (.string ⟨zpost.toArray⟩))
      (with_reducible refine HX.out _ ?_; with_reducible repeat (first | assumption | refine Ext.drew ?_ | refine Ext.alloc ?_ _))
      (first
          | (go_at_call 84; refine (H1.out _ (by with_reducible repeat (first | assumption | refine Ext.drew ?_ | refine Ext.alloc ?_ _))).mono ?_; rintro e v1 ⟨rfl, hv1⟩)
          | (go_at_call 84; refine (H2.out _ (by with_reducible repeat (first | assumption | refine Ext.drew ?_ | refine Ext.alloc ?_ _))).mono ?_; rintro e v2 ⟨rfl, hv2⟩)
          | (go_at_call 84; refine (H3.out _ (by with_reducible repeat (first | assumption | refine Ext.drew ?_ | refine Ext.alloc ?_ _))).mono ?_; rintro e v3 ⟨rfl, hv3⟩)
          | (go_at_call 84; refine (H4.out _ (by with_reducible repeat (first | assumption | refine Ext.drew ?_ | refine Ext.alloc ?_ _))).mono ?_; rintro e v4 ⟨rfl, hv4⟩))
    all_goals
      go_wp2_with fail
      go_ret
      exact ⟨by rw [hRW.out]; rfl, X0.out.trans (by assumption)⟩
  · have hL2 := Lib.hid (show R = [32, 49, 47, 50] ++ aheadP zpre ++ aheadP zname ++ aheadP zsuf ++ aheadP zpost from hL.out)
    clear hL
    obtain ⟨p1, hp1⟩ : ∃ p, aheadP zpre = p := ⟨_, rfl⟩
    obtain ⟨p2, hp2⟩ : ∃ p, aheadP zname = p := ⟨_, rfl⟩
    obtain ⟨p3, hp3⟩ : ∃ p, aheadP zsuf = p := ⟨_, rfl⟩
    obtain ⟨p4, hp4⟩ : ∃ p, aheadP zpost = p := ⟨_, rfl⟩
    have H1 := Lib.hid (fun w (hw : Ext w1 w) => HAw.out zpre (by omega) w hw)
    rw [hp1] at b1
    simp only [hp1] at H1
    have H2 := Lib.hid (fun w (hw : Ext w1 w) => HAw.out zname (by omega) w hw)
    rw [hp2] at b2
    simp only [hp2] at H2
    have H3 := Lib.hid (fun w (hw : Ext w1 w) => HAw.out zsuf (by omega) w hw)
    rw [hp3] at b3
    simp only [hp3] at H3
    have H4 := Lib.hid (fun w (hw : Ext w1 w) => HAw.out zpost (by omega) w hw)
    rw [hp4] at b4
    simp only [hp4] at H4
    rw [hp1, hp2, hp3, hp4] at hL2
    obtain ⟨W1, hW1⟩ : ∃ x, [32, 49, 47, 50] ++ p1 = x := ⟨_, rfl⟩
    have cW1 : (⟨#[32, 49, 47, 50]⟩ ++ ⟨p1.toArray⟩ : ByteArray) = ⟨W1.toArray⟩ := by rw [← hW1]; exact bs_app _ _
    have sW1 : (9223372036854775807 < 4 + List.length p1) = False := eq_false (by omega)
    have bW1 : W1.length ≤ 20005 := by rw [← hW1, List.length_append]; (try simp only [List.length_cons, List.length_nil]); omega
    obtain ⟨W2, hW2⟩ : ∃ x, W1 ++ p2 = x := ⟨_, rfl⟩
    have cW2 : (⟨W1.toArray⟩ ++ ⟨p2.toArray⟩ : ByteArray) = ⟨W2.toArray⟩ := by rw [← hW2]; exact bs_app _ _
    have sW2 : (9223372036854775807 < W1.length + List.length p2) = False := eq_false (by omega)
    have bW2 : W2.length ≤ 40006 := by rw [← hW2, List.length_append]; (try simp only [List.length_cons, List.length_nil]); omega
    obtain ⟨W3, hW3⟩ : ∃ x, W2 ++ p3 = x := ⟨_, rfl⟩
    have cW3 : (⟨W2.toArray⟩ ++ ⟨p3.toArray⟩ : ByteArray) = ⟨W3.toArray⟩ := by rw [← hW3]; exact bs_app _ _
    have sW3 : (9223372036854775807 < W2.length + List.length p3) = False := eq_false (by omega)
    have bW3 : W3.length ≤ 60007 := by rw [← hW3, List.length_append]; (try simp only [List.length_cons, List.length_nil]); omega
    obtain ⟨W4, hW4⟩ : ∃ x, W3 ++ p4 = x := ⟨_, rfl⟩
    have cW4 : (⟨W3.toArray⟩ ++ ⟨p4.toArray⟩ : ByteArray) = ⟨W4.toArray⟩ := by rw [← hW4]; exact bs_app _ _
    have sW4 : (9223372036854775807 < W3.length + List.length p4) = False := eq_false (by omega)
    have bW4 : W4.length ≤ 80008 := by rw [← hW4, List.length_append]; (try simp only [List.length_cons, List.length_nil]); omega
    have hRW := Lib.hid (show R = W4 by rw [hL2.out, hW1, hW2, hW3, hW4])
    clear hL2 HAw b1 b2 b3 b4
    replace hW1 := Lib.hid hW1
    replace hp1 := Lib.hid hp1
    replace hW2 := Lib.hid hW2
    replace hp2 := Lib.hid hp2
    replace hW3 := Lib.hid hW3
    replace hp3 := Lib.hid hp3
    replace hW4 := Lib.hid hW4
    replace hp4 := Lib.hid hp4
    have Xr := Ext.refl w1
    go_upto_region 4 with (fail)
    go_region_held3 (fun w' => w'.cell? ⟨g, 2, none⟩ = some (.string ⟨zpre.toArray⟩) ∧ w'.cell? ⟨g, 3, none⟩ = some (.string ⟨zname.toArray⟩) ∧ w'.cell? ⟨g, 4, none⟩ = some (.string ⟨zsuf.toArray⟩) ∧ w'.cell? ⟨g, 5, none⟩ = some (.string ⟨zpost.toArray⟩))
      (with_reducible refine HX.out _ ?_; with_reducible repeat (first | assumption | refine Ext.drew ?_ | refine Ext.alloc ?_ _))
      (first
          | (go_at_call 84; refine (H1.out _ (by with_reducible repeat (first | assumption | refine Ext.drew ?_ | refine Ext.alloc ?_ _))).mono ?_; rintro e v1 ⟨rfl, hv1⟩)
          | (go_at_call 84; refine (H2.out _ (by with_reducible repeat (first | assumption | refine Ext.drew ?_ | refine Ext.alloc ?_ _))).mono ?_; rintro e v2 ⟨rfl, hv2⟩)
          | (go_at_call 84; refine (H3.out _ (by with_reducible repeat (first | assumption | refine Ext.drew ?_ | refine Ext.alloc ?_ _))).mono ?_; rintro e v3 ⟨rfl, hv3⟩)
          | (go_at_call 84; refine (H4.out _ (by with_reducible repeat (first | assumption | refine Ext.drew ?_ | refine Ext.alloc ?_ _))).mono ?_; rintro e v4 ⟨rfl, hv4⟩))
    all_goals
      go_wp2_with fail
      go_ret
      exact ⟨by rw [hRW.out]; rfl, X0.out.trans (by assumption)⟩
end Go.Proofs.YtjneghncmgjkeaaGreatDoor

set_option linter.unusedVariables false
namespace Go.Proofs.YtjneghncmgjkeaaGreatDoor
open Go.RowKit

theorem kindT_in (t : Bs) : kindT t = 1 ∨ kindT t = 2 ∨ kindT t = 3 := by
  unfold kindT
  repeat' split
  all_goals omega
theorem tokIs_in {t : Tok} (h : TokIs t) (h4 : t.k ≠ 4) (h5 : t.k ≠ 5) : ([1, 2, 3] : List Int).contains t.k = true := by
  rcases h with rfl | rfl | ⟨w, _, rfl⟩
  · exact absurd rfl h4
  · exact absurd rfl h5
  · have : (tokW w).k = kindT (upS w) := rfl
    rw [this]
    rcases kindT_in (upS w) with e | e | e <;> rw [e] <;> rfl
def LiR (W : World) (s : Bs) (e : Ending) (w' : World) : Prop := ∃ v, e = .returned (.tuple #[v, .bool (namedP s [1, 2, 3])]) ∧ w'.ownsRow W.heap.size 58 2 v (if namedP s [1, 2, 3] then (tokensP s).1 else []).length (tokCells (if namedP s [1, 2, 3] then (tokensP s).1 else [])) ∧ Ext W w'
def LiAt (w2 : World) (l : List Tok) (i : Value) (wr : World) : Prop := ∃ k : Nat, k ≤ l.length ∧ i = .int .i64 (k : Int) ∧ Ext w2 wr ∧ ∀ j (h : j < l.length), j < k → ([1, 2, 3] : List Int).contains l[j].k = true
set_option maxRecDepth 100000 in
set_option maxHeartbeats 2000000 in
theorem rlist_any (s : Bs) (hs : s.length ≤ 100000) (W : World) : Calls Tryz.prog 60 #[.string ⟨s.toArray⟩] W (LiR W s) := by
  have HT := Lib.hid (fun w => rtokens_any s w hs)
  have hP : namedP s [1, 2, 3] = ((tokensP s).2.1 == 0 && decide (0 < (tokensP s).1.length) && decide ((tokensP s).1.length ≤ 8) && kindOf (tokensP s).1 [1, 2, 3] && textsP (tokensP s).1 == s && decide (s.length ≤ 40)) := rfl
  have hIs := Lib.hid (tokensP_is s)
  have hF := Lib.hid (fun (v : Value) (w' : World) (hx : Ext W w') (h : namedP s [1, 2, 3] = false) => (show LiR W s (.returned (.tuple #[.slice none 0 0, .bool false])) w' from ⟨.slice none 0 0, by rw [h], by rw [h]; exact World.ownsRow_nil _ _ _ _, hx⟩))
  have hY := Lib.hid (fun (v : Value) (w' : World) (hx : Ext W w') (h : namedP s [1, 2, 3] = true) (ho : w'.ownsRow W.heap.size 58 2 v (tokensP s).1.length (tokCells (tokensP s).1)) => (show LiR W s (.returned (.tuple #[v, .bool true])) w' from ⟨v, by rw [h], by rw [h]; exact ho, hx⟩))
  obtain ⟨Q, hQ⟩ : ∃ Q, LiR W s = Q := ⟨_, rfl⟩
  rw [hQ] at hF hY ⊢
  replace hQ := Lib.hid hQ
  generalize namedP s [1, 2, 3] = R at *
  replace hP := Lib.hid hP
  go_enter Tryz.func60, Tryz.ntmps60
  go_wp2_with fail
  refine (HT.out _).mono ?_
  rintro e w1 ⟨v, rfl, hown, hx1⟩
  obtain ⟨A, cp, rfl, T1⟩ := own_tokens hown
  have h40 := T1.l40
  replace hown := Lib.hid hown
  clear HT
  generalize tokensP s = tk at *
  obtain ⟨l, fe, fa⟩ := tk
  dsimp only at *
  go_upto_region 2 with (fail)
  have XX := (Ext.refl w1).alloc (.cells #[.int .i64 fe, .int .i64 fa] 26)
  have BF := Blk.new w1 26 #[.int .i64 fe, .int .i64 fa]
  have X2 := Lib.hid (hx1.trans XX)
  replace hown := Lib.hid (own_ext hown.out XX)
  have T2 := T1.ext XX
  clear T1 XX hx1
  generalize w1.alloc (.cells #[.int .i64 fe, .int .i64 fa] 26) = w2 at *
  generalize w1.heap.size = gf at *
  have c0 : w2.cell? ⟨gf, 0, none⟩ = some (.int .i64 fe) := BF.cell 0
  have lf := BF.lt
  have HX := Lib.hid (rtexts_any l A l.length cp w2 T2)
  replace BF := Lib.hid BF
  replace T2 := Lib.hid T2
  by_cases h0 : fe = 0
  rotate_left
  · have hb : (fe != 0) = true := by rw [bne_iff_ne]; exact h0
    have hR := Lib.hid (show R = false by rw [hP.out, beq_eq_false_iff_ne.2 h0]; rfl)
    clear h0 hP HX
    go_wp2_with fail
    exact hF.out (.slice none 0 0) _ X2.out hR.out
  subst h0
  by_cases h1 : l.length = 0
  · have hb : ((l.length : Int) == 0) = true := by rw [beq_iff_eq]; omega
    have hR := Lib.hid (show R = false by rw [hP.out, decide_eq_false (show ¬ 0 < l.length by omega)]; rfl)
    clear h1 hP HX
    go_wp2_with fail
    exact hF.out (.slice none 0 0) _ X2.out hR.out
  have d1 : ((l.length : Int) == 0) = false := by rw [beq_eq_false_iff_ne]; omega
  by_cases h8 : 8 < l.length
  · have hb : decide ((8 : Int) < (l.length : Int)) = true := decide_eq_true (by omega)
    have hR := Lib.hid (show R = false by rw [hP.out, decide_eq_false (show ¬ l.length ≤ 8 by omega)]; simp)
    clear h1 h8 hP HX
    go_wp2_with fail
    exact hF.out (.slice none 0 0) _ X2.out hR.out
  have d8 : decide ((8 : Int) < (l.length : Int)) = false := decide_eq_false (by omega)
  obtain ⟨tx, htx⟩ : ∃ tx, textsP l = tx := ⟨_, rfl⟩
  rw [htx] at hP HX
  by_cases ht : tx = s
  rotate_left
  · have b0 : (tx == s) = false := by rw [beq_eq_false_iff_ne]; exact ht
    have b1 : (tx != s) = true := by rw [bne_iff_ne]; exact ht
    have b2 : decide (tx = s) = false := decide_eq_false ht
    have hR := Lib.hid (show R = false by rw [hP.out, b0]; simp)
    clear h1 h8 hP ht htx
    go_wp2_with fail
    refine HX.out.mono ?_
    rintro e w3 ⟨rfl, hx3⟩
    go_wp2_with fail
    exact hF.out (.slice none 0 0) _ (X2.out.trans hx3) hR.out
  replace htx := Lib.hid (htx.trans ht)
  subst ht
  by_cases h41 : 40 < List.length tx
  · have b2 : decide ((40 : Int) < (List.length tx : Int)) = true := decide_eq_true (by omega)
    have hR := Lib.hid (show R = false by rw [hP.out, decide_eq_false (show ¬ List.length tx ≤ 40 by omega)]; simp)
    clear h1 h8 hP h41
    go_wp2_with fail
    refine HX.out.mono ?_
    rintro e w3 ⟨rfl, hx3⟩
    go_wp2_with fail
    exact hF.out (.slice none 0 0) _ (X2.out.trans hx3) hR.out
  have b2 : decide ((40 : Int) < (List.length tx : Int)) = false := decide_eq_false (by omega)
  have hRk := Lib.hid (show R = kindOf l [1, 2, 3] by rw [hP.out, decide_eq_true (show 0 < l.length by omega), decide_eq_true (show l.length ≤ 8 by omega), decide_eq_true (show List.length tx ≤ 40 by omega)]; simp)
  clear h1 h8 hP h41
  go_wp2_with fail
  refine HX.out.mono ?_
  rintro e w3 ⟨rfl, hx3⟩
  have H0 := Lib.hid (show LiAt w2 l (.int .i64 ((0 : Nat) : Int)) w3 from ⟨0, by omega, rfl, hx3, fun j _ h => absurd h (by omega)⟩)
  clear HX hx3 c0 lf
  go_wp2_with fail
  go_loopw [6] (fun i wr => LiAt w2 l i wr) (fun i _ => l.length - (intOf i).toNat)
  case atStart => exact H0.out
  case round =>
    clear H0
    obtain ⟨k, hk, rfl, hx, hno⟩ := hrel
    by_cases hlt : k < l.length
    · have hd : decide ((k : Int) < (l.length : Int)) = true := decide_eq_true (by omega)
      have kz : (0 : Int) ≤ (k : Int) := by omega
      have kl : (k : Int) < (l.length : Int) := by omega
      obtain ⟨g, o, rfl, hg, t0, t1⟩ := (T2.out.ext hx).at_ hlt
      have hi := hIs.out l[k] (List.getElem_mem hlt)
      by_cases h4 : l[k].k = 4
      · have e4 : (l[k].k == 4) = true := by rw [beq_iff_eq]; exact h4
        have hR := Lib.hid (show R = false by rw [hRk.out]; exact kind_not hlt (by
          rw [h4]
          intro j hj
          have h3 : j = 0 ∨ j = 1 ∨ j = 2 := by simp at hj; omega
          rcases h3 with rfl | rfl | rfl <;> simp))
        have hX := Lib.hid (X2.out.trans hx)
        clear hno hi t1 hx h4
        generalize l[k].k = q at *
        go_wp2_with fail
        exact hF.out (.slice none 0 0) _ hX.out hR.out
      · have e4 : (l[k].k == 4) = false := by rw [beq_eq_false_iff_ne]; exact h4
        by_cases h5 : l[k].k = 5
        · have e5 : (l[k].k == 5) = true := by rw [beq_iff_eq]; exact h5
          have hR := Lib.hid (show R = false by rw [hRk.out]; exact kind_not hlt (by
          rw [h5]
          intro j hj
          have h3 : j = 0 ∨ j = 1 ∨ j = 2 := by simp at hj; omega
          rcases h3 with rfl | rfl | rfl <;> simp))
          have hX := Lib.hid (X2.out.trans hx)
          clear hno hi t1 hx h4 h5
          generalize l[k].k = q at *
          go_wp2_with fail
          exact hF.out (.slice none 0 0) _ hX.out hR.out
        · have e5 : (l[k].k == 5) = false := by rw [beq_eq_false_iff_ne]; exact h5
          have HE := Lib.hid (show LiAt w2 l (.int .i64 ((k + 1 : Nat) : Int)) wr from ⟨k + 1, hlt, rfl, hx, fun j h hj => by
            by_cases e : j = k
            · subst e; exact tokIs_in hi h4 h5
            · exact hno j h (by omega)⟩)
          clear hno hi t1 hx h4 h5
          generalize l[k].k = q at *
          go_wp2_with fail
          go_roundw
          case rel => exact HE.out
          case measure => simp [intOf]; omega
    · obtain rfl : k = l.length := by omega
      have hd : decide ((l.length : Int) < (l.length : Int)) = false := by simp
      have hR := Lib.hid (show R = true by rw [hRk.out]; exact kind_all fun j hj => hno j hj hj)
      replace hx := Lib.hid hx
      clear hno
      go_wp2_with fail
      exact hY.out _ _ (X2.out.trans hx.out) hR.out (own_ext hown.out hx.out)
end Go.Proofs.YtjneghncmgjkeaaGreatDoor
