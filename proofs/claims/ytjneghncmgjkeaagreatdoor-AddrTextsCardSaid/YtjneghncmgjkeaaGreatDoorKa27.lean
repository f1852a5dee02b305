/-
  Plain: AddrParts' law: with a comma more, or without a part, no text of an address is one.
-/
import Derived.Test.YtjneghncmgjkeaaGreatDoorKa22
import Derived.Deep.RegionHeld3
import Derived.Test.YtjneghncmgjkeaaGreatDoorKa26
set_option linter.unusedVariables false
namespace Go.Proofs.YtjneghncmgjkeaaGreatDoor
end Go.Proofs.YtjneghncmgjkeaaGreatDoor

set_option linter.unusedVariables false
namespace Go.Proofs.YtjneghncmgjkeaaGreatDoor
open Go.RowKit

/-- A slice of texts of one's own. -/
def TlAt (w0 : World) (l : List Bs) (n : Nat) (v : Value) (w : World) : Prop := w.ownsRow w0.heap.size 9 1 v n (strC l) ∧ Ext w0 w
/-- What an address that may be is long. -/
structure TxtB (a : Ad) : Prop where
  i : (Lib.itoa a.n).length ≤ 6
  l : (lineP a).length ≤ 60
  u : a.unit.length ≤ 17
  c : a.city.length ≤ 40
  s : a.state.length ≤ 2
  z : a.zip.length ≤ 5
  m : a.more.length ≤ 4
theorem txtB {a : Ad} (hc : checkP a = 0) : TxtB a := by
  have h := checkP_ok hc
  obtain ⟨_, _, _, _, i3⟩ := itoa_toks h.n1 h.n2
  obtain ⟨_, _, s3, _⟩ := own_word words_fine.2.2.1 words_word.2.2.1 h.state h.st0
  refine ⟨i3, line_len h, ?_, h.city.l40, s3, (digitsP_all h.zip).2.1, ?_⟩
  · by_cases hu : a.unit = []
    · rw [hu]; simp
    · obtain ⟨u1, u2, u3, u4⟩ := housed_ok h.unit hu
      have := unit_len u2 u4
      rw [u3] at this
      omega
  · rcases h.more with e | e
    · rw [e]; simp
    · exact (digitsP_all e).2.1
def txU (x u : Bs) : List Bs := if u = [] then [x] else [x, u]
def txP (s z m : Bs) : Bs := (s ++ 32 :: z) ++ (if m = [] then [] else 45 :: m)
theorem join_txt (x u c s z m : Bs) : Lib.join (txU x u ++ [c, txP s z m]) [44, 32] = x ++ (if u = [] then [] else 44 :: 32 :: u) ++ [44, 32] ++ c ++ [44, 32] ++ s ++ 32 :: z ++ (if m = [] then [] else 45 :: m) := by
  unfold txU txP
  by_cases hu : u = []
  · simp [hu, Lib.join]
  · simp [hu, Lib.join]
theorem txU_len (x u : Bs) : (txU x u).length ≤ 2 := by unfold txU; split <;> simp
set_option maxRecDepth 100000 in
set_option maxHeartbeats 4000000 in
theorem addText_any (a : Ad) (h : AdS a 1000) (hn : i64 a.n) (W : World) (hS : Std W) :
    Calls Tryz.prog 16 #[adV a] W fun e w' => e = .returned (.tuple #[.string ⟨(textA a).1.toArray⟩, .int .i64 (textA a).2]) ∧ Ext W w' := by
  have HC := Lib.hid (fun w (hx : Ext W w) => adcheck_any a h w (hS.ext hx))
  have HLn := Lib.hid (fun w0 w (hx : Ext w0 w) => (line_any a h w).mono fun e w' (hh : _ ∧ _) => (show e = .returned (.string ⟨(lineP a).toArray⟩) ∧ Ext w0 w' from ⟨hh.1, hx.trans hh.2⟩))
  have HI := Lib.hid (fun w0 (hx0 : Ext W w0) w (hx : Ext w0 w) => (itoaS_any a.n hn w (hS.ext (hx0.trans hx))).mono fun e w' (hh : _ ∧ _) => (show e = .returned (.string ⟨(Lib.itoa a.n).toArray⟩) ∧ Ext w0 w' from ⟨hh.1, hx.trans hh.2⟩))
  have HB := Lib.hid (fun hc : checkP a = 0 => txtB hc)
  obtain ⟨T, hT⟩ : ∃ T, textA a = T := ⟨_, rfl⟩
  rw [hT]
  unfold textA at hT
  obtain ⟨q, hq⟩ : ∃ q, checkP a = q := ⟨_, rfl⟩
  rw [hq] at hT HC HB
  replace hT := Lib.hid hT
  replace hq := Lib.hid hq
  clear hS h hn
  by_cases hz : q = 0
  rotate_left
  · have hb : (q != 0) = true := by simpa using hz
    have hR := Lib.hid (show T = ([], q) by rw [← hT.out, if_pos hz])
    clear hT hz HB HI HLn
    obtain ⟨zn, zh, zpre, zname, zsuf, zpost, zunit, zcity, zstate, zzip, zmore⟩ := a
    rw [adV_eq] at HC ⊢
    dsimp only at *
    go_enter Tryz.func16, Tryz.ntmps16
    go_wp2_with fail
    refine (HC.out _ ((Ext.refl W).alloc _)).mono ?_
    rintro e w2 ⟨rfl, hx2⟩
    have X2 := Lib.hid (((Ext.refl W).alloc (.cells #[.int .i64 zn, .bool zh, .string ⟨zpre.toArray⟩, .string ⟨zname.toArray⟩, .string ⟨zsuf.toArray⟩, .string ⟨zpost.toArray⟩, .string ⟨zunit.toArray⟩, .string ⟨zcity.toArray⟩, .string ⟨zstate.toArray⟩, .string ⟨zzip.toArray⟩, .string ⟨zmore.toArray⟩] 23)).trans hx2)
    clear hx2
    go_wp2_with fail
    go_ret2
    exact ⟨by rw [hR.out]; rfl, X2.out⟩
  subst hz
  obtain ⟨bi, bl, bu, bc, bs, bz, bm⟩ := HB.out rfl
  clear HB
  have hT2 := Lib.hid (show T = (Lib.itoa a.n ++ lineP a ++ (if a.unit = [] then [] else 44 :: 32 :: a.unit) ++ [44, 32] ++ a.city ++ [44, 32] ++ a.state ++ 32 :: a.zip ++ (if a.more = [] then [] else 45 :: a.more), 0) by rw [← hT.out, if_neg (by simp)])
  clear hT
  generalize Lib.itoa a.n = I at *
  generalize lineP a = L at *
  obtain ⟨zn, zh, zpre, zname, zsuf, zpost, zunit, zcity, zstate, zzip, zmore⟩ := a
  rw [adV_eq] at HLn HC ⊢
  dsimp only at *
  go_enter Tryz.func16, Tryz.ntmps16
  go_upto_region 1 with (fail)
  generalize hw0 : W.alloc (.cells #[.int .i64 zn, .bool zh, .string ⟨zpre.toArray⟩, .string ⟨zname.toArray⟩, .string ⟨zsuf.toArray⟩, .string ⟨zpost.toArray⟩, .string ⟨zunit.toArray⟩, .string ⟨zcity.toArray⟩, .string ⟨zstate.toArray⟩, .string ⟨zzip.toArray⟩, .string ⟨zmore.toArray⟩] 23) = w0
  have X0 := Lib.hid (show Ext W w0 by rw [← hw0]; exact (Ext.refl W).alloc _)
  have BA := Lib.hid (show Blk w0 W.heap.size 23 #[.int .i64 zn, .bool zh, .string ⟨zpre.toArray⟩, .string ⟨zname.toArray⟩, .string ⟨zsuf.toArray⟩, .string ⟨zpost.toArray⟩, .string ⟨zunit.toArray⟩, .string ⟨zcity.toArray⟩, .string ⟨zstate.toArray⟩, .string ⟨zzip.toArray⟩, .string ⟨zmore.toArray⟩] by rw [← hw0]; exact Blk.new W _ _)
  clear hw0
  generalize W.heap.size = ga at *
  obtain ⟨qa, qb⟩ := BA.out.cells
  have la := BA.out.lt
  go_wp2_with fail
  refine (HC.out _ X0.out).mono ?_
  rintro e w2 ⟨rfl, hx2⟩
  replace BA := Lib.hid (BA.out.ext hx2)
  replace X0 := Lib.hid (X0.out.trans hx2)
  clear hx2 HC qa qb la w0
  go_upto_region 4 with (fail)
  have HX := Lib.hid (fun w' (hx : Ext w2 w') => (show w'.cell? ⟨ga, 0, none⟩ = some (.int .i64 zn) ∧ w'.cell? ⟨ga, 1, none⟩ = some (.bool zh) ∧ w'.cell? ⟨ga, 2, none⟩ = some (.string ⟨zpre.toArray⟩) ∧ w'.cell? ⟨ga, 3, none⟩ = some (.string ⟨zname.toArray⟩) ∧ w'.cell? ⟨ga, 4, none⟩ = some (.string ⟨zsuf.toArray⟩) ∧ w'.cell? ⟨ga, 5, none⟩ = some (.string ⟨zpost.toArray⟩) ∧ w'.cell? ⟨ga, 6, none⟩ = some (.string ⟨zunit.toArray⟩) ∧ w'.cell? ⟨ga, 7, none⟩ = some (.string ⟨zcity.toArray⟩) ∧ w'.cell? ⟨ga, 8, none⟩ = some (.string ⟨zstate.toArray⟩) ∧ w'.cell? ⟨ga, 9, none⟩ = some (.string ⟨zzip.toArray⟩) ∧ w'.cell? ⟨ga, 10, none⟩ = some (.string ⟨zmore.toArray⟩) from
    have B := BA.out.ext hx; ⟨B.cell 0, B.cell 1, B.cell 2, B.cell 3, B.cell 4, B.cell 5, B.cell 6, B.cell 7, B.cell 8, B.cell 9, B.cell 10⟩))
  obtain ⟨k0, k1, k2, k3, k4, k5, k6, k7, k8, k9, k10⟩ := HX.out _ (Ext.refl w2)
  replace HI := Lib.hid (HI.out w2 X0.out)
  replace HLn := Lib.hid (HLn.out w2)
  have hap : (⟨I.toArray⟩ ++ ⟨L.toArray⟩ : ByteArray) = ⟨(I ++ L).toArray⟩ := bs_app I L
  have X2 := Ext.refl w2
  have hno : (9223372036854775807 < I.length + List.length L) = False := eq_false (by omega)
  go_region_held3 (fun w' => w'.cell? ⟨ga, 0, none⟩ = some (.int .i64 zn) ∧ w'.cell? ⟨ga, 1, none⟩ = some (.bool zh) ∧ w'.cell? ⟨ga, 2, none⟩ = some (.string ⟨zpre.toArray⟩) ∧ w'.cell? ⟨ga, 3, none⟩ = some (.string ⟨zname.toArray⟩) ∧ w'.cell? ⟨ga, 4, none⟩ = some (.string ⟨zsuf.toArray⟩) ∧ w'.cell? ⟨ga, 5, none⟩ = some (.string ⟨zpost.toArray⟩) ∧ w'.cell? ⟨ga, 6, none⟩ = some (.string ⟨zunit.toArray⟩) ∧ w'.cell? ⟨ga, 7, none⟩ = some (.string ⟨zcity.toArray⟩) ∧ w'.cell? ⟨ga, 8, none⟩ = some (.string ⟨zstate.toArray⟩) ∧ w'.cell? ⟨ga, 9, none⟩ = some (.string ⟨zzip.toArray⟩) ∧ w'.cell? ⟨ga, 10, none⟩ = some (.string ⟨zmore.toArray⟩))
    (with_reducible refine HX.out _ ?_; with_reducible repeat (first | assumption | refine Ext.drew ?_ | refine Ext.alloc ?_ _))
    (first
      | (go_at_call 53; refine (HI.out _ (by with_reducible repeat (first | assumption | refine Ext.drew ?_ | refine Ext.alloc ?_ _))).mono ?_; rintro e v1 ⟨rfl, hv1⟩)
      | (go_at_call 54; refine (HLn.out _ (by with_reducible repeat (first | assumption | refine Ext.drew ?_ | refine Ext.alloc ?_ _))).mono ?_; rintro e v2 ⟨rfl, hv2⟩))
  have TL := Lib.hid (show TlAt w2 [I ++ L] 1 (.slice (some ⟨v2.heap.size, 0, none⟩) 1 1) (v2.alloc (.cells #[.string ⟨(I ++ L).toArray⟩] 9)) from ⟨own_lit hv2 #[.string ⟨(I ++ L).toArray⟩] 9 1 1 rfl (by simp [maxLen]) rfl, hv2.alloc _⟩)
  clear hv2 k0 k1 k2 k3 k4 k5 k6 k7 k8 k9 k10 hap hno X2 HI HLn
  try clear hv1
  generalize v2.alloc (.cells #[.string ⟨(I ++ L).toArray⟩] 9) = w4 at *
  generalize v2.heap.size = g5 at *
  obtain ⟨k0, k1, k2, k3, k4, k5, k6, k7, k8, k9, k10⟩ := HX.out _ TL.out.2
  have la := (BA.out.ext TL.out.2).lt
  clear k0 k1 k2 k3 k4 k5
  obtain ⟨ue, hue⟩ : ∃ b, zunit.isEmpty = b := ⟨_, rfl⟩
  have hue1 : decide (zunit = []) = ue := by rw [← hue]; cases zunit <;> simp
  obtain ⟨me, hme⟩ : ∃ b, zmore.isEmpty = b := ⟨_, rfl⟩
  have hme1 : decide (zmore = []) = me := by rw [← hme]; cases zmore <;> simp
  have hU := Lib.hid (show txU (I ++ L) zunit = if ue then [I ++ L] else [I ++ L, zunit] by rw [← hue1]; unfold txU; simp)
  have hM := Lib.hid (show txP zstate zzip zmore = if me then zstate ++ 32 :: zzip else (zstate ++ 32 :: zzip) ++ (45 :: zmore) by rw [← hme1]; unfold txP; by_cases hm : zmore = [] <;> simp [hm])
  go_upto_if 21 with (fail)
  go_cut [5] from 19 to 26 (fun v wx => TlAt w2 (txU (I ++ L) zunit) (txU (I ++ L) zunit).length v wx)
  case first =>
    cases ue with
    | true =>
      have HE := Lib.hid (show TlAt w2 (txU (I ++ L) zunit) (txU (I ++ L) zunit).length (.slice (some ⟨g5, 0, none⟩) 1 1) w4 by rw [hU.out]; exact TL.out)
      go_wp2_with fail
      go_meet
      case rel => exact HE.out
    | false =>
      have HE := Lib.hid (fun (vp v5 : Value) (W5 : World) (z : Value) (w5 : World) (hg : Grew w2 w5 W5 9 1 z vp v5 (1 + 1) (strC [I ++ L] ++ (#[Value.string ⟨zunit.toArray⟩] : Array Value).toList)) => (show TlAt w2 (txU (I ++ L) zunit) (txU (I ++ L) zunit).length v5 W5 by
        rw [hU.out]
        exact ⟨hg.own, hg.ext⟩))
      go_wp2_with (at_builtin; refine wpl_app1 row_strS w2 w4 (.tmp 22) (.tmp 25) rfl rfl rfl TL.out.1 TL.out.2 rfl rfl rfl (by simp [Value.oneCell']) (by omega) (by unfold maxLen; omega) ?_; intro v5 W5 hg5; replace HE := Lib.hid (HE.out _ _ _ _ _ hg5); obtain ⟨A5, c5, rfl, _, _, _⟩ := own_slice hg5.own; clear hg5)
      go_meet
      case rel => exact HE.out
  case rest =>
    have X5 := hcut.2
    obtain ⟨n5, hn5⟩ : ∃ n, (txU (I ++ L) zunit).length = n := ⟨_, rfl⟩
    rw [hn5] at hcut
    have hn2 : n5 ≤ 2 := by rw [← hn5]; exact txU_len _ _
    obtain ⟨A5, c5, rfl, _, _, _⟩ := own_slice hcut.1
    have HU5 := Lib.hid hcut
    clear hcut
    replace hn5 := Lib.hid hn5
    obtain ⟨k0, k1, k2, k3, k4, k5, k6, k7, k8, k9, k10⟩ := HX.out _ X5
    have la := (BA.out.ext X5).lt
    have h1 : (⟨zstate.toArray⟩ ++ ⟨#[32]⟩ : ByteArray) = ⟨(zstate ++ [32]).toArray⟩ := bs_app zstate [32]
    have h2 : (⟨(zstate ++ [32]).toArray⟩ ++ ⟨zzip.toArray⟩ : ByteArray) = ⟨(zstate ++ 32 :: zzip).toArray⟩ := by rw [bs_app]; simp
    have hl1 : (zstate ++ 32 :: zzip).length ≤ 8 := by simp; omega
    have hpl : (txP zstate zzip zmore).length ≤ 20 := by
      unfold txP
      rw [List.length_append]
      have : (if zmore = [] then [] else 45 :: zmore : Bs).length ≤ 5 := by split <;> simp; omega
      omega
    obtain ⟨pl, hpl2⟩ : ∃ pl, txP zstate zzip zmore = pl := ⟨_, rfl⟩
    rw [hpl2] at hM hpl
    replace hpl2 := Lib.hid hpl2
    clear k0 k1 k2 k3 k4 k5 k6 X5 hue hue1 TL
    go_upto_if 35 with (fail)
    clear h1 h2 hU
    generalize zstate ++ 32 :: zzip = sz at *
    go_cut [6] from 27 to 40 (fun u wx => u = .string ⟨pl.toArray⟩ ∧ wx = wc)
    case first =>
      cases me with
      | true =>
        have HE := Lib.hid (show Value.string ⟨sz.toArray⟩ = .string ⟨pl.toArray⟩ by rw [hM.out]; rfl)
        go_wp2_with fail
        go_meet
        case rel => exact ⟨HE.out, rfl⟩
      | false =>
        have HE := Lib.hid (show Value.string ⟨(sz ++ (45 :: zmore)).toArray⟩ = .string ⟨pl.toArray⟩ by rw [hM.out]; rfl)
        have h3 : (⟨#[45]⟩ ++ ⟨zmore.toArray⟩ : ByteArray) = ⟨(45 :: zmore).toArray⟩ := bs_app [45] zmore
        have h4 : (⟨sz.toArray⟩ ++ ⟨(45 :: zmore).toArray⟩ : ByteArray) = ⟨(sz ++ (45 :: zmore)).toArray⟩ := bs_app _ _
        go_wp2_with fail
        go_meet
        case rel => exact ⟨HE.out, rfl⟩
    case rest =>
      obtain ⟨rfl, rfl⟩ := hcut
      have HJ := Lib.hid (fun (v5 : Value) (W5 : World) (z : Value) (w5 : World) (hg : Grew w2 w5 W5 9 1 z (.slice A5 n5 c5) v5 (n5 + 2) (strC (txU (I ++ L) zunit) ++ (#[Value.string ⟨zcity.toArray⟩, Value.string ⟨pl.toArray⟩] : Array Value).toList)) => (show ∃ A6 c6, v5 = .slice A6 (n5 + 2) c6 ∧ Ext w2 W5 ∧ Calls Tryz.prog 55 #[.slice A6 (n5 + 2) c6, .string ⟨#[44, 32]⟩] W5 (fun e w' => e = .returned (.string ⟨T.1.toArray⟩) ∧ Ext W5 w') from by
        obtain ⟨A6, c6, rfl, h1, h2, h3⟩ := own_slice hg.own
        have e : strC (txU (I ++ L) zunit) ++ (#[Value.string ⟨zcity.toArray⟩, Value.string ⟨pl.toArray⟩] : Array Value).toList = strC (txU (I ++ L) zunit ++ [zcity, pl]) := by simp [strC]
        rw [e] at h3
        have hJ := joinS_any (txU (I ++ L) zunit ++ [zcity, pl]) [44, 32] A6 c6 (n5 + 2) W5 (by rw [List.length_append, hn5.out]; rfl) (by omega) h3 h1 (fun b hb => by
          rcases List.mem_append.1 hb with hb | hb
          · unfold txU at hb
            split at hb
            · rw [List.mem_singleton.1 hb, List.length_append]; omega
            · simp only [List.mem_cons, List.not_mem_nil, or_false] at hb
              rcases hb with rfl | rfl
              · rw [List.length_append]; omega
              · omega
          · simp only [List.mem_cons, List.not_mem_nil, or_false] at hb
            rcases hb with rfl | rfl
            · omega
            · omega) (by decide)
        rw [← hpl2.out, join_txt] at hJ
        refine ⟨A6, c6, rfl, hg.ext, hJ.mono fun e w' hh => ⟨?_, hh.2⟩⟩
        rw [hh.1, hT2.out]))
      have hT0 := Lib.hid (show T.2 = 0 by rw [hT2.out])
      clear hM hl1 hT2
      go_wp2_with (at_builtin; refine wpl_app1 row_strS w2 wc (.tmp 41) (.tmp 45) rfl rfl rfl HU5.out.1 HU5.out.2 rfl rfl rfl (by simp [Value.oneCell']) (by omega) (by unfold maxLen; omega) ?_; intro v5 W5 hg5; obtain ⟨A6, c6, rfl, hx6, HJ6⟩ := HJ.out _ _ _ _ hg5; replace HJ := Lib.hid HJ6; have X6 := Lib.hid (X0.out.trans hx6); clear hg5 HJ6 hx6)
      refine HJ.out.mono ?_
      rintro e w7 ⟨rfl, hx7⟩
      have X7 := Lib.hid (X6.out.trans hx7)
      clear hx7
      go_wp2_with fail
      go_ret2
      exact ⟨by rw [hT0.out]; rfl, X7.out⟩
end Go.Proofs.YtjneghncmgjkeaaGreatDoor
