/-
  street: Check (printed by tools/genLd.py).
-/
import Derived.Test.YtjaponmpfdpemaaGreatDoorBb18
import Derived.Test.YtjaponmpfdpemaaGreatDoorBb19
import Derived.Test.YtjaponmpfdpemaaGreatDoorBb02
import Derived.Test.YtjaponmpfdpemaaGreatDoorBb10
set_option linter.unusedSimpArgs false
set_option linter.unusedVariables false
namespace Go.Proofs.YtjaponmpfdpemaaGreatDoor
open Go.RowKit
structure SrS (s : Sr) (b : Nat) : Prop where
 state : s.state.length ≤ b
 city : s.city.length ≤ b
 pre : s.pre.length ≤ b
 name : s.name.length ≤ b
 suf : s.suf.length ≤ b
 post : s.post.length ≤ b
theorem SrS.ad {s : Sr} {b : Nat} (h : SrS s b) (h5 : 5 ≤ b) : AdS s.ad b := ⟨h.pre, h.name, h.suf, h.post, Nat.zero_le _, h.city, h.state, h5, Nat.zero_le _⟩
theorem srad_V (s : Sr) : adV s.ad = .agg #[.int .i64 1, .bool false, .string ⟨s.pre.toArray⟩, .string ⟨s.name.toArray⟩, .string ⟨s.suf.toArray⟩, .string ⟨s.post.toArray⟩, .string ⟨#[]⟩, .string ⟨s.city.toArray⟩, .string ⟨s.state.toArray⟩, .string ⟨#[48, 48, 48, 48, 48]⟩, .string ⟨#[]⟩] := rfl
set_option maxRecDepth 100000 in
set_option maxHeartbeats 4000000 in
theorem srcheck_any (s : Sr) (h : SrS s 1000) (W : World) (hS : Std W) : Calls Tryz.prog 14 #[srV s] W fun e w' => e = .returned (.int .i64 s.check) ∧ Ext W w' := by
 have HC := Lib.hid (fun w (hx : Ext W w) => adcheck_any s.ad (h.ad (by decide)) w (hS.ext hx))
 rw [srad_V] at HC
 have HA := Lib.hid (fun w (_ : Ext W w) => ptvalid_any s.ax s.ay w)
 have HB := Lib.hid (fun w (_ : Ext W w) => ptvalid_any s.bx s.by_ w)
 have HN1 := Lib.hid (fun (hf : s.fine = true) w => srnum_any s (Sr.fine_num hf) 1 w)
 have HN0 := Lib.hid (fun (hf : s.fine = true) w => srnum_any s (Sr.fine_num hf) 0 w)
 obtain ⟨R, hR⟩ : ∃ R, s.check = R := ⟨_, rfl⟩
 have hP : R = if (!s.fine || !ptP s.ax s.ay || !ptP s.bx s.by_) = true then 2 else if (!s.isQ 1 && !s.isQ 0) = true then 2 else 0 := by rw [← hR]; rfl
 have hf : s.fine = (decide (checkP s.ad = 0) && decide (1 ≤ s.fr) && decide (s.fr ≤ s.to_) && decide (s.to_ ≤ 999999) && decide (1 ≤ s.side) && decide (s.side ≤ 3)) := rfl
 rw [hR]
 clear hR hS h
 generalize checkP s.ad = q at *
 generalize s.fine = F1 at *
 generalize ptP s.ax s.ay = pa at *
 generalize ptP s.bx s.by_ = pb at *
 generalize s.isQ 1 = q1 at *
 generalize s.isQ 0 = q0 at *
 generalize s.low 1 = lo1 at *
 generalize s.low 0 = lo0 at *
 generalize s.high 1 = hi1 at *
 generalize s.high 0 = hi0 at *
 simp only [srV_eq] at HN1 HN0
 obtain ⟨zstate, zcity, zpre, zname, zsuf, zpost, zf, zt, zs, zax, zay, zbx, zby⟩ := s
 rw [srV_eq]
 dsimp only at *
 obtain ⟨t1, ht1⟩ : ∃ t, decide (1 ≤ zf) = t := ⟨_, rfl⟩
 obtain ⟨t2, ht2⟩ : ∃ t, decide (zf ≤ zt) = t := ⟨_, rfl⟩
 obtain ⟨t3, ht3⟩ : ∃ t, decide (zt ≤ 999999) = t := ⟨_, rfl⟩
 obtain ⟨t4, ht4⟩ : ∃ t, decide (1 ≤ zs) = t := ⟨_, rfl⟩
 obtain ⟨t5, ht5⟩ : ∃ t, decide (zs ≤ 3) = t := ⟨_, rfl⟩
 obtain ⟨b0, hb0⟩ : ∃ t, (q == 0) = t := ⟨_, rfl⟩
 have hb1 : decide (q = 0) = b0 := by rw [← hb0]; by_cases h : q = 0 <;> simp [h]
 rw [hb1, ht1, ht2, ht3, ht4, ht5] at hf
 have hF1 := Lib.hid hf.symm
 obtain ⟨F2, hF2⟩ : ∃ t, (!F1 || !pa || !pb) = t := ⟨_, rfl⟩
 rw [hF2] at hP
 replace hF2 := Lib.hid hF2
 replace hP := Lib.hid hP
 clear hf hb1
 have X2 := ((Ext.refl W).alloc (.cells #[.string ⟨zstate.toArray⟩, .string ⟨zcity.toArray⟩, .string ⟨zpre.toArray⟩, .string ⟨zname.toArray⟩, .string ⟨zsuf.toArray⟩, .string ⟨zpost.toArray⟩, .int .i64 zf, .int .i64 zt, .int .i64 zs, .int .i64 zax, .int .i64 zay, .int .i64 zbx, .int .i64 zby] 25)).alloc (.cells #[.int .i64 1, .bool false, .string ⟨zpre.toArray⟩, .string ⟨zname.toArray⟩, .string ⟨zsuf.toArray⟩, .string ⟨zpost.toArray⟩, .string ⟨#[]⟩, .string ⟨zcity.toArray⟩, .string ⟨zstate.toArray⟩, .string ⟨#[48, 48, 48, 48, 48]⟩, .string ⟨#[]⟩] 45)
 have B2 := (Blk.new W 25 #[.string ⟨zstate.toArray⟩, .string ⟨zcity.toArray⟩, .string ⟨zpre.toArray⟩, .string ⟨zname.toArray⟩, .string ⟨zsuf.toArray⟩, .string ⟨zpost.toArray⟩, .int .i64 zf, .int .i64 zt, .int .i64 zs, .int .i64 zax, .int .i64 zay, .int .i64 zbx, .int .i64 zby]).alloc (.cells #[.int .i64 1, .bool false, .string ⟨zpre.toArray⟩, .string ⟨zname.toArray⟩, .string ⟨zsuf.toArray⟩, .string ⟨zpost.toArray⟩, .string ⟨#[]⟩, .string ⟨zcity.toArray⟩, .string ⟨zstate.toArray⟩, .string ⟨#[48, 48, 48, 48, 48]⟩, .string ⟨#[]⟩] 45)
 have B3 := Blk.new (W.alloc (.cells #[.string ⟨zstate.toArray⟩, .string ⟨zcity.toArray⟩, .string ⟨zpre.toArray⟩, .string ⟨zname.toArray⟩, .string ⟨zsuf.toArray⟩, .string ⟨zpost.toArray⟩, .int .i64 zf, .int .i64 zt, .int .i64 zs, .int .i64 zax, .int .i64 zay, .int .i64 zbx, .int .i64 zby] 25)) 45 #[.int .i64 1, .bool false, .string ⟨zpre.toArray⟩, .string ⟨zname.toArray⟩, .string ⟨zsuf.toArray⟩, .string ⟨zpost.toArray⟩, .string ⟨#[]⟩, .string ⟨zcity.toArray⟩, .string ⟨zstate.toArray⟩, .string ⟨#[48, 48, 48, 48, 48]⟩, .string ⟨#[]⟩]
 rw [show (W.alloc (.cells #[.string ⟨zstate.toArray⟩, .string ⟨zcity.toArray⟩, .string ⟨zpre.toArray⟩, .string ⟨zname.toArray⟩, .string ⟨zsuf.toArray⟩, .string ⟨zpost.toArray⟩, .int .i64 zf, .int .i64 zt, .int .i64 zs, .int .i64 zax, .int .i64 zay, .int .i64 zbx, .int .i64 zby] 25)).heap.size = W.heap.size + 1 by simp] at B3
 go_enter Tryz.func14, Tryz.ntmps14
 go_upto_region 2 with (fail)
 generalize (W.alloc (.cells #[.string ⟨zstate.toArray⟩, .string ⟨zcity.toArray⟩, .string ⟨zpre.toArray⟩, .string ⟨zname.toArray⟩, .string ⟨zsuf.toArray⟩, .string ⟨zpost.toArray⟩, .int .i64 zf, .int .i64 zt, .int .i64 zs, .int .i64 zax, .int .i64 zay, .int .i64 zbx, .int .i64 zby] 25)).alloc (.cells #[.int .i64 1, .bool false, .string ⟨zpre.toArray⟩, .string ⟨zname.toArray⟩, .string ⟨zsuf.toArray⟩, .string ⟨zpost.toArray⟩, .string ⟨#[]⟩, .string ⟨zcity.toArray⟩, .string ⟨zstate.toArray⟩, .string ⟨#[48, 48, 48, 48, 48]⟩, .string ⟨#[]⟩] 45) = w0 at *
 generalize W.heap.size + 1 = g3 at *
 generalize hga : W.heap.size = ga at *
 clear hga
 have X0 := Lib.hid X2
 have BA := Lib.hid (fun w (hx : Ext w0 w) => (show (∀ i, w.cell? ⟨ga, i, none⟩ = (#[.string ⟨zstate.toArray⟩, .string ⟨zcity.toArray⟩, .string ⟨zpre.toArray⟩, .string ⟨zname.toArray⟩, .string ⟨zsuf.toArray⟩, .string ⟨zpost.toArray⟩, .int .i64 zf, .int .i64 zt, .int .i64 zs, .int .i64 zax, .int .i64 zay, .int .i64 zbx, .int .i64 zby] : Array Value)[i]?) ∧ ga < w.heap.size ∧ (∀ i, w.frozen? ⟨ga, i, none⟩ = false) from
  have B := B2.ext hx; ⟨B.cell, B.lt, B.frozen⟩))
 replace HC := Lib.hid (fun w (hx : Ext w0 w) => HC.out w (X2.trans hx))
 replace HA := Lib.hid (fun w (hx : Ext w0 w) => HA.out w (X2.trans hx))
 replace HB := Lib.hid (fun w (hx : Ext w0 w) => HB.out w (X2.trans hx))
 have Xw0 := Lib.hid (Ext.refl w0)
 obtain ⟨qa, la, qb⟩ := BA.out _ Xw0.out
 obtain ⟨p3, _⟩ := B3.cells
 have l3 := B3.lt
 clear B2 B3 X2
 go_cut [4] from 24 to 53 (fun u wx => u = .bool F1 ∧ Ext w0 wx)
 case first =>
  clear HN1 HN0 HA HB hP hF2
  go_wp2_with fail
  refine (HC.out _ Xw0.out).mono ?_
  rintro e wb0 ⟨rfl, hx⟩
  have Xwb0 := Lib.hid (Xw0.out.trans hx)
  obtain ⟨qa, la, qb⟩ := BA.out _ Xwb0.out
  clear hx
  cases b0 with
  | false =>
   have HE := Lib.hid (show Value.bool false = Value.bool F1 ∧ Ext w0 wb0 from ⟨by rw [← hF1.out]; simp, Xwb0.out⟩)
   go_wp2_with fail
   go_meet
   case rel => exact HE.out
  | true =>
   cases t1 with
   | false =>
    have HE := Lib.hid (show Value.bool false = Value.bool F1 ∧ Ext w0 wb0 from ⟨by rw [← hF1.out]; simp, Xwb0.out⟩)
    go_wp2_with fail
    go_meet
    case rel => exact HE.out
   | true =>
    cases t2 with
    | false =>
     have HE := Lib.hid (show Value.bool false = Value.bool F1 ∧ Ext w0 wb0 from ⟨by rw [← hF1.out]; simp, Xwb0.out⟩)
     go_wp2_with fail
     go_meet
     case rel => exact HE.out
    | true =>
     cases t3 with
     | false =>
      have HE := Lib.hid (show Value.bool false = Value.bool F1 ∧ Ext w0 wb0 from ⟨by rw [← hF1.out]; simp, Xwb0.out⟩)
      go_wp2_with fail
      go_meet
      case rel => exact HE.out
     | true =>
      cases t4 with
      | false =>
       have HE := Lib.hid (show Value.bool false = Value.bool F1 ∧ Ext w0 wb0 from ⟨by rw [← hF1.out]; simp, Xwb0.out⟩)
       go_wp2_with fail
       go_meet
       case rel => exact HE.out
      | true =>
       cases t5 with
       | false =>
        have HE := Lib.hid (show Value.bool false = Value.bool F1 ∧ Ext w0 wb0 from ⟨by rw [← hF1.out]; simp, Xwb0.out⟩)
        go_wp2_with fail
        go_meet
        case rel => exact HE.out
       | true =>
        have HE := Lib.hid (show Value.bool true = Value.bool F1 ∧ Ext w0 wb0 from ⟨by rw [← hF1.out]; simp, Xwb0.out⟩)
        go_wp2_with fail
        go_meet
        case rel => exact HE.out
 case rest =>
  obtain ⟨rfl, hx⟩ := hcut
  have Xwc := Lib.hid hx
  clear hx qa la qb Xw0 p3 l3 HC
  obtain ⟨qa, la, qb⟩ := BA.out _ Xwc.out
  go_upto_region 3 with (fail)
  go_cut [67] from 54 to 67 (fun u wx => u = .bool F2 ∧ Ext w0 wx)
  case first =>
   clear HN1 HN0 hP
   cases F1 with
   | false =>
    have HE := Lib.hid (show Value.bool true = Value.bool F2 ∧ Ext w0 wc from ⟨by rw [← hF2.out]; simp, Xwc.out⟩)
    go_wp2_with fail
    go_meet
    case rel => exact HE.out
   | true =>
    go_wp2_with fail
    refine (HA.out _ Xwc.out).mono ?_
    rintro e wpa ⟨rfl, hx⟩
    have Xwpa := Lib.hid (Xwc.out.trans hx)
    obtain ⟨qa, la, qb⟩ := BA.out _ Xwpa.out
    clear hx
    cases pa with
    | false =>
     have HE := Lib.hid (show Value.bool true = Value.bool F2 ∧ Ext w0 wpa from ⟨by rw [← hF2.out]; simp, Xwpa.out⟩)
     go_wp2_with fail
     go_meet
     case rel => exact HE.out
    | true =>
     go_wp2_with fail
     refine (HB.out _ Xwpa.out).mono ?_
     rintro e wpb ⟨rfl, hx⟩
     have Xwpb := Lib.hid (Xwpa.out.trans hx)
     obtain ⟨qa, la, qb⟩ := BA.out _ Xwpb.out
     clear hx
     cases pb with
     | false =>
      have HE := Lib.hid (show Value.bool true = Value.bool F2 ∧ Ext w0 wpb from ⟨by rw [← hF2.out]; simp, Xwpb.out⟩)
      go_wp2_with fail
      go_meet
      case rel => exact HE.out
     | true =>
      have HE := Lib.hid (show Value.bool false = Value.bool F2 ∧ Ext w0 wpb from ⟨by rw [← hF2.out]; simp, Xwpb.out⟩)
      go_wp2_with fail
      go_meet
      case rel => exact HE.out
  case rest =>
   obtain ⟨rfl, hx⟩ := hcut
   clear qa la qb Xwc HA HB
   have Xwc := Lib.hid hx
   clear hx
   obtain ⟨qa, la, qb⟩ := BA.out _ Xwc.out
   cases F2 with
   | true =>
    have hQ := Lib.hid (show R = 2 by rw [hP.out]; rfl)
    clear hP
    go_wp2_with fail
    go_ret
    exact ⟨by rw [hQ.out]; rfl, X0.out.trans Xwc.out⟩
   | false =>
    have hP2 := hP.out
    rw [if_neg (by decide)] at hP2
    have hf1 : F1 = true := by
     have := hF2.out
     cases F1 with
     | true => rfl
     | false => cases this
    replace HN1 := Lib.hid (HN1.out hf1)
    replace HN0 := Lib.hid (HN0.out hf1)
    replace hP2 := Lib.hid hP2
    clear hP hF1 hF2
    go_wp2_with fail
    refine (HN1.out _).mono ?_
    rintro e w4 ⟨rfl, hx4⟩
    have X4 := Lib.hid (Xwc.out.trans hx4)
    clear hx4 qa la qb
    obtain ⟨qa, la, qb⟩ := BA.out _ X4.out
    go_wp2_with fail
    refine (HN0.out _).mono ?_
    rintro e w5 ⟨rfl, hx5⟩
    have X5 := Lib.hid (X0.out.trans (X4.out.trans hx5))
    clear hx5 qa la qb HN1 HN0 BA
    cases q1 <;> cases q0
    all_goals
     go_wp2_with fail
     go_ret
     exact ⟨by rw [hP2.out]; rfl, X5.out⟩
end Go.Proofs.YtjaponmpfdpemaaGreatDoor
set_option linter.unusedSimpArgs false
set_option linter.unusedVariables false
namespace Go.Proofs.YtjaponmpfdpemaaGreatDoor
open Go.RowKit
theorem srCells_len (l : List Sr) : (srCells l).length = l.length * 13 := by
 induction l with
 | nil => rfl
 | cons s l ih =>
  unfold srCells at ih ⊢
  rw [List.flatMap_cons, List.length_append, ih, List.length_cons]
  simp only [srL, List.length_cons, List.length_nil]
  omega
abbrev SrCell (W : World) (g o : Nat) (s : Sr) : Prop := W.cell? ⟨g, o, none⟩ = some (.string ⟨s.state.toArray⟩) ∧ W.cell? ⟨g, o + 1, none⟩ = some (.string ⟨s.city.toArray⟩) ∧ W.cell? ⟨g, o + 2, none⟩ = some (.string ⟨s.pre.toArray⟩) ∧ W.cell? ⟨g, o + 3, none⟩ = some (.string ⟨s.name.toArray⟩) ∧ W.cell? ⟨g, o + 4, none⟩ = some (.string ⟨s.suf.toArray⟩) ∧ W.cell? ⟨g, o + 5, none⟩ = some (.string ⟨s.post.toArray⟩) ∧
 W.cell? ⟨g, o + 6, none⟩ = some (.int .i64 s.fr) ∧ W.cell? ⟨g, o + 7, none⟩ = some (.int .i64 s.to_) ∧ W.cell? ⟨g, o + 8, none⟩ = some (.int .i64 s.side) ∧ W.cell? ⟨g, o + 9, none⟩ = some (.int .i64 s.ax) ∧ W.cell? ⟨g, o + 10, none⟩ = some (.int .i64 s.ay) ∧ W.cell? ⟨g, o + 11, none⟩ = some (.int .i64 s.bx) ∧ W.cell? ⟨g, o + 12, none⟩ = some (.int .i64 s.by_)
theorem sr_at {w : World} {B : Nat} {A : Option Addr} {l : List Sr} (hr : Reads w B 13 A l.length (srCells l)) {k : Nat} (hk : k < l.length) : ∃ g off, A = some ⟨g, off, none⟩ ∧ g < B ∧ SrCell w g (off + k * 13) l[k] := by
 obtain ⟨g, off, rfl, hg, hc⟩ := hr.cellAt hk
 have f : ∀ j, j < 13 → ∀ u, (srL l[k])[j]? = some u → w.cell? ⟨g, off + k * 13 + j, none⟩ = some u := fun j hj u hu => by rw [Nat.add_assoc]; exact hc _ _ ((flat_get (f := srL) (c := 13) (fun _ => rfl) l k j hk hj).trans hu)
 exact ⟨g, off, rfl, hg, f 0 (by decide) _ rfl, f 1 (by decide) _ rfl, f 2 (by decide) _ rfl, f 3 (by decide) _ rfl, f 4 (by decide) _ rfl, f 5 (by decide) _ rfl, f 6 (by decide) _ rfl, f 7 (by decide) _ rfl, f 8 (by decide) _ rfl, f 9 (by decide) _ rfl, f 10 (by decide) _ rfl, f 11 (by decide) _ rfl, f 12 (by decide) _ rfl⟩
def Sr.cmpN (s : Sr) (p n : Int) : Int := if s.high p < n then -1 else if n < s.low p then 1 else 0
set_option maxRecDepth 100000 in
set_option maxHeartbeats 1000000 in
theorem plcmp_any (s : Sr) (hN : s.Num) (n p : Int) (g : Nat) (w : World) (h : w.cell? ⟨g, 0, none⟩ = some (.int .i64 p)) (hg : g < w.heap.size) :
  Calls Tryz.prog 72 #[srV s, .int .i64 n, .pointer (some ⟨g, 0, none⟩)] w fun e w' => e = .returned (.int .i64 (s.cmpN p n)) ∧ Ext w w' := by
 have HN := Lib.hid (fun w => srnum_any s hN p w)
 have X0 := (Ext.refl w).alloc (.cells (srC s) 25)
 have h2 := (X0.cell g 0 none hg).trans h
 have hg2 := Nat.lt_of_lt_of_le hg X0.size
 have hc : s.cmpN p n = if s.high p < n then -1 else if n < s.low p then 1 else 0 := rfl
 obtain ⟨R, hR⟩ : ∃ R, s.cmpN p n = R := ⟨_, rfl⟩
 rw [hR] at hc ⊢
 clear hR h
 generalize s.low p = lo at *
 generalize s.high p = hi at *
 generalize s.isQ p = q at *
 unfold srC at h2 X0 hg2
 simp only [srV_eq] at HN ⊢
 replace X0 := Lib.hid X0
 clear hN
 by_cases h1 : hi < n
 ·have d1 : decide (hi < n) = true := decide_eq_true h1
  rw [if_pos h1] at hc
  replace hc := Lib.hid hc
  go_enter Tryz.func72, Tryz.ntmps72
  go_wp2_with fail
  refine (HN.out _).mono ?_
  rintro e w1 ⟨rfl, hx⟩
  go_wp2_with fail
  go_ret
  exact ⟨by rw [hc.out]; rfl, X0.out.trans hx⟩
 ·have d1 : decide (hi < n) = false := decide_eq_false h1
  rw [if_neg h1] at hc
  by_cases h3 : n < lo
  ·have d2 : decide (n < lo) = true := decide_eq_true h3
   rw [if_pos h3] at hc
   replace hc := Lib.hid hc
   go_enter Tryz.func72, Tryz.ntmps72
   go_wp2_with fail
   refine (HN.out _).mono ?_
   rintro e w1 ⟨rfl, hx⟩
   go_wp2_with fail
   go_ret
   exact ⟨by rw [hc.out]; rfl, X0.out.trans hx⟩
  ·have d2 : decide (n < lo) = false := decide_eq_false h3
   rw [if_neg h3] at hc
   replace hc := Lib.hid hc
   go_enter Tryz.func72, Tryz.ntmps72
   go_wp2_with fail
   refine (HN.out _).mono ?_
   rintro e w1 ⟨rfl, hx⟩
   go_wp2_with fail
   go_ret
   exact ⟨by rw [hc.out]; rfl, X0.out.trans hx⟩
def BsRel (w : World) (l : List Sr) (p n : Int) (vi vj : Value) (wr : World) : Prop := ∃ i j : Nat, i ≤ j ∧ j ≤ l.length ∧ vi = .int .i64 (i : Int) ∧ vj = .int .i64 (j : Int) ∧ (∀ q (h : q < l.length), q < i → (l[q]).high p < n) ∧ (∀ q (h : q < l.length), j ≤ q → ¬ (l[q]).high p < n) ∧ Ext w wr
set_option maxRecDepth 100000 in
set_option maxHeartbeats 2000000 in
theorem srsearch_any (l : List Sr) (hN : ∀ s ∈ l, s.Num) (p n : Int) (hm : SrMono l p n) (g0 : Nat) (A : Option Addr) (cap : Nat) (w : World) (hr : Reads w w.heap.size 13 A l.length (srCells l)) (hl : l.length ≤ 1000) (h0 : w.cell? ⟨g0, 0, none⟩ = some (.int .i64 p)) (hg0 : g0 < w.heap.size) :
  Calls Tryz.prog 71 #[.slice A l.length cap, .int .i64 n, .func (.func 72) #[] #[.pointer (some ⟨g0, 0, none⟩)]] w fun e w' => e = .returned (.tuple #[.int .i64 (plK l p n : Int), .bool (plF l p n)]) ∧ Ext w w' := by
 have HC := Lib.hid (fun (k : Nat) (hk : k < l.length) W (hx : Ext w W) => plcmp_any l[k] (hN _ (List.getElem_mem hk)) n p g0 W ((hx.cell g0 0 none hg0).trans h0) (Nat.lt_of_lt_of_le hg0 hx.size))
 have HR := Lib.hid (fun W (hx : Ext w W) => hr.ext hx)
 replace hm := Lib.hid hm
 have HS := Lib.hid (show BsRel w l p n (.int .i64 ((0 : Nat) : Int)) (.int .i64 (l.length : Int)) w from ⟨0, l.length, by omega, by omega, rfl, rfl, fun q _ h => absurd h (by omega), fun q h h' => absurd h (by omega), Ext.refl _⟩)
 clear hr h0 hg0 hN
 go_enter Tryz.func71, Tryz.ntmps71
 go_wp2_with fail
 go_loopw [9, 10] (fun vi vj wr => BsRel w l p n vi vj wr) (fun vi vj _ => (intOf vj).toNat - (intOf vi).toNat)
 case atStart => exact HS.out
 case round =>
  clear HS
  obtain ⟨i, j, hij, hjl, rfl, rfl, h1, h2, hx⟩ := hrel
  by_cases hlt : i < j
  ·have hd : decide ((i : Int) < (j : Int)) = true := decide_eq_true (by omega)
   obtain ⟨h, hh⟩ : ∃ h, (i + j) / 2 = h := ⟨_, rfl⟩
   have hb1 : i ≤ h := by omega
   have hb2 : h < j := by omega
   have hhl : h < l.length := by omega
   have e1 : IntKind.i64.wrap ((i : Int) + (j : Int)) = (i : Int) + (j : Int) := by rw [IntKind.wrap_i64]; omega
   have e2 : IntKind.u64.wrap ((i : Int) + (j : Int)) = (i : Int) + (j : Int) := by rw [IntKind.wrap_u64]; omega
   have e3 : ((i : Int) + (j : Int)) / 2 = (h : Int) := by omega
   have e4 : IntKind.i64.wrap (h : Int) = (h : Int) := by rw [IntKind.wrap_i64]; omega
   have e5 : IntKind.i64.wrap ((h : Int) + 1) = ((h + 1 : Nat) : Int) := by rw [IntKind.wrap_i64]; omega
   have kl : (h : Int) < (l.length : Int) := by omega
   have kz : (0 : Int) ≤ (h : Int) := by omega
   obtain ⟨g, off, rfl, hg, c0, c1, c2, c3, c4, c5, c6, c7, c8, c9, c10, c11, c12⟩ := sr_at (HR.out _ hx) hhl
   have HCk := Lib.hid (HC.out h hhl wr hx)
   have HL := Lib.hid (fun (hlt2 : (l[h]).high p < n) W (hx2 : Ext wr W) => (show BsRel w l p n (.int .i64 ((h + 1 : Nat) : Int)) (.int .i64 (j : Int)) W from ⟨h + 1, j, by omega, hjl, rfl, rfl, fun q hq hq2 => by
    by_cases e : q = h
    ·subst e; exact hlt2
    ·exact hm.out q h (by omega) hhl hlt2, h2, hx.trans hx2⟩))
   have HG := Lib.hid (fun (hge : ¬ (l[h]).high p < n) W (hx2 : Ext wr W) => (show BsRel w l p n (.int .i64 (i : Int)) (.int .i64 (h : Int)) W from ⟨i, h, by omega, by omega, rfl, rfl, h1, fun q hq hq2 => by
    by_cases e : q = h
    ·subst e; exact hge
    ·exact fun hc => hge (hm.out h q (by omega) hq hc), hx.trans hx2⟩))
   have hcm : (l[h]).cmpN p n = if (l[h]).high p < n then -1 else if n < (l[h]).low p then 1 else 0 := rfl
   replace hh := Lib.hid hh
   clear HC HR h1 h2 hx hm
   simp only [srV_eq] at HCk
   generalize l[h] = x at *
   generalize x.cmpN p n = cm at *
   generalize x.low p = lo at *
   generalize x.high p = hi at *
   go_wp2_with fail
   refine HCk.out.mono ?_
   rintro e w1 ⟨rfl, hx1⟩
   by_cases hlo : hi < n
   ·have HE := Lib.hid (HL.out hlo _ hx1)
    rw [if_pos hlo] at hcm
    subst hcm
    clear HL HG hlo
    go_wp2_with fail
    go_roundw
    case rel => exact HE.out
    case measure => simp [intOf] <;> omega
   ·have HE := Lib.hid (HG.out (by omega) _ hx1)
    rw [if_neg hlo] at hcm
    have hd2 : decide (cm < 0) = false := by
     rw [decide_eq_false_iff_not, hcm]
     split <;> omega
    replace hcm := Lib.hid hcm
    clear HL HG hlo
    go_wp2_with fail
    go_roundw
    case rel => exact HE.out
    case measure => simp [intOf] <;> omega
  ·obtain rfl : i = j := by omega
   have hd : decide ((i : Int) < (i : Int)) = false := by simp
   have hk := Lib.hid (plK_is hjl h1 (fun h => h2 i h (Nat.le_refl _)))
   by_cases hil : i < l.length
   ·have hd2 : decide ((i : Int) < (l.length : Int)) = true := decide_eq_true (by omega)
    have kl : (i : Int) < (l.length : Int) := by omega
    have kz : (0 : Int) ≤ (i : Int) := by omega
    obtain ⟨g, off, rfl, hg, c0, c1, c2, c3, c4, c5, c6, c7, c8, c9, c10, c11, c12⟩ := sr_at (HR.out _ hx) hil
    have HCk := Lib.hid (HC.out i hil wr hx)
    have hcm : (l[i]).cmpN p n = if (l[i]).high p < n then -1 else if n < (l[i]).low p then 1 else 0 := rfl
    have hnlt := h2 i hil (Nat.le_refl _)
    have hF : plF l p n = decide ((l[i]).low p ≤ n) := by unfold plF; rw [hk.out, List.getElem?_eq_getElem hil]
    replace hx := Lib.hid hx
    clear HC HR h1 h2 hm
    simp only [srV_eq] at HCk
    generalize l[i] = x at *
    generalize x.cmpN p n = cm at *
    generalize x.low p = lo at *
    generalize x.high p = hi at *
    rw [if_neg hnlt] at hcm
    have hb : (cm == 0) = decide (lo ≤ n) := by
     rw [hcm]
     by_cases h : n < lo
     ·rw [if_pos h, decide_eq_false (by omega)]; rfl
     ·rw [if_neg h, decide_eq_true (by omega)]; rfl
    obtain ⟨f, hf⟩ : ∃ f, decide (lo ≤ n) = f := ⟨_, rfl⟩
    rw [hf] at hb hF
    replace hcm := Lib.hid hcm
    replace hF := Lib.hid hF
    clear hnlt hf
    go_wp2_with fail
    refine HCk.out.mono ?_
    rintro e w1 ⟨rfl, hx1⟩
    go_wp2_with fail
    go_ret2
    exact ⟨by rw [hk.out, hF.out]; rfl, hx.out.trans hx1⟩
   ·have hd2 : decide ((i : Int) < (l.length : Int)) = false := decide_eq_false (by omega)
    have hF := Lib.hid (show plF l p n = false by unfold plF; rw [hk.out, List.getElem?_eq_none (by omega)])
    replace hx := Lib.hid hx
    clear HC HR h1 h2 hm
    go_wp2_with fail
    go_ret2
    exact ⟨by rw [hk.out, hF.out]; rfl, hx.out⟩
end Go.Proofs.YtjaponmpfdpemaaGreatDoor
