/-
  apportionref18: New (printed by tools/genMc.py).
-/
import Derived.Deep.CutRange
import Derived.Test.YtjaponmpfdpemaaGreatDoorBb43
import Derived.Test.YtjaponmpfdpemaaGreatDoorBb42
import Derived.Test.YtjaponmpfdpemaaGreatDoorBb21
set_option linter.unusedSimpArgs false
set_option linter.unusedVariables false
namespace Go.Proofs.YtjaponmpfdpemaaGreatDoor
open Go.RowKit
theorem newR_full {l : List Sr} (h : 500 < l.length) : newR l = (8, 0) := by unfold newR; rw [if_pos h]
theorem newR_bad {l : List Sr} (h : ¬ 500 < l.length) {k : Nat} (hk : k < l.length) (h1 : ∀ i (h : i < l.length), i < k → (l[i]).check = 0) (h2 : (l[k]).check ≠ 0) : newR l = (2, (k : Int)) := by
 unfold newR
 rw [if_neg h, srBad_at hk h1 h2, if_pos (by omega)]
theorem newR_clash {l : List Sr} (h : ¬ 500 < l.length) (hc : ∀ i (h : i < l.length), (l[i]).check = 0) {k : Nat} (hk : k < l.length) (h0 : ∀ j, j < k → clashR l j = false) (h1 : clashR l k = true) : newR l = (7, (k : Int)) := by
 unfold newR
 rw [if_neg h, srBad_none hc, if_neg (by omega)]
 have e : (List.range l.length).find? (clashR l) = some k := by
  rw [List.find?_range_eq_some]
  exact ⟨h1, by simpa using hk, fun j hj => by simpa using h0 j hj⟩
 rw [e]
theorem newR_none {l : List Sr} (h : ¬ 500 < l.length) (hc : ∀ i (h : i < l.length), (l[i]).check = 0) (h0 : ∀ j, j < l.length → clashR l j = false) : newR l = (0, 0) := by
 unfold newR
 rw [if_neg h, srBad_none hc, if_neg (by omega)]
 have e : (List.range l.length).find? (clashR l) = none := by
  rw [List.find?_eq_none]
  intro j hj
  rw [h0 j (List.mem_range.1 hj)]
  simp
 rw [e]
theorem clashR_yes {l : List Sr} {k q : Nat} (hk : k < l.length) (hq : q < k) (h1 : l[k].key = (l[q]'(by omega)).key) (h2 : l[k].meet (l[q]'(by omega)) = true) : clashR l k = true := by
 rw [clashR_iff hk]
 exact ⟨l[q]'(by omega), by rw [List.mem_take_iff_getElem]; exact ⟨q, by omega, rfl⟩, h1, h2⟩
theorem clashR_no {l : List Sr} {k : Nat} (hk : k < l.length) (h : ∀ q (hq : q < k), ¬ (l[k].key = (l[q]'(by omega)).key ∧ l[k].meet (l[q]'(by omega)) = true)) : clashR l k = false := by
 cases e : clashR l k with
 | false => rfl
 | true =>
  rw [clashR_iff hk] at e
  obtain ⟨t, ht, hc⟩ := e
  rw [List.mem_take_iff_getElem] at ht
  obtain ⟨q, hq, rfl⟩ := ht
  exact absurd hc (h q (by omega))
def RnA (w : World) (l : List Sr) (f : Nat) (i : Value) (wr : World) : Prop := ∃ k : Nat, k ≤ l.length ∧ i = .int .i64 (k : Int) ∧ (∀ i (h : i < l.length), i < k → (l[i]).check = 0) ∧ Blk wr f 36 #[.int .i64 0, .int .i64 0] ∧ Ext w wr
def RnB (w : World) (l : List Sr) (f : Nat) (i : Value) (wr : World) : Prop := ∃ k : Nat, k ≤ l.length ∧ i = .int .i64 (k : Int) ∧ (∀ j, j < k → clashR l j = false) ∧ Blk wr f 36 #[.int .i64 0, .int .i64 0] ∧ Ext w wr
def RnC (w : World) (l : List Sr) (f : Nat) (k : Nat) (i : Value) (wr : World) : Prop := ∃ q : Nat, q ≤ k ∧ i = .int .i64 (q : Int) ∧ (∀ p (hp : p < q) (hk : k < l.length) (hp' : p < l.length), ¬ (l[k].key = l[p].key ∧ l[k].meet l[p] = true)) ∧ Blk wr f 36 #[.int .i64 0, .int .i64 0] ∧ Ext w wr
set_option maxRecDepth 100000 in
set_option maxHeartbeats 4000000 in
theorem rsrnew_any (l : List Sr) (hs : ∀ s ∈ l, SrS s 1000) (A : Option Addr) (cap : Nat) (w : World) (hr : Reads w w.heap.size 13 A l.length (srCells l)) (hl : l.length ≤ 1000) :
  Calls Tryz.prog 18 #[.slice A l.length cap] w fun e w' => e = .returned (.agg #[.int .i64 (newR l).1, .int .i64 (newR l).2]) ∧ Ext w w' := by
 by_cases h500 : 500 < l.length
 ·rw [newR_full h500]
  have hd : decide ((500 : Int) < (l.length : Int)) = true := decide_eq_true (by omega)
  have B1 := Blk.new w 36 #[.int .i64 0, .int .i64 0]
  obtain ⟨b0, b0'⟩ := B1.cells
  have lb := B1.lt
  have X1 := Lib.hid ((Ext.refl w).alloc (.cells #[.int .i64 0, .int .i64 0] 36))
  clear hr hs
  go_enter Tryz.func18, Tryz.ntmps18
  go_wp2_with fail
  exact bodyPost_ret (results_c rfl rfl (ld_fault (Blk.new w _ _))) rfl ⟨rfl, (Ext.refl w).alloc _⟩
 ·have hd : decide ((500 : Int) < (l.length : Int)) = false := decide_eq_false (by omega)
  have HC := Lib.hid (fun (k : Nat) (hk : k < l.length) W (_ : Ext w W) => rsrcheck_any l[k] (hs _ (List.getElem_mem hk)) W)
  have HR := Lib.hid (fun W (hx : Ext w W) => hr.ext hx)
  have R0 := Lib.hid (show RnA w l w.heap.size (.int .i64 ((0 : Nat) : Int)) (w.alloc (.cells #[.int .i64 0, .int .i64 0] 36)) from ⟨0, by omega, rfl, fun i _ hi => absurd hi (by omega), Blk.new w _ _, (Ext.refl w).alloc _⟩)
  obtain ⟨NR, hNR⟩ : ∃ NR, newR l = NR := ⟨_, rfl⟩
  have HBad := Lib.hid (fun (k : Nat) (hk : k < l.length) h1 h2 => (newR_bad (l := l) h500 hk h1 h2))
  have HCl := Lib.hid (fun hc (k : Nat) (hk : k < l.length) h1 h2 => (newR_clash (l := l) h500 hc hk h1 h2))
  have HNo := Lib.hid (fun hc h0 => newR_none (l := l) h500 hc h0)
  rw [hNR] at HBad HCl HNo ⊢
  clear hr hs hNR h500
  go_enter Tryz.func18, Tryz.ntmps18
  go_wp2_with fail
  generalize w.alloc (.cells #[.int .i64 0, .int .i64 0] 36) = w0 at *
  go_loopw [3] (fun i wr => RnA w l w.heap.size i wr) (fun i _ => l.length - (intOf i).toNat)
  case atStart => exact R0.out
  case round =>
   clear R0
   obtain ⟨k, hk, rfl, hP, hB, hx⟩ := hrel
   by_cases hlt : k < l.length
   ·have hd1 : decide ((k : Int) < (l.length : Int)) = true := decide_eq_true (by omega)
    have kl : (k : Int) < (l.length : Int) := by omega
    have kz : (0 : Int) ≤ (k : Int) := by omega
    obtain ⟨g, off, rfl, hg, c0, c1, c2, c3, c4, c5, c6, c7, c8, c9, c10, c11, c12⟩ := sr_at (HR.out _ hx) hlt
    have HCk := Lib.hid (HC.out k hlt wr hx)
    have HI := Lib.hid (fun h => HBad.out k hlt hP h)
    have HK := Lib.hid (fun (h : (l[k]).check = 0) (W : World) (hx2 : Ext wr W) => (show RnA w l w.heap.size (.int .i64 ((k + 1 : Nat) : Int)) W from ⟨k + 1, by omega, rfl, fun i hi hik => by
     by_cases e : i = k
     ·subst e; exact h
     ·exact hP i hi (by omega), hB.ext hx2, hx.trans hx2⟩))
    replace hx := Lib.hid hx
    replace hB := Lib.hid hB
    clear hP HC HR HBad HCl HNo
    simp only [srV_eq] at HCk
    generalize l[k] = x at *
    generalize x.check = q at *
    go_wp2_with fail
    refine HCk.out.mono ?_
    rintro e w' ⟨rfl, hx2⟩
    by_cases hq : q = 0
    ·have HE := Lib.hid (HK.out hq _ hx2)
     subst hq
     clear HI HK
     go_wp2_with fail
     go_roundw
     case rel => exact HE.out
     case measure => simp [intOf]; omega
    ·have HE := Lib.hid (HI.out hq)
     have hb : (q != 0) = true := by simpa using hq
     have hB2 := hB.out.ext hx2
     obtain ⟨b0, b0'⟩ := hB2.cells
     have lb := hB2.lt
     replace hB2 := Lib.hid hB2
     have hX2 := Lib.hid (hx.out.trans hx2)
     clear HI HK hq hx2
     go_wp2_with fail
     exact bodyPost_ret (results_c rfl rfl (ld_fault ((hB2.out.set_ 0 _).set_ 1 _))) rfl ⟨by rw [HE.out], (hX2.out.set (p := ⟨w.heap.size, 0, none⟩) (Nat.le_refl _) _).set (p := ⟨w.heap.size, 1, none⟩) (Nat.le_refl _) _⟩
   ·obtain rfl : k = l.length := by omega
    have hd1 : decide ((l.length : Int) < (l.length : Int)) = false := by simp
    have hAll := Lib.hid (fun i (hi : i < l.length) => hP i hi hi)
    have R1 := Lib.hid (show RnB w l w.heap.size (.int .i64 ((0 : Nat) : Int)) wr from ⟨0, by omega, rfl, fun j hj => absurd hj (by omega), hB, hx⟩)
    clear hP HC HBad hB hx
    go_wp2_with fail
    go_loopw [4] (fun i wr => RnB w l w.heap.size i wr) (fun i _ => l.length - (intOf i).toNat)
    case atStart => exact R1.out
    case round =>
     clear R1
     obtain ⟨k, hk, rfl, hP, hB, hx⟩ := hrel
     by_cases hlt : k < l.length
     ·have hd2 : decide ((k : Int) < (l.length : Int)) = true := decide_eq_true (by omega)
      have kl : (k : Int) < (l.length : Int) := by omega
      have kz : (0 : Int) ≤ (k : Int) := by omega
      have R2 := Lib.hid (show RnC w l w.heap.size k (.int .i64 ((0 : Nat) : Int)) wr from ⟨0, by omega, rfl, fun p hp => absurd hp (by omega), hB, hx⟩)
      replace hP := Lib.hid hP
      clear hB hx
      go_wp2_with fail
      go_loopw [5] (fun i wr => RnC w l w.heap.size k i wr) (fun i _ => k - (intOf i).toNat)
      case atStart => exact R2.out
      case round =>
       clear R2
       obtain ⟨q, hq, rfl, hN, hB, hx⟩ := hrel
       by_cases hqk : q < k
       ·have hd3 : decide ((q : Int) < (k : Int)) = true := decide_eq_true (by omega)
        have ql : (q : Int) < (l.length : Int) := by omega
        have qk : (q : Int) < (k : Int) := by omega
        have qz : (0 : Int) ≤ (q : Int) := by omega
        have hql : q < l.length := by omega
        obtain ⟨g, off, rfl, hg, c0, c1, c2, c3, c4, c5, c6, c7, c8, c9, c10, c11, c12⟩ := sr_at (HR.out _ hx) hlt
        obtain ⟨g', off', hAe, hg', d0, d1, d2, d3, d4, d5, d6, d7, d8, d9, d10, d11, d12⟩ := sr_at (HR.out _ hx) hql
        obtain ⟨rfl, rfl⟩ : g = g' ∧ off = off' := by
         simp only [Option.some.injEq, Addr.mk.injEq] at hAe
         exact ⟨hAe.1, hAe.2.1⟩
        clear hAe hg'
        obtain ⟨o1, ho1⟩ : ∃ o, off + k * 13 = o := ⟨_, rfl⟩
        obtain ⟨o2, ho2⟩ : ∃ o, off + q * 13 = o := ⟨_, rfl⟩
        simp only [ho1] at c0 c1 c2 c3 c4 c5 c6 c7 c8 c9 c10 c11 c12
        simp only [ho2] at d0 d1 d2 d3 d4 d5 d6 d7 d8 d9 d10 d11 d12
        have H1 := Lib.hid (fun W => rone_any l[k] l[q] W)
        have H2 := Lib.hid (fun W => rboth_any l[k] l[q] (Sr.check_ok (hAll.out k hlt)).num (Sr.check_ok (hAll.out q hql)).num W)
        have hbe := Sr.both_iff (Sr.check_ok (hAll.out k hlt)).num (Sr.check_ok (hAll.out q hql)).num
        have HYes := Lib.hid (fun h1 h2 => HCl.out hAll.out k hlt hP.out (clashR_yes (l := l) (k := k) (q := q) hlt hqk h1 h2))
        have HStep := Lib.hid (fun (h : ¬ (l[k].key = l[q].key ∧ l[k].meet l[q] = true)) W (hx2 : Ext wr W) => (show RnC w l w.heap.size k (.int .i64 ((q + 1 : Nat) : Int)) W from ⟨q + 1, by omega, rfl, fun p hp hk' hp' => by
         by_cases e : p = q
         ·subst e; exact h
         ·exact hN p (by omega) hk' hp', hB.ext hx2, hx.trans hx2⟩))
        replace hx := Lib.hid hx
        replace hB := Lib.hid hB
        clear hN HNo HCl
        rw [hbe] at H2
        clear hbe
        simp only [srV_eq] at H1 H2
        have HQ := Lib.hid (fun w' (hx : Ext wr w') => (show (w'.cell? ⟨g, o1, none⟩ = some (.string ⟨l[k].state.toArray⟩) ∧ w'.cell? ⟨g, o1 + 1, none⟩ = some (.string ⟨l[k].city.toArray⟩) ∧ w'.cell? ⟨g, o1 + 2, none⟩ = some (.string ⟨l[k].pre.toArray⟩) ∧ w'.cell? ⟨g, o1 + 3, none⟩ = some (.string ⟨l[k].name.toArray⟩) ∧ w'.cell? ⟨g, o1 + 4, none⟩ = some (.string ⟨l[k].suf.toArray⟩) ∧ w'.cell? ⟨g, o1 + 5, none⟩ = some (.string ⟨l[k].post.toArray⟩) ∧ w'.cell? ⟨g, o1 + 6, none⟩ = some (.int .i64 l[k].fr) ∧ w'.cell? ⟨g, o1 + 7, none⟩ = some (.int .i64 l[k].to_) ∧ w'.cell? ⟨g, o1 + 8, none⟩ = some (.int .i64 l[k].side) ∧ w'.cell? ⟨g, o1 + 9, none⟩ = some (.int .i64 l[k].ax) ∧ w'.cell? ⟨g, o1 + 10, none⟩ = some (.int .i64 l[k].ay) ∧ w'.cell? ⟨g, o1 + 11, none⟩ = some (.int .i64 l[k].bx) ∧ w'.cell? ⟨g, o1 + 12, none⟩ = some (.int .i64 l[k].by_)) ∧ (w'.cell? ⟨g, o2, none⟩ = some (.string ⟨l[q].state.toArray⟩) ∧ w'.cell? ⟨g, o2 + 1, none⟩ = some (.string ⟨l[q].city.toArray⟩) ∧ w'.cell? ⟨g, o2 + 2, none⟩ = some (.string ⟨l[q].pre.toArray⟩) ∧ w'.cell? ⟨g, o2 + 3, none⟩ = some (.string ⟨l[q].name.toArray⟩) ∧ w'.cell? ⟨g, o2 + 4, none⟩ = some (.string ⟨l[q].suf.toArray⟩) ∧ w'.cell? ⟨g, o2 + 5, none⟩ = some (.string ⟨l[q].post.toArray⟩) ∧ w'.cell? ⟨g, o2 + 6, none⟩ = some (.int .i64 l[q].fr) ∧ w'.cell? ⟨g, o2 + 7, none⟩ = some (.int .i64 l[q].to_) ∧ w'.cell? ⟨g, o2 + 8, none⟩ = some (.int .i64 l[q].side) ∧ w'.cell? ⟨g, o2 + 9, none⟩ = some (.int .i64 l[q].ax) ∧ w'.cell? ⟨g, o2 + 10, none⟩ = some (.int .i64 l[q].ay) ∧ w'.cell? ⟨g, o2 + 11, none⟩ = some (.int .i64 l[q].bx) ∧ w'.cell? ⟨g, o2 + 12, none⟩ = some (.int .i64 l[q].by_)) from
         ⟨⟨(hx.cell _ _ none hg).trans c0, (hx.cell _ _ none hg).trans c1, (hx.cell _ _ none hg).trans c2, (hx.cell _ _ none hg).trans c3, (hx.cell _ _ none hg).trans c4, (hx.cell _ _ none hg).trans c5, (hx.cell _ _ none hg).trans c6, (hx.cell _ _ none hg).trans c7, (hx.cell _ _ none hg).trans c8, (hx.cell _ _ none hg).trans c9, (hx.cell _ _ none hg).trans c10, (hx.cell _ _ none hg).trans c11, (hx.cell _ _ none hg).trans c12⟩, ⟨(hx.cell _ _ none hg).trans d0, (hx.cell _ _ none hg).trans d1, (hx.cell _ _ none hg).trans d2, (hx.cell _ _ none hg).trans d3, (hx.cell _ _ none hg).trans d4, (hx.cell _ _ none hg).trans d5, (hx.cell _ _ none hg).trans d6, (hx.cell _ _ none hg).trans d7, (hx.cell _ _ none hg).trans d8, (hx.cell _ _ none hg).trans d9, (hx.cell _ _ none hg).trans d10, (hx.cell _ _ none hg).trans d11, (hx.cell _ _ none hg).trans d12⟩⟩))
        generalize l[k] = x at *
        generalize l[q] = y at *
        obtain ⟨b1, hb1⟩ : ∃ b, decide (x.key = y.key) = b := ⟨_, rfl⟩
        obtain ⟨b2, hb2⟩ : ∃ b, x.meet y = b := ⟨_, rfl⟩
        rw [hb1] at H1
        rw [hb2] at H2
        have HY := Lib.hid (fun (h1 : b1 = true) (h2 : b2 = true) => HYes.out (of_decide_eq_true (hb1.trans h1)) (hb2.trans h2))
        have HS := Lib.hid (fun (h : (b1 && b2) = false) => HStep.out (fun hh => by
         rw [decide_eq_true hh.1] at hb1
         rw [hh.2] at hb2
         rw [← hb1, ← hb2] at h
         cases h))
        clear hb1 hb2 HYes HStep
        go_upto_region 14 with (fail)
        go_cut [54] from 30 to 54 (fun v wx => v = .bool (b1 && b2) ∧ Ext wr wx)
        case first =>
         clear HY HS
         have xwr := Ext.refl wr
         cases b1 with
         | true =>
          refine region_conf (fun w' => (w'.cell? ⟨g, o1, none⟩ = some (.string ⟨x.state.toArray⟩) ∧ w'.cell? ⟨g, o1 + 1, none⟩ = some (.string ⟨x.city.toArray⟩) ∧ w'.cell? ⟨g, o1 + 2, none⟩ = some (.string ⟨x.pre.toArray⟩) ∧ w'.cell? ⟨g, o1 + 3, none⟩ = some (.string ⟨x.name.toArray⟩) ∧ w'.cell? ⟨g, o1 + 4, none⟩ = some (.string ⟨x.suf.toArray⟩) ∧ w'.cell? ⟨g, o1 + 5, none⟩ = some (.string ⟨x.post.toArray⟩) ∧ w'.cell? ⟨g, o1 + 6, none⟩ = some (.int .i64 x.fr) ∧ w'.cell? ⟨g, o1 + 7, none⟩ = some (.int .i64 x.to_) ∧ w'.cell? ⟨g, o1 + 8, none⟩ = some (.int .i64 x.side) ∧ w'.cell? ⟨g, o1 + 9, none⟩ = some (.int .i64 x.ax) ∧ w'.cell? ⟨g, o1 + 10, none⟩ = some (.int .i64 x.ay) ∧ w'.cell? ⟨g, o1 + 11, none⟩ = some (.int .i64 x.bx) ∧ w'.cell? ⟨g, o1 + 12, none⟩ = some (.int .i64 x.by_)) ∧ (w'.cell? ⟨g, o2, none⟩ = some (.string ⟨y.state.toArray⟩) ∧ w'.cell? ⟨g, o2 + 1, none⟩ = some (.string ⟨y.city.toArray⟩) ∧ w'.cell? ⟨g, o2 + 2, none⟩ = some (.string ⟨y.pre.toArray⟩) ∧ w'.cell? ⟨g, o2 + 3, none⟩ = some (.string ⟨y.name.toArray⟩) ∧ w'.cell? ⟨g, o2 + 4, none⟩ = some (.string ⟨y.suf.toArray⟩) ∧ w'.cell? ⟨g, o2 + 5, none⟩ = some (.string ⟨y.post.toArray⟩) ∧ w'.cell? ⟨g, o2 + 6, none⟩ = some (.int .i64 y.fr) ∧ w'.cell? ⟨g, o2 + 7, none⟩ = some (.int .i64 y.to_) ∧ w'.cell? ⟨g, o2 + 8, none⟩ = some (.int .i64 y.side) ∧ w'.cell? ⟨g, o2 + 9, none⟩ = some (.int .i64 y.ax) ∧ w'.cell? ⟨g, o2 + 10, none⟩ = some (.int .i64 y.ay) ∧ w'.cell? ⟨g, o2 + 11, none⟩ = some (.int .i64 y.bx) ∧ w'.cell? ⟨g, o2 + 12, none⟩ = some (.int .i64 y.by_)) ∧ Ext wr w') (by kernel_rfl) (by kernel_rfl) (⟨(HQ.out _ (Ext.refl wr).drew).1, (HQ.out _ (Ext.refl wr).drew).2, (Ext.refl wr).drew⟩) ?_
          change Conf _ _ _ _ _ 20 #[false, false, false, false, false, false, false, false, false, false, false, false, false, false, false, false, false, false, false, false] _
          refine Conf.y 0 (some 35) ?v1_0 rfl (fun wo hSw => ?h1_0) ?r1_0
          case h1_0 => (try dsimp only at hSw); go_simp; try with_reducible rfl
          try simp only [Act.put, nrm]
          refine Conf.y 1 (some 36) ?v1_1 rfl (fun wo hSw => ?h1_1) ?r1_1
          case h1_1 => (try dsimp only at hSw); go_simp; try with_reducible rfl
          try simp only [Act.put, nrm]
          refine Conf.y 2 (some 37) ?v1_2 rfl (fun wo hSw => ?h1_2) ?r1_2
          case h1_2 => (try dsimp only at hSw); go_simp; try with_reducible rfl
          try simp only [Act.put, nrm]
          refine Conf.y 3 (some 38) ?v1_3 rfl (fun wo hSw => ?h1_3) ?r1_3
          case h1_3 => (try dsimp only at hSw); go_simp; try with_reducible rfl
          try simp only [Act.put, nrm]
          refine Conf.y 4 (some 39) ?v1_4 rfl (fun wo hSw => ?h1_4) ?r1_4
          case h1_4 => (try dsimp only at hSw); go_simp; try with_reducible rfl
          try simp only [Act.put, nrm]
          refine Conf.y 5 (some 40) ?v1_5 rfl (fun wo hSw => ?h1_5) ?r1_5
          case h1_5 => (try dsimp only at hSw); go_simp; try with_reducible rfl
          try simp only [Act.put, nrm]
          refine Conf.y 6 (some 41) ?v1_6 rfl (fun wo hSw => ?h1_6) ?r1_6
          case h1_6 => (try dsimp only at hSw); go_simp; try with_reducible rfl
          try simp only [Act.put, nrm]
          refine Conf.y 7 (some 42) ?v1_7 rfl (fun wo hSw => ?h1_7) ?r1_7
          case h1_7 => (try dsimp only at hSw); go_simp; try with_reducible rfl
          try simp only [Act.put, nrm]
          refine Conf.nextD (i := 8) (dst := (some 43)) (v := .bool true) rfl (by rfl) (by kernel_rfl) (by kernel_rfl) (Steady.of_wpD (by rfl) (by rfl) (by rfl) (fun wo hSw K hK => ?ch1_8)) ?cr1_8
          case ch1_8 =>
           (try dsimp only at hSw)
           go_simp
           refine (H1.out _).mono ?_
           rintro e w4 ⟨rfl, hx4⟩
           exact hK _ ⟨(HQ.out _ (hSw.2.2.trans hx4)).1, (HQ.out _ (hSw.2.2.trans hx4)).2, hSw.2.2.trans hx4⟩
          try simp only [Act.put, nrm]
          refine Conf.y 9 (some 44) ?v1_9 rfl (fun wo hSw => ?h1_9) ?r1_9
          case h1_9 => (try dsimp only at hSw); go_simp; try with_reducible rfl
          try simp only [Act.put, nrm]
          refine Conf.y 10 (some 45) ?v1_10 rfl (fun wo hSw => ?h1_10) ?r1_10
          case h1_10 => (try dsimp only at hSw); go_simp; try with_reducible rfl
          try simp only [Act.put, nrm]
          refine Conf.y 11 (some 46) ?v1_11 rfl (fun wo hSw => ?h1_11) ?r1_11
          case h1_11 => (try dsimp only at hSw); go_simp; try with_reducible rfl
          try simp only [Act.put, nrm]
          refine Conf.y 12 (some 47) ?v1_12 rfl (fun wo hSw => ?h1_12) ?r1_12
          case h1_12 => (try dsimp only at hSw); go_simp; try with_reducible rfl
          try simp only [Act.put, nrm]
          refine Conf.y 13 (some 48) ?v1_13 rfl (fun wo hSw => ?h1_13) ?r1_13
          case h1_13 => (try dsimp only at hSw); go_simp; try with_reducible rfl
          try simp only [Act.put, nrm]
          refine Conf.y 14 (some 49) ?v1_14 rfl (fun wo hSw => ?h1_14) ?r1_14
          case h1_14 => (try dsimp only at hSw); go_simp; try with_reducible rfl
          try simp only [Act.put, nrm]
          refine Conf.y 15 (some 50) ?v1_15 rfl (fun wo hSw => ?h1_15) ?r1_15
          case h1_15 => (try dsimp only at hSw); go_simp; try with_reducible rfl
          try simp only [Act.put, nrm]
          refine Conf.y 16 (some 51) ?v1_16 rfl (fun wo hSw => ?h1_16) ?r1_16
          case h1_16 => (try dsimp only at hSw); go_simp; try with_reducible rfl
          try simp only [Act.put, nrm]
          refine Conf.y 17 (some 52) ?v1_17 rfl (fun wo hSw => ?h1_17) ?r1_17
          case h1_17 => (try dsimp only at hSw); go_simp; try with_reducible rfl
          try simp only [Act.put, nrm]
          refine Conf.nextD (i := 18) (dst := (some 53)) (v := .bool b2) rfl (by rfl) (by kernel_rfl) (by kernel_rfl) (Steady.of_wpD (by rfl) (by rfl) (by rfl) (fun wo hSw K hK => ?ch1_18)) ?cr1_18
          case ch1_18 =>
           (try dsimp only at hSw)
           go_simp
           refine (H2.out _).mono ?_
           rintro e w4 ⟨rfl, hx4⟩
           exact hK _ ⟨(HQ.out _ (hSw.2.2.trans hx4)).1, (HQ.out _ (hSw.2.2.trans hx4)).2, hSw.2.2.trans hx4⟩
          try simp only [Act.put, nrm]
          refine Conf.y 19 (some 54) ?v1_19 rfl (fun wo hSw => ?h1_19) ?r1_19
          case h1_19 => (try dsimp only at hSw); go_simp; try with_reducible rfl
          try simp only [Act.put, nrm]
          refine Conf.done (by kernel_rfl) (fun wz hSw => ?_)
          go_wp2_with fail
          go_meet
          exact ⟨by simp, hSw.2.2⟩
         | false =>
          refine region_conf (fun w' => (w'.cell? ⟨g, o1, none⟩ = some (.string ⟨x.state.toArray⟩) ∧ w'.cell? ⟨g, o1 + 1, none⟩ = some (.string ⟨x.city.toArray⟩) ∧ w'.cell? ⟨g, o1 + 2, none⟩ = some (.string ⟨x.pre.toArray⟩) ∧ w'.cell? ⟨g, o1 + 3, none⟩ = some (.string ⟨x.name.toArray⟩) ∧ w'.cell? ⟨g, o1 + 4, none⟩ = some (.string ⟨x.suf.toArray⟩) ∧ w'.cell? ⟨g, o1 + 5, none⟩ = some (.string ⟨x.post.toArray⟩) ∧ w'.cell? ⟨g, o1 + 6, none⟩ = some (.int .i64 x.fr) ∧ w'.cell? ⟨g, o1 + 7, none⟩ = some (.int .i64 x.to_) ∧ w'.cell? ⟨g, o1 + 8, none⟩ = some (.int .i64 x.side) ∧ w'.cell? ⟨g, o1 + 9, none⟩ = some (.int .i64 x.ax) ∧ w'.cell? ⟨g, o1 + 10, none⟩ = some (.int .i64 x.ay) ∧ w'.cell? ⟨g, o1 + 11, none⟩ = some (.int .i64 x.bx) ∧ w'.cell? ⟨g, o1 + 12, none⟩ = some (.int .i64 x.by_)) ∧ (w'.cell? ⟨g, o2, none⟩ = some (.string ⟨y.state.toArray⟩) ∧ w'.cell? ⟨g, o2 + 1, none⟩ = some (.string ⟨y.city.toArray⟩) ∧ w'.cell? ⟨g, o2 + 2, none⟩ = some (.string ⟨y.pre.toArray⟩) ∧ w'.cell? ⟨g, o2 + 3, none⟩ = some (.string ⟨y.name.toArray⟩) ∧ w'.cell? ⟨g, o2 + 4, none⟩ = some (.string ⟨y.suf.toArray⟩) ∧ w'.cell? ⟨g, o2 + 5, none⟩ = some (.string ⟨y.post.toArray⟩) ∧ w'.cell? ⟨g, o2 + 6, none⟩ = some (.int .i64 y.fr) ∧ w'.cell? ⟨g, o2 + 7, none⟩ = some (.int .i64 y.to_) ∧ w'.cell? ⟨g, o2 + 8, none⟩ = some (.int .i64 y.side) ∧ w'.cell? ⟨g, o2 + 9, none⟩ = some (.int .i64 y.ax) ∧ w'.cell? ⟨g, o2 + 10, none⟩ = some (.int .i64 y.ay) ∧ w'.cell? ⟨g, o2 + 11, none⟩ = some (.int .i64 y.bx) ∧ w'.cell? ⟨g, o2 + 12, none⟩ = some (.int .i64 y.by_)) ∧ Ext wr w') (by kernel_rfl) (by kernel_rfl) (⟨(HQ.out _ (Ext.refl wr).drew).1, (HQ.out _ (Ext.refl wr).drew).2, (Ext.refl wr).drew⟩) ?_
          change Conf _ _ _ _ _ 20 #[false, false, false, false, false, false, false, false, false, false, false, false, false, false, false, false, false, false, false, false] _
          refine Conf.y 0 (some 35) ?v2_0 rfl (fun wo hSw => ?h2_0) ?r2_0
          case h2_0 => (try dsimp only at hSw); go_simp; try with_reducible rfl
          try simp only [Act.put, nrm]
          refine Conf.y 1 (some 36) ?v2_1 rfl (fun wo hSw => ?h2_1) ?r2_1
          case h2_1 => (try dsimp only at hSw); go_simp; try with_reducible rfl
          try simp only [Act.put, nrm]
          refine Conf.y 2 (some 37) ?v2_2 rfl (fun wo hSw => ?h2_2) ?r2_2
          case h2_2 => (try dsimp only at hSw); go_simp; try with_reducible rfl
          try simp only [Act.put, nrm]
          refine Conf.y 3 (some 38) ?v2_3 rfl (fun wo hSw => ?h2_3) ?r2_3
          case h2_3 => (try dsimp only at hSw); go_simp; try with_reducible rfl
          try simp only [Act.put, nrm]
          refine Conf.y 4 (some 39) ?v2_4 rfl (fun wo hSw => ?h2_4) ?r2_4
          case h2_4 => (try dsimp only at hSw); go_simp; try with_reducible rfl
          try simp only [Act.put, nrm]
          refine Conf.y 5 (some 40) ?v2_5 rfl (fun wo hSw => ?h2_5) ?r2_5
          case h2_5 => (try dsimp only at hSw); go_simp; try with_reducible rfl
          try simp only [Act.put, nrm]
          refine Conf.y 6 (some 41) ?v2_6 rfl (fun wo hSw => ?h2_6) ?r2_6
          case h2_6 => (try dsimp only at hSw); go_simp; try with_reducible rfl
          try simp only [Act.put, nrm]
          refine Conf.y 7 (some 42) ?v2_7 rfl (fun wo hSw => ?h2_7) ?r2_7
          case h2_7 => (try dsimp only at hSw); go_simp; try with_reducible rfl
          try simp only [Act.put, nrm]
          refine Conf.nextD (i := 8) (dst := (some 43)) (v := .bool false) rfl (by rfl) (by kernel_rfl) (by kernel_rfl) (Steady.of_wpD (by rfl) (by rfl) (by rfl) (fun wo hSw K hK => ?ch2_8)) ?cr2_8
          case ch2_8 =>
           (try dsimp only at hSw)
           go_simp
           refine (H1.out _).mono ?_
           rintro e w4 ⟨rfl, hx4⟩
           exact hK _ ⟨(HQ.out _ (hSw.2.2.trans hx4)).1, (HQ.out _ (hSw.2.2.trans hx4)).2, hSw.2.2.trans hx4⟩
          try simp only [Act.put, nrm]
          refine Conf.y 9 (some 44) ?v2_9 rfl (fun wo hSw => ?h2_9) ?r2_9
          case h2_9 => (try dsimp only at hSw); go_simp; try with_reducible rfl
          try simp only [Act.put, nrm]
          refine Conf.nextD (i := 10) (dst := (some 45)) rfl (by rfl) (by kernel_rfl) (by kernel_rfl) (Steady.of_yields (Or.inr ⟨by rfl, rfl⟩)) ?_
          try simp only [Act.put, nrm]
          refine Conf.nextD (i := 11) (dst := (some 46)) rfl (by rfl) (by kernel_rfl) (by kernel_rfl) (Steady.of_yields (Or.inr ⟨by rfl, rfl⟩)) ?_
          try simp only [Act.put, nrm]
          refine Conf.nextD (i := 12) (dst := (some 47)) rfl (by rfl) (by kernel_rfl) (by kernel_rfl) (Steady.of_yields (Or.inr ⟨by rfl, rfl⟩)) ?_
          try simp only [Act.put, nrm]
          refine Conf.nextD (i := 13) (dst := (some 48)) rfl (by rfl) (by kernel_rfl) (by kernel_rfl) (Steady.of_yields (Or.inr ⟨by rfl, rfl⟩)) ?_
          try simp only [Act.put, nrm]
          refine Conf.nextD (i := 14) (dst := (some 49)) rfl (by rfl) (by kernel_rfl) (by kernel_rfl) (Steady.of_yields (Or.inr ⟨by rfl, rfl⟩)) ?_
          try simp only [Act.put, nrm]
          refine Conf.nextD (i := 15) (dst := (some 50)) rfl (by rfl) (by kernel_rfl) (by kernel_rfl) (Steady.of_yields (Or.inr ⟨by rfl, rfl⟩)) ?_
          try simp only [Act.put, nrm]
          refine Conf.nextD (i := 16) (dst := (some 51)) rfl (by rfl) (by kernel_rfl) (by kernel_rfl) (Steady.of_yields (Or.inr ⟨by rfl, rfl⟩)) ?_
          try simp only [Act.put, nrm]
          refine Conf.nextD (i := 17) (dst := (some 52)) rfl (by rfl) (by kernel_rfl) (by kernel_rfl) (Steady.of_yields (Or.inr ⟨by rfl, rfl⟩)) ?_
          try simp only [Act.put, nrm]
          refine Conf.nextD (i := 18) (dst := (some 53)) rfl (by rfl) (by kernel_rfl) (by kernel_rfl) (Steady.of_yields (Or.inr ⟨by rfl, rfl⟩)) ?_
          try simp only [Act.put, nrm]
          refine Conf.y 19 (some 54) ?v2_19 rfl (fun wo hSw => ?h2_19) ?r2_19
          case h2_19 => (try dsimp only at hSw); go_simp; try with_reducible rfl
          try simp only [Act.put, nrm]
          refine Conf.done (by kernel_rfl) (fun wz hSw => ?_)
          go_wp2_with fail
          go_meet
          exact ⟨by simp, hSw.2.2⟩
        case rest =>
         obtain ⟨rfl, hx4⟩ := hcut
         clear c0 c1 c2 c3 c4 c5 c6 c7 c8 c9 c10 c11 c12 d0 d1 d2 d3 d4 d5 d6 d7 d8 d9 d10 d11 d12 HQ H1 H2
         cases hbb : (b1 && b2) with
         | true =>
          rw [Bool.and_eq_true] at hbb
          have hE := Lib.hid (HY.out hbb.1 hbb.2)
          have hB2 := hB.out.ext hx4
          obtain ⟨f0, f0'⟩ := hB2.cells
          have lf := hB2.lt
          replace hB2 := Lib.hid hB2
          have hX2 := Lib.hid (hx.out.trans hx4)
          clear HY HS hbb hx4
          go_wp2_with fail
          exact bodyPost_ret (results_c rfl rfl (ld_fault ((hB2.out.set_ 0 _).set_ 1 _))) rfl ⟨by rw [hE.out], (hX2.out.set (p := ⟨w.heap.size, 0, none⟩) (Nat.le_refl _) _).set (p := ⟨w.heap.size, 1, none⟩) (Nat.le_refl _) _⟩
         | false =>
          have hE := Lib.hid (HS.out hbb _ hx4)
          clear HY HS hbb hx4
          go_wp2_with fail
          go_roundw
          case rel => first | exact hE.out | (repeat (with_reducible apply Exists.intro); exact ⟨hE.out, rfl⟩)
          case measure => simp [intOf]; omega
       ·obtain rfl : q = k := by omega
        have hd3 : decide ((q : Int) < (q : Int)) = false := by simp
        have hE := Lib.hid (show RnB w l w.heap.size (.int .i64 ((q + 1 : Nat) : Int)) wr from ⟨q + 1, by omega, rfl, fun j hj => by
         by_cases e : j = q
         ·subst e; exact clashR_no hlt (fun p hp => hN p hp hlt (by omega))
         ·exact hP.out j (by omega), hB, hx⟩)
        clear hN hB hx HR HNo HCl
        go_wp2_with fail
        go_roundw
        case rel => first | exact hE.out | (repeat (with_reducible apply Exists.intro); exact ⟨hE.out, rfl⟩)
        case measure => simp [intOf]; omega
     ·obtain rfl : k = l.length := by omega
      have hd2 : decide ((l.length : Int) < (l.length : Int)) = false := by simp
      have hE := Lib.hid (HNo.out hAll.out hP)
      obtain ⟨f0, f0'⟩ := hB.cells
      have lf := hB.lt
      replace hB := Lib.hid hB
      replace hx := Lib.hid hx
      clear hP HR HNo HCl
      go_wp2_with fail
      exact bodyPost_ret (results_c rfl rfl (ld_fault ((hB.out.set_ 0 _).set_ 1 _))) rfl ⟨by rw [hE.out], (hx.out.set (p := ⟨w.heap.size, 0, none⟩) (Nat.le_refl _) _).set (p := ⟨w.heap.size, 1, none⟩) (Nat.le_refl _) _⟩
end Go.Proofs.YtjaponmpfdpemaaGreatDoor
