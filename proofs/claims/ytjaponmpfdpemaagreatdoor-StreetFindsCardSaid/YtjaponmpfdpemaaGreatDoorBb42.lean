/-
  apportionref18: one, both (printed by tools/genMb.py).
-/
import Derived.Deep.RegionHeld3
import Derived.Deep.RegionLaw
import Derived.Deep.CutRange
import Derived.Test.YtjaponmpfdpemaaGreatDoorBb05
import Derived.Test.YtjaponmpfdpemaaGreatDoorBb33
import Derived.Test.YtjaponmpfdpemaaGreatDoorBb19
import Derived.Test.YtjaponmpfdpemaaGreatDoorBb39
set_option linter.unusedSimpArgs false
set_option linter.unusedVariables false
namespace Go.Proofs.YtjaponmpfdpemaaGreatDoor
open Go.RowKit
theorem srad_key (s t : Sr) : s.ad = t.ad ↔ s.key = t.key := by
 unfold Sr.ad Sr.key
 simp only [Ad.mk.injEq, List.cons.injEq, true_and, and_true]
 constructor
 ·rintro ⟨a, b, c, d, e, f⟩; exact ⟨f, e, a, b, c, d⟩
 ·rintro ⟨a, b, c, d, e, f⟩; exact ⟨c, d, e, f, b, a⟩
set_option maxRecDepth 100000 in
set_option maxHeartbeats 4000000 in
theorem rone_any (a b : Sr) (W : World) : Calls Tryz.prog 46 #[srV a, srV b] W fun e w' => e = .returned (.bool (decide (a.key = b.key))) ∧ Ext W w' := by
 have HA := Lib.hid (fun w => raddress_any a w)
 have HB := Lib.hid (fun w => raddress_any b w)
 have hE := Lib.hid (show decide (a.ad = b.ad) = decide (a.key = b.key) by rw [decide_eq_decide]; exact srad_key a b)
 have hae := fun w => ad_eq a.ad b.ad w
 rw [srV_eq, srV_eq]
 simp only [srV_eq] at HA HB
 rw [← hE.out]
 generalize decide (a.ad = b.ad) = R at *
 simp only [srad_V] at HA HB hae
 clear hE
 have X2 := ((Ext.refl W).alloc (.cells #[.string ⟨a.state.toArray⟩, .string ⟨a.city.toArray⟩, .string ⟨a.pre.toArray⟩, .string ⟨a.name.toArray⟩, .string ⟨a.suf.toArray⟩, .string ⟨a.post.toArray⟩, .int .i64 a.fr, .int .i64 a.to_, .int .i64 a.side, .int .i64 a.ax, .int .i64 a.ay, .int .i64 a.bx, .int .i64 a.by_] 25)).alloc (.cells #[.string ⟨b.state.toArray⟩, .string ⟨b.city.toArray⟩, .string ⟨b.pre.toArray⟩, .string ⟨b.name.toArray⟩, .string ⟨b.suf.toArray⟩, .string ⟨b.post.toArray⟩, .int .i64 b.fr, .int .i64 b.to_, .int .i64 b.side, .int .i64 b.ax, .int .i64 b.ay, .int .i64 b.bx, .int .i64 b.by_] 25)
 have BA := (Blk.new W 25 #[.string ⟨a.state.toArray⟩, .string ⟨a.city.toArray⟩, .string ⟨a.pre.toArray⟩, .string ⟨a.name.toArray⟩, .string ⟨a.suf.toArray⟩, .string ⟨a.post.toArray⟩, .int .i64 a.fr, .int .i64 a.to_, .int .i64 a.side, .int .i64 a.ax, .int .i64 a.ay, .int .i64 a.bx, .int .i64 a.by_]).alloc (.cells #[.string ⟨b.state.toArray⟩, .string ⟨b.city.toArray⟩, .string ⟨b.pre.toArray⟩, .string ⟨b.name.toArray⟩, .string ⟨b.suf.toArray⟩, .string ⟨b.post.toArray⟩, .int .i64 b.fr, .int .i64 b.to_, .int .i64 b.side, .int .i64 b.ax, .int .i64 b.ay, .int .i64 b.bx, .int .i64 b.by_] 25)
 have BB := Blk.new (W.alloc (.cells #[.string ⟨a.state.toArray⟩, .string ⟨a.city.toArray⟩, .string ⟨a.pre.toArray⟩, .string ⟨a.name.toArray⟩, .string ⟨a.suf.toArray⟩, .string ⟨a.post.toArray⟩, .int .i64 a.fr, .int .i64 a.to_, .int .i64 a.side, .int .i64 a.ax, .int .i64 a.ay, .int .i64 a.bx, .int .i64 a.by_] 25)) 25 #[.string ⟨b.state.toArray⟩, .string ⟨b.city.toArray⟩, .string ⟨b.pre.toArray⟩, .string ⟨b.name.toArray⟩, .string ⟨b.suf.toArray⟩, .string ⟨b.post.toArray⟩, .int .i64 b.fr, .int .i64 b.to_, .int .i64 b.side, .int .i64 b.ax, .int .i64 b.ay, .int .i64 b.bx, .int .i64 b.by_]
 rw [show (W.alloc (.cells #[.string ⟨a.state.toArray⟩, .string ⟨a.city.toArray⟩, .string ⟨a.pre.toArray⟩, .string ⟨a.name.toArray⟩, .string ⟨a.suf.toArray⟩, .string ⟨a.post.toArray⟩, .int .i64 a.fr, .int .i64 a.to_, .int .i64 a.side, .int .i64 a.ax, .int .i64 a.ay, .int .i64 a.bx, .int .i64 a.by_] 25)).heap.size = W.heap.size + 1 by simp] at BB
 go_enter Tryz.func46, Tryz.ntmps46
 go_upto_region 1 with (fail)
 generalize (W.alloc (.cells #[.string ⟨a.state.toArray⟩, .string ⟨a.city.toArray⟩, .string ⟨a.pre.toArray⟩, .string ⟨a.name.toArray⟩, .string ⟨a.suf.toArray⟩, .string ⟨a.post.toArray⟩, .int .i64 a.fr, .int .i64 a.to_, .int .i64 a.side, .int .i64 a.ax, .int .i64 a.ay, .int .i64 a.bx, .int .i64 a.by_] 25)).alloc (.cells #[.string ⟨b.state.toArray⟩, .string ⟨b.city.toArray⟩, .string ⟨b.pre.toArray⟩, .string ⟨b.name.toArray⟩, .string ⟨b.suf.toArray⟩, .string ⟨b.post.toArray⟩, .int .i64 b.fr, .int .i64 b.to_, .int .i64 b.side, .int .i64 b.ax, .int .i64 b.ay, .int .i64 b.bx, .int .i64 b.by_] 25) = w0 at *
 generalize hgb : W.heap.size + 1 = gb at *
 generalize W.heap.size = ga at *
 replace hgb := Lib.hid hgb
 have HQ := Lib.hid (fun w' (hx : Ext w0 w') => (show (w'.cell? ⟨ga, 0, none⟩ = some (.string ⟨a.state.toArray⟩) ∧ w'.cell? ⟨ga, 1, none⟩ = some (.string ⟨a.city.toArray⟩) ∧ w'.cell? ⟨ga, 2, none⟩ = some (.string ⟨a.pre.toArray⟩) ∧ w'.cell? ⟨ga, 3, none⟩ = some (.string ⟨a.name.toArray⟩) ∧ w'.cell? ⟨ga, 4, none⟩ = some (.string ⟨a.suf.toArray⟩) ∧ w'.cell? ⟨ga, 5, none⟩ = some (.string ⟨a.post.toArray⟩) ∧ w'.cell? ⟨ga, 6, none⟩ = some (.int .i64 a.fr) ∧ w'.cell? ⟨ga, 7, none⟩ = some (.int .i64 a.to_) ∧ w'.cell? ⟨ga, 8, none⟩ = some (.int .i64 a.side) ∧ w'.cell? ⟨ga, 9, none⟩ = some (.int .i64 a.ax) ∧ w'.cell? ⟨ga, 10, none⟩ = some (.int .i64 a.ay) ∧ w'.cell? ⟨ga, 11, none⟩ = some (.int .i64 a.bx) ∧ w'.cell? ⟨ga, 12, none⟩ = some (.int .i64 a.by_)) ∧ (w'.cell? ⟨gb, 0, none⟩ = some (.string ⟨b.state.toArray⟩) ∧ w'.cell? ⟨gb, 1, none⟩ = some (.string ⟨b.city.toArray⟩) ∧ w'.cell? ⟨gb, 2, none⟩ = some (.string ⟨b.pre.toArray⟩) ∧ w'.cell? ⟨gb, 3, none⟩ = some (.string ⟨b.name.toArray⟩) ∧ w'.cell? ⟨gb, 4, none⟩ = some (.string ⟨b.suf.toArray⟩) ∧ w'.cell? ⟨gb, 5, none⟩ = some (.string ⟨b.post.toArray⟩) ∧ w'.cell? ⟨gb, 6, none⟩ = some (.int .i64 b.fr) ∧ w'.cell? ⟨gb, 7, none⟩ = some (.int .i64 b.to_) ∧ w'.cell? ⟨gb, 8, none⟩ = some (.int .i64 b.side) ∧ w'.cell? ⟨gb, 9, none⟩ = some (.int .i64 b.ax) ∧ w'.cell? ⟨gb, 10, none⟩ = some (.int .i64 b.ay) ∧ w'.cell? ⟨gb, 11, none⟩ = some (.int .i64 b.bx) ∧ w'.cell? ⟨gb, 12, none⟩ = some (.int .i64 b.by_)) ∧ ga < w'.heap.size ∧ gb < w'.heap.size from
  have A := BA.ext hx; have B := BB.ext hx
  ⟨⟨A.cell 0, A.cell 1, A.cell 2, A.cell 3, A.cell 4, A.cell 5, A.cell 6, A.cell 7, A.cell 8, A.cell 9, A.cell 10, A.cell 11, A.cell 12⟩, ⟨B.cell 0, B.cell 1, B.cell 2, B.cell 3, B.cell 4, B.cell 5, B.cell 6, B.cell 7, B.cell 8, B.cell 9, B.cell 10, B.cell 11, B.cell 12⟩, A.lt, B.lt⟩))
 have X0 := Lib.hid X2
 clear BA BB X2
 obtain ⟨⟨p0, p1, p2, p3, p4, p5, p6, p7, p8, p9, p10, p11, p12⟩, ⟨q0, q1, q2, q3, q4, q5, q6, q7, q8, q9, q10, q11, q12⟩, la, lb⟩ := HQ.out _ (Ext.refl w0)
 go_region_held3 (fun w' => (w'.cell? ⟨ga, 0, none⟩ = some (.string ⟨a.state.toArray⟩) ∧ w'.cell? ⟨ga, 1, none⟩ = some (.string ⟨a.city.toArray⟩) ∧ w'.cell? ⟨ga, 2, none⟩ = some (.string ⟨a.pre.toArray⟩) ∧ w'.cell? ⟨ga, 3, none⟩ = some (.string ⟨a.name.toArray⟩) ∧ w'.cell? ⟨ga, 4, none⟩ = some (.string ⟨a.suf.toArray⟩) ∧ w'.cell? ⟨ga, 5, none⟩ = some (.string ⟨a.post.toArray⟩) ∧ w'.cell? ⟨ga, 6, none⟩ = some (.int .i64 a.fr) ∧ w'.cell? ⟨ga, 7, none⟩ = some (.int .i64 a.to_) ∧ w'.cell? ⟨ga, 8, none⟩ = some (.int .i64 a.side) ∧ w'.cell? ⟨ga, 9, none⟩ = some (.int .i64 a.ax) ∧ w'.cell? ⟨ga, 10, none⟩ = some (.int .i64 a.ay) ∧ w'.cell? ⟨ga, 11, none⟩ = some (.int .i64 a.bx) ∧ w'.cell? ⟨ga, 12, none⟩ = some (.int .i64 a.by_)) ∧ (w'.cell? ⟨gb, 0, none⟩ = some (.string ⟨b.state.toArray⟩) ∧ w'.cell? ⟨gb, 1, none⟩ = some (.string ⟨b.city.toArray⟩) ∧ w'.cell? ⟨gb, 2, none⟩ = some (.string ⟨b.pre.toArray⟩) ∧ w'.cell? ⟨gb, 3, none⟩ = some (.string ⟨b.name.toArray⟩) ∧ w'.cell? ⟨gb, 4, none⟩ = some (.string ⟨b.suf.toArray⟩) ∧ w'.cell? ⟨gb, 5, none⟩ = some (.string ⟨b.post.toArray⟩) ∧ w'.cell? ⟨gb, 6, none⟩ = some (.int .i64 b.fr) ∧ w'.cell? ⟨gb, 7, none⟩ = some (.int .i64 b.to_) ∧ w'.cell? ⟨gb, 8, none⟩ = some (.int .i64 b.side) ∧ w'.cell? ⟨gb, 9, none⟩ = some (.int .i64 b.ax) ∧ w'.cell? ⟨gb, 10, none⟩ = some (.int .i64 b.ay) ∧ w'.cell? ⟨gb, 11, none⟩ = some (.int .i64 b.bx) ∧ w'.cell? ⟨gb, 12, none⟩ = some (.int .i64 b.by_)) ∧ ga < w'.heap.size ∧ gb < w'.heap.size)
  (with_reducible refine HQ.out _ ?_; repeat (first | (with_reducible assumption) | (with_reducible exact Ext.refl _) | (with_reducible refine Ext.drew ?_) | (with_reducible refine Ext.alloc ?_ _)))
  (first
   | (go_at_call 37; with_reducible refine (HA.out _).mono ?_; rintro e w4 ⟨rfl, hx4⟩; have hx5 : Ext w0 w4 := Ext.trans (by repeat (first | (with_reducible assumption) | (with_reducible exact Ext.refl _) | (with_reducible refine Ext.drew ?_) | (with_reducible refine Ext.alloc ?_ _))) hx4; clear hx4)
   | (go_at_call 37; with_reducible refine (HB.out _).mono ?_; rintro e w6 ⟨rfl, hx6⟩; have hx7 : Ext w0 w6 := Ext.trans (by repeat (first | (with_reducible assumption) | (with_reducible exact Ext.refl _) | (with_reducible refine Ext.drew ?_) | (with_reducible refine Ext.alloc ?_ _))) hx6; clear hx6))
 all_goals
  go_wp2_with fail
  go_ret
  exact ⟨rfl, X0.out.trans (by first | assumption | (repeat (first | assumption | refine Ext.drew ?_)))⟩
theorem maxI_raw (x y : Int) : max x y = maxI x y := by unfold maxI; split <;> omega
theorem minI_raw (x y : Int) : min x y = minI x y := by unfold minI; split <;> omega
def BoAt (w0 : World) (lo hi : Int) (f : Int → Bool) (i : Value) (wr : World) : Prop := ∃ t : Int, 0 ≤ t ∧ t ≤ 2 ∧ i = .int .i64 (lo + t) ∧ (∀ q, 0 ≤ q → q < t → f (lo + q) = false ∧ lo + q ≤ hi) ∧ Ext w0 wr
set_option maxRecDepth 100000 in
set_option maxHeartbeats 4000000 in
theorem rboth_any (a b : Sr) (hA : a.Num) (hB : b.Num) (W : World) : Calls Tryz.prog 47 #[srV a, srV b] W fun e w' => e = .returned (.bool (a.bothR b)) ∧ Ext W w' := by
 have HA := Lib.hid (fun n w => rsrhas_any a n w)
 have HB := Lib.hid (fun n w => rsrhas_any b n w)
 have m1 := maxI_raw a.fr b.fr
 have m2 := minI_raw a.to_ b.to_
 have hR : a.bothR b = ((decide (maxI a.fr b.fr ≤ minI a.to_ b.to_) && (a.hasR (maxI a.fr b.fr) && b.hasR (maxI a.fr b.fr))) || (decide (maxI a.fr b.fr + 1 ≤ minI a.to_ b.to_) && (a.hasR (maxI a.fr b.fr + 1) && b.hasR (maxI a.fr b.fr + 1)))) := rfl
 generalize a.bothR b = R at *
 have bd : 1 ≤ maxI a.fr b.fr ∧ maxI a.fr b.fr ≤ 999999 ∧ minI a.to_ b.to_ ≤ 999999 := by
  have := hA.f1; have := hA.ft; have := hA.t9; have := hB.f1; have := hB.ft; have := hB.t9
  unfold maxI minI; split <;> split <;> omega
 generalize maxI a.fr b.fr = lo at *
 generalize minI a.to_ b.to_ = hi at *
 replace hR := Lib.hid hR
 obtain ⟨bd1, bd2, bd3⟩ := bd
 clear hA hB
 rw [srV_eq, srV_eq]
 simp only [srV_eq] at HA HB
 have X2 := ((Ext.refl W).alloc (.cells #[.string ⟨a.state.toArray⟩, .string ⟨a.city.toArray⟩, .string ⟨a.pre.toArray⟩, .string ⟨a.name.toArray⟩, .string ⟨a.suf.toArray⟩, .string ⟨a.post.toArray⟩, .int .i64 a.fr, .int .i64 a.to_, .int .i64 a.side, .int .i64 a.ax, .int .i64 a.ay, .int .i64 a.bx, .int .i64 a.by_] 25)).alloc (.cells #[.string ⟨b.state.toArray⟩, .string ⟨b.city.toArray⟩, .string ⟨b.pre.toArray⟩, .string ⟨b.name.toArray⟩, .string ⟨b.suf.toArray⟩, .string ⟨b.post.toArray⟩, .int .i64 b.fr, .int .i64 b.to_, .int .i64 b.side, .int .i64 b.ax, .int .i64 b.ay, .int .i64 b.bx, .int .i64 b.by_] 25)
 have BA := (Blk.new W 25 #[.string ⟨a.state.toArray⟩, .string ⟨a.city.toArray⟩, .string ⟨a.pre.toArray⟩, .string ⟨a.name.toArray⟩, .string ⟨a.suf.toArray⟩, .string ⟨a.post.toArray⟩, .int .i64 a.fr, .int .i64 a.to_, .int .i64 a.side, .int .i64 a.ax, .int .i64 a.ay, .int .i64 a.bx, .int .i64 a.by_]).alloc (.cells #[.string ⟨b.state.toArray⟩, .string ⟨b.city.toArray⟩, .string ⟨b.pre.toArray⟩, .string ⟨b.name.toArray⟩, .string ⟨b.suf.toArray⟩, .string ⟨b.post.toArray⟩, .int .i64 b.fr, .int .i64 b.to_, .int .i64 b.side, .int .i64 b.ax, .int .i64 b.ay, .int .i64 b.bx, .int .i64 b.by_] 25)
 have BB := Blk.new (W.alloc (.cells #[.string ⟨a.state.toArray⟩, .string ⟨a.city.toArray⟩, .string ⟨a.pre.toArray⟩, .string ⟨a.name.toArray⟩, .string ⟨a.suf.toArray⟩, .string ⟨a.post.toArray⟩, .int .i64 a.fr, .int .i64 a.to_, .int .i64 a.side, .int .i64 a.ax, .int .i64 a.ay, .int .i64 a.bx, .int .i64 a.by_] 25)) 25 #[.string ⟨b.state.toArray⟩, .string ⟨b.city.toArray⟩, .string ⟨b.pre.toArray⟩, .string ⟨b.name.toArray⟩, .string ⟨b.suf.toArray⟩, .string ⟨b.post.toArray⟩, .int .i64 b.fr, .int .i64 b.to_, .int .i64 b.side, .int .i64 b.ax, .int .i64 b.ay, .int .i64 b.bx, .int .i64 b.by_]
 rw [show (W.alloc (.cells #[.string ⟨a.state.toArray⟩, .string ⟨a.city.toArray⟩, .string ⟨a.pre.toArray⟩, .string ⟨a.name.toArray⟩, .string ⟨a.suf.toArray⟩, .string ⟨a.post.toArray⟩, .int .i64 a.fr, .int .i64 a.to_, .int .i64 a.side, .int .i64 a.ax, .int .i64 a.ay, .int .i64 a.bx, .int .i64 a.by_] 25)).heap.size = W.heap.size + 1 by simp] at BB
 have w1 : IntKind.i64.wrap (lo + 1) = lo + 1 := by rw [IntKind.wrap_i64]; omega
 go_enter Tryz.func47, Tryz.ntmps47
 go_upto_region 1 with (fail)
 generalize (W.alloc (.cells #[.string ⟨a.state.toArray⟩, .string ⟨a.city.toArray⟩, .string ⟨a.pre.toArray⟩, .string ⟨a.name.toArray⟩, .string ⟨a.suf.toArray⟩, .string ⟨a.post.toArray⟩, .int .i64 a.fr, .int .i64 a.to_, .int .i64 a.side, .int .i64 a.ax, .int .i64 a.ay, .int .i64 a.bx, .int .i64 a.by_] 25)).alloc (.cells #[.string ⟨b.state.toArray⟩, .string ⟨b.city.toArray⟩, .string ⟨b.pre.toArray⟩, .string ⟨b.name.toArray⟩, .string ⟨b.suf.toArray⟩, .string ⟨b.post.toArray⟩, .int .i64 b.fr, .int .i64 b.to_, .int .i64 b.side, .int .i64 b.ax, .int .i64 b.ay, .int .i64 b.bx, .int .i64 b.by_] 25) = w0 at *
 generalize hgb : W.heap.size + 1 = gb at *
 generalize W.heap.size = ga at *
 replace hgb := Lib.hid hgb
 have HQ := Lib.hid (fun w' (hx : Ext w0 w') => (show (w'.cell? ⟨ga, 0, none⟩ = some (.string ⟨a.state.toArray⟩) ∧ w'.cell? ⟨ga, 1, none⟩ = some (.string ⟨a.city.toArray⟩) ∧ w'.cell? ⟨ga, 2, none⟩ = some (.string ⟨a.pre.toArray⟩) ∧ w'.cell? ⟨ga, 3, none⟩ = some (.string ⟨a.name.toArray⟩) ∧ w'.cell? ⟨ga, 4, none⟩ = some (.string ⟨a.suf.toArray⟩) ∧ w'.cell? ⟨ga, 5, none⟩ = some (.string ⟨a.post.toArray⟩) ∧ w'.cell? ⟨ga, 6, none⟩ = some (.int .i64 a.fr) ∧ w'.cell? ⟨ga, 7, none⟩ = some (.int .i64 a.to_) ∧ w'.cell? ⟨ga, 8, none⟩ = some (.int .i64 a.side) ∧ w'.cell? ⟨ga, 9, none⟩ = some (.int .i64 a.ax) ∧ w'.cell? ⟨ga, 10, none⟩ = some (.int .i64 a.ay) ∧ w'.cell? ⟨ga, 11, none⟩ = some (.int .i64 a.bx) ∧ w'.cell? ⟨ga, 12, none⟩ = some (.int .i64 a.by_)) ∧ (w'.cell? ⟨gb, 0, none⟩ = some (.string ⟨b.state.toArray⟩) ∧ w'.cell? ⟨gb, 1, none⟩ = some (.string ⟨b.city.toArray⟩) ∧ w'.cell? ⟨gb, 2, none⟩ = some (.string ⟨b.pre.toArray⟩) ∧ w'.cell? ⟨gb, 3, none⟩ = some (.string ⟨b.name.toArray⟩) ∧ w'.cell? ⟨gb, 4, none⟩ = some (.string ⟨b.suf.toArray⟩) ∧ w'.cell? ⟨gb, 5, none⟩ = some (.string ⟨b.post.toArray⟩) ∧ w'.cell? ⟨gb, 6, none⟩ = some (.int .i64 b.fr) ∧ w'.cell? ⟨gb, 7, none⟩ = some (.int .i64 b.to_) ∧ w'.cell? ⟨gb, 8, none⟩ = some (.int .i64 b.side) ∧ w'.cell? ⟨gb, 9, none⟩ = some (.int .i64 b.ax) ∧ w'.cell? ⟨gb, 10, none⟩ = some (.int .i64 b.ay) ∧ w'.cell? ⟨gb, 11, none⟩ = some (.int .i64 b.bx) ∧ w'.cell? ⟨gb, 12, none⟩ = some (.int .i64 b.by_)) ∧ ga < w'.heap.size ∧ gb < w'.heap.size from
  have A := BA.ext hx; have B := BB.ext hx
  ⟨⟨A.cell 0, A.cell 1, A.cell 2, A.cell 3, A.cell 4, A.cell 5, A.cell 6, A.cell 7, A.cell 8, A.cell 9, A.cell 10, A.cell 11, A.cell 12⟩, ⟨B.cell 0, B.cell 1, B.cell 2, B.cell 3, B.cell 4, B.cell 5, B.cell 6, B.cell 7, B.cell 8, B.cell 9, B.cell 10, B.cell 11, B.cell 12⟩, A.lt, B.lt⟩))
 have X0 := Lib.hid X2
 clear BA BB X2
 obtain ⟨⟨p0, p1, p2, p3, p4, p5, p6, p7, p8, p9, p10, p11, p12⟩, ⟨q0, q1, q2, q3, q4, q5, q6, q7, q8, q9, q10, q11, q12⟩, la, lb⟩ := HQ.out _ (Ext.refl w0)
 have HR0 := Lib.hid (show BoAt w0 lo hi (fun n => a.hasR n && b.hasR n) (.int .i64 (lo + 0)) w0 from ⟨0, by omega, by omega, rfl, fun q h1 h2 => absurd h1 (by omega), Ext.refl w0⟩)
 rw [Int.add_zero] at HR0
 have hF := Lib.hid (fun n : Int => (show (fun n => a.hasR n && b.hasR n) n = (a.hasR n && b.hasR n) from rfl))
 obtain ⟨f, hf⟩ : ∃ f : Int → Bool, (fun n => a.hasR n && b.hasR n) = f := ⟨_, rfl⟩
 rw [hf] at HR0 hF
 have hR2 : R = ((decide (lo ≤ hi) && f lo) || (decide (lo + 1 ≤ hi) && f (lo + 1))) := by rw [hR.out, ← hf]
 replace hR2 := Lib.hid hR2
 clear hf hR
 go_quiet (fail)
 go_wp2_with fail
 go_loopw [7] (fun i wr => BoAt w0 lo hi f i wr) (fun i _ => (lo + 2 - intOf i).toNat)
 case atStart =>
  obtain ⟨t, h1, h2, h3, h4, h5⟩ := HR0.out
  exact ⟨t, h1, h2, h3, h4, h5.drewN _⟩
 case round =>
  clear HR0 p0 p1 p2 p3 p4 p5 p6 p7 p8 p9 p10 p11 p12 q0 q1 q2 q3 q4 q5 q6 q7 q8 q9 q10 q11 q12 la lb m1 m2
  obtain ⟨t, t0, t2, rfl, hN, hx⟩ := hrel
  obtain ⟨⟨p0, p1, p2, p3, p4, p5, p6, p7, p8, p9, p10, p11, p12⟩, ⟨q0, q1, q2, q3, q4, q5, q6, q7, q8, q9, q10, q11, q12⟩, la, lb⟩ := HQ.out _ hx
  have HE := Lib.hid (fun (h1 : lo + t ≤ hi) (h2 : t ≤ 1) (h : f (lo + t) = false) W' (hx2 : Ext wr W') => (show BoAt w0 lo hi f (.int .i64 (lo + t + 1)) W' from ⟨t + 1, by omega, by omega, by rw [Int.add_assoc], fun q a b => by
   by_cases e : q = t
   ·subst e; exact ⟨h, h1⟩
   ·exact hN q a (by omega), hx.trans hx2⟩))
  have HNo := Lib.hid (fun (h : hi < lo + t ∨ t = 2) => (show R = false by
   rw [hR2.out]
   rcases (show t = 0 ∨ t = 1 ∨ t = 2 by omega) with e | e | e
   ·subst e
    have h1 : hi < lo := by omega
    rw [decide_eq_false (show ¬ lo ≤ hi by omega), decide_eq_false (show ¬ lo + 1 ≤ hi by omega)]; rfl
   ·subst e
    have h1 := (hN 0 (by omega) (by omega)).1
    rw [Int.add_zero] at h1
    rw [h1, decide_eq_false (show ¬ lo + 1 ≤ hi by omega)]; simp
   ·subst e
    have h1 := (hN 0 (by omega) (by omega)).1
    rw [Int.add_zero] at h1
    have h2 := (hN 1 (by omega) (by omega)).1
    rw [h1, h2]; simp))
  have HYes := Lib.hid (fun (h1 : lo + t ≤ hi) (h2 : t ≤ 1) (h : f (lo + t) = true) => (show R = true by
   rw [hR2.out]
   rcases (show t = 0 ∨ t = 1 by omega) with e | e
   ·subst e
    rw [Int.add_zero] at h1 h
    rw [h, decide_eq_true h1]; simp
   ·subst e
    rw [h, decide_eq_true h1]; simp))
  have hFt := hF.out (lo + t)
  have wt : IntKind.i64.wrap (lo + t + 1) = lo + t + 1 := by rw [IntKind.wrap_i64]; omega
  have hms : (lo + 2 - (lo + t + 1)).toNat < (lo + 2 - (lo + t)).toNat ∨ t = 2 := by omega
  have dt : decide (lo + t ≤ lo + 1) = decide (t ≤ 1) := by rw [decide_eq_decide]; omega
  obtain ⟨n, hn⟩ : ∃ n, lo + t = n := ⟨_, rfl⟩
  rw [hn] at HE HNo HYes hFt wt hms dt ⊢
  replace hn := Lib.hid hn
  replace hx := Lib.hid hx
  replace hms := Lib.hid hms
  clear hN hF hR2
  by_cases hc : n ≤ hi
  ·have d1 : decide (n ≤ hi) = true := decide_eq_true hc
   by_cases ht : t ≤ 1
   ·rw [decide_eq_true ht] at dt
    replace HE := Lib.hid (HE.out hc ht)
    replace HYes := Lib.hid (HYes.out hc ht)
    replace HA := Lib.hid (HA.out n)
    replace HB := Lib.hid (HB.out n)
    generalize a.hasR n = x at *
    generalize b.hasR n = y at *
    generalize f n = z at *
    subst hFt
    clear HNo
    cases x with
    | true =>
     cases y with
     | true =>
      have hE := Lib.hid (HYes.out rfl)
      clear HYes HE
      go_wp2_with fail
      refine (HA.out _).mono ?_
      rintro e w3 ⟨rfl, hx3⟩
      have hy3 := hx.out.trans hx3
      clear p0 p1 p2 p3 p4 p5 p6 p7 p8 p9 p10 p11 p12 q0 q1 q2 q3 q4 q5 q6 q7 q8 q9 q10 q11 q12 la lb
      obtain ⟨⟨p0, p1, p2, p3, p4, p5, p6, p7, p8, p9, p10, p11, p12⟩, ⟨q0, q1, q2, q3, q4, q5, q6, q7, q8, q9, q10, q11, q12⟩, la, lb⟩ := HQ.out _ hy3
      replace hy3 := Lib.hid hy3
      go_wp2_with fail
      refine (HB.out _).mono ?_
      rintro e w4 ⟨rfl, hx4⟩
      have hy4 := Lib.hid (hy3.out.trans hx4)
      go_wp2_with fail
      all_goals
       go_ret
       exact ⟨by rw [hE.out]; rfl, X0.out.trans hy4.out⟩
     | false =>
      replace HE := Lib.hid (HE.out rfl)
      clear HYes
      go_wp2_with fail
      refine (HA.out _).mono ?_
      rintro e w3 ⟨rfl, hx3⟩
      have hy3 := hx.out.trans hx3
      clear p0 p1 p2 p3 p4 p5 p6 p7 p8 p9 p10 p11 p12 q0 q1 q2 q3 q4 q5 q6 q7 q8 q9 q10 q11 q12 la lb
      obtain ⟨⟨p0, p1, p2, p3, p4, p5, p6, p7, p8, p9, p10, p11, p12⟩, ⟨q0, q1, q2, q3, q4, q5, q6, q7, q8, q9, q10, q11, q12⟩, la, lb⟩ := HQ.out _ hy3
      have hz3 := Lib.hid hx3
      clear hx3
      go_wp2_with fail
      refine (HB.out _).mono ?_
      rintro e w4 ⟨rfl, hx4⟩
      have hG := Lib.hid (HE.out _ (hz3.out.trans hx4))
      clear HE hx4
      go_wp2_with fail
      go_roundw
      case rel => exact hG.out
      case measure => simp only [intOf]; have := hms.out; omega
    | false =>
     replace HE := Lib.hid (HE.out rfl)
     clear HYes
     go_wp2_with fail
     refine (HA.out _).mono ?_
     rintro e w3 ⟨rfl, hx3⟩
     have hG := Lib.hid (HE.out _ hx3)
     clear HE hx3
     go_wp2_with fail
     go_roundw
     case rel => exact hG.out
     case measure => simp only [intOf]; have := hms.out; omega
   ·rw [decide_eq_false ht] at dt
    have hE := Lib.hid (HNo.out (.inr (by omega)))
    clear HNo HYes HE
    go_wp2_with fail
    go_ret
    exact ⟨by rw [hE.out]; rfl, X0.out.trans hx.out⟩
  ·have d1 : decide (n ≤ hi) = false := decide_eq_false hc
   have hE := Lib.hid (HNo.out (.inl (by omega)))
   clear HNo HYes HE
   go_wp2_with fail
   go_ret
   exact ⟨by rw [hE.out]; rfl, X0.out.trans hx.out⟩
end Go.Proofs.YtjaponmpfdpemaaGreatDoor
set_option linter.unusedSimpArgs false
set_option linter.unusedVariables false
namespace Go.Proofs.YtjaponmpfdpemaaGreatDoor
open Go.RowKit
set_option maxRecDepth 100000 in
set_option maxHeartbeats 4000000 in
theorem rsrat_any (s : Sr) (h : SrS s 1000) (n : Int) (W : World) : Calls Tryz.prog 13 #[srV s, .int .i64 n] W fun e w' => e = .returned (.tuple #[ptV (s.at_ n).1, .bool (s.at_ n).2]) ∧ Ext W w' := by
 have HC := Lib.hid (fun w (_ : Ext W w) => rsrcheck_any s h w)
 have HH := Lib.hid (fun w (_ : Ext W w) => rsrhas_any s n w)
 have HNo := Lib.hid (fun h => Sr.at_no (s := s) (n := n) h)
 have HYe := Lib.hid (fun h => Sr.at_yes (s := s) (n := n) h)
 have HBd := Lib.hid (fun (h : s.check = 0) (h1 : s.fr ≤ n) (h2 : n ≤ s.to_) (hne : s.fr ≠ s.to_) => Sr.bd h h1 h2 hne)
 have hpl : s.place n = if s.fr = s.to_ then (s.ax, s.ay) else (s.ax + (s.bx - s.ax) * (n - s.fr) / (s.to_ - s.fr), s.ay + (s.by_ - s.ay) * (n - s.fr) / (s.to_ - s.fr)) := rfl
 have hRin : s.hasR n = true → s.fr ≤ n ∧ n ≤ s.to_ := fun hh => by
  unfold Sr.hasR at hh
  simp only [Bool.and_eq_true, Bool.not_eq_true', Bool.or_eq_false_iff, decide_eq_false_iff_not] at hh
  omega
 obtain ⟨R, hR⟩ : ∃ R, s.at_ n = R := ⟨_, rfl⟩
 rw [hR] at HNo HYe ⊢
 clear hR h
 generalize s.place n = pl at *
 generalize s.hasR n = hr at *
 generalize s.check = q at *
 replace hpl := Lib.hid hpl
 replace hRin := Lib.hid hRin
 simp only [srV_eq] at HC HH ⊢
 obtain ⟨zstate, zcity, zpre, zname, zsuf, zpost, zf, zt, zs, zax, zay, zbx, zby⟩ := s
 try dsimp only at *
 obtain ⟨b0, hb0⟩ : ∃ t, (q != 0) = t := ⟨_, rfl⟩
 obtain ⟨F1, hF1⟩ : ∃ t, (b0 || !hr) = t := ⟨_, rfl⟩
 replace hF1 := Lib.hid hF1
 have X2 := ((Ext.refl W).alloc (.cells #[.string ⟨zstate.toArray⟩, .string ⟨zcity.toArray⟩, .string ⟨zpre.toArray⟩, .string ⟨zname.toArray⟩, .string ⟨zsuf.toArray⟩, .string ⟨zpost.toArray⟩, .int .i64 zf, .int .i64 zt, .int .i64 zs, .int .i64 zax, .int .i64 zay, .int .i64 zbx, .int .i64 zby] 25)).alloc (.cells #[.int .i64 0, .int .i64 0] 23)
 have B2 := (Blk.new W 25 #[.string ⟨zstate.toArray⟩, .string ⟨zcity.toArray⟩, .string ⟨zpre.toArray⟩, .string ⟨zname.toArray⟩, .string ⟨zsuf.toArray⟩, .string ⟨zpost.toArray⟩, .int .i64 zf, .int .i64 zt, .int .i64 zs, .int .i64 zax, .int .i64 zay, .int .i64 zbx, .int .i64 zby]).alloc (.cells #[.int .i64 0, .int .i64 0] 23)
 have B4 := Blk.new (W.alloc (.cells #[.string ⟨zstate.toArray⟩, .string ⟨zcity.toArray⟩, .string ⟨zpre.toArray⟩, .string ⟨zname.toArray⟩, .string ⟨zsuf.toArray⟩, .string ⟨zpost.toArray⟩, .int .i64 zf, .int .i64 zt, .int .i64 zs, .int .i64 zax, .int .i64 zay, .int .i64 zbx, .int .i64 zby] 25)) 23 #[.int .i64 0, .int .i64 0]
 rw [show (W.alloc (.cells #[.string ⟨zstate.toArray⟩, .string ⟨zcity.toArray⟩, .string ⟨zpre.toArray⟩, .string ⟨zname.toArray⟩, .string ⟨zsuf.toArray⟩, .string ⟨zpost.toArray⟩, .int .i64 zf, .int .i64 zt, .int .i64 zs, .int .i64 zax, .int .i64 zay, .int .i64 zbx, .int .i64 zby] 25)).heap.size = W.heap.size + 1 by simp] at B4
 go_enter Tryz.func13, Tryz.ntmps13
 go_upto_region 1 with (fail)
 generalize (W.alloc (.cells #[.string ⟨zstate.toArray⟩, .string ⟨zcity.toArray⟩, .string ⟨zpre.toArray⟩, .string ⟨zname.toArray⟩, .string ⟨zsuf.toArray⟩, .string ⟨zpost.toArray⟩, .int .i64 zf, .int .i64 zt, .int .i64 zs, .int .i64 zax, .int .i64 zay, .int .i64 zbx, .int .i64 zby] 25)).alloc (.cells #[.int .i64 0, .int .i64 0] 23) = w0 at *
 have hg4 : W.heap.size ≤ W.heap.size + 1 := by omega
 have hne4 : W.heap.size + 1 ≠ W.heap.size := by omega
 generalize W.heap.size + 1 = g4 at *
 obtain ⟨ga, hga⟩ : ∃ g, W.heap.size = g := ⟨_, rfl⟩
 rw [hga] at B2 hne4 ⊢
 clear hga
 have X0 := Lib.hid X2
 have BA := Lib.hid (fun w (hx : Ext w0 w) => (show (∀ i, w.cell? ⟨ga, i, none⟩ = (#[.string ⟨zstate.toArray⟩, .string ⟨zcity.toArray⟩, .string ⟨zpre.toArray⟩, .string ⟨zname.toArray⟩, .string ⟨zsuf.toArray⟩, .string ⟨zpost.toArray⟩, .int .i64 zf, .int .i64 zt, .int .i64 zs, .int .i64 zax, .int .i64 zay, .int .i64 zbx, .int .i64 zby] : Array Value)[i]?) ∧ ga < w.heap.size ∧ (∀ i, w.frozen? ⟨ga, i, none⟩ = false) from
  have B := B2.ext hx; ⟨B.cell, B.lt, B.frozen⟩))
 have BP := Lib.hid (fun w (hx : Ext w0 w) => B4.ext hx)
 replace HC := Lib.hid (fun w (hx : Ext w0 w) => HC.out w (X2.trans hx))
 replace HH := Lib.hid (fun w (hx : Ext w0 w) => HH.out w (X2.trans hx))
 have Xw0 := Lib.hid (Ext.refl w0)
 obtain ⟨qa, la, qb⟩ := BA.out _ Xw0.out
 clear B2 B4 X2
 have hFa : F1 = false → q = 0 ∧ hr = true := fun hh => by
  have := hF1.out
  rw [hh, ← hb0] at this
  simp only [Bool.or_eq_false_iff, Bool.not_eq_false'] at this
  exact ⟨by simpa using this.1, this.2⟩
 have hFb : F1 = true → ¬ (q = 0 ∧ hr = true) := fun hh hx => by
  obtain ⟨e0, er⟩ := hx
  have := hF1.out
  rw [hh, ← hb0, e0, er] at this
  cases this
 replace hFa := Lib.hid hFa
 replace hFb := Lib.hid hFb
 go_cut [14] from 6 to 14 (fun u wx => u = .bool F1 ∧ Ext w0 wx)
 case first =>
  clear hFa hFb HNo HYe HBd
  go_wp2_with fail
  refine (HC.out _ Xw0.out).mono ?_
  rintro e wb0 ⟨rfl, hx⟩
  have Xwb0 := Lib.hid (Xw0.out.trans hx)
  obtain ⟨qa, la, qb⟩ := BA.out _ Xwb0.out
  clear hx
  cases b0 with
  | false =>
   go_wp2_with fail
   refine (HH.out _ Xwb0.out).mono ?_
   rintro e whr ⟨rfl, hx⟩
   have Xwhr := Lib.hid (Xwb0.out.trans hx)
   obtain ⟨qa, la, qb⟩ := BA.out _ Xwhr.out
   clear hx
   cases hr with
   | false =>
    have HE := Lib.hid (show Value.bool true = Value.bool F1 ∧ Ext w0 whr from ⟨by rw [← hF1.out]; simp, Xwhr.out⟩)
    go_wp2_with fail
    go_meet
    case rel => exact HE.out
   | true =>
    have HE := Lib.hid (show Value.bool false = Value.bool F1 ∧ Ext w0 whr from ⟨by rw [← hF1.out]; simp, Xwhr.out⟩)
    go_wp2_with fail
    go_meet
    case rel => exact HE.out
  | true =>
   have HE := Lib.hid (show Value.bool true = Value.bool F1 ∧ Ext w0 wb0 from ⟨by rw [← hF1.out]; simp, Xwb0.out⟩)
   go_wp2_with fail
   go_meet
   case rel => exact HE.out
 case rest =>
  obtain ⟨rfl, hx⟩ := hcut
  have Xwc := Lib.hid hx
  clear hx qa la qb Xw0 HC HH
  obtain ⟨qa, la, qb⟩ := BA.out _ Xwc.out
  cases F1 with
  | true =>
   have hQ := Lib.hid (HNo.out (hFb.out rfl))
   clear HNo HYe HBd hFa hFb
   have BE := Lib.hid (pt_set (BP.out _ Xwc.out) (.int .i64 0) (.int .i64 0))
   have XE := Lib.hid (((X0.out.trans Xwc.out).set (p := ⟨g4, 0, none⟩) hg4 (.int .i64 0)).set (p := ⟨g4, 1, none⟩) hg4 (.int .i64 0))
   obtain ⟨p4, p4'⟩ := (BP.out _ Xwc.out).cells
   have l4 := (BP.out _ Xwc.out).lt
   go_wp2_with fail
   exact bodyPost_ret (results_ct rfl rfl (ld_pt BE.out)) rfl ⟨by rw [hQ.out]; rfl, XE.out⟩
  | false =>
   obtain ⟨e0, er⟩ := hFa.out rfl
   obtain ⟨n1, n2⟩ := hRin.out er
   have hQ := Lib.hid (HYe.out ⟨e0, er⟩)
   have hBd2 := Lib.hid (HBd.out e0 n1 n2)
   clear HNo HYe HBd hFa hFb e0 er hF1
   by_cases hz : zf = zt
   ·have hpl2 := hpl.out
    rw [if_pos hz] at hpl2
    subst hpl2
    subst hz
    have dz : (zf == zf) = true := by simp
    clear hBd2 hpl n1 n2
    have BE := Lib.hid (pt_set (BP.out _ Xwc.out) (.int .i64 zax) (.int .i64 zay))
    have XE := Lib.hid (((X0.out.trans Xwc.out).set (p := ⟨g4, 0, none⟩) hg4 (.int .i64 zax)).set (p := ⟨g4, 1, none⟩) hg4 (.int .i64 zay))
    obtain ⟨p4, p4'⟩ := (BP.out _ Xwc.out).cells
    have l4 := (BP.out _ Xwc.out).lt
    go_wp2_with fail
    exact bodyPost_ret (results_ct rfl rfl (ld_pt BE.out)) rfl ⟨by rw [hQ.out]; rfl, XE.out⟩
   ·have hpl2 := hpl.out
    rw [if_neg hz] at hpl2
    have hB := hBd2.out hz
    have HFx := Lib.hid (fun w (hx : Ext wc w) => (rpart_any zax zbx (n - zf) (zt - zf) hB.ax hB.bx ⟨hB.n1, hB.n2⟩ ⟨hB.c1, hB.c2⟩ w).mono (fun e w' hh => (⟨hh.1, hx.trans hh.2⟩ : _ ∧ Ext wc w')))
    have HFy := Lib.hid (fun w (hx : Ext wc w) => (rpart_any zay zby (n - zf) (zt - zf) hB.ay hB.by_ ⟨hB.n1, hB.n2⟩ ⟨hB.c1, hB.c2⟩ w).mono (fun e w' hh => (⟨hh.1, hx.trans hh.2⟩ : _ ∧ Ext wc w')))
    have m1 := hB.n1
    have m2 := hB.n2
    have m3 := hB.c1
    have m4 := hB.c2
    clear hB hBd2 hpl
    try dsimp only at *
    have dz : (zf == zt) = false := by rw [beq_eq_false_iff_ne]; exact hz
    have e3 : IntKind.i64.wrap (n - zf) = n - zf := by rw [IntKind.wrap_i64]; omega
    have e4 : IntKind.i64.wrap (zt - zf) = zt - zf := by rw [IntKind.wrap_i64]; omega
    generalize zax + (zbx - zax) * (n - zf) / (zt - zf) = qx at *
    generalize zay + (zby - zay) * (n - zf) / (zt - zf) = qy at *
    subst hpl2
    clear m1 m2 m3 m4 hz n1 n2
    have HX := Lib.hid (fun w' (hx : Ext wc w') => (show w'.cell? ⟨ga, 6, none⟩ = some (.int .i64 zf) ∧ w'.cell? ⟨ga, 7, none⟩ = some (.int .i64 zt) ∧ w'.cell? ⟨ga, 9, none⟩ = some (.int .i64 zax) ∧ w'.cell? ⟨ga, 10, none⟩ = some (.int .i64 zay) ∧ w'.cell? ⟨ga, 11, none⟩ = some (.int .i64 zbx) ∧ w'.cell? ⟨ga, 12, none⟩ = some (.int .i64 zby) from
     have B := (BA.out _ (Xwc.out.trans hx)).1; ⟨B 6, B 7, B 9, B 10, B 11, B 12⟩))
    have HX2 := Lib.hid (fun w' (hx : Ext wc w') u v => (show ((w'.setCell ⟨g4, 0, none⟩ u).setCell ⟨g4, 1, none⟩ v).cell? ⟨ga, 6, none⟩ = some (.int .i64 zf) ∧ ((w'.setCell ⟨g4, 0, none⟩ u).setCell ⟨g4, 1, none⟩ v).cell? ⟨ga, 7, none⟩ = some (.int .i64 zt) ∧ ((w'.setCell ⟨g4, 0, none⟩ u).setCell ⟨g4, 1, none⟩ v).cell? ⟨ga, 9, none⟩ = some (.int .i64 zax) ∧ ((w'.setCell ⟨g4, 0, none⟩ u).setCell ⟨g4, 1, none⟩ v).cell? ⟨ga, 10, none⟩ = some (.int .i64 zay) ∧ ((w'.setCell ⟨g4, 0, none⟩ u).setCell ⟨g4, 1, none⟩ v).cell? ⟨ga, 11, none⟩ = some (.int .i64 zbx) ∧ ((w'.setCell ⟨g4, 0, none⟩ u).setCell ⟨g4, 1, none⟩ v).cell? ⟨ga, 12, none⟩ = some (.int .i64 zby) by
     have B := (BA.out _ (Xwc.out.trans hx)).1
     have far : ∀ i, ((w'.setCell ⟨g4, 0, none⟩ u).setCell ⟨g4, 1, none⟩ v).cell? ⟨ga, i, none⟩ = w'.cell? ⟨ga, i, none⟩ := fun i => (World.cell?_setCell_far _ _ _ _ hne4).trans (World.cell?_setCell_far _ _ _ _ hne4)
     rw [far, far, far, far, far, far]
     exact ⟨B 6, B 7, B 9, B 10, B 11, B 12⟩))
    have HE := Lib.hid (fun w' (hx : Ext wc w') => (show Blk ((w'.setCell ⟨g4, 0, none⟩ (.int .i64 qx)).setCell ⟨g4, 1, none⟩ (.int .i64 qy)) g4 23 #[.int .i64 qx, .int .i64 qy] ∧ Ext W ((w'.setCell ⟨g4, 0, none⟩ (.int .i64 qx)).setCell ⟨g4, 1, none⟩ (.int .i64 qy)) from
     ⟨pt_set (BP.out _ (Xwc.out.trans hx)) _ _, ((X0.out.trans (Xwc.out.trans hx)).set (p := ⟨g4, 0, none⟩) hg4 _).set (p := ⟨g4, 1, none⟩) hg4 _⟩))
    have HP := Lib.hid (fun w' (hx : Ext wc w') => (show (∀ i, w'.cell? ⟨g4, i, none⟩ = (#[.int .i64 0, .int .i64 0] : Array Value)[i]?) ∧ g4 < w'.heap.size ∧ (∀ i, w'.frozen? ⟨g4, i, none⟩ = false) from
     have B := BP.out _ (Xwc.out.trans hx); ⟨B.cell, B.lt, B.frozen⟩))
    have Xr := Ext.refl wc
    obtain ⟨k6, k7, k9, k10, k11, k12⟩ := HX.out _ Xr
    clear qa la qb
    go_upto_region 5 with (fail)
    go_region_held3 (fun w' => w'.cell? ⟨ga, 6, none⟩ = some (.int .i64 zf) ∧ w'.cell? ⟨ga, 7, none⟩ = some (.int .i64 zt) ∧ w'.cell? ⟨ga, 9, none⟩ = some (.int .i64 zax) ∧ w'.cell? ⟨ga, 10, none⟩ = some (.int .i64 zay) ∧ w'.cell? ⟨ga, 11, none⟩ = some (.int .i64 zbx) ∧ w'.cell? ⟨ga, 12, none⟩ = some (.int .i64 zby))
       (first | (with_reducible refine HX2.out _ ?_ _ _; with_reducible repeat (first | assumption | exact Ext.refl _ | refine Ext.drew ?_ | refine Ext.alloc ?_ _)) | (with_reducible refine HX.out _ ?_; with_reducible repeat (first | assumption | exact Ext.refl _ | refine Ext.drew ?_ | refine Ext.alloc ?_ _)))
       (first
        | (go_at_call 33; (with_reducible refine (HFx.out _ (by with_reducible repeat (first | assumption | exact Ext.refl _ | refine Ext.drew ?_ | refine Ext.alloc ?_ _))).mono ?_); rintro e v1 ⟨rfl, hv1⟩; obtain ⟨p4, l4, p4'⟩ := HP.out _ hv1)
        | (go_at_call 33; (with_reducible refine (HFy.out _ (by with_reducible repeat (first | assumption | exact Ext.refl _ | refine Ext.drew ?_ | refine Ext.alloc ?_ _))).mono ?_); rintro e v2 ⟨rfl, hv2⟩; obtain ⟨p4, l4, p4'⟩ := HP.out _ hv2))
    all_goals
     first
      | (obtain ⟨BE, XE⟩ := HE.out _ hv2; replace BE := Lib.hid BE; replace XE := Lib.hid XE)
     clear p4 p4' l4
     go_wp2_with fail
     first
      | exact bodyPost_ret (results_ct rfl rfl (ld_pt BE.out)) rfl ⟨by rw [hQ.out]; rfl, XE.out⟩
      | (obtain ⟨BE, XE⟩ := HE.out _ hv1; exact bodyPost_ret (results_ct rfl rfl (ld_pt BE)) rfl ⟨by rw [hQ.out]; rfl, XE⟩)
end Go.Proofs.YtjaponmpfdpemaaGreatDoor
