/-
  apportionlaw18: StreetAt (printed by tools/genMg.py).
-/
import Derived.Test.YtjaponmpfdpemaaGreatDoorBa44
import Derived.Test.YtjaponmpfdpemaaGreatDoorBa45
set_option linter.unusedSimpArgs false
set_option linter.unusedVariables false
namespace Go.Proofs.YtjaponmpfdpemaaGreatDoor
open Go.RowKit

theorem srL_cells (s : Sr) : srCells [s] = srL s := by simp [srCells]
theorem reads_one {w : World} {g : Nat} {s : Sr} (h : Blk w g 25 #[.string ⟨s.state.toArray⟩, .string ⟨s.city.toArray⟩, .string ⟨s.pre.toArray⟩, .string ⟨s.name.toArray⟩, .string ⟨s.suf.toArray⟩, .string ⟨s.post.toArray⟩, .int .i64 s.fr, .int .i64 s.to_, .int .i64 s.side, .int .i64 s.ax, .int .i64 s.ay, .int .i64 s.bx, .int .i64 s.by_]) : Reads w w.heap.size 13 (some ⟨g, 0, none⟩) [s].length (srCells [s]) := by
  refine ⟨by rw [srCells_len], fun _ => ⟨g, 0, rfl, h.lt, fun j u hu => ?_⟩⟩
  rw [Nat.zero_add, h.cell j]
  rw [srL_cells] at hu
  simpa [srL] using hu
set_option maxRecDepth 100000 in
set_option maxHeartbeats 4000000 in
theorem streetAt_any (s : Sr) (n : Int) (W : World) (hS : Std W) : Calls Tryz.prog 3 #[srV s, .int .i64 n] W fun e w' => e = .returned (.bool true) ∧ Ext W w' := by
  have HL := Lib.hid (fun g w (h : Blk w g 25 #[.string ⟨s.state.toArray⟩, .string ⟨s.city.toArray⟩, .string ⟨s.pre.toArray⟩, .string ⟨s.name.toArray⟩, .string ⟨s.suf.toArray⟩, .string ⟨s.post.toArray⟩, .int .i64 s.fr, .int .i64 s.to_, .int .i64 s.side, .int .i64 s.ax, .int .i64 s.ay, .int .i64 s.bx, .int .i64 s.by_]) => l18long_any [s] (some ⟨g, 0, none⟩) 1 w (reads_one h))
  have B0 := Lib.hid (Blk.new W 25 #[.string ⟨s.state.toArray⟩, .string ⟨s.city.toArray⟩, .string ⟨s.pre.toArray⟩, .string ⟨s.name.toArray⟩, .string ⟨s.suf.toArray⟩, .string ⟨s.post.toArray⟩, .int .i64 s.fr, .int .i64 s.to_, .int .i64 s.side, .int .i64 s.ax, .int .i64 s.ay, .int .i64 s.bx, .int .i64 s.by_])
  have X0 := Lib.hid ((Ext.refl W).alloc (.cells #[.string ⟨s.state.toArray⟩, .string ⟨s.city.toArray⟩, .string ⟨s.pre.toArray⟩, .string ⟨s.name.toArray⟩, .string ⟨s.suf.toArray⟩, .string ⟨s.post.toArray⟩, .int .i64 s.fr, .int .i64 s.to_, .int .i64 s.side, .int .i64 s.ax, .int .i64 s.ay, .int .i64 s.bx, .int .i64 s.by_] 25))
  have e1 : [s].length = 1 := rfl
  rw [e1] at HL
  cases hl : longS [s] with
  | true =>
    rw [hl] at HL
    rw [srV_eq]
    clear hS hl e1
    go_enter Tryz.func3, Tryz.ntmps3
    go_upto_region 1 with (fail)
    obtain ⟨qa, _⟩ := B0.out.cells
    have la := B0.out.lt
    generalize W.alloc (.cells #[.string ⟨s.state.toArray⟩, .string ⟨s.city.toArray⟩, .string ⟨s.pre.toArray⟩, .string ⟨s.name.toArray⟩, .string ⟨s.suf.toArray⟩, .string ⟨s.post.toArray⟩, .int .i64 s.fr, .int .i64 s.to_, .int .i64 s.side, .int .i64 s.ax, .int .i64 s.ay, .int .i64 s.bx, .int .i64 s.by_] 25) = w0 at *
    generalize W.heap.size = g2 at *
    go_wp2_with fail
    refine (HL.out _ _ (Blk.new w0 _ _)).mono ?_
    rintro e w1 ⟨rfl, hx⟩
    have X1 := Lib.hid ((X0.out.alloc _).trans hx)
    clear hx
    go_wp2_with fail
    go_ret
    exact ⟨rfl, X1.out⟩
  | false =>
    rw [hl] at HL
    have hs := (longS_no hl).2 s (by simp)
    have HA := Lib.hid (fun w (hx : Ext W w) => srat_any s hs n w (hS.ext hx))
    have HB := Lib.hid (fun w (_ : Ext W w) => rsrat_any s hs n w)
    have HC := Lib.hid (fun w (hx : Ext W w) => srcheck_any s hs w (hS.ext hx))
    have HD := Lib.hid (fun w (_ : Ext W w) => rsrcheck_any s hs w)
    have HW := Lib.hid (fun w (hx : Ext W w) => l18awake_any w (hS.ext hx))
    obtain ⟨R, hR⟩ : ∃ R, s.at_ n = R := ⟨_, rfl⟩
    rw [hR] at HA HB
    clear hR
    obtain ⟨⟨px, py⟩, b⟩ := R
    unfold ptV at HA HB
    dsimp only at HA HB
    generalize s.check = q at *
    have hpe := fun w => pt_eq px py px py w
    simp only [decide_true] at hpe
    simp only [srV_eq] at HA HB HC HD ⊢
    clear hS hl e1 hs
    go_enter Tryz.func3, Tryz.ntmps3
    go_upto_region 1 with (fail)
    obtain ⟨qa, _⟩ := B0.out.cells
    have la := B0.out.lt
    generalize W.alloc (.cells #[.string ⟨s.state.toArray⟩, .string ⟨s.city.toArray⟩, .string ⟨s.pre.toArray⟩, .string ⟨s.name.toArray⟩, .string ⟨s.suf.toArray⟩, .string ⟨s.post.toArray⟩, .int .i64 s.fr, .int .i64 s.to_, .int .i64 s.side, .int .i64 s.ax, .int .i64 s.ay, .int .i64 s.bx, .int .i64 s.by_] 25) = w0 at *
    generalize W.heap.size = g2 at *
    go_wp2_with fail
    refine (HL.out _ _ (Blk.new w0 _ _)).mono ?_
    rintro e w1 ⟨rfl, hx⟩
    have Xa := Lib.hid (((Ext.refl w0).alloc _).trans hx)
    have BX := Lib.hid (fun w (hx : Ext w1 w) => B0.out.ext (Xa.out.trans hx))
    have X1 := Lib.hid (X0.out.trans Xa.out)
    clear hx Xa B0 X0 HL qa la
    obtain ⟨qa, _⟩ := (BX.out _ (Ext.refl w1)).cells
    have la := (BX.out _ (Ext.refl w1)).lt
    go_wp2_with fail
    refine (HA.out _ X1.out).mono ?_
    rintro e w2 ⟨rfl, hx⟩
    have X2 := Lib.hid (hx.alloc (.cells #[.int .i64 px, .int .i64 py] 23))
    have B5 := Lib.hid (Blk.new w2 23 #[.int .i64 px, .int .i64 py])
    clear hx qa la HA
    go_upto_region 4 with (fail)
    generalize w2.alloc (.cells #[.int .i64 px, .int .i64 py] 23) = w3 at *
    generalize w2.heap.size = g5 at *
    obtain ⟨qa, _⟩ := (BX.out _ X2.out).cells
    have la := (BX.out _ X2.out).lt
    go_wp2_with fail
    refine (HB.out _ (X1.out.trans X2.out)).mono ?_
    rintro e w4 ⟨rfl, hx⟩
    have X4 := Lib.hid (X2.out.trans (hx.alloc (.cells #[.int .i64 px, .int .i64 py] 23)))
    have B7 := Lib.hid (Blk.new w4 23 #[.int .i64 px, .int .i64 py])
    replace B5 := Lib.hid ((B5.out.ext hx).alloc (.cells #[.int .i64 px, .int .i64 py] 23))
    clear hx qa la HB X2
    go_upto_region 5 with (fail)
    generalize w4.alloc (.cells #[.int .i64 px, .int .i64 py] 23) = w5 at *
    generalize w4.heap.size = g7 at *
    have Y5 := Lib.hid (X1.out.trans X4.out)
    have HQ := Lib.hid (fun w' (hx : Ext w5 w') => (show (w'.cell? ⟨g2, 0, none⟩ = some (.string ⟨s.state.toArray⟩) ∧ w'.cell? ⟨g2, 1, none⟩ = some (.string ⟨s.city.toArray⟩) ∧ w'.cell? ⟨g2, 2, none⟩ = some (.string ⟨s.pre.toArray⟩) ∧ w'.cell? ⟨g2, 3, none⟩ = some (.string ⟨s.name.toArray⟩) ∧ w'.cell? ⟨g2, 4, none⟩ = some (.string ⟨s.suf.toArray⟩) ∧ w'.cell? ⟨g2, 5, none⟩ = some (.string ⟨s.post.toArray⟩) ∧ w'.cell? ⟨g2, 6, none⟩ = some (.int .i64 s.fr) ∧ w'.cell? ⟨g2, 7, none⟩ = some (.int .i64 s.to_) ∧ w'.cell? ⟨g2, 8, none⟩ = some (.int .i64 s.side) ∧ w'.cell? ⟨g2, 9, none⟩ = some (.int .i64 s.ax) ∧ w'.cell? ⟨g2, 10, none⟩ = some (.int .i64 s.ay) ∧ w'.cell? ⟨g2, 11, none⟩ = some (.int .i64 s.bx) ∧ w'.cell? ⟨g2, 12, none⟩ = some (.int .i64 s.by_)) ∧ (w'.cell? ⟨g5, 0, none⟩ = some (.int .i64 px) ∧ w'.cell? ⟨g5, 1, none⟩ = some (.int .i64 py)) ∧ (w'.cell? ⟨g7, 0, none⟩ = some (.int .i64 px) ∧ w'.cell? ⟨g7, 1, none⟩ = some (.int .i64 py)) from
      have A := BX.out _ (X4.out.trans hx); have P := B5.out.ext hx; have Q := B7.out.ext hx
      ⟨⟨A.cell 0, A.cell 1, A.cell 2, A.cell 3, A.cell 4, A.cell 5, A.cell 6, A.cell 7, A.cell 8, A.cell 9, A.cell 10, A.cell 11, A.cell 12⟩, ⟨P.cell 0, P.cell 1⟩, ⟨Q.cell 0, Q.cell 1⟩⟩))
    replace HC := Lib.hid (fun w (hx : Ext w5 w) => HC.out w (Y5.out.trans hx))
    replace HD := Lib.hid (fun w (hx : Ext w5 w) => HD.out w (Y5.out.trans hx))
    replace HW := Lib.hid (fun w (hx : Ext w5 w) => HW.out w (Y5.out.trans hx))
    obtain ⟨⟨p0, p1, p2, p3, p4, p5, p6, p7, p8, p9, p10, p11, p12⟩, ⟨p13, p14⟩, ⟨p15, p16⟩⟩ := HQ.out _ (Ext.refl w5)
    clear BX B5 B7 X1 X4
    go_region_held3 (fun w' => (w'.cell? ⟨g2, 0, none⟩ = some (.string ⟨s.state.toArray⟩) ∧ w'.cell? ⟨g2, 1, none⟩ = some (.string ⟨s.city.toArray⟩) ∧ w'.cell? ⟨g2, 2, none⟩ = some (.string ⟨s.pre.toArray⟩) ∧ w'.cell? ⟨g2, 3, none⟩ = some (.string ⟨s.name.toArray⟩) ∧ w'.cell? ⟨g2, 4, none⟩ = some (.string ⟨s.suf.toArray⟩) ∧ w'.cell? ⟨g2, 5, none⟩ = some (.string ⟨s.post.toArray⟩) ∧ w'.cell? ⟨g2, 6, none⟩ = some (.int .i64 s.fr) ∧ w'.cell? ⟨g2, 7, none⟩ = some (.int .i64 s.to_) ∧ w'.cell? ⟨g2, 8, none⟩ = some (.int .i64 s.side) ∧ w'.cell? ⟨g2, 9, none⟩ = some (.int .i64 s.ax) ∧ w'.cell? ⟨g2, 10, none⟩ = some (.int .i64 s.ay) ∧ w'.cell? ⟨g2, 11, none⟩ = some (.int .i64 s.bx) ∧ w'.cell? ⟨g2, 12, none⟩ = some (.int .i64 s.by_)) ∧ (w'.cell? ⟨g5, 0, none⟩ = some (.int .i64 px) ∧ w'.cell? ⟨g5, 1, none⟩ = some (.int .i64 py)) ∧ (w'.cell? ⟨g7, 0, none⟩ = some (.int .i64 px) ∧ w'.cell? ⟨g7, 1, none⟩ = some (.int .i64 py)))
      (with_reducible refine HQ.out _ ?_; repeat (first | (with_reducible assumption) | (with_reducible exact Ext.refl _) | (with_reducible refine Ext.drew ?_) | (with_reducible refine Ext.alloc ?_ _)))
      (first
        | (go_at_call 14; refine (HC.out _ (by repeat (first | (with_reducible assumption) | (with_reducible exact Ext.refl _) | (with_reducible refine Ext.drew ?_) | (with_reducible refine Ext.alloc ?_ _)))).mono ?_; rintro e w6 ⟨rfl, hx6⟩; have hy6 : Ext w5 w6 := Ext.trans (by repeat (first | (with_reducible assumption) | (with_reducible exact Ext.refl _) | (with_reducible refine Ext.drew ?_) | (with_reducible refine Ext.alloc ?_ _))) hx6; clear hx6)
        | (go_at_call 15; refine (HD.out _ (by repeat (first | (with_reducible assumption) | (with_reducible exact Ext.refl _) | (with_reducible refine Ext.drew ?_) | (with_reducible refine Ext.alloc ?_ _)))).mono ?_; rintro e w7 ⟨rfl, hx7⟩; have hy7 : Ext w5 w7 := Ext.trans (by repeat (first | (with_reducible assumption) | (with_reducible exact Ext.refl _) | (with_reducible refine Ext.drew ?_) | (with_reducible refine Ext.alloc ?_ _))) hx7; clear hx7)
        | (go_at_call 16; refine (HW.out _ (by repeat (first | (with_reducible assumption) | (with_reducible exact Ext.refl _) | (with_reducible refine Ext.drew ?_) | (with_reducible refine Ext.alloc ?_ _)))).mono ?_; rintro e w8 ⟨rfl, hx8⟩; have hy8 : Ext w5 w8 := Ext.trans (by repeat (first | (with_reducible assumption) | (with_reducible exact Ext.refl _) | (with_reducible refine Ext.drew ?_) | (with_reducible refine Ext.alloc ?_ _))) hx8; clear hx8))
    all_goals
      go_wp2_with fail
      go_ret
      refine ⟨by simp, Y5.out.trans ?_⟩
      with_reducible assumption
end Go.Proofs.YtjaponmpfdpemaaGreatDoor
