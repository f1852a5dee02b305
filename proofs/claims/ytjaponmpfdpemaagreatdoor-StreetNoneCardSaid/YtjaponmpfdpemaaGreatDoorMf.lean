/-
  apportionlaw18: StreetNone (printed by tools/genMf.py).
-/
import Derived.Test.YtjaponmpfdpemaaGreatDoorBa44
set_option linter.unusedSimpArgs false
set_option linter.unusedVariables false
namespace Go.Proofs.YtjaponmpfdpemaaGreatDoor
open Go.RowKit

/-- Round k of two. -/
def NnAt (w0 : World) (i : Value) (wr : World) : Prop := (i = .int .i64 0 ∨ i = .int .i64 1 ∨ i = .int .i64 2) ∧ Ext w0 wr
set_option maxRecDepth 100000 in
set_option maxHeartbeats 4000000 in
theorem streetNone_any (a : Ad) (W : World) (hS : Std W) : Calls Tryz.prog 10 #[adV a] W fun e w' => e = .returned (.bool true) ∧ Ext W w' := by
  have HW := Lib.hid (fun w (hx : Ext W w) => l18awake_any w (hS.ext hx))
  have HL := Lib.hid (fun w => l18large_any a w)
  have HF0 := Lib.hid (fun w => srfind_nil a w)
  have HF1 := Lib.hid (fun w tb m n h => srfind_un a w tb m n h)
  have HN0 := Lib.hid (fun w => srlen_nil w)
  have HN1 := Lib.hid (fun w tb m n h => srlen_at w tb m n false h)
  generalize longA a = lg at *
  unfold ptV at HF0 HF1
  rw [adV_eq] at *
  obtain ⟨zn, zh, zpre, zname, zsuf, zpost, zunit, zcity, zstate, zzip, zmore⟩ := a
  dsimp only at *
  clear hS
  have BA := Lib.hid (Blk.new W 45 #[.int .i64 zn, .bool zh, .string ⟨zpre.toArray⟩, .string ⟨zname.toArray⟩, .string ⟨zsuf.toArray⟩, .string ⟨zpost.toArray⟩, .string ⟨zunit.toArray⟩, .string ⟨zcity.toArray⟩, .string ⟨zstate.toArray⟩, .string ⟨zzip.toArray⟩, .string ⟨zmore.toArray⟩])
  have X0 := Lib.hid ((Ext.refl W).alloc (.cells #[.int .i64 zn, .bool zh, .string ⟨zpre.toArray⟩, .string ⟨zname.toArray⟩, .string ⟨zsuf.toArray⟩, .string ⟨zpost.toArray⟩, .string ⟨zunit.toArray⟩, .string ⟨zcity.toArray⟩, .string ⟨zstate.toArray⟩, .string ⟨zzip.toArray⟩, .string ⟨zmore.toArray⟩] 45))
  cases lg with
  | true =>
    obtain ⟨qa, _⟩ := BA.out.cells
    have la := BA.out.lt
    go_enter Tryz.func10, Tryz.ntmps10
    go_wp2_with fail
    refine (HL.out _).mono ?_
    rintro e w1 ⟨rfl, hx⟩
    have X1 := Lib.hid (X0.out.trans hx)
    clear hx
    go_wp2_with fail
    refine (HW.out _ X1.out).mono ?_
    rintro e w2 ⟨rfl, hx⟩
    go_wp2_with fail
    go_ret
    exact ⟨rfl, X1.out.trans hx⟩
  | false =>
    obtain ⟨qa, _⟩ := BA.out.cells
    have la := BA.out.lt
    go_enter Tryz.func10, Tryz.ntmps10
    go_wp2_with fail
    refine (HL.out _).mono ?_
    rintro e w1 ⟨rfl, hx⟩
    have X1 := Lib.hid (X0.out.trans hx)
    replace BA := Lib.hid (BA.out.ext hx)
    clear hx qa la X0
    generalize W.heap.size = ga at *
    go_upto_region 4 with (fail)
    have BT := Lib.hid ((Blk.new w1 61 #[.map none, .int .i64 0, .bool false]).alloc (.cells #[.pointer none, .pointer (some ⟨w1.heap.size, 0, none⟩)] 34))
    have BS0 := Blk.new (w1.alloc (.cells #[.map none, .int .i64 0, .bool false] 61)) 34 #[.pointer none, .pointer (some ⟨w1.heap.size, 0, none⟩)]
    rw [show (w1.alloc (.cells #[.map none, .int .i64 0, .bool false] 61)).heap.size = w1.heap.size + 1 by simp] at BS0
    have BS := Lib.hid BS0
    have X2 := Lib.hid ((X1.out.alloc (.cells #[.map none, .int .i64 0, .bool false] 61)).alloc (.cells #[.pointer none, .pointer (some ⟨w1.heap.size, 0, none⟩)] 34))
    replace BA := Lib.hid (BA.out.ext (((Ext.refl w1).alloc (.cells #[.map none, .int .i64 0, .bool false] 61)).alloc (.cells #[.pointer none, .pointer (some ⟨w1.heap.size, 0, none⟩)] 34)))
    clear BS0 X1
    generalize (w1.alloc (.cells #[.map none, .int .i64 0, .bool false] 61)).alloc (.cells #[.pointer none, .pointer (some ⟨w1.heap.size, 0, none⟩)] 34) = w2 at *
    generalize w1.heap.size + 1 = g3 at *
    generalize w1.heap.size = gt at *
    have HQ := Lib.hid (fun w' (hx : Ext w2 w') => (show (w'.cell? ⟨ga, 0, none⟩ = some (.int .i64 zn) ∧ w'.cell? ⟨ga, 1, none⟩ = some (.bool zh) ∧ w'.cell? ⟨ga, 2, none⟩ = some (.string ⟨zpre.toArray⟩) ∧ w'.cell? ⟨ga, 3, none⟩ = some (.string ⟨zname.toArray⟩) ∧ w'.cell? ⟨ga, 4, none⟩ = some (.string ⟨zsuf.toArray⟩) ∧ w'.cell? ⟨ga, 5, none⟩ = some (.string ⟨zpost.toArray⟩) ∧ w'.cell? ⟨ga, 6, none⟩ = some (.string ⟨zunit.toArray⟩) ∧ w'.cell? ⟨ga, 7, none⟩ = some (.string ⟨zcity.toArray⟩) ∧ w'.cell? ⟨ga, 8, none⟩ = some (.string ⟨zstate.toArray⟩) ∧ w'.cell? ⟨ga, 9, none⟩ = some (.string ⟨zzip.toArray⟩) ∧ w'.cell? ⟨ga, 10, none⟩ = some (.string ⟨zmore.toArray⟩)) ∧ w'.cell? ⟨g3, 0, none⟩ = some (.pointer none) ∧ w'.cell? ⟨g3, 1, none⟩ = some (.pointer (some ⟨gt, 0, none⟩)) from
      have B := BA.out.ext hx; have C := BS.out.ext hx
      ⟨⟨B.cell 0, B.cell 1, B.cell 2, B.cell 3, B.cell 4, B.cell 5, B.cell 6, B.cell 7, B.cell 8, B.cell 9, B.cell 10⟩, C.cell 0, C.cell 1⟩))
    have hp00 := fun w => pt_ne 0 0 0 0 w
    have R0 := Lib.hid (show NnAt w2 (.int .i64 0) w2 from ⟨.inl rfl, Ext.refl w2⟩)
    have i1 : IntKind.i64.wrap 2 = 2 := by decide
    clear BA BS HL
    go_wp2_with fail
    go_loopw [4] (fun i wr => NnAt w2 i wr) (fun i _ => 2 - (intOf i).toNat)
    case atStart => exact R0.out
    case round =>
      clear R0
      obtain ⟨hi, hx⟩ := hrel
      obtain ⟨⟨c0, c1, c2, c3, c4, c5, c6, c7, c8, c9, c10⟩, d0, d1⟩ := HQ.out _ hx
      have xwr := Ext.refl wr
      have HQr := Lib.hid (fun w' (hy : Ext wr w') => HQ.out w' (hx.trans hy))
      rcases hi with rfl | rfl | rfl
      · go_upto_region 7 with (fail)
        go_region_held3 (fun w' => (w'.cell? ⟨ga, 0, none⟩ = some (.int .i64 zn) ∧ w'.cell? ⟨ga, 1, none⟩ = some (.bool zh) ∧ w'.cell? ⟨ga, 2, none⟩ = some (.string ⟨zpre.toArray⟩) ∧ w'.cell? ⟨ga, 3, none⟩ = some (.string ⟨zname.toArray⟩) ∧ w'.cell? ⟨ga, 4, none⟩ = some (.string ⟨zsuf.toArray⟩) ∧ w'.cell? ⟨ga, 5, none⟩ = some (.string ⟨zpost.toArray⟩) ∧ w'.cell? ⟨ga, 6, none⟩ = some (.string ⟨zunit.toArray⟩) ∧ w'.cell? ⟨ga, 7, none⟩ = some (.string ⟨zcity.toArray⟩) ∧ w'.cell? ⟨ga, 8, none⟩ = some (.string ⟨zstate.toArray⟩) ∧ w'.cell? ⟨ga, 9, none⟩ = some (.string ⟨zzip.toArray⟩) ∧ w'.cell? ⟨ga, 10, none⟩ = some (.string ⟨zmore.toArray⟩)) ∧ w'.cell? ⟨g3, 0, none⟩ = some (.pointer none))
          (with_reducible refine (fun h => And.intro h.1 h.2.1) (HQr.out _ ?_); repeat (first | (with_reducible assumption) | (with_reducible exact Ext.refl _) | (with_reducible refine Ext.drew ?_) | (with_reducible refine Ext.alloc ?_ _) | (with_reducible refine Ext.set ?_ (by first | exact Nat.le_refl _ | exact Ext.size (by assumption)) _)))
          (first
            | (go_at_call 22; refine (HF0.out _).mono ?_; rintro e w5 ⟨rfl, hx5⟩; have hy5 : Ext wr w5 := Ext.trans (by repeat (first | (with_reducible assumption) | (with_reducible exact Ext.refl _) | (with_reducible refine Ext.drew ?_) | (with_reducible refine Ext.alloc ?_ _))) hx5; have h8 : Blk w5 wr.heap.size 23 #[.int .i64 0, .int .i64 0] := (Blk.new wr.drew 23 #[.int .i64 0, .int .i64 0]).ext hx5; obtain ⟨b8, b8'⟩ := h8.cells; have l8 := h8.lt; have H8 := Lib.hid h8; clear hx5 h8)
            | (go_at_call 22; refine (HF0.out _).mono ?_; rintro e w5 ⟨rfl, hx5⟩; have hy5 : Ext wr w5 := Ext.trans (by repeat (first | (with_reducible assumption) | (with_reducible exact Ext.refl _) | (with_reducible refine Ext.drew ?_) | (with_reducible refine Ext.alloc ?_ _))) hx5; clear hx5))
        all_goals rename_i hh; clear hh
        all_goals first
          | (have B8 := (H8.out.set_ 0 (.int .i64 0)).set_ 1 (.int .i64 0)
             have X8 := (hy5.set (p := ⟨wr.heap.size, 0, none⟩) (Nat.le_refl _) (.int .i64 0)).set (p := ⟨wr.heap.size, 1, none⟩) (Nat.le_refl _) (.int .i64 0)
             clear b8 b8' l8 H8 hy5
             generalize (w5.setCell ⟨wr.heap.size, 0, none⟩ (.int .i64 0)).setCell ⟨wr.heap.size, 1, none⟩ (.int .i64 0) = W5 at *
             generalize wr.heap.size = g8 at *)
          | (have B8 := Blk.new w5 23 #[.int .i64 0, .int .i64 0]
             have X8 := hy5.alloc (.cells #[.int .i64 0, .int .i64 0] 23)
             clear hy5
             generalize w5.alloc (.cells #[.int .i64 0, .int .i64 0] 23) = W5 at *
             generalize w5.heap.size = g8 at *)
        all_goals
          obtain ⟨_, e0, e1⟩ := HQr.out _ X8
          obtain ⟨r8, _⟩ := B8.cells
          have l8 := B8.lt
          have hBT := Lib.hid (BT.out.ext (hx.trans X8))
          have hY := Lib.hid (hx.trans X8)
          clear B8 X8 c0 c1 c2 c3 c4 c5 c6 c7 c8 c9 c10 d0 d1 HQr
          go_wp2_with fail
          refine (HN0.out _).mono ?_
          rintro e w7 ⟨rfl, rfl⟩
          go_wp2_with fail
          go_roundw
        all_goals first
          | exact ⟨.inr (.inl rfl), hY.out⟩
          | (simp [intOf])
      · go_upto_region 7 with (fail)
        go_region_held3 (fun w' => (w'.cell? ⟨ga, 0, none⟩ = some (.int .i64 zn) ∧ w'.cell? ⟨ga, 1, none⟩ = some (.bool zh) ∧ w'.cell? ⟨ga, 2, none⟩ = some (.string ⟨zpre.toArray⟩) ∧ w'.cell? ⟨ga, 3, none⟩ = some (.string ⟨zname.toArray⟩) ∧ w'.cell? ⟨ga, 4, none⟩ = some (.string ⟨zsuf.toArray⟩) ∧ w'.cell? ⟨ga, 5, none⟩ = some (.string ⟨zpost.toArray⟩) ∧ w'.cell? ⟨ga, 6, none⟩ = some (.string ⟨zunit.toArray⟩) ∧ w'.cell? ⟨ga, 7, none⟩ = some (.string ⟨zcity.toArray⟩) ∧ w'.cell? ⟨ga, 8, none⟩ = some (.string ⟨zstate.toArray⟩) ∧ w'.cell? ⟨ga, 9, none⟩ = some (.string ⟨zzip.toArray⟩) ∧ w'.cell? ⟨ga, 10, none⟩ = some (.string ⟨zmore.toArray⟩)) ∧ w'.cell? ⟨g3, 1, none⟩ = some (.pointer (some ⟨gt, 0, none⟩)))
          (with_reducible refine (fun h => And.intro h.1 h.2.2) (HQr.out _ ?_); repeat (first | (with_reducible assumption) | (with_reducible exact Ext.refl _) | (with_reducible refine Ext.drew ?_) | (with_reducible refine Ext.alloc ?_ _) | (with_reducible refine Ext.set ?_ (by first | exact Nat.le_refl _ | exact Ext.size (by assumption)) _)))
          (first
            | (go_at_call 22; refine (HF1.out _ gt _ _ (BT.out.ext (hx.trans (by repeat (first | (with_reducible assumption) | (with_reducible exact Ext.refl _) | (with_reducible refine Ext.drew ?_) | (with_reducible refine Ext.alloc ?_ _)))))).mono ?_; rintro e w5 ⟨rfl, hx5⟩; have hy5 : Ext wr w5 := Ext.trans (by repeat (first | (with_reducible assumption) | (with_reducible exact Ext.refl _) | (with_reducible refine Ext.drew ?_) | (with_reducible refine Ext.alloc ?_ _))) hx5; have h8 : Blk w5 wr.heap.size 23 #[.int .i64 0, .int .i64 0] := (Blk.new wr.drew 23 #[.int .i64 0, .int .i64 0]).ext hx5; obtain ⟨b8, b8'⟩ := h8.cells; have l8 := h8.lt; have H8 := Lib.hid h8; clear hx5 h8)
            | (go_at_call 22; refine (HF1.out _ gt _ _ (BT.out.ext (hx.trans (by repeat (first | (with_reducible assumption) | (with_reducible exact Ext.refl _) | (with_reducible refine Ext.drew ?_) | (with_reducible refine Ext.alloc ?_ _)))))).mono ?_; rintro e w5 ⟨rfl, hx5⟩; have hy5 : Ext wr w5 := Ext.trans (by repeat (first | (with_reducible assumption) | (with_reducible exact Ext.refl _) | (with_reducible refine Ext.drew ?_) | (with_reducible refine Ext.alloc ?_ _))) hx5; clear hx5))
        all_goals rename_i hh; clear hh
        all_goals first
          | (have B8 := (H8.out.set_ 0 (.int .i64 0)).set_ 1 (.int .i64 0)
             have X8 := (hy5.set (p := ⟨wr.heap.size, 0, none⟩) (Nat.le_refl _) (.int .i64 0)).set (p := ⟨wr.heap.size, 1, none⟩) (Nat.le_refl _) (.int .i64 0)
             clear b8 b8' l8 H8 hy5
             generalize (w5.setCell ⟨wr.heap.size, 0, none⟩ (.int .i64 0)).setCell ⟨wr.heap.size, 1, none⟩ (.int .i64 0) = W5 at *
             generalize wr.heap.size = g8 at *)
          | (have B8 := Blk.new w5 23 #[.int .i64 0, .int .i64 0]
             have X8 := hy5.alloc (.cells #[.int .i64 0, .int .i64 0] 23)
             clear hy5
             generalize w5.alloc (.cells #[.int .i64 0, .int .i64 0] 23) = W5 at *
             generalize w5.heap.size = g8 at *)
        all_goals
          obtain ⟨_, e0, e1⟩ := HQr.out _ X8
          obtain ⟨r8, _⟩ := B8.cells
          have l8 := B8.lt
          have hBT := Lib.hid (BT.out.ext (hx.trans X8))
          have hY := Lib.hid (hx.trans X8)
          clear B8 X8 c0 c1 c2 c3 c4 c5 c6 c7 c8 c9 c10 d0 d1 HQr
          go_wp2_with fail
          refine (HN1.out _ gt _ _ hBT.out).mono ?_
          rintro e w7 ⟨rfl, rfl⟩
          go_wp2_with fail
          go_roundw
        all_goals first
          | exact ⟨.inr (.inr rfl), hY.out⟩
          | (simp [intOf])
      · have hE := Lib.hid (X2.out.trans hx)
        go_wp2_with fail
        refine (HW.out _ hE.out).mono ?_
        rintro e w9 ⟨rfl, hx9⟩
        go_wp2_with fail
        go_ret
        exact ⟨rfl, hE.out.trans hx9⟩
end Go.Proofs.YtjaponmpfdpemaaGreatDoor
