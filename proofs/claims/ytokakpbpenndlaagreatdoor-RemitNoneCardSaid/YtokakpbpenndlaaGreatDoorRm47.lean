/-
  The statement RemitNone: the walk.
-/
import Derived.Test.YtokakpbpenndlaaGreatDoorRm46
import Derived.Test.YtokakpbpenndlaaGreatDoorRm35
import Derived.Test.YtokakpbpenndlaaGreatDoorRows
import Derived.ProofKit
import Derived.Test.YtokakpbpenndlaaGreatDoorRm18
import Derived.Test.YtokakpbpenndlaaGreatDoorRm38
import Derived.Test.YtokakpbpenndlaaGreatDoorTie
import Derived.Test.YtokakpbpenndlaaGreatDoorCards
import Derived.LaidMore
import Derived.Stop.Joined
import Derived.Lib.LaidTab
set_option linter.unusedVariables false
namespace Go.Proofs.YtokakpbpenndlaaGreatDoor
open Go.RowKit Go.Maps

set_option maxRecDepth 100000 in
set_option maxHeartbeats 1000000 in
theorem rall_n {W : World} {v : Value} (h : NoneB W v) (l : List JV) (A : Option Addr) (cap : Nat) (hr : Reads W W.heap.size 5 A l.length (jvCells l)) (hm : l.length ≤ maxLen) : Calls Tryz.prog 31 #[v, .slice A l.length cap] W fun e w' => e = .returned (.slice none 0 0) ∧ Ext W w' := by
  have HC := Lib.hid (jcheck_any l A cap W hr hm)
  have HN := Lib.hid (fun W' (hx : Ext W W') => rnone_n (h.ext hx))
  clear h hr hm
  by_cases h0 : (checkJ (jsOf l)).1 = 0
  · have hb : ((checkJ (jsOf l)).1 != 0) = false := by simp [h0]
    replace h0 := Lib.hid h0
    generalize checkJ (jsOf l) = C at *
    go_enter Tryz.func31, Tryz.ntmps31
    go_wp2_with fail
    refine HC.out.mono ?_
    rintro e w1 ⟨rfl, hx⟩
    go_wp2_with fail
    refine (HN.out _ hx).mono ?_
    rintro e w2 ⟨rfl, hx2⟩
    go_wp2_with fail
    go_ret
    exact ⟨rfl, hx.trans hx2⟩
  · have hb : ((checkJ (jsOf l)).1 != 0) = true := by simpa using h0
    replace h0 := Lib.hid h0
    generalize checkJ (jsOf l) = C at *
    go_enter Tryz.func31, Tryz.ntmps31
    go_wp2_with fail
    refine HC.out.mono ?_
    rintro e w1 ⟨rfl, hx⟩
    go_wp2_with fail
    go_ret
    exact ⟨rfl, hx⟩
def RnRel (w3 : World) (i : Value) (wr : World) : Prop := ∃ k : Nat, k ≤ 2 ∧ i = .int .i64 (k : Int) ∧ Ext w3 wr
set_option maxRecDepth 100000 in
set_option maxHeartbeats 2000000 in
theorem remitNone_any (l : List JX) (A : Option Addr) (cap : Nat) (id p : Int) (w : World) (hr : Reads w w.heap.size 5 A l.length (jvCells (jvs l))) (hm : l.length ≤ maxLen) (hok : ∀ x ∈ l, x.ok w) (ht : Tab10 w) :
    Calls Tryz.prog 6 #[.slice A l.length cap, .int .i64 id, .int .i64 p] w fun e w' => e = .returned (.bool true) ∧ Ext w w' := by
  have HT := Lib.hid (fun W (h : Ext w W) => ht.ext h)
  have HR := Lib.hid (fun W (h : Ext w W) => (show Reads W W.heap.size 5 A (jvs l).length (jvCells (jvs l)) from by rw [jvs_len]; exact hr.ext h))
  have HB := Lib.hid (bigJuris_any l A cap 80 w hr hm hok (by omega))
  have HM := Lib.hid (show (jvs l).length ≤ maxLen by rw [jvs_len]; exact hm)
  have HL := Lib.hid (jvs_len l)
  clear hr hm hok ht
  go_enter Tryz.func6, Tryz.ntmps6
  go_wp2_with fail
  refine HB.out.mono ?_
  rintro e w1 ⟨b, rfl, _, rfl⟩
  cases b
  case true =>
    go_wp2_with fail
    refine (awake30_any _ (HT.out _ (Ext.refl _))).mono ?_
    rintro e w1 ⟨rfl, hx⟩
    go_wp2_with fail
    go_ret
    exact ⟨rfl, hx⟩
  have BB := Blk.new w 66 #[.slice none 0 0, .map none]
  have XB := (Ext.refl w).alloc (.cells #[.slice none 0 0, .map none] 66)
  have hz : (w.alloc (.cells #[.slice none 0 0, .map none] 66)).heap.size = w.heap.size + 1 := by simp
  go_wp2_with fail
  generalize w.alloc (.cells #[.slice none 0 0, .map none] 66) = w2 at *
  have BL := Blk.new w2 42 #[.pointer none, .pointer (some ⟨w.heap.size, 0, none⟩)]
  have XL := (Ext.refl w2).alloc (.cells #[.pointer none, .pointer (some ⟨w.heap.size, 0, none⟩)] 42)
  rw [hz] at BL
  generalize w2.alloc (.cells #[.pointer none, .pointer (some ⟨w.heap.size, 0, none⟩)] 42) = w3 at *
  have X3 := XB.trans XL
  have BB3 := BB.ext XL
  clear BB XB XL hz
  generalize w.heap.size + 1 = gL at *
  generalize hgB : w.heap.size = gB at *
  go_loopw [9] (fun i wr => RnRel w3 i wr) (fun i _ => 2 - (intOf i).toNat)
  case atStart => exact ⟨0, by omega, rfl, Ext.refl _⟩
  case round =>
    obtain ⟨k, hk, rfl, hx⟩ := hrel
    have hnq := neq_rep Rep.zero Rep.zero false (by simp)
    unfold Rep.V Rep.zero at hnq
    simp only at hnq
    rcases (show k = 0 ∨ k = 1 ∨ k = 2 by omega) with rfl | rfl | rfl
    · obtain ⟨q, q'⟩ := (BL.ext hx).cells
      go_wp2_with fail
      have HN := Lib.hid (fun (W : World) => (show NoneB W (.pointer none) from .inl rfl))
      refine (rfile_n (HN.out _) (.slice A l.length cap) id p).mono ?_
      rintro e w4 ⟨rfl, hx4⟩
      have B5 := Blk.new w4 23 #[.int .i64 0, .int .i64 0, .int .i64 0, .int .i64 0, .int .i64 0, .int .i64 0, .int .i64 0, .int .i64 0]
      have X5 := (hx.trans hx4).alloc (.cells #[.int .i64 0, .int .i64 0, .int .i64 0, .int .i64 0, .int .i64 0, .int .i64 0, .int .i64 0, .int .i64 0] 23)
      clear q q'
      obtain ⟨q, q'⟩ := (BL.ext X5).cells
      obtain ⟨r, r'⟩ := B5.cells
      have HA := Lib.hid (rall_n (HN.out _) (jvs l) A cap (HR.out _ (X3.trans X5)) HM.out)
      rw [HL.out] at HA
      unfold Rep.zero
      simp only
      go_wp2_with fail
      refine HA.out.mono ?_
      rintro e w6 ⟨rfl, hx6⟩
      go_wp2_with fail
      go_roundw
      case rel => exact ⟨1, by omega, rfl, X5.trans hx6⟩
      case measure => simp [intOf]
    · obtain ⟨q, q'⟩ := (BL.ext hx).cells
      have HN := Lib.hid (fun (W : World) (h : Ext w3 W) => (show NoneB W (.pointer (some ⟨gB, 0, none⟩)) from .inr ⟨gB, rfl, BB3.ext h⟩))
      go_wp2_with fail
      refine (rfile_n (HN.out _ hx) (.slice A l.length cap) id p).mono ?_
      rintro e w4 ⟨rfl, hx4⟩
      have B5 := Blk.new w4 23 #[.int .i64 0, .int .i64 0, .int .i64 0, .int .i64 0, .int .i64 0, .int .i64 0, .int .i64 0, .int .i64 0]
      have X5 := (hx.trans hx4).alloc (.cells #[.int .i64 0, .int .i64 0, .int .i64 0, .int .i64 0, .int .i64 0, .int .i64 0, .int .i64 0, .int .i64 0] 23)
      clear q q'
      obtain ⟨q, q'⟩ := (BL.ext X5).cells
      obtain ⟨r, r'⟩ := B5.cells
      have HA := Lib.hid (rall_n (HN.out _ X5) (jvs l) A cap (HR.out _ (X3.trans X5)) HM.out)
      rw [HL.out] at HA
      unfold Rep.zero
      simp only
      go_wp2_with fail
      refine HA.out.mono ?_
      rintro e w6 ⟨rfl, hx6⟩
      go_wp2_with fail
      go_roundw
      case rel => exact ⟨2, by omega, rfl, X5.trans hx6⟩
      case measure => simp [intOf]
    · go_wp2_with fail
      refine (awake30_any _ (HT.out _ (X3.trans hx))).mono ?_
      rintro e w4 ⟨rfl, hx4⟩
      go_wp2_with fail
      go_ret
      exact ⟨rfl, (X3.trans hx).trans hx4⟩
end Go.Proofs.YtokakpbpenndlaaGreatDoor

set_option linter.unusedVariables false
namespace Go.Proofs.YtokakpbpenndlaaGreatDoor
theorem Tryz.own : ownKnob Tryz.prog.godebug = none := by kernel_rfl
theorem Tryz.laidOut : laidOutB Tryz.prog = true := by kernel_rfl
end Go.Proofs.YtokakpbpenndlaaGreatDoor

set_option linter.unusedVariables false
namespace Go.Proofs.YtokakpbpenndlaaGreatDoor
open Go.RowKit

theorem opens_rep : Opens Tryz.prog 23 (fun _ cs => ∃ r : Rep, cs = [.int .i64 r.j, .int .i64 r.k, .int .i64 r.p, .int .i64 r.t, .int .i64 r.x, .int .i64 r.v, .int .i64 r.s, .int .i64 r.r] ∧ r.i64s) :=
  (opens_fields Tryz.underlying23 (.cons 1 opens_i (by kernel_rfl) (.cons 1 opens_i (by kernel_rfl) (.cons 1 opens_i (by kernel_rfl) (.cons 1 opens_i (by kernel_rfl) (.cons 1 opens_i (by kernel_rfl) (.cons 1 opens_i (by kernel_rfl) (.cons 1 opens_i (by kernel_rfl) (.cons 1 opens_i (by kernel_rfl) .nil)))))))) (by kernel_rfl)).mono fun w cs h => by
    obtain ⟨_, _, rfl, _, ⟨a, rfl, h1⟩, _, _, rfl, _, ⟨b, rfl, h2⟩, _, _, rfl, _, ⟨c, rfl, h3⟩, _, _, rfl, _, ⟨d, rfl, h4⟩, _, _, rfl, _, ⟨e, rfl, h5⟩, _, _, rfl, _, ⟨f, rfl, h6⟩, _, _, rfl, _, ⟨g, rfl, h7⟩, _, _, rfl, _, ⟨i, rfl, h8⟩, rfl⟩ := h
    exact ⟨⟨a, b, c, d, e, f, g, i⟩, rfl, ⟨h1, h2, h3, h4, h5, h6, h7, h8⟩⟩
/-- The row's list. -/
def laid3 {H : Type} : List (String × DataW H) := [("math/bits.deBruijn32tab", Rows.laid_math_bits_deBruijn32tab), ("math/bits.deBruijn64tab", Rows.laid_math_bits_deBruijn64tab), ("internal/strconv.uint64pow10", Rows.laid_internal_strconv_uint64pow10)]
theorem door_met (os : Os) (args : Array Value) : laidMetH Tryz.prog laid3 ((World.doorLaid Tryz.prog 24 os).forCall (fun _ _ => 0) ⟨#[], args, []⟩).memory :=
  laidMetH_of_parts3 (fuel := 8) (laidMet_of_run' 8 (by kernel_rfl) (by kernel_rfl)) (by kernel_rfl) (by kernel_rfl)
/-- The table of powers, out of the condition. -/
theorem tab_of_laid {W : World} (h : laidMetH Tryz.prog laid3 W) : Tab10 W := by
  rw [MakeChecks.laidMetH_plain _ _ _ (by kernel_rfl)] at h
  obtain ⟨ps, ⟨_, _, _, _, _, _, _, _, _, _, ⟨_, _, _, _, _, _, _, _, _, _, ⟨g', t', cs, fuel, p, q, hg', ht', hvar, hd, _, _⟩, _⟩, _⟩, _⟩ := h
  have hg : Tryz.prog.globalNamed "internal/strconv.uint64pow10" = some 0 := by kernel_rfl
  have hty : (Tryz.prog.globals[0]?).map (·.type) = some 243 := by kernel_rfl
  obtain rfl := Option.some.inj (hg.symm.trans hg')
  obtain rfl := Option.some.inj (hty.symm.trans ht')
  unfold Tab10 Lib.TabIs
  rw [hvar, ← Lib.cells_of_tab (zs := Lib.pow10Tab) Tryz.underlying243 Tryz.underlying132 (by kernel_rfl) (by kernel_rfl) hd]
end Go.Proofs.YtokakpbpenndlaaGreatDoor
