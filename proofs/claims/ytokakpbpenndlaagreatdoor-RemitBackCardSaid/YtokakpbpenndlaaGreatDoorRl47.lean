/-
  The statement RemitBack: the walk.
-/
import Derived.Test.YtokakpbpenndlaaGreatDoorRl41
import Derived.Test.YtokakpbpenndlaaGreatDoorRl42
import Derived.Test.YtokakpbpenndlaaGreatDoorRl46
import Derived.Test.YtokakpbpenndlaaGreatDoorRl06
import Derived.Deep.DeepCutAuto
import Derived.LaidEql
import Derived.Test.YtokakpbpenndlaaGreatDoorRows
import Derived.ProofKit
import Derived.Test.YtokakpbpenndlaaGreatDoorRl19
import Derived.Test.YtokakpbpenndlaaGreatDoorRl39
import Derived.Test.YtokakpbpenndlaaGreatDoorTie
import Derived.Test.YtokakpbpenndlaaGreatDoorCards
import Derived.LaidMore
import Derived.Stop.Joined
import Derived.Lib.LaidTab
set_option linter.unusedVariables false
namespace Go.Proofs.YtokakpbpenndlaaGreatDoor
open Go.RowKit Go.Maps

theorem eql_rep (x y : Rep) (r : Bool) (h : r = decide (x = y)) (w : World) : (binOp .eql 23 x.V y.V).run Tryz.prog w = .ok (.bool r) w := by
  obtain ⟨a1, a2, a3, a4, a5, a6, a7, a8⟩ := x
  obtain ⟨b1, b2, b3, b4, b5, b6, b7, b8⟩ := y
  subst h
  by_cases h1 : a1 = b1
  case neg => simp [go_sem, h1]
  by_cases h2 : a2 = b2
  case neg => simp [go_sem, h1, h2]
  by_cases h3 : a3 = b3
  case neg => simp [go_sem, h1, h2, h3]
  by_cases h4 : a4 = b4
  case neg => simp [go_sem, h1, h2, h3, h4]
  by_cases h5 : a5 = b5
  case neg => simp [go_sem, h1, h2, h3, h4, h5]
  by_cases h6 : a6 = b6
  case neg => simp [go_sem, h1, h2, h3, h4, h5, h6]
  by_cases h7 : a7 = b7
  case neg => simp [go_sem, h1, h2, h3, h4, h5, h6, h7]
  by_cases h8 : a8 = b8
  case neg => simp [go_sem, h1, h2, h3, h4, h5, h6, h7, h8]
  subst h1 h2 h3 h4 h5 h6 h7 h8
  simp [go_sem]
theorem neq_rep (x y : Rep) (r : Bool) (h : r = decide (x ≠ y)) (w : World) : (binOp .neq 23 x.V y.V).run Tryz.prog w = .ok (.bool r) w := by
  obtain ⟨a1, a2, a3, a4, a5, a6, a7, a8⟩ := x
  obtain ⟨b1, b2, b3, b4, b5, b6, b7, b8⟩ := y
  subst h
  by_cases h1 : a1 = b1
  case neg => simp [go_sem, h1]
  by_cases h2 : a2 = b2
  case neg => simp [go_sem, h1, h2]
  by_cases h3 : a3 = b3
  case neg => simp [go_sem, h1, h2, h3]
  by_cases h4 : a4 = b4
  case neg => simp [go_sem, h1, h2, h3, h4]
  by_cases h5 : a5 = b5
  case neg => simp [go_sem, h1, h2, h3, h4, h5]
  by_cases h6 : a6 = b6
  case neg => simp [go_sem, h1, h2, h3, h4, h5, h6]
  by_cases h7 : a7 = b7
  case neg => simp [go_sem, h1, h2, h3, h4, h5, h6, h7]
  by_cases h8 : a8 = b8
  case neg => simp [go_sem, h1, h2, h3, h4, h5, h6, h7, h8]
  subst h1 h2 h3 h4 h5 h6 h7 h8
  simp [go_sem]
theorem rep_len {r : Rep} : r.bytes.length ≤ 1000 := by
  unfold Rep.bytes
  split
  · have := putsL_len r.ints
    have h8 : r.ints.length = 8 := rfl
    omega
  · simp
theorem readRep_cases (b : List UInt8) : ((readRep b).2 = 0 ∧ (readRep b).1 = (repP b).1) ∨ readRep b = (Rep.zero, 4) := by
  unfold readRep
  by_cases h : (repP b).2.fin.1 ≠ 0 ∨ (repP b).1.check ≠ 0
  · rw [if_pos h]; exact .inr rfl
  · rw [if_neg h]; exact .inl ⟨rfl, rfl⟩
set_option maxRecDepth 100000 in
set_option maxHeartbeats 4000000 in
theorem remitBack_any (r : Rep) (hi : r.i64s) (b : List UInt8) (B : Option Addr) (cb : Nat) (w : World) (hb : Reads w w.heap.size 1 B b.length (bV b)) (hbm : b.length ≤ maxLen) (ht : Tab10 w) :
    Calls Tryz.prog 4 #[r.V, .slice B b.length cb] w fun e w' => e = .returned (.bool true) ∧ Ext w w' := by
  have X0 := (Ext.refl w).alloc (.cells #[.int .i64 r.j, .int .i64 r.k, .int .i64 r.p, .int .i64 r.t, .int .i64 r.x, .int .i64 r.v, .int .i64 r.s, .int .i64 r.r] 23)
  have B0 := Blk.new w 23 #[.int .i64 r.j, .int .i64 r.k, .int .i64 r.p, .int .i64 r.t, .int .i64 r.x, .int .i64 r.v, .int .i64 r.s, .int .i64 r.r]
  have HI := Lib.hid hi
  have HBy := Lib.hid (fun W (h : Ext w W) => hb.extB (Nat.le_refl _) h |>.more h.size)
  have HT := Lib.hid (fun W (h : Ext w W) => ht.ext h)
  clear ht hb hi
  unfold maxLen at hbm
  go_enter Tryz.func4, Tryz.ntmps4
  go_wp2_with fail
  refine (awake30_any _ (HT.out _ X0)).mono ?_
  rintro e w1 ⟨rfl, hx1⟩
  have X1 := X0.trans hx1
  have B1 := B0.ext hx1
  clear X0 B0 hx1
  by_cases g1 : 200 < b.length
  · have d1 : decide ((200 : Int) < (b.length : Int)) = true := by simp; omega
    go_wp2_with fail
    go_ret
    exact ⟨rfl, X1⟩
  have d1 : decide ((200 : Int) < (b.length : Int)) = false := by simp; omega
  obtain ⟨q, q'⟩ := B1.cells
  go_wp2_with fail
  refine (rbytes30_any r HI.out _).mono ?_
  rintro e w2 ⟨v2, rfl, ho2, hx2, _⟩
  obtain ⟨A2, c2, rfl, l1, l2, hr2⟩ := own_slice ho2
  have X2 := X1.trans hx2
  have B2 := B1.ext hx2
  clear X1 B1 hx2 q q' ho2 d1
  obtain ⟨q, q'⟩ := B2.cells
  go_wp2_with fail
  refine (rrcheck_any r HI.out.k _).mono ?_
  rintro e w3 ⟨rfl, hx3⟩
  have hneq : (r.check != r.check) = false := by simp
  have X3 := X2.trans hx3
  have B3 := B2.ext hx3
  have hr3 := hr2.ext hx3
  clear q q' X2 B2 hr2 hx3
  obtain ⟨q, q'⟩ := B3.cells
  go_upto_if 29 with (fail)
  go_cut [8, 9] (fun _ _ wx => Ext w wx)
  case first =>
    by_cases hc : r.check = 0
    · have hcb : (r.check == 0) = true := by simpa using hc
      have hrd := Lib.hid (rep_put hc HI.out.t HI.out.x HI.out.v)
      have hn := rep_len (r := r)
      have hnq := neq_rep r r false (by simp)
      replace hc := Lib.hid hc
      go_wp2_with fail
      refine (rread30_any r.bytes A2 c2 _ hr3 (by omega)).mono ?_
      rintro e w4 ⟨rfl, hx4⟩
      rw [hrd.out]
      simp only
      have B4 := Blk.new w4 23 #[.int .i64 r.j, .int .i64 r.k, .int .i64 r.p, .int .i64 r.t, .int .i64 r.x, .int .i64 r.v, .int .i64 r.s, .int .i64 r.r]
      have X4 := (X3.trans hx4).alloc (.cells #[.int .i64 r.j, .int .i64 r.k, .int .i64 r.p, .int .i64 r.t, .int .i64 r.x, .int .i64 r.v, .int .i64 r.s, .int .i64 r.r] 23)
      have B34 := (B3.ext hx4).alloc (.cells #[.int .i64 r.j, .int .i64 r.k, .int .i64 r.p, .int .i64 r.t, .int .i64 r.x, .int .i64 r.v, .int .i64 r.s, .int .i64 r.r] 23)
      clear X3 B3 hx4 q q' hr3
      obtain ⟨p, p'⟩ := B34.cells
      go_wp2_with fail
      go_meet
      exact X4
    · have hcb : (r.check == 0) = false := by simpa using hc
      replace hc := Lib.hid hc
      go_wp2_with fail
      go_meet
      exact X3
  clear q q' hr3 B3 X3 l1 l2
  go_wp2_with fail
  refine (rread30_any b B cb _ (HBy.out _ hcut) (by omega)).mono ?_
  rintro e w5 ⟨rfl, hx5⟩
  have X5 := hcut.trans hx5
  rcases readRep_cases b with ⟨h0, h1⟩ | h4
  · obtain ⟨i1, i2⟩ := rep_inv h0
    have i3 : (readRep b).1.i64s := by rw [h1]; exact repP_i64 b
    generalize (readRep b).1 = z at *
    rw [h0]
    replace h0 := Lib.hid h0
    have B6 := Blk.new w5 23 #[.int .i64 z.j, .int .i64 z.k, .int .i64 z.p, .int .i64 z.t, .int .i64 z.x, .int .i64 z.v, .int .i64 z.s, .int .i64 z.r]
    have X6 := X5.alloc (.cells #[.int .i64 z.j, .int .i64 z.k, .int .i64 z.p, .int .i64 z.t, .int .i64 z.x, .int .i64 z.v, .int .i64 z.s, .int .i64 z.r] 23)
    obtain ⟨q, q'⟩ := B6.cells
    have HZ := Lib.hid (rbytes30_any z i3)
    rw [i1, i2] at HZ
    replace i1 := Lib.hid i1
    replace i2 := Lib.hid i2
    replace h1 := Lib.hid h1
    clear hcut hx5 X5
    go_wp2_with fail
    refine (HZ.out _).mono ?_
    rintro e w7 ⟨v7, rfl, ho7, hx7, _⟩
    obtain ⟨A7, c7, rfl, _, _, hr7⟩ := own_slice ho7
    have X7 := X6.trans hx7
    have HB7 := Lib.hid (HBy.out _ X7)
    clear q q' X6 B6 hx7 ho7
    go_wp2_with fail
    refine (sameBytes_any b b A7 B b.length b.length c7 cb _ hr7 HB7.out).mono ?_
    rintro e w8 ⟨rfl, rfl⟩
    have heq : (b == b) = true := by simp
    go_wp2_with fail
    go_ret
    exact ⟨rfl, X7⟩
  · rw [h4]
    have X6 := X5.alloc (.cells #[.int .i64 0, .int .i64 0, .int .i64 0, .int .i64 0, .int .i64 0, .int .i64 0, .int .i64 0, .int .i64 0] 23)
    have B6 := Blk.new w5 23 #[.int .i64 0, .int .i64 0, .int .i64 0, .int .i64 0, .int .i64 0, .int .i64 0, .int .i64 0, .int .i64 0]
    obtain ⟨q, q'⟩ := B6.cells
    have hez := eql_rep Rep.zero Rep.zero true (by simp)
    unfold Rep.V Rep.zero at hez
    unfold Rep.zero
    simp only at hez ⊢
    replace h4 := Lib.hid h4
    go_wp2_with fail
    go_ret
    exact ⟨rfl, X6⟩
end Go.Proofs.YtokakpbpenndlaaGreatDoor

set_option linter.unusedVariables false
namespace Go.Proofs.YtokakpbpenndlaaGreatDoor
theorem Tryz.own : ownKnob Tryz.prog.godebug = none := by kernel_rfl
theorem Tryz.laidOut : laidOutB Tryz.prog = true := by kernel_rfl
end Go.Proofs.YtokakpbpenndlaaGreatDoor

set_option linter.unusedVariables false
namespace Go.Proofs.YtokakpbpenndlaaGreatDoor
open Go.RowKit

theorem opens_rep : Opens Tryz.prog 23 (fun _ cs => ∃ r : Rep, cs = [.int .i64 r.j, .int .i64 r.k, .int .i64 r.p, .int .i64 r.t, .int .i64 r.x, .int .i64 r.v, .int .i64 r.s, .int .i64 r.r] ∧ r.i64s) :=
  (opens_fields Tryz.underlying23 (.cons 1 opens_i (by kernel_rfl) (.cons 1 opens_i (by kernel_rfl) (.cons 1 opens_i (by kernel_rfl) (.cons 1 opens_i (by kernel_rfl) (.cons 1 opens_i (by kernel_rfl) (.cons 1 opens_i (by kernel_rfl) (.cons 1 opens_i (by kernel_rfl) (.cons 1 opens_i (by kernel_rfl) .nil)))))))) (by kernel_rfl)).mono fun w cs h => by
    obtain ⟨_, _, rfl, _, ⟨a, rfl, h1⟩, _, _, rfl, _, ⟨b, rfl, h2⟩, _, _, rfl, _, ⟨c, rfl, h3⟩, _, _, rfl, _, ⟨d, rfl, h4⟩, _, _, rfl, _, ⟨e, rfl, h5⟩, _, _, rfl, _, ⟨f, rfl, h6⟩, _, _, rfl, _, ⟨g, rfl, h7⟩, _, _, rfl, _, ⟨i, rfl, h8⟩, rfl⟩ := h
    exact ⟨⟨a, b, c, d, e, f, g, i⟩, rfl, ⟨h1, h2, h3, h4, h5, h6, h7, h8⟩⟩
/-- The row's list. -/
def laid3 {H : Type} : List (String × DataW H) := [("math/bits.deBruijn32tab", Rows.laid_math_bits_deBruijn32tab), ("math/bits.deBruijn64tab", Rows.laid_math_bits_deBruijn64tab), ("internal/strconv.uint64pow10", Rows.laid_internal_strconv_uint64pow10)]
theorem door_met (os : Os) (args : Array Value) : laidMetH Tryz.prog laid3 ((World.doorLaid Tryz.prog 24 os).forCall (fun _ _ => 0) ⟨#[], args, []⟩).memory :=
  laidMetH_of_parts3 (fuel := 8) (laidMet_of_run' 8 (by kernel_rfl) (by kernel_rfl)) (by kernel_rfl) (by kernel_rfl)
/-- The table of powers, out of the condition. -/
theorem tab_of_laid {W : World} (h : laidMetH Tryz.prog laid3 W) : Tab10 W := by
  rw [MakeChecks.laidMetH_plain _ _ _ (by kernel_rfl)] at h
  obtain ⟨ps, ⟨_, _, _, _, _, _, _, _, _, _, ⟨_, _, _, _, _, _, _, _, _, _, ⟨g', t', cs, fuel, p, q, hg', ht', hvar, hd, _, _⟩, _⟩, _⟩, _⟩ := h
  have hg : Tryz.prog.globalNamed "internal/strconv.uint64pow10" = some 0 := by kernel_rfl
  have hty : (Tryz.prog.globals[0]?).map (·.type) = some 243 := by kernel_rfl
  obtain rfl := Option.some.inj (hg.symm.trans hg')
  obtain rfl := Option.some.inj (hty.symm.trans ht')
  unfold Tab10 Lib.TabIs
  rw [hvar, ← Lib.cells_of_tab (zs := Lib.pow10Tab) Tryz.underlying243 Tryz.underlying132 (by kernel_rfl) (by kernel_rfl) hd]
end Go.Proofs.YtokakpbpenndlaaGreatDoor
