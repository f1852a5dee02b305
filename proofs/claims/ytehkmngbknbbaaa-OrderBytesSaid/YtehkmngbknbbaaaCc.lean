/-
  order.Back, order.Return where products fit 64 bits.
-/
import Derived.Test.YtehkmngbknbbaaaCb
import Derived.Test.YtehkmngbknbbaaaAb
import Derived.Test.YtehkmngbknbbaaaAy
namespace Go.Proofs.Ytehkmngbknbbaaa
open Go.RowKit

set_option maxRecDepth 100000 in
theorem even_lo (a b c : Nat) (ha : a < 9223372036854775808) (hb : b < 9223372036854775808) (hc : 0 < c) (hc2 : c < 9223372036854775808) (hab : a * b < 18446744073709551616) (hq : evenN a b c < 9223372036854775808) (w : World) :
    Calls Try.prog 84 #[.int .i64 (a : Int), .int .i64 (b : Int), .int .i64 (c : Int)] w fun e w' => e = .returned (.tuple #[.int .i64 (evenN a b c : Int), .int .i64 0]) ∧ Ext w w' := by
  replace hq := Lib.hid hq
  replace hab := Lib.hid hab
  go_enter Try.func84, Try.ntmps84
  go_wp2_with fail
  refine (divide_lo a b c ha hb hc hc2 hab.out hq.out _).mono ?_
  rintro e w' ⟨rfl, hx⟩
  go_wp2_with fail
  exact bodyPost_ret (results_tmp2 rfl _ _ _) rfl ⟨rfl, hx⟩

set_option maxRecDepth 100000 in
set_option maxHeartbeats 1000000 in
theorem back_lo (t n b a : Nat) (hn : 0 < n) (hn2 : n ≤ 4611686018427387904) (ht : t ≤ 4611686018427387904) (hba : b ≤ a) (han : a ≤ n) (h1 : t * a < 18446744073709551616) (h2 : t * b < 18446744073709551616) (h3 : evenN t a n < 9223372036854775808) (h4 : evenN t b n < 9223372036854775808) (w : World) :
    Calls Try.prog 31 #[.int .i64 (t : Int), .int .i64 (n : Int), .int .i64 (b : Int), .int .i64 (a : Int)] w fun e w' => e = .returned (.tuple #[.int .i64 ((evenN t a n : Int) - evenN t b n), .int .i64 0]) ∧ Ext w w' := by
  have w1 : win (t : Int) 0 4611686018427387904 = true := by unfold win; simp; omega
  have w2 : win (n : Int) 0 4611686018427387904 = true := by unfold win; simp; omega
  have g1 : decide ((b : Int) < 0) = false := by simp
  have g2 : decide ((a : Int) < (b : Int)) = false := by simp; omega
  have g3 : decide ((n : Int) < (a : Int)) = false := by simp; omega
  have g4 : ((n : Int) == 0) = false := by rw [beq_eq_false_iff_ne]; omega
  replace h1 := Lib.hid h1
  replace h2 := Lib.hid h2
  have hw : RowKit.wrap64 ((evenN t a n : Int) - evenN t b n) = (evenN t a n : Int) - evenN t b n := by unfold RowKit.wrap64; omega
  replace h3 := Lib.hid h3
  replace h4 := Lib.hid h4
  go_enter Try.func31, Try.ntmps31
  go_wp2_with (go_at_call 65; refine (within_any _ _ _ _).mono ?_; rintro e w' ⟨rfl, rfl⟩)
  refine (even_lo t a n (by omega) (by omega) hn (by omega) h1.out h3.out _).mono ?_
  rintro e v1 ⟨rfl, hx1⟩
  go_wp2_with fail
  refine (even_lo t b n (by omega) (by omega) hn (by omega) h2.out h4.out _).mono ?_
  rintro e v2 ⟨rfl, hx2⟩
  go_wp2_with fail
  exact bodyPost_ret (results_tmp2 rfl _ _ _) rfl ⟨by show Ending.returned (.tuple #[.int .i64 (RowKit.wrap64 ((evenN t a n : Int) - evenN t b n)), .int .i64 0]) = _; rw [hw], hx1.trans hx2⟩
def taxV (a b c d e f : Int) : Value := .agg #[.int .i64 a, .int .i64 b, .int .i64 c, .int .i64 d, .int .i64 e, .int .i64 f]
theorem ld_tax {w : World} {g : Nat} {a b c d e f : Value} (h : Blk w g 46 #[a, b, c, d, e, f]) : (loadVar 46 ⟨g, 0, none⟩).run Try.prog w = .ok (.agg #[a, b, c, d, e, f]) w := by
  have q := h.cell
  simp [go_sem, q]
set_option maxRecDepth 100000 in
theorem sample_any (w : World) : Calls Try.prog 36 #[] w fun e w' => e = .returned (taxV 0 1 100 0 72500 7) ∧ Ext w w' := by
  go_enter Try.func36, Try.ntmps36
  go_wp2
  exact bodyPost_ret (results_c rfl rfl (ld_tax (Blk.new w 46 #[.int .i64 0, .int .i64 1, .int .i64 100, .int .i64 0, .int .i64 72500, .int .i64 7]))) rfl ⟨rfl, (Ext.refl w).alloc _⟩
def Tax1 (a b c d e f : Int) : Bool := win a 0 99 && win b 1 1099511627775 && win c 0 4611686018427387904 && win d 0 (4611686018427387904 - c) && win e 0 1000000 && win f 0 4611686018427387904
set_option maxRecDepth 100000 in
set_option maxHeartbeats 1000000 in
theorem one_any (a b c d e f : Int) (hc : RowKit.wrap64 (4611686018427387904 - c) = 4611686018427387904 - c) (w : World) : Calls Try.prog 82 #[taxV a b c d e f] w fun r w' => r = .returned (.bool (Tax1 a b c d e f)) ∧ Ext w w' := by
  unfold taxV Tax1
  go_enter Try.func82, Try.ntmps82
  go_wp2_with (go_at_call 65; refine (within_any _ _ _ _).mono ?_; rintro e w' ⟨rfl, rfl⟩)
  all_goals
    refine bodyPost_ret (results_tmp rfl _ _ _) rfl ⟨?_, (Ext.refl w).alloc _⟩
    simp [*]
theorem back_a (w : World) : Calls Try.prog 31 #[.int .i64 100, .int .i64 100, .int .i64 0, .int .i64 50] w fun e w' => e = .returned (.tuple #[.int .i64 50, .int .i64 0]) ∧ Ext w w' :=
  (back_lo 100 100 0 50 (by decide) (by decide) (by decide) (by decide) (by decide) (by decide) (by decide) (by decide) (by decide) w).mono fun e w' ⟨h1, h2⟩ => ⟨by rw [h1, show ((evenN 100 50 100 : Nat) : Int) - (evenN 100 0 100 : Nat) = 50 by decide], h2⟩
theorem back_b (w : World) : Calls Try.prog 31 #[.int .i64 7, .int .i64 100, .int .i64 0, .int .i64 50] w fun e w' => e = .returned (.tuple #[.int .i64 4, .int .i64 0]) ∧ Ext w w' :=
  (back_lo 7 100 0 50 (by decide) (by decide) (by decide) (by decide) (by decide) (by decide) (by decide) (by decide) (by decide) w).mono fun e w' ⟨h1, h2⟩ => ⟨by rw [h1, show ((evenN 7 50 100 : Nat) : Int) - (evenN 7 0 100 : Nat) = 4 by decide], h2⟩
set_option maxRecDepth 100000 in
set_option maxHeartbeats 1000000 in
theorem return1_any (w : World) : Calls Try.prog 30 #[taxV 0 1 100 0 72500 7, .int .i64 0, .int .i64 50] w fun r w' => r = .returned (.tuple #[taxV 0 1 50 0 72500 4, .int .i64 0]) ∧ Ext w w' := by
  have B3 := Lib.hid ((Blk.new w 46 #[.int .i64 0, .int .i64 1, .int .i64 100, .int .i64 0, .int .i64 72500, .int .i64 7]).alloc (.cells #[.int .i64 0, .int .i64 0, .int .i64 0, .int .i64 0, .int .i64 0, .int .i64 0] 46))
  have B6 : Hid (Blk ((w.alloc (.cells #[.int .i64 0, .int .i64 1, .int .i64 100, .int .i64 0, .int .i64 72500, .int .i64 7] 46)).alloc (.cells #[.int .i64 0, .int .i64 0, .int .i64 0, .int .i64 0, .int .i64 0, .int .i64 0] 46)) (w.heap.size + 1) 46 #[.int .i64 0, .int .i64 0, .int .i64 0, .int .i64 0, .int .i64 0, .int .i64 0]) := Lib.hid (by
    have := Blk.new (w.alloc (.cells #[.int .i64 0, .int .i64 1, .int .i64 100, .int .i64 0, .int .i64 72500, .int .i64 7] 46)) 46 #[.int .i64 0, .int .i64 0, .int .i64 0, .int .i64 0, .int .i64 0, .int .i64 0]
    simpa using this)
  unfold taxV
  go_enter Try.func30, Try.ntmps30
  go_wp2_with fail
  refine (one_any 0 1 100 0 72500 7 (by unfold RowKit.wrap64; omega) _).mono ?_
  rintro e v1 ⟨rfl, hx1⟩
  have X1 := (((Ext.refl w).alloc _).alloc _).trans hx1
  have C3 := B3.out.ext hx1
  have C6 := B6.out.ext hx1
  clear hx1 B3 B6
  have ht : Tax1 0 1 100 0 72500 7 = true := by decide
  rw [ht]
  obtain ⟨q3, q3'⟩ := C3.cells
  go_wp2_with fail
  refine (back_a _).mono ?_
  rintro e v2 ⟨rfl, hx2⟩
  have X2 := X1.trans hx2
  replace C3 := C3.ext hx2
  replace C6 := C6.ext hx2
  clear hx2 X1 q3 q3'
  obtain ⟨q3, q3'⟩ := C3.cells
  go_wp2_with fail
  refine (back_b _).mono ?_
  rintro e v3 ⟨rfl, hx3⟩
  have X3 := X2.trans hx3
  replace C3 := C3.ext hx3
  replace C6 := C6.ext hx3
  clear hx3 X2 q3 q3'
  obtain ⟨q3, q3'⟩ := C3.cells
  obtain ⟨q6, q6'⟩ := C6.cells
  go_wp2_with fail
  have n : w.heap.size + 1 ≠ w.heap.size := by omega
  have k : w.heap.size ≤ w.heap.size + 1 := by omega
  have B : Blk _ (w.heap.size + 1) 46 #[.int .i64 0, .int .i64 1, .int .i64 50, .int .i64 0, .int .i64 72500, .int .i64 4] := ((((((((C6.far (p := ⟨w.heap.size, 5, none⟩) n (.int .i64 4)).far (p := ⟨w.heap.size, 2, none⟩) n (.int .i64 50)).far (p := ⟨w.heap.size, 3, none⟩) n (.int .i64 0)).set_ 0 (.int .i64 0)).set_ 1 (.int .i64 1)).set_ 2 (.int .i64 50)).set_ 3 (.int .i64 0)).set_ 4 (.int .i64 72500)).set_ 5 (.int .i64 4)
  have X := ((((((((X3.set (p := ⟨w.heap.size, 5, none⟩) (Nat.le_refl _) (.int .i64 4)).set (p := ⟨w.heap.size, 2, none⟩) (Nat.le_refl _) (.int .i64 50)).set (p := ⟨w.heap.size, 3, none⟩) (Nat.le_refl _) (.int .i64 0)).set (p := ⟨w.heap.size + 1, 0, none⟩) k (.int .i64 0)).set (p := ⟨w.heap.size + 1, 1, none⟩) k (.int .i64 1)).set (p := ⟨w.heap.size + 1, 2, none⟩) k (.int .i64 50)).set (p := ⟨w.heap.size + 1, 3, none⟩) k (.int .i64 0)).set (p := ⟨w.heap.size + 1, 4, none⟩) k (.int .i64 72500)).set (p := ⟨w.heap.size + 1, 5, none⟩) k (.int .i64 4)
  exact bodyPost_ret (results_ct rfl rfl (ld_tax B)) rfl ⟨rfl, X⟩
end Go.Proofs.Ytehkmngbknbbaaa
