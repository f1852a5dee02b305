/-
  The program's reader: its methods, whole.
-/
import Derived.Test.YtehkmngbknbbaaaBe
set_option linter.unusedVariables false
namespace Go.Proofs.Ytehkmngbknbbaaa
open Go.RowKit

set_option maxRecDepth 100000 in
set_option maxHeartbeats 1000000 in
theorem onumber_any (s : RS) (lo hi above : Int) (g : Nat) (w : World) (h : RdO w g s) (ha : above ≠ 0) :
    Calls Try.prog 104 #[.pointer (some ⟨g, 0, none⟩), .int .i64 lo, .int .i64 hi, .int .i64 above] w fun e w' =>
      e = .returned (.int .i64 (s.num lo hi above).1) ∧ RdO w' g (s.num lo hi above).2 ∧ w.grownBy w' (some g) := by
  have hmf : ∀ (fn : Fn) (first cap : Array Value) (w : World), (Instr.makeFunc fn first cap).run Try.prog w = .ok (.func fn first cap) w := fun _ _ _ _ => rfl
  have hg := h.lt
  have HK := Lib.hid h
  clear h
  obtain ⟨x0, x1, x2, x3⟩ := blk4 w 114 3 3 31 #[.pointer (some ⟨g, 0, none⟩)] #[.int .i64 lo] #[.int .i64 hi] #[.int .i64 above]
  have hX : Ext w ((((w.alloc (.cells #[.pointer (some ⟨g, 0, none⟩)] 114)).alloc (.cells #[.int .i64 lo] 3)).alloc (.cells #[.int .i64 hi] 3)).alloc (.cells #[.int .i64 above] 31)) := ((((Ext.refl w).alloc _).alloc _).alloc _).alloc _
  go_enter Try.func104, Try.ntmps104
  go_wp2_with (go_at_call 121; refine (oread_any s lo hi above g w.heap.size (w.heap.size + 1 + 1) (w.heap.size + 1 + 1 + 1) (w.heap.size + 1) _ (RdO.ext HK.out hX) ha (by omega) (by omega) (by omega) (by omega) (x0.cell 0) (x2.cell 0) (x3.cell 0) (x1.cell 0)).mono ?_; rintro e w2 ⟨rfl, hR, hG⟩)
  refine bodyPost_ret (results_tmp rfl _ _ _) rfl ⟨rfl, hR, ?_⟩
  exact ⟨hG.os, hG.tape, hG.output, Nat.le_trans hX.size hG.size, fun k hk hne => (hG.block k (Nat.lt_of_lt_of_le hk hX.size) hne).trans (hX.block k hk)⟩

theorem oint_any (s : RS) (lo hi : Int) (g : Nat) (w : World) (h : RdO w g s) :
    Calls Try.prog 72 #[.pointer (some ⟨g, 0, none⟩), .int .i64 lo, .int .i64 hi] w fun e w' =>
      e = .returned (.int .i64 (s.num lo hi 5).1) ∧ RdO w' g (s.num lo hi 5).2 ∧ w.grownBy w' (some g) := by
  go_enter Try.func72, Try.ntmps72
  go_wp2_with (go_at_call 104; refine (onumber_any s lo hi 5 g _ h (by decide)).mono ?_; rintro e w' ⟨rfl, hR, hG⟩)
  exact bodyPost_ret (results_tmp rfl _ _ _) rfl ⟨rfl, hR, hG⟩
theorem ocount_any (s : RS) (most : Int) (g : Nat) (w : World) (h : RdO w g s) :
    Calls Try.prog 74 #[.pointer (some ⟨g, 0, none⟩), .int .i64 most] w fun e w' =>
      e = .returned (.int .i64 (s.num 0 most 3).1) ∧ RdO w' g (s.num 0 most 3).2 ∧ w.grownBy w' (some g) := by
  go_enter Try.func74, Try.ntmps74
  go_wp2_with (go_at_call 104; refine (onumber_any s 0 most 3 g _ h (by decide)).mono ?_; rintro e w' ⟨rfl, hR, hG⟩)
  exact bodyPost_ret (results_tmp rfl _ _ _) rfl ⟨rfl, hR, hG⟩
theorem oat_any (s : RS) (g : Nat) (w : World) (h : RdO w g s) :
    Calls Try.prog 73 #[.pointer (some ⟨g, 0, none⟩)] w fun e w' => e = .returned (.int .i64 (s.at_ : Int)) ∧ w = w' := by
  have d1 := h.at_
  go_enter Try.func73, Try.ntmps73
  go_wp2_with (go_at_call 105; refine (onone_any g s _ h).mono ?_; rintro e w' ⟨rfl, rfl⟩)
  exact bodyPost_ret (results_tmp rfl _ _ _) rfl ⟨rfl, rfl⟩
set_option maxRecDepth 100000 in
theorem ofaultR_any (s : RS) (g : Nat) (w : World) (h : RdO w g s) :
    Calls Try.prog 101 #[.pointer (some ⟨g, 0, none⟩)] w fun e w' => e = .returned (.agg #[.int .i64 s.fe, .int .i64 (s.fa : Int)]) ∧ Ext w w' := by
  have hg := h.lt
  have d2 := h.fe
  have d3 := h.fa
  have HK := Lib.hid h
  clear h
  go_enter Try.func101, Try.ntmps101
  go_wp2_with (go_at_call 105; refine (onone_any g s _ (HK.out.ext ((Ext.refl w).alloc _))).mono ?_; rintro e w' ⟨rfl, rfl⟩)
  exact bodyPost_ret (results_c rfl rfl (ld_fault (Blk.new w 37 #[.int .i64 s.fe, .int .i64 (s.fa : Int)]))) rfl ⟨rfl, (Ext.refl w).alloc _⟩
set_option maxRecDepth 100000 in
theorem ofine_any (s : RS) (g : Nat) (w : World) (h : RdO w g s) :
    Calls Try.prog 75 #[.pointer (some ⟨g, 0, none⟩)] w fun e w' => e = .returned (.bool (s.fe == 0)) ∧ Ext w w' := by
  have hfl : ∀ (a b : Value) (w : World), (Instr.field 37 (.agg #[a, b]) 0).run Try.prog w = .ok a w := fun _ _ _ => rfl
  go_enter Try.func75, Try.ntmps75
  go_wp2_with (go_at_call 101; refine (ofaultR_any s g _ h).mono ?_; rintro e w' ⟨rfl, hx⟩)
  exact bodyPost_ret (results_tmp rfl _ _ _) rfl ⟨rfl, hx⟩
end Go.Proofs.Ytehkmngbknbbaaa
