/-
  Pick; the statement OrderWhole.
-/
import Derived.Test.YtehkmngbknbbaaaPy
import Derived.Test.YtehkmngbknbbaaaDe
import Derived.Test.YtehkmngbknbbaaaCe
set_option linter.unusedVariables false
namespace Go.Proofs.Ytehkmngbknbbaaa
open Go.RowKit

set_option maxHeartbeats 1000000 in
theorem pick_any (x n : Int) (hn : n ≤ 9223372036854775807) (w : World) :
    Calls Try.prog 29 #[.int .i64 x, .int .i64 n] w fun e w' => e = .returned (.int .i64 (pickI x n)) ∧ w = w' := by
  by_cases h1 : n < 1
  · have hd : decide (n < 1) = true := by simpa using h1
    have HE := Lib.hid (show pickI x n = 0 by unfold pickI; rw [if_pos h1])
    go_enter Try.func29, Try.ntmps29
    go_wp2_with fail
    go_ret
    exact ⟨by rw [HE.out]; rfl, rfl⟩
  · have hd : decide (n < 1) = false := by simpa using h1
    have hz : (n == 0) = false := by rw [beq_eq_false_iff_ne]; omega
    have hz' : n ≠ 0 := by omega
    obtain ⟨b1, b2⟩ := tmod_bd (x := x) (n := n) (by omega)
    by_cases hm : Int.tmod x n < 0
    · have hd2 : decide (Int.tmod x n < 0) = true := by simpa using hm
      have HE := Lib.hid (show pickI x n = Int.tmod x n + n by unfold pickI; rw [if_neg h1, if_pos hm])
      generalize hM : Int.tmod x n = M at *
      have hi : IntKind.i64.wrap M = M := by rw [IntKind.wrap_i64]; omega
      go_enter Try.func29, Try.ntmps29
      go_wp2_with fail
      go_ret
      exact ⟨by rw [HE.out]; rfl, rfl⟩
    · have hd2 : decide (Int.tmod x n < 0) = false := by simpa using hm
      have HE := Lib.hid (show pickI x n = Int.tmod x n by unfold pickI; rw [if_neg h1, if_neg hm])
      generalize hM : Int.tmod x n = M at *
      have hi : IntKind.i64.wrap M = M := by rw [IntKind.wrap_i64]; omega
      go_enter Try.func29, Try.ntmps29
      go_wp2_with fail
      go_ret
      exact ⟨by rw [HE.out]; rfl, rfl⟩
end Go.Proofs.Ytehkmngbknbbaaa
