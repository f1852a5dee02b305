/-
  The statement's own test of Return on the sample.
-/
import Derived.Test.YtehkmngbknbbaaaCc
set_option linter.unusedVariables false
namespace Go.Proofs.Ytehkmngbknbbaaa
open Go.RowKit

set_option maxRecDepth 100000 in
set_option maxHeartbeats 1000000 in
theorem returns1_any (w : World) : Calls Try.prog 38 #[.int .i64 0, .int .i64 50, .int .i64 50, .int .i64 4] w fun r w' => r = .returned (.bool true) ∧ Ext w w' := by
  go_enter Try.func38, Try.ntmps38
  go_wp2_with fail
  refine (sample_any _).mono ?_
  rintro e v1 ⟨rfl, hx1⟩
  unfold taxV
  go_wp2_with fail
  refine (return1_any _).mono ?_
  rintro e v2 ⟨rfl, hx2⟩
  unfold taxV
  go_wp2_with fail
  exact bodyPost_ret (results_tmp rfl _ _ _) rfl ⟨rfl, (hx1.trans hx2).alloc _⟩
end Go.Proofs.Ytehkmngbknbbaaa
