/-
  What every row of this seat asks of the program.
-/
import Derived.Test.YtehkmngbknbbaaaRows
import Derived.ProofKit
set_option linter.unusedVariables false
namespace Go.Proofs.Ytehkmngbknbbaaa
theorem Try.own : ownKnob Try.prog.godebug = none := by kernel_rfl
theorem Try.laidOut : laidOutB Try.prog = true := by kernel_rfl
end Go.Proofs.Ytehkmngbknbbaaa
