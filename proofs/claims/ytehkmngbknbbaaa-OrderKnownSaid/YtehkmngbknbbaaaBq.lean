/-
  A number that was read, by its fault.
-/
import Derived.Test.YtehkmngbknbbaaaBc
set_option linter.unusedVariables false
namespace Go.Proofs.Ytehkmngbknbbaaa
open Go.RowKit

theorem num_flt (s : RS) (lo hi above : Int) (h0 : s.fe = 0) (ha : above ≠ 0) :
    s.num lo hi above = if (s.flt lo hi above).1 ≠ 0 then (0, { s with fe := (s.flt lo hi above).1, fa := (s.flt lo hi above).2 }) else ((getN s.b s.at_).n, { s with at_ := (getN s.b s.at_).next }) := by
  unfold RS.num RS.flt
  rw [if_neg (by simpa using h0)]
  simp only
  by_cases h1 : (getN s.b s.at_).fe ≠ 0
  · rw [if_pos h1, if_pos h1, if_pos h1]
  rw [if_neg h1, if_neg h1]
  by_cases h2 : hi < (getN s.b s.at_).n
  · rw [if_pos h2, if_pos h2, if_pos ha]
  rw [if_neg h2, if_neg h2]
  by_cases h3 : (getN s.b s.at_).n < lo
  · rw [if_pos h3, if_pos h3, if_pos (by show (5 : Int) ≠ 0; decide)]
  rw [if_neg h3, if_neg h3, if_neg (by show ¬ (0 : Int) ≠ 0; decide)]

end Go.Proofs.Ytehkmngbknbbaaa
