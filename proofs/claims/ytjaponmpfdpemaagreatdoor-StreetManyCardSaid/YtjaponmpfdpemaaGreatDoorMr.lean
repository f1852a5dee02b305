/-
  Plain: StreetOrder, StreetEach: what New and Find come to.
-/
import Derived.Test.YtjaponmpfdpemaaGreatDoorBa24
import Derived.Test.YtjaponmpfdpemaaGreatDoorBa16
set_option linter.unusedSimpArgs false
set_option linter.unusedVariables false
namespace Go.Proofs.YtjaponmpfdpemaaGreatDoor
theorem newR_zero {l : List Sr} (h : (newR l).1 = 0) : newR l = (0, 0) := by
 unfold newR at h ⊢
 by_cases h5 : 500 < l.length
 ·rw [if_pos h5] at h; cases h
 ·rw [if_neg h5] at h ⊢
  by_cases hb : 0 ≤ srBad l
  ·rw [if_pos hb] at h; cases h
  ·rw [if_neg hb] at h ⊢
   cases hf : (List.range l.length).find? (clashR l) with
   | none => rfl
   | some k => rw [hf] at h; cases h
theorem newR_err {l : List Sr} (hl : l.length ≤ 500) : (newR l).1 = 0 ∨ (newR l).1 = 2 ∨ (newR l).1 = 7 := by
 unfold newR
 rw [if_neg (by omega)]
 by_cases hb : 0 ≤ srBad l
 ·rw [if_pos hb]; exact .inr (.inl rfl)
 ·rw [if_neg hb]
  cases (List.range l.length).find? (clashR l) with
  | none => exact .inl rfl
  | some k => exact .inr (.inr rfl)
end Go.Proofs.YtjaponmpfdpemaaGreatDoor
