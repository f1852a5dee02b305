/-
  apportionref17: street, from the name on (printed by tools/genHw.py).
-/
import Derived.Deep.RegionHeld3
import Derived.Test.YtjaponmpfdpemaaGreatDoorKb39
import Derived.Test.YtjaponmpfdpemaaGreatDoorKb22
import Derived.Test.YtjaponmpfdpemaaGreatDoorKb24
import Derived.Test.YtjaponmpfdpemaaGreatDoorKb26
import Derived.Test.YtjaponmpfdpemaaGreatDoorKb06
import Derived.Test.YtjaponmpfdpemaaGreatDoorKb07
import Derived.Test.YtjaponmpfdpemaaGreatDoorKb10
import Derived.ChangeKeysEq
import Derived.LaidEql
set_option linter.unusedVariables false
namespace Go.Proofs.YtjaponmpfdpemaaGreatDoor
open Go.RowKit
end Go.Proofs.YtjaponmpfdpemaaGreatDoor

set_option linter.unusedVariables false
namespace Go.Proofs.YtjaponmpfdpemaaGreatDoor
open Go.RowKit
end Go.Proofs.YtjaponmpfdpemaaGreatDoor

set_option linter.unusedVariables false
namespace Go.Proofs.YtjaponmpfdpemaaGreatDoor
open Go.RowKit
end Go.Proofs.YtjaponmpfdpemaaGreatDoor

set_option linter.unusedVariables false
namespace Go.Proofs.YtjaponmpfdpemaaGreatDoor
open Go.RowKit
end Go.Proofs.YtjaponmpfdpemaaGreatDoor

set_option linter.unusedVariables false
namespace Go.Proofs.YtjaponmpfdpemaaGreatDoor
open Go.RowKit
end Go.Proofs.YtjaponmpfdpemaaGreatDoor

set_option linter.unusedVariables false
namespace Go.Proofs.YtjaponmpfdpemaaGreatDoor
open Go.RowKit
end Go.Proofs.YtjaponmpfdpemaaGreatDoor

set_option linter.unusedVariables false
namespace Go.Proofs.YtjaponmpfdpemaaGreatDoor
open Go.RowKit
end Go.Proofs.YtjaponmpfdpemaaGreatDoor

set_option linter.unusedVariables false
namespace Go.Proofs.YtjaponmpfdpemaaGreatDoor
open Go.RowKit
end Go.Proofs.YtjaponmpfdpemaaGreatDoor

set_option linter.unusedVariables false
namespace Go.Proofs.YtjaponmpfdpemaaGreatDoor
open Go.RowKit
end Go.Proofs.YtjaponmpfdpemaaGreatDoor

set_option linter.unusedVariables false
namespace Go.Proofs.YtjaponmpfdpemaaGreatDoor

/-- The value of the first k digits. -/
def sumD (f : Nat → Nat) : Nat → Nat
  | 0 => 0
  | k + 1 => sumD f k + f k * 65536 ^ k
/-- A digit of a number. -/
def dig (n i : Nat) : Nat := n / 65536 ^ i % 65536
theorem B_pos (k : Nat) : 0 < 65536 ^ k := Nat.pow_pos (by decide)
theorem dig_lt (n i : Nat) : dig n i < 65536 := Nat.mod_lt _ (by decide)
theorem sumD_congr {f g : Nat → Nat} : ∀ {k : Nat}, (∀ i, i < k → f i = g i) → sumD f k = sumD g k
  | 0, _ => rfl
  | k + 1, h => by rw [sumD, sumD, sumD_congr (fun i hi => h i (by omega)), h k (by omega)]
theorem sum_div (f : Nat → Nat) (k : Nat) : sumD f (k + 1) / 65536 ^ k = sumD f k / 65536 ^ k + f k := by
  rw [sumD, Nat.add_mul_div_right _ _ (B_pos k)]
/-- The digits of a higher sum are those of the lower one. -/
theorem dig_more (f : Nat → Nat) {i k : Nat} (h : i < k) : dig (sumD f (k + 1)) i = dig (sumD f k) i := by
  unfold dig
  have e : f k * 65536 ^ k = f k * 65536 ^ (k - i - 1) * 65536 * 65536 ^ i := by
    have : 65536 ^ k = 65536 ^ (k - i - 1) * 65536 * 65536 ^ i := by
      rw [← Nat.pow_succ, ← Nat.pow_add]; congr 1; omega
    rw [this, ← Nat.mul_assoc, ← Nat.mul_assoc]
  rw [sumD, e, Nat.add_mul_div_right _ _ (B_pos i), Nat.add_mul_mod_self_right]

/-- A row of digits with one changed. -/
def upd (f : Nat → Nat) (k v : Nat) : Nat → Nat := fun i => if i = k then v else f i
/-- Carried so far. -/
def cst (f : Nat → Nat) (k : Nat) : Nat → Nat := fun i => if i < k then dig (sumD f k) i else if i = k then f k + sumD f k / 65536 ^ k else f i
theorem cst_k (f : Nat → Nat) (k : Nat) : cst f k k = f k + sumD f k / 65536 ^ k := by
  unfold cst
  rw [if_neg (by omega), if_pos rfl]
theorem cst_up (f : Nat → Nat) {k i : Nat} (h : k < i) : cst f k i = f i := by
  unfold cst
  rw [if_neg (by omega), if_neg (by omega)]
theorem cst_step (f : Nat → Nat) (k : Nat) : cst f (k + 1) = upd (upd (cst f k) (k + 1) (cst f k (k + 1) + cst f k k / 65536)) k (cst f k k % 65536) := by
  funext i
  have hs := sum_div f k
  unfold upd
  by_cases h1 : i = k
  · subst h1
    rw [if_pos rfl, cst_k]
    unfold cst
    rw [if_pos (by omega)]
    unfold dig
    rw [hs, Nat.add_comm]
  rw [if_neg h1]
  by_cases h2 : i = k + 1
  · subst h2
    rw [if_pos rfl, cst_k, cst_up f (by omega), cst_k, Nat.pow_succ, ← Nat.div_div_eq_div_mul, hs, Nat.add_comm (f k)]
  rw [if_neg h2]
  unfold cst
  by_cases h3 : i < k
  · rw [if_pos (by omega), if_pos h3, dig_more f h3]
  · rw [if_neg (by omega), if_neg h2, if_neg h3, if_neg h1]
/-- P1: how two sizes compare. -/
def cmpN (m n : Nat) : Int := if m < n then -1 else if n < m then 1 else 0

theorem mod_step (n k : Nat) : n % 65536 ^ (k + 1) = n % 65536 ^ k + dig n k * 65536 ^ k := by
  rw [Nat.pow_succ, Nat.mod_mul, dig, Nat.mul_comm (n / 65536 ^ k % 65536)]
end Go.Proofs.YtjaponmpfdpemaaGreatDoor

set_option linter.unusedVariables false
namespace Go.Proofs.YtjaponmpfdpemaaGreatDoor
open Go.RowKit

/-- A number's cells: its sign, its digits. -/
def numC (s : Bool) (f : Nat → Int) : Array Value := #[.bool s, .int .i64 (f 0), .int .i64 (f 1), .int .i64 (f 2), .int .i64 (f 3), .int .i64 (f 4), .int .i64 (f 5), .int .i64 (f 6), .int .i64 (f 7), .int .i64 (f 8), .int .i64 (f 9), .int .i64 (f 10), .int .i64 (f 11)]
def digI (n : Nat) : Nat → Int := fun i => (dig n i : Int)
def updI (f : Nat → Int) (k : Nat) (v : Int) : Nat → Int := fun i => if i = k then v else f i
theorem lt12 {P : Nat → Prop} (h0 : P 0) (h1 : P 1) (h2 : P 2) (h3 : P 3) (h4 : P 4) (h5 : P 5) (h6 : P 6) (h7 : P 7) (h8 : P 8) (h9 : P 9) (h10 : P 10) (h11 : P 11) : ∀ k, k < 12 → P k
  | 0, _ => h0
  | 1, _ => h1
  | 2, _ => h2
  | 3, _ => h3
  | 4, _ => h4
  | 5, _ => h5
  | 6, _ => h6
  | 7, _ => h7
  | 8, _ => h8
  | 9, _ => h9
  | 10, _ => h10
  | 11, _ => h11
  | k + 12, h => absurd h (by omega)
theorem numC_set (s : Bool) (f : Nat → Int) (v : Int) : ∀ k, k < 12 → (numC s f).setIfInBounds (1 + k) (.int .i64 v) = numC s (updI f k v) :=
  lt12 rfl rfl rfl rfl rfl rfl rfl rfl rfl rfl rfl rfl
/-- A number laid into its cells. -/
theorem put13 {w : World} {g : Nat} {t : TypeId} {s' s : Bool} {f' f : Nat → Int} (h : Blk w g t (numC s' f')) : Blk (((((((((((((w.setCell ⟨g, 0, none⟩ (.bool s)).setCell ⟨g, 1, none⟩ (.int .i64 (f 0))).setCell ⟨g, 2, none⟩ (.int .i64 (f 1))).setCell ⟨g, 3, none⟩ (.int .i64 (f 2))).setCell ⟨g, 4, none⟩ (.int .i64 (f 3))).setCell ⟨g, 5, none⟩ (.int .i64 (f 4))).setCell ⟨g, 6, none⟩ (.int .i64 (f 5))).setCell ⟨g, 7, none⟩ (.int .i64 (f 6))).setCell ⟨g, 8, none⟩ (.int .i64 (f 7))).setCell ⟨g, 9, none⟩ (.int .i64 (f 8))).setCell ⟨g, 10, none⟩ (.int .i64 (f 9))).setCell ⟨g, 11, none⟩ (.int .i64 (f 10))).setCell ⟨g, 12, none⟩ (.int .i64 (f 11))) g t (numC s f) := by
  have e : ((((((((((((((numC s' f').setIfInBounds 0 (.bool s)).setIfInBounds 1 (.int .i64 (f 0))).setIfInBounds 2 (.int .i64 (f 1))).setIfInBounds 3 (.int .i64 (f 2))).setIfInBounds 4 (.int .i64 (f 3))).setIfInBounds 5 (.int .i64 (f 4))).setIfInBounds 6 (.int .i64 (f 5))).setIfInBounds 7 (.int .i64 (f 6))).setIfInBounds 8 (.int .i64 (f 7))).setIfInBounds 9 (.int .i64 (f 8))).setIfInBounds 10 (.int .i64 (f 9))).setIfInBounds 11 (.int .i64 (f 10))).setIfInBounds 12 (.int .i64 (f 11))) = numC s f := by simp [numC]
  have hh := (((((((((((((h.set_ 0 (.bool s)).set_ 1 (.int .i64 (f 0))).set_ 2 (.int .i64 (f 1))).set_ 3 (.int .i64 (f 2))).set_ 4 (.int .i64 (f 3))).set_ 5 (.int .i64 (f 4))).set_ 6 (.int .i64 (f 5))).set_ 7 (.int .i64 (f 6))).set_ 8 (.int .i64 (f 7))).set_ 9 (.int .i64 (f 8))).set_ 10 (.int .i64 (f 9))).set_ 11 (.int .i64 (f 10))).set_ 12 (.int .i64 (f 11)))
  rwa [e] at hh
theorem ext13 {a w : World} {g : Nat} {s : Bool} {f : Nat → Int} (hx : Ext a w) (hg : a.heap.size ≤ g) : Ext a (((((((((((((w.setCell ⟨g, 0, none⟩ (.bool s)).setCell ⟨g, 1, none⟩ (.int .i64 (f 0))).setCell ⟨g, 2, none⟩ (.int .i64 (f 1))).setCell ⟨g, 3, none⟩ (.int .i64 (f 2))).setCell ⟨g, 4, none⟩ (.int .i64 (f 3))).setCell ⟨g, 5, none⟩ (.int .i64 (f 4))).setCell ⟨g, 6, none⟩ (.int .i64 (f 5))).setCell ⟨g, 7, none⟩ (.int .i64 (f 6))).setCell ⟨g, 8, none⟩ (.int .i64 (f 7))).setCell ⟨g, 9, none⟩ (.int .i64 (f 8))).setCell ⟨g, 10, none⟩ (.int .i64 (f 9))).setCell ⟨g, 11, none⟩ (.int .i64 (f 10))).setCell ⟨g, 12, none⟩ (.int .i64 (f 11))) :=
  (((((((((((((hx.set (p := ⟨g, 0, none⟩) hg _).set (p := ⟨g, 1, none⟩) hg _).set (p := ⟨g, 2, none⟩) hg _).set (p := ⟨g, 3, none⟩) hg _).set (p := ⟨g, 4, none⟩) hg _).set (p := ⟨g, 5, none⟩) hg _).set (p := ⟨g, 6, none⟩) hg _).set (p := ⟨g, 7, none⟩) hg _).set (p := ⟨g, 8, none⟩) hg _).set (p := ⟨g, 9, none⟩) hg _).set (p := ⟨g, 10, none⟩) hg _).set (p := ⟨g, 11, none⟩) hg _).set (p := ⟨g, 12, none⟩) hg _)
theorem far13 {w : World} {g g' : Nat} {t : TypeId} {cs : Array Value} {s : Bool} {f : Nat → Int} (h : Blk w g' t cs) (hne : g' ≠ g) : Blk (((((((((((((w.setCell ⟨g, 0, none⟩ (.bool s)).setCell ⟨g, 1, none⟩ (.int .i64 (f 0))).setCell ⟨g, 2, none⟩ (.int .i64 (f 1))).setCell ⟨g, 3, none⟩ (.int .i64 (f 2))).setCell ⟨g, 4, none⟩ (.int .i64 (f 3))).setCell ⟨g, 5, none⟩ (.int .i64 (f 4))).setCell ⟨g, 6, none⟩ (.int .i64 (f 5))).setCell ⟨g, 7, none⟩ (.int .i64 (f 6))).setCell ⟨g, 8, none⟩ (.int .i64 (f 7))).setCell ⟨g, 9, none⟩ (.int .i64 (f 8))).setCell ⟨g, 10, none⟩ (.int .i64 (f 9))).setCell ⟨g, 11, none⟩ (.int .i64 (f 10))).setCell ⟨g, 12, none⟩ (.int .i64 (f 11))) g' t cs :=
  (((((((((((((h.far (p := ⟨g, 0, none⟩) hne _).far (p := ⟨g, 1, none⟩) hne _).far (p := ⟨g, 2, none⟩) hne _).far (p := ⟨g, 3, none⟩) hne _).far (p := ⟨g, 4, none⟩) hne _).far (p := ⟨g, 5, none⟩) hne _).far (p := ⟨g, 6, none⟩) hne _).far (p := ⟨g, 7, none⟩) hne _).far (p := ⟨g, 8, none⟩) hne _).far (p := ⟨g, 9, none⟩) hne _).far (p := ⟨g, 10, none⟩) hne _).far (p := ⟨g, 11, none⟩) hne _).far (p := ⟨g, 12, none⟩) hne _)
end Go.Proofs.YtjaponmpfdpemaaGreatDoor
