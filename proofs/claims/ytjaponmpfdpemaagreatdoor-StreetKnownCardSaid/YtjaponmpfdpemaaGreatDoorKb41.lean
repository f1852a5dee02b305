/-
  The reference's numbers: carried.
-/
import Derived.Test.YtjaponmpfdpemaaGreatDoorKb40
import Derived.Deep.QuietTactic
import Derived.StillTailTactics
import Derived.IntWalk
import Derived.Deep.DeepCutAuto
import Derived.Deep.RegionHeld3
import Derived.Test.YtjaponmpfdpemaaGreatDoorKb12
set_option linter.unusedVariables false
namespace Go.Proofs.YtjaponmpfdpemaaGreatDoor
open Go.RowKit
/-- Where the carrying stands. -/
def CarRel (w : World) (s : Bool) (f : Nat → Nat) (i : Value) (wr : World) : Prop :=
  ∃ k : Nat, k ≤ 11 ∧ i = .int .i64 (k : Int) ∧ Blk wr w.heap.size 153 (numC s (fun j => ((cst f k j : Nat) : Int))) ∧ Blk wr (w.heap.size + 1) 153 (numC false (fun _ => 0)) ∧ Ext w wr
theorem CarRel.next {w W : World} {s : Bool} {f : Nat → Nat} {k m : Nat} (hk : k < 11) {x y : Int} (hx : x = ((cst f k (k + 1) : Nat) : Int) + ((cst f k k : Nat) : Int) / 65536) (hy : y = ((cst f k k : Nat) : Int) % 65536)
    (B : Blk W w.heap.size 153 ((numC s (fun j => ((cst f k j : Nat) : Int))).setIfInBounds (1 + (k + 1)) (.int .i64 x) |>.setIfInBounds (1 + k) (.int .i64 y))) (B2 : Blk W (w.heap.size + 1) 153 (numC false (fun _ => 0))) (hX : Ext w W) (e : m = k + 1) : CarRel w s f (.int .i64 (m : Int)) W := by
  subst e hx hy
  rw [numC_set _ _ _ (k + 1) (by omega), numC_set _ _ _ k (by omega)] at B
  refine ⟨k + 1, by omega, rfl, ?_, B2, hX⟩
  rw [cst_step]
  have e : (fun j => ((upd (upd (cst f k) (k + 1) (cst f k (k + 1) + cst f k k / 65536)) k (cst f k k % 65536) j : Nat) : Int)) = updI (updI (fun j => ((cst f k j : Nat) : Int)) (k + 1) (((cst f k (k + 1) : Nat) : Int) + ((cst f k k : Nat) : Int) / 65536)) k (((cst f k k : Nat) : Int) % 65536) := by
    funext j
    unfold upd updI
    split
    · simp
    · split
      · simp
      · rfl
  rw [e]
  exact B
end Go.Proofs.YtjaponmpfdpemaaGreatDoor

set_option linter.unusedVariables false
namespace Go.Proofs.YtjaponmpfdpemaaGreatDoor
open Go.RowKit
/-- Where the adding stands. -/
def PlusRel (w : World) (s s' : Bool) (m n : Nat) (i : Value) (wr : World) : Prop :=
  ∃ k : Nat, k ≤ 12 ∧ i = .int .i64 (k : Int) ∧ Blk wr w.heap.size 153 (numC s (fun j => if j < k then digI m j + digI n j else digI m j)) ∧ Blk wr (w.heap.size + 1) 153 (numC s' (digI n)) ∧ Blk wr (w.heap.size + 1 + 1) 153 (numC false (fun _ => 0)) ∧ Ext w wr
theorem PlusRel.next {w W : World} {s s' : Bool} {m n k j : Nat} (hk : k < 12)
    (B : Blk W w.heap.size 153 ((numC s (fun j => if j < k then digI m j + digI n j else digI m j)).setIfInBounds (1 + k) (.int .i64 (digI m k + digI n k)))) (B2 : Blk W (w.heap.size + 1) 153 (numC s' (digI n))) (B3 : Blk W (w.heap.size + 1 + 1) 153 (numC false (fun _ => 0))) (hX : Ext w W) (e : j = k + 1) : PlusRel w s s' m n (.int .i64 (j : Int)) W := by
  subst e
  rw [numC_set _ _ _ k hk] at B
  refine ⟨k + 1, by omega, rfl, ?_, B2, B3, hX⟩
  rw [show (fun j => if j < k + 1 then digI m j + digI n j else digI m j) = updI (fun j => if j < k then digI m j + digI n j else digI m j) k (digI m k + digI n k) from ?_]
  · exact B
  funext j
  unfold updI
  dsimp only
  by_cases h1 : j = k
  · subst h1; rw [if_pos (by omega), if_pos rfl]
  · rw [if_neg h1]
    by_cases h2 : j < k
    · rw [if_pos (by omega), if_pos h2]
    · rw [if_neg (by omega), if_neg h2]
end Go.Proofs.YtjaponmpfdpemaaGreatDoor

set_option linter.unusedVariables false
namespace Go.Proofs.YtjaponmpfdpemaaGreatDoor
open Go.RowKit
end Go.Proofs.YtjaponmpfdpemaaGreatDoor

set_option linter.unusedVariables false
namespace Go.Proofs.YtjaponmpfdpemaaGreatDoor
open Go.RowKit
def OfRel (w : World) (n : Nat) (i : Value) (wr : World) : Prop :=
  ∃ k : Nat, k ≤ 4 ∧ i = .int .i64 (k : Int) ∧ Blk wr w.heap.size 153 (numC false (fun _ => 0)) ∧ Blk wr (w.heap.size + 1) 153 (numC false (fun j => if j < k then digI n j else 0)) ∧ Ext w wr
theorem OfRel.next {w W : World} {n k j : Nat} (hk : k < 12) (hk4 : k < 4)
    (B : Blk W w.heap.size 153 (numC false (fun _ => 0))) (B2 : Blk W (w.heap.size + 1) 153 ((numC false (fun j => if j < k then digI n j else 0)).setIfInBounds (1 + k) (.int .i64 (digI n k)))) (hX : Ext w W) (e : j = k + 1) : OfRel w n (.int .i64 (j : Int)) W := by
  subst e
  rw [numC_set _ _ _ k hk] at B2
  refine ⟨k + 1, by omega, rfl, B, ?_, hX⟩
  rw [show (fun j => if j < k + 1 then digI n j else 0) = updI (fun j => if j < k then digI n j else 0) k (digI n k) from ?_]
  · exact B2
  funext j
  unfold updI
  dsimp only
  by_cases h1 : j = k
  · subst h1; rw [if_pos (by omega), if_pos rfl]
  · rw [if_neg h1]
    by_cases h2 : j < k
    · rw [if_pos (by omega), if_pos h2]
    · rw [if_neg (by omega), if_neg h2]
theorem sumD_upd (f : Nat → Nat) (k v : Nat) : ∀ n, k < n → sumD (upd f k v) n + f k * 65536 ^ k = sumD f n + v * 65536 ^ k
  | 0, h => absurd h (by omega)
  | n + 1, h => by
    rw [sumD, sumD]
    by_cases hk : k = n
    · subst hk
      have e1 : sumD (upd f k v) k = sumD f k := sumD_congr fun i hi => by unfold upd; rw [if_neg (by omega)]
      have e2 : upd f k v k = v := by unfold upd; rw [if_pos rfl]
      rw [e1, e2]
      omega
    · have e2 : upd f k v n = f n := by unfold upd; rw [if_neg (by omega)]
      have := sumD_upd f k v n (by omega)
      rw [e2]
      omega
/-- Where the multiplying stands. -/
structure MulSt (w : World) (sx sy z : Bool) (m n i k : Nat) (F : Nat → Nat) (wr : World) : Prop where
  b0 : Blk wr w.heap.size 153 (numC sx (digI m))
  b1 : Blk wr (w.heap.size + 1) 153 (numC sy (digI n))
  b2 : Blk wr (w.heap.size + 1 + 1) 153 (numC false (fun _ => 0))
  b3 : Blk wr (w.heap.size + 1 + 1 + 1) 153 (numC z (fun j => (F j : Int)))
  bd : ∀ j, F j ≤ (4 * i + k) * 4294967296
  sm : sumD F 12 = (m % 65536 ^ i) * n + dig m i * (n % 65536 ^ k) * 65536 ^ i
  ext : Ext w wr
theorem MulSt.turn {w wr : World} {sx sy z : Bool} {m n i : Nat} {F : Nat → Nat} (h : MulSt w sx sy z m n i 4 F wr) (hn : n < 65536 ^ 4) : MulSt w sx sy z m n (i + 1) 0 F wr := by
  refine ⟨h.b0, h.b1, h.b2, h.b3, fun j => by have := h.bd j; omega, ?_, h.ext⟩
  rw [h.sm, mod_step m i, Nat.mod_eq_of_lt hn, Nat.pow_zero, Nat.mod_one, Nat.mul_zero, Nat.zero_mul, Nat.add_zero, Nat.add_mul, Nat.mul_right_comm]
theorem bd_next {x q k p : Nat} (h : x ≤ (q + k) * 4294967296) (hp : p ≤ 4294836225) : x + p ≤ (q + (k + 1)) * 4294967296 := by omega
theorem MulSt.next {w wr W : World} {sx sy z : Bool} {m n i k : Nat} {F : Nat → Nat} (h : MulSt w sx sy z m n i k F wr) (hi : i < 4) (hk : k < 4) {v : Int} (hv : v = (F (i + k) : Int) + digI m i * digI n k)
    (hW : Ext (wr.setCell ⟨w.heap.size + 1 + 1 + 1, 1 + (i + k), none⟩ (.int .i64 v)) W) : MulSt w sx sy z m n i (k + 1) (upd F (i + k) (F (i + k) + dig m i * dig n k)) W := by
  have g0 : w.heap.size ≠ w.heap.size + 1 + 1 + 1 := by omega
  have g1 : w.heap.size + 1 ≠ w.heap.size + 1 + 1 + 1 := by omega
  have g2 : w.heap.size + 1 + 1 ≠ w.heap.size + 1 + 1 + 1 := by omega
  have hp : dig m i * dig n k ≤ 4294836225 := Nat.le_trans (Nat.mul_le_mul (show dig m i ≤ 65535 by have := dig_lt m i; omega) (show dig n k ≤ 65535 by have := dig_lt n k; omega)) (by decide)
  refine ⟨(h.b0.far (p := ⟨w.heap.size + 1 + 1 + 1, 1 + (i + k), none⟩) g0 _).ext hW, (h.b1.far (p := ⟨w.heap.size + 1 + 1 + 1, 1 + (i + k), none⟩) g1 _).ext hW, (h.b2.far (p := ⟨w.heap.size + 1 + 1 + 1, 1 + (i + k), none⟩) g2 _).ext hW, ?_, ?_, ?_, (h.ext.set (p := ⟨w.heap.size + 1 + 1 + 1, 1 + (i + k), none⟩) (by show w.heap.size ≤ w.heap.size + 1 + 1 + 1; omega) _).trans hW⟩
  · have := (h.b3.set_ (1 + (i + k)) (.int .i64 v)).ext hW
    rw [numC_set _ _ _ (i + k) (by omega)] at this
    rw [show (fun j => ((upd F (i + k) (F (i + k) + dig m i * dig n k) j : Nat) : Int)) = updI (fun j => (F j : Int)) (i + k) v from ?_]
    · exact this
    funext j
    unfold upd updI
    split
    · rw [hv]; simp [digI]
    · rfl
  · intro j
    have b1 := h.bd (i + k)
    have b2 := h.bd j
    clear h hW hv
    unfold upd
    split
    · exact bd_next b1 hp
    · exact bd_next b2 (Nat.zero_le _)
  · have hs := sumD_upd F (i + k) (F (i + k) + dig m i * dig n k) 12 (by omega)
    rw [h.sm, Nat.add_mul] at hs
    rw [mod_step n k, Nat.mul_add, Nat.add_mul]
    have e : dig m i * (dig n k * 65536 ^ k) * 65536 ^ i = dig m i * dig n k * 65536 ^ (i + k) := by
      rw [Nat.pow_add, Nat.mul_comm (65536 ^ i)]
      simp only [Nat.mul_assoc]
    omega
end Go.Proofs.YtjaponmpfdpemaaGreatDoor

set_option linter.unusedVariables false
namespace Go.Proofs.YtjaponmpfdpemaaGreatDoor
open Go.RowKit
end Go.Proofs.YtjaponmpfdpemaaGreatDoor

set_option linter.unusedVariables false
namespace Go.Proofs.YtjaponmpfdpemaaGreatDoor
open Go.RowKit

section
variable {P : Program} {fn : Func} {tmps : Array Value} {w : World}
end
/-- How the world stands in parts. -/
structure PS (w W : World) (x c Q R : Nat) : Prop where
  b0 : Blk W w.heap.size 153 (numC false (digI x))
  b1 : Blk W (w.heap.size + 1) 153 (numC false (digI c))
  b2 : Blk W (w.heap.size + 1 + 1) 153 (numC false (fun _ => 0))
  b3 : Blk W (w.heap.size + 1 + 1 + 1) 153 (numC false (digI Q))
  b4 : Blk W (w.heap.size + 1 + 1 + 1 + 1) 153 (numC false (digI R))
  ext : Ext w W
theorem PS.to {w W W' : World} {x c Q R : Nat} (h : PS w W x c Q R) (hx : Ext W W') : PS w W' x c Q R :=
  ⟨h.b0.ext hx, h.b1.ext hx, h.b2.ext hx, h.b3.ext hx, h.b4.ext hx, h.ext.trans hx⟩
end Go.Proofs.YtjaponmpfdpemaaGreatDoor

set_option linter.unusedVariables false
namespace Go.Proofs.YtjaponmpfdpemaaGreatDoor
open Go.RowKit
/-- Behind the division. -/
def EvSt (w : World) (g8 : Nat) (P Q : Nat) (z : Int) (zb : Bool) (v9 v10 v11 : Value) (W : World) : Prop :=
  ∃ (g9 : Nat) (W' : World), W' = W ∧ v9 = .pointer (some ⟨g9, 0, none⟩) ∧ v10 = .int .i64 z ∧ v11 = .bool zb ∧ Blk W g9 153 (numC false (digI Q)) ∧ Blk W g8 153 (numC false (digI P)) ∧ g8 < g9 ∧ w.heap.size ≤ g8 ∧ Ext w W
theorem EvSt.put {w W : World} {g8 g9 P Q : Nat} {z : Int} {zb : Bool} {s' : Bool} {f' : Nat → Int} (B9 : Blk W g9 153 (numC s' f')) (B8 : Blk W g8 153 (numC false (digI P))) (h : g8 < g9) (h8 : w.heap.size ≤ g8) (X : Ext w W) :
    EvSt w g8 P Q z zb (.pointer (some ⟨g9, 0, none⟩)) (.int .i64 z) (.bool zb) (((((((((((((W.setCell ⟨g9, 0, none⟩ (.bool false)).setCell ⟨g9, 1, none⟩ (.int .i64 (digI Q 0))).setCell ⟨g9, 2, none⟩ (.int .i64 (digI Q 1))).setCell ⟨g9, 3, none⟩ (.int .i64 (digI Q 2))).setCell ⟨g9, 4, none⟩ (.int .i64 (digI Q 3))).setCell ⟨g9, 5, none⟩ (.int .i64 (digI Q 4))).setCell ⟨g9, 6, none⟩ (.int .i64 (digI Q 5))).setCell ⟨g9, 7, none⟩ (.int .i64 (digI Q 6))).setCell ⟨g9, 8, none⟩ (.int .i64 (digI Q 7))).setCell ⟨g9, 9, none⟩ (.int .i64 (digI Q 8))).setCell ⟨g9, 10, none⟩ (.int .i64 (digI Q 9))).setCell ⟨g9, 11, none⟩ (.int .i64 (digI Q 10))).setCell ⟨g9, 12, none⟩ (.int .i64 (digI Q 11))) :=
  ⟨g9, _, rfl, rfl, rfl, rfl, put13 B9, far13 B8 (by omega), h, h8, ext13 X (by omega)⟩
theorem EvSt.new {w W : World} {g8 P Q : Nat} {z : Int} {zb : Bool} (B8 : Blk W g8 153 (numC false (digI P))) (h8 : w.heap.size ≤ g8) (X : Ext w W) :
    EvSt w g8 P Q z zb (.pointer (some ⟨W.heap.size, 0, none⟩)) (.int .i64 z) (.bool zb) (W.alloc (.cells #[.bool false, .int .i64 (digI Q 0), .int .i64 (digI Q 1), .int .i64 (digI Q 2), .int .i64 (digI Q 3), .int .i64 (digI Q 4), .int .i64 (digI Q 5), .int .i64 (digI Q 6), .int .i64 (digI Q 7), .int .i64 (digI Q 8), .int .i64 (digI Q 9), .int .i64 (digI Q 10), .int .i64 (digI Q 11)] 153)) :=
  ⟨W.heap.size, _, rfl, rfl, rfl, rfl, Blk.new W _ (numC false (digI Q)), B8.alloc _, B8.lt, h8, X.alloc _⟩
end Go.Proofs.YtjaponmpfdpemaaGreatDoor

set_option linter.unusedVariables false
namespace Go.Proofs.YtjaponmpfdpemaaGreatDoor
open Go.RowKit

def OfRelN (w : World) (n : Nat) (i : Value) (wr : World) : Prop :=
  ∃ k : Nat, k ≤ 4 ∧ i = .int .i64 (k : Int) ∧ Blk wr w.heap.size 153 (numC false (fun _ => 0)) ∧ Blk wr (w.heap.size + 1) 153 (numC true (fun j => if j < k then digI n j else 0)) ∧ Ext w wr
theorem OfRelN.next {w W : World} {n k j : Nat} (hk : k < 12) (hk4 : k < 4)
    (B : Blk W w.heap.size 153 (numC false (fun _ => 0))) (B2 : Blk W (w.heap.size + 1) 153 ((numC true (fun j => if j < k then digI n j else 0)).setIfInBounds (1 + k) (.int .i64 (digI n k)))) (hX : Ext w W) (e : j = k + 1) : OfRelN w n (.int .i64 (j : Int)) W := by
  subst e
  rw [numC_set _ _ _ k hk] at B2
  refine ⟨k + 1, by omega, rfl, B, ?_, hX⟩
  rw [show (fun j => if j < k + 1 then digI n j else 0) = updI (fun j => if j < k then digI n j else 0) k (digI n k) from ?_]
  · exact B2
  funext j
  unfold updI
  dsimp only
  by_cases h1 : j = k
  · subst h1; rw [if_pos (by omega), if_pos rfl]
  · rw [if_neg h1]
    by_cases h2 : j < k
    · rw [if_pos (by omega), if_pos h2]
    · rw [if_neg (by omega), if_neg h2]
end Go.Proofs.YtjaponmpfdpemaaGreatDoor

set_option linter.unusedVariables false
namespace Go.Proofs.YtjaponmpfdpemaaGreatDoor
open Go.RowKit

/-- How the world stands in parts. -/
structure PSn (w W : World) (x c Q R : Nat) : Prop where
  b0 : Blk W w.heap.size 153 (numC true (digI x))
  b1 : Blk W (w.heap.size + 1) 153 (numC false (digI c))
  b2 : Blk W (w.heap.size + 1 + 1) 153 (numC false (fun _ => 0))
  b3 : Blk W (w.heap.size + 1 + 1 + 1) 153 (numC false (digI Q))
  b4 : Blk W (w.heap.size + 1 + 1 + 1 + 1) 153 (numC false (digI R))
  ext : Ext w W
theorem PSn.to {w W W' : World} {x c Q R : Nat} (h : PSn w W x c Q R) (hx : Ext W W') : PSn w W' x c Q R :=
  ⟨h.b0.ext hx, h.b1.ext hx, h.b2.ext hx, h.b3.ext hx, h.b4.ext hx, h.ext.trans hx⟩
end Go.Proofs.YtjaponmpfdpemaaGreatDoor

set_option linter.unusedVariables false
namespace Go.Proofs.YtjaponmpfdpemaaGreatDoor
open Go.RowKit
end Go.Proofs.YtjaponmpfdpemaaGreatDoor

set_option linter.unusedVariables false
namespace Go.Proofs.YtjaponmpfdpemaaGreatDoor
open Go.RowKit

/-- A product's quotient, rounded down: how far from nothing. -/
def flN (s : Bool) (P c : Nat) : Nat := P / c + (if s = true ∧ P % c ≠ 0 then 1 else 0)
theorem flN_neg (m b c : Nat) (hc : 0 < c) : (-(m : Int) * (b : Int)) / (c : Int) = -((flN true (m * b) c : Nat) : Int) := by
  unfold flN
  have e : -(m : Int) * (b : Int) = -((m * b : Nat) : Int) := by rw [Int.neg_mul, Int.natCast_mul]
  rw [e]
  generalize m * b = P
  have hd := Nat.div_add_mod P c
  have hl := Nat.mod_lt P hc
  have hp : (P : Int) = (c : Int) * ((P / c : Nat) : Int) + ((P % c : Nat) : Int) := by rw [← Int.natCast_mul, ← Int.natCast_add, hd]
  generalize P / c = Q at *
  generalize P % c = R at *
  have hc' : (0 : Int) < (c : Int) := by omega
  by_cases hR : R = 0
  · rw [if_neg (fun h => h.2 hR), hp, hR]
    have : -((c : Int) * (Q : Int) + ((0 : Nat) : Int)) = -(Q : Int) * (c : Int) := by rw [Int.neg_mul, Int.mul_comm]; simp
    rw [this, Int.mul_ediv_cancel _ (by omega)]
    simp
  · rw [if_pos ⟨rfl, hR⟩, hp]
    rw [show -((c : Int) * (Q : Int) + (R : Int)) = ((c : Int) - (R : Int)) + -((Q : Int) + 1) * (c : Int) by rw [Int.neg_mul, Int.add_mul, Int.mul_comm (c : Int)]; omega]
    rw [Int.add_mul_ediv_right _ _ (by omega), Int.ediv_eq_zero_of_lt (by omega) (by omega)]
    simp
theorem flN_pos (m b c : Nat) : ((m : Int) * (b : Int)) / (c : Int) = ((flN false (m * b) c : Nat) : Int) := by
  unfold flN
  rw [if_neg (fun h => by cases h.1), Nat.add_zero, ← Int.natCast_mul, Int.natCast_ediv]
def FlSt (w : World) (g8 : Nat) (sP : Bool) (P Q : Nat) (z : Int) (zb : Bool) (v9 v10 v11 : Value) (W : World) : Prop :=
  ∃ (g9 : Nat) (W' : World), W' = W ∧ v9 = .pointer (some ⟨g9, 0, none⟩) ∧ v10 = .int .i64 z ∧ v11 = .bool zb ∧ Blk W g9 153 (numC false (digI Q)) ∧ Blk W g8 153 (numC sP (digI P)) ∧ g8 < g9 ∧ w.heap.size ≤ g8 ∧ Ext w W
theorem FlSt.put {w W : World} {g8 g9 P Q : Nat} {sP : Bool} {z : Int} {zb : Bool} {s' : Bool} {f' : Nat → Int} (B9 : Blk W g9 153 (numC s' f')) (B8 : Blk W g8 153 (numC sP (digI P))) (h : g8 < g9) (h8 : w.heap.size ≤ g8) (X : Ext w W) :
    FlSt w g8 sP P Q z zb (.pointer (some ⟨g9, 0, none⟩)) (.int .i64 z) (.bool zb) (((((((((((((W.setCell ⟨g9, 0, none⟩ (.bool false)).setCell ⟨g9, 1, none⟩ (.int .i64 (digI Q 0))).setCell ⟨g9, 2, none⟩ (.int .i64 (digI Q 1))).setCell ⟨g9, 3, none⟩ (.int .i64 (digI Q 2))).setCell ⟨g9, 4, none⟩ (.int .i64 (digI Q 3))).setCell ⟨g9, 5, none⟩ (.int .i64 (digI Q 4))).setCell ⟨g9, 6, none⟩ (.int .i64 (digI Q 5))).setCell ⟨g9, 7, none⟩ (.int .i64 (digI Q 6))).setCell ⟨g9, 8, none⟩ (.int .i64 (digI Q 7))).setCell ⟨g9, 9, none⟩ (.int .i64 (digI Q 8))).setCell ⟨g9, 10, none⟩ (.int .i64 (digI Q 9))).setCell ⟨g9, 11, none⟩ (.int .i64 (digI Q 10))).setCell ⟨g9, 12, none⟩ (.int .i64 (digI Q 11))) :=
  ⟨g9, _, rfl, rfl, rfl, rfl, put13 B9, far13 B8 (by omega), h, h8, ext13 X (by omega)⟩
theorem FlSt.new {w W : World} {g8 P Q : Nat} {sP : Bool} {z : Int} {zb : Bool} (B8 : Blk W g8 153 (numC sP (digI P))) (h8 : w.heap.size ≤ g8) (X : Ext w W) :
    FlSt w g8 sP P Q z zb (.pointer (some ⟨W.heap.size, 0, none⟩)) (.int .i64 z) (.bool zb) (W.alloc (.cells #[.bool false, .int .i64 (digI Q 0), .int .i64 (digI Q 1), .int .i64 (digI Q 2), .int .i64 (digI Q 3), .int .i64 (digI Q 4), .int .i64 (digI Q 5), .int .i64 (digI Q 6), .int .i64 (digI Q 7), .int .i64 (digI Q 8), .int .i64 (digI Q 9), .int .i64 (digI Q 10), .int .i64 (digI Q 11)] 153)) :=
  ⟨W.heap.size, _, rfl, rfl, rfl, rfl, Blk.new W _ (numC false (digI Q)), B8.alloc _, B8.lt, h8, X.alloc _⟩
end Go.Proofs.YtjaponmpfdpemaaGreatDoor
