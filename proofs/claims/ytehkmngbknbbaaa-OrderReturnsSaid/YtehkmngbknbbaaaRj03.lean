/-
  Plain: the reference's whole numbers, digit by digit to the base 2^16.
-/
import Derived.Test.YtehkmngbknbbaaaRj02
set_option linter.unusedVariables false
namespace Go.Proofs.Ytehkmngbknbbaaa

/-- The value of the first k digits. -/
def sumD (f : Nat → Nat) : Nat → Nat
  | 0 => 0
  | k + 1 => sumD f k + f k * 65536 ^ k
/-- A digit of a number. -/
def dig (n i : Nat) : Nat := n / 65536 ^ i % 65536
theorem B_pos (k : Nat) : 0 < 65536 ^ k := Nat.pow_pos (by decide)
theorem dig_lt (n i : Nat) : dig n i < 65536 := Nat.mod_lt _ (by decide)
theorem sumD_lt {f : Nat → Nat} : ∀ {k : Nat}, (∀ i, i < k → f i < 65536) → sumD f k < 65536 ^ k
  | 0, _ => by simp [sumD]
  | k + 1, h => by
    have h1 := sumD_lt (f := f) (k := k) fun i hi => h i (by omega)
    have h2 := Nat.mul_le_mul_right (65536 ^ k) (show f k + 1 ≤ 65536 from h k (by omega))
    rw [Nat.add_mul, Nat.one_mul] at h2
    rw [sumD, Nat.pow_succ, Nat.mul_comm (65536 ^ k) 65536]
    omega
theorem sumD_congr {f g : Nat → Nat} : ∀ {k : Nat}, (∀ i, i < k → f i = g i) → sumD f k = sumD g k
  | 0, _ => rfl
  | k + 1, h => by rw [sumD, sumD, sumD_congr (fun i hi => h i (by omega)), h k (by omega)]
theorem sumD_dig (n : Nat) : ∀ k, sumD (dig n) k = n % 65536 ^ k
  | 0 => by simp [sumD, Nat.mod_one]
  | k + 1 => by
    rw [sumD, sumD_dig n k, Nat.pow_succ, Nat.mod_mul, dig, Nat.mul_comm]
theorem sumD_dig12 {n : Nat} (h : n < 65536 ^ 12) : sumD (dig n) 12 = n := by rw [sumD_dig, Nat.mod_eq_of_lt h]
theorem sumD_add (f g : Nat → Nat) : ∀ k, sumD (fun i => f i + g i) k = sumD f k + sumD g k
  | 0 => rfl
  | k + 1 => by rw [sumD, sumD, sumD, sumD_add f g k, Nat.add_mul]; omega
theorem sum_div (f : Nat → Nat) (k : Nat) : sumD f (k + 1) / 65536 ^ k = sumD f k / 65536 ^ k + f k := by
  rw [sumD, Nat.add_mul_div_right _ _ (B_pos k)]
theorem pow_split {i k : Nat} (h : i ≤ k) : 65536 ^ k = 65536 ^ i * 65536 ^ (k - i) := by rw [← Nat.pow_add]; congr 1; omega
/-- The digits of a higher sum are those of the lower one. -/
theorem dig_more (f : Nat → Nat) {i k : Nat} (h : i < k) : dig (sumD f (k + 1)) i = dig (sumD f k) i := by
  unfold dig
  have e : f k * 65536 ^ k = f k * 65536 ^ (k - i - 1) * 65536 * 65536 ^ i := by
    have : 65536 ^ k = 65536 ^ (k - i - 1) * 65536 * 65536 ^ i := by
      rw [← Nat.pow_succ, ← Nat.pow_add]; congr 1; omega
    rw [this, ← Nat.mul_assoc, ← Nat.mul_assoc]
  rw [sumD, e, Nat.add_mul_div_right _ _ (B_pos i), Nat.add_mul_mod_self_right]

/-- A row of digits with one changed. -/
def upd (f : Nat → Nat) (k v : Nat) : Nat → Nat := fun i => if i = k then v else f i
/-- Carried so far. -/
def cst (f : Nat → Nat) (k : Nat) : Nat → Nat := fun i => if i < k then dig (sumD f k) i else if i = k then f k + sumD f k / 65536 ^ k else f i
theorem cst_0 (f : Nat → Nat) : cst f 0 = f := by
  funext i
  unfold cst
  rw [if_neg (by omega)]
  split
  · next h => subst h; simp [sumD]
  · rfl
theorem cst_k (f : Nat → Nat) (k : Nat) : cst f k k = f k + sumD f k / 65536 ^ k := by
  unfold cst
  rw [if_neg (by omega), if_pos rfl]
theorem cst_up (f : Nat → Nat) {k i : Nat} (h : k < i) : cst f k i = f i := by
  unfold cst
  rw [if_neg (by omega), if_neg (by omega)]
theorem cst_step (f : Nat → Nat) (k : Nat) : cst f (k + 1) = upd (upd (cst f k) (k + 1) (cst f k (k + 1) + cst f k k / 65536)) k (cst f k k % 65536) := by
  funext i
  have hs := sum_div f k
  unfold upd
  by_cases h1 : i = k
  · subst h1
    rw [if_pos rfl, cst_k]
    unfold cst
    rw [if_pos (by omega)]
    unfold dig
    rw [hs, Nat.add_comm]
  rw [if_neg h1]
  by_cases h2 : i = k + 1
  · subst h2
    rw [if_pos rfl, cst_k, cst_up f (by omega), cst_k, Nat.pow_succ, ← Nat.div_div_eq_div_mul, hs, Nat.add_comm (f k)]
  rw [if_neg h2]
  unfold cst
  by_cases h3 : i < k
  · rw [if_pos (by omega), if_pos h3, dig_more f h3]
  · rw [if_neg (by omega), if_neg h2, if_neg h3, if_neg h1]
theorem cst_end {f : Nat → Nat} (h : sumD f 12 < 65536 ^ 12) {i : Nat} (hi : i < 12) : cst f 11 i = dig (sumD f 12) i := by
  unfold cst
  by_cases h1 : i < 11
  · rw [if_pos h1, dig_more f h1]
  · have h2 : i = 11 := by omega
    subst h2
    rw [if_neg (by omega), if_pos rfl]
    have hs := sum_div f 11
    unfold dig
    rw [Nat.mod_eq_of_lt, hs, Nat.add_comm]
    exact (Nat.div_lt_iff_lt_mul (B_pos 11)).2 (by rw [Nat.mul_comm, ← Nat.pow_succ]; exact h)
theorem carry_bd {f : Nat → Nat} {M : Nat} (hM : 2 ≤ M) (h : ∀ i, f i ≤ M) : ∀ k, sumD f k / 65536 ^ k ≤ M
  | 0 => by simp [sumD]
  | k + 1 => by
    have h1 := carry_bd hM h k
    have h2 := h k
    rw [Nat.pow_succ, ← Nat.div_div_eq_div_mul, sum_div]
    omega
theorem cst_bd {f : Nat → Nat} {M : Nat} (hM : 65536 ≤ M) (h : ∀ i, f i ≤ M) (k i : Nat) : cst f k i ≤ 2 * M := by
  unfold cst
  split
  · have := dig_lt (sumD f k) i; omega
  split
  · have := carry_bd (by omega) h k
    have := h k
    omega
  · have := h i; omega

/-! ### Sizes -/
theorem top_eq {n i : Nat} : n / 65536 ^ i = 65536 * (n / 65536 ^ (i + 1)) + dig n i := by
  unfold dig
  rw [Nat.pow_succ, ← Nat.div_div_eq_div_mul]
  omega
theorem top_lt {m n i : Nat} (h : m / 65536 ^ (i + 1) = n / 65536 ^ (i + 1)) (hl : dig m i < dig n i) : m < n := by
  have e1 := top_eq (n := m) (i := i)
  have e2 := top_eq (n := n) (i := i)
  rcases Nat.lt_or_ge m n with hlt | hge
  · exact hlt
  · have := Nat.div_le_div_right (c := 65536 ^ i) hge
    omega
theorem top_next {m n i : Nat} (h : m / 65536 ^ (i + 1) = n / 65536 ^ (i + 1)) (hl : dig m i = dig n i) : m / 65536 ^ i = n / 65536 ^ i := by
  rw [top_eq (n := m), top_eq (n := n), h, hl]
/-- P1: how two sizes compare. -/
def cmpN (m n : Nat) : Int := if m < n then -1 else if n < m then 1 else 0

/-! ### Subtraction -/
def brw (m n k : Nat) : Nat := if m % 65536 ^ k < n % 65536 ^ k then 1 else 0
theorem brw_0 (m n : Nat) : brw m n 0 = 0 := by simp [brw, Nat.mod_one]
theorem mod_step (n k : Nat) : n % 65536 ^ (k + 1) = n % 65536 ^ k + dig n k * 65536 ^ k := by
  rw [Nat.pow_succ, Nat.mod_mul, dig, Nat.mul_comm (n / 65536 ^ k % 65536)]
theorem mod_lt_pow (n k : Nat) : n % 65536 ^ k < 65536 ^ k := Nat.mod_lt _ (B_pos k)
theorem brw_succ (m n k : Nat) : brw m n (k + 1) = if dig m k < dig n k + brw m n k then 1 else 0 := by
  have h1 := mod_lt_pow m k
  have h2 := mod_lt_pow n k
  have e1 := mod_step m k
  have e2 := mod_step n k
  unfold brw
  rw [e1, e2]
  generalize m % 65536 ^ k = a at *
  generalize n % 65536 ^ k = b at *
  generalize 65536 ^ k = P at *
  rcases Nat.lt_trichotomy (dig m k) (dig n k) with h | h | h
  · have := Nat.mul_le_mul_right P (show dig m k + 1 ≤ dig n k from h)
    rw [Nat.add_mul, Nat.one_mul] at this
    rw [if_pos (by omega), if_pos (by omega)]
  · rw [h]
    by_cases hab : a < b
    · rw [if_pos hab, if_pos (by omega), if_pos (by omega)]
    · rw [if_neg hab, if_neg (by omega), if_neg (by omega)]
  · have := Nat.mul_le_mul_right P (show dig n k + 1 ≤ dig m k from h)
    rw [Nat.add_mul, Nat.one_mul] at this
    rw [if_neg (by omega)]
    split <;> rw [if_neg (by omega)]
theorem sub_mod {m n k : Nat} (h : n ≤ m) : (m - n) % 65536 ^ k + n % 65536 ^ k = m % 65536 ^ k + brw m n k * 65536 ^ k := by
  have e : m = (m - n) + n := by omega
  generalize m - n = d at *
  subst e
  unfold brw
  have h1 := mod_lt_pow d k
  have h2 := mod_lt_pow n k
  rw [Nat.add_mod]
  generalize d % 65536 ^ k = a at *
  generalize n % 65536 ^ k = b at *
  generalize 65536 ^ k = P at *
  rcases Nat.lt_or_ge (a + b) P with hl | hl
  · rw [Nat.mod_eq_of_lt hl, if_neg (by omega)]; omega
  · have : (a + b) % P = a + b - P := by rw [Nat.mod_eq_sub_mod hl, Nat.mod_eq_of_lt (by omega)]
    rw [this, if_pos (by omega)]; omega
theorem sub_dig {m n : Nat} (h : n ≤ m) (k : Nat) : (dig (m - n) k : Int) = (dig m k : Int) - (brw m n k : Int) - (dig n k : Int) + (brw m n (k + 1) : Int) * 65536 := by
  have s1 := sub_mod (k := k) h
  have s2 := sub_mod (k := k + 1) h
  rw [mod_step, mod_step n, mod_step m, Nat.pow_succ] at s2
  generalize (m - n) % 65536 ^ k = a at *
  generalize n % 65536 ^ k = b at *
  generalize m % 65536 ^ k = c at *
  have hP := B_pos k
  generalize 65536 ^ k = P at *
  generalize brw m n k = x at *
  generalize brw m n (k + 1) = y at *
  generalize dig (m - n) k = d at *
  generalize dig m k = u at *
  generalize dig n k = v at *
  have s3 : (d + v + x) * P = (u + y * 65536) * P := by
    have e1 : (d + v + x) * P = d * P + v * P + x * P := by rw [Nat.add_mul, Nat.add_mul]
    have e2 : (u + y * 65536) * P = u * P + y * (P * 65536) := by rw [Nat.add_mul, Nat.mul_assoc, Nat.mul_comm 65536 P]
    omega
  have := Nat.eq_of_mul_eq_mul_right hP s3
  omega
theorem brw_12 {m n : Nat} (h : n ≤ m) (hm : m < 65536 ^ 12) : brw m n 12 = 0 := by
  unfold brw
  rw [Nat.mod_eq_of_lt hm, Nat.mod_eq_of_lt (by omega), if_neg (by omega)]
theorem brw_le (m n k : Nat) : brw m n k ≤ 1 := by unfold brw; split <;> omega

/-! ### Division, bit by bit -/
theorem bit_dig (x i : Nat) : dig x (i / 16) / 2 ^ (i % 16) % 2 = x / 2 ^ i % 2 := by
  unfold dig
  have e : 65536 ^ (i / 16) = 2 ^ (16 * (i / 16)) := by rw [Nat.pow_mul]
  have h16 : (65536 : Nat) = 2 ^ (i % 16) * 2 * 2 ^ (15 - i % 16) := by
    rw [← Nat.pow_succ, ← Nat.pow_add, show i % 16 + 1 + (15 - i % 16) = 16 by omega]
  have hi : 2 ^ i = 65536 ^ (i / 16) * 2 ^ (i % 16) := by rw [e, ← Nat.pow_add]; congr 1; omega
  rw [hi, ← Nat.div_div_eq_div_mul]
  generalize x / 65536 ^ (i / 16) = y
  conv => lhs; rw [h16]
  rw [Nat.mul_assoc, Nat.mod_mul_right_div_self, Nat.mod_mul_right_mod]
theorem div_bit {x i c : Nat} (hc : 0 < c) (q r : Nat) (hq : q = x / 2 ^ (i + 1) / c) (hr : r = x / 2 ^ (i + 1) % c) :
    x / 2 ^ i / c = (if c ≤ 2 * r + x / 2 ^ i % 2 then 2 * q + 1 else 2 * q) ∧ x / 2 ^ i % c = (if c ≤ 2 * r + x / 2 ^ i % 2 then 2 * r + x / 2 ^ i % 2 - c else 2 * r + x / 2 ^ i % 2) := by
  have e : x / 2 ^ (i + 1) = x / 2 ^ i / 2 := by rw [Nat.pow_succ, Nat.div_div_eq_div_mul]
  rw [e] at hq hr
  generalize x / 2 ^ i = y at *
  have hd := Nat.div_add_mod (y / 2) c
  rw [← hq, ← hr] at hd
  have hrc : r < c := by rw [hr]; exact Nat.mod_lt _ hc
  have hy : y = c * (2 * q) + (2 * r + y % 2) := by
    have : c * (2 * q) = 2 * (c * q) := by rw [Nat.mul_left_comm]
    omega
  have hb : y % 2 < 2 := Nat.mod_lt _ (by decide)
  generalize y % 2 = b at *
  by_cases h : c ≤ 2 * r + b
  · rw [if_pos h, if_pos h]
    have hy2 : y = c * (2 * q + 1) + (2 * r + b - c) := by rw [Nat.mul_add, Nat.mul_one]; omega
    constructor
    · rw [hy2, Nat.mul_add_div hc, Nat.div_eq_of_lt (by omega), Nat.add_zero]
    · rw [hy2, Nat.mul_add_mod, Nat.mod_eq_of_lt (by omega)]
  · rw [if_neg h, if_neg h]
    constructor
    · rw [hy, Nat.mul_add_div hc, Nat.div_eq_of_lt (by omega), Nat.add_zero]
    · rw [hy, Nat.mul_add_mod, Nat.mod_eq_of_lt (by omega)]
end Go.Proofs.Ytehkmngbknbbaaa
