/-
  wide: small parts.
-/
import Derived.Test.YtehkmngbknbbaaaRj04
import Derived.Shelf.Bits.Mul64
set_option linter.unusedVariables false
namespace Go.Proofs.Ytehkmngbknbbaaa
open Go.RowKit

/-- The sign of a number. -/
def sgnI (x : Int) : Int := if x < 0 then -1 else if 0 < x then 1 else 0
theorem nan_any (x : Int) (w : World) : Calls Try.prog 138 #[.int .i64 x] w fun e w' => e = .returned (.bool false) ∧ w = w' := by
  go_enter Try.func138, Try.ntmps138
  go_wp2
  go_ret
  exact ⟨ret_bool (by simp), rfl⟩
theorem cmp0_any (x : Int) (w : World) : Calls Try.prog 136 #[.int .i64 x, .int .i64 0] w fun e w' => e = .returned (.int .i64 (sgnI x)) ∧ w = w' := by
  by_cases h1 : x < 0
  · go_enter Try.func136, Try.ntmps136
    go_wp2_with (go_at_call 138; refine (nan_any _ _).mono ?_; rintro e w' ⟨rfl, rfl⟩)
    go_ret
    exact ⟨by simp [sgnI, h1], rfl⟩
  · by_cases h2 : 0 < x
    · go_enter Try.func136, Try.ntmps136
      go_wp2_with (go_at_call 138; refine (nan_any _ _).mono ?_; rintro e w' ⟨rfl, rfl⟩)
      go_ret
      exact ⟨by simp [sgnI, h1, h2], rfl⟩
    · go_enter Try.func136, Try.ntmps136
      go_wp2_with (go_at_call 138; refine (nan_any _ _).mono ?_; rintro e w' ⟨rfl, rfl⟩)
      go_ret
      exact ⟨by rw [show sgnI x = 0 by rw [sgnI, if_neg (by omega), if_neg (by omega)]]; rfl, rfl⟩
theorem sign_any (x : Int) (w : World) : Calls Try.prog 126 #[.int .i64 x] w fun e w' => e = .returned (.int .i64 (sgnI x)) ∧ w = w' := by
  go_enter Try.func126, Try.ntmps126
  go_wp2_with (go_at_call 136; refine (cmp0_any _ _).mono ?_; rintro e w' ⟨rfl, rfl⟩)
  go_ret
  exact ⟨rfl, rfl⟩
theorem size_nat (n : Nat) (h : n < 9223372036854775808) (w : World) : Calls Try.prog 125 #[.int .i64 (n : Int)] w fun e w' => e = .returned (.int .u64 (n : Int)) ∧ w = w' := by
  have hd : decide ((n : Int) < 0) = false := by simp
  go_enter Try.func125, Try.ntmps125
  go_wp2
  go_ret
  exact ⟨rfl, rfl⟩
theorem signed_nat (n : Nat) (h : n < 9223372036854775808) (w : World) : Calls Try.prog 128 #[.int .u64 (n : Int), .bool false] w fun e w' => e = .returned (.tuple #[.int .i64 (n : Int), .int .i64 0]) ∧ w = w' := by
  have hd : decide ((n : Int) < 9223372036854775808) = true := by simp; omega
  go_enter Try.func128, Try.ntmps128
  go_wp2
  go_ret2
  exact ⟨rfl, rfl⟩
set_option maxHeartbeats 1000000 in
/-- (The walk of the shelf's contract, at this program.) -/
theorem mul64_any (x y : Nat) (hx : x < 18446744073709551616) (hy : y < 18446744073709551616) (w : World) :
    Calls Try.prog 135 #[.int .u64 (x : Int), .int .u64 (y : Int)] w fun e w' => e = .returned (.tuple #[.int .u64 ((x * y / 18446744073709551616 : Nat) : Int), .int .u64 ((x * y % 18446744073709551616 : Nat) : Int)]) ∧ w = w' := by
  obtain ⟨bd, bt, bw, hhi⟩ := Lib.mul64_hi x y hx hy
  have ba := Lib.half_mul_le (a := x / 4294967296) (b := y / 4294967296) (by omega) (by omega)
  have bb := Lib.half_mul_le (a := x / 4294967296) (b := y % 4294967296) (by omega) (by omega)
  have bc := Lib.half_mul_le (a := x % 4294967296) (b := y / 4294967296) (by omega) (by omega)
  have ba' : x / 4294967296 * (y / 4294967296) < 18446744073709551616 := by omega
  have bb' : x / 4294967296 * (y % 4294967296) < 18446744073709551616 := by omega
  have bc' : x % 4294967296 * (y / 4294967296) < 18446744073709551616 := by omega
  have bh1 : x / 4294967296 * (y / 4294967296) + (x / 4294967296 * (y % 4294967296) + x % 4294967296 * (y % 4294967296) / 4294967296) / 4294967296 < 18446744073709551616 := by omega
  have bh : x / 4294967296 * (y / 4294967296) + (x / 4294967296 * (y % 4294967296) + x % 4294967296 * (y % 4294967296) / 4294967296) / 4294967296 + ((x / 4294967296 * (y % 4294967296) + x % 4294967296 * (y % 4294967296) / 4294967296) % 4294967296 + x % 4294967296 * (y / 4294967296)) / 4294967296 < 18446744073709551616 := by
    rw [hhi]
    exact Nat.div_lt_of_lt_mul (Nat.lt_of_lt_of_le (Nat.mul_lt_mul'' hx hy) (Nat.le_refl _))
  go_enter Try.func135, Try.ntmps135
  go_wp2
  simp only [Mul64.maskN x hx, Mul64.maskN y hy, Mul64.divN, Mul64.mulN, Mul64.addN, Mul64.wrapN _ bd, Mul64.wrapN _ bb', Mul64.wrapN _ bt, Mul64.maskN _ bt, Mul64.wrapN _ bc', Mul64.wrapN _ bw, Mul64.wrapN _ ba', Mul64.wrapN _ bh1, Mul64.wrapN _ bh, Mul64.wrapM (x * y)]
  rw [hhi]
  go_ret2
  exact ⟨rfl, rfl⟩

set_option maxRecDepth 100000 in
set_option maxHeartbeats 1000000 in
theorem wmul_nat (a b : Nat) (ha : a < 9223372036854775808) (hb : b < 9223372036854775808) (w : World) :
    Calls Try.prog 124 #[.int .i64 (a : Int), .int .i64 (b : Int)] w fun e w' => e = .returned (.tuple #[.int .u64 ((a * b / 18446744073709551616 : Nat) : Int), .int .u64 ((a * b % 18446744073709551616 : Nat) : Int), .int .i64 (sgnI a * sgnI b)]) ∧ w = w' := by
  have hs : ∀ x : Int, -1 ≤ sgnI x ∧ sgnI x ≤ 1 := by intro x; unfold sgnI; split <;> (try split) <;> omega
  have h1 := Lib.hid (hs a)
  have h2 := Lib.hid (hs b)
  clear hs
  go_enter Try.func124, Try.ntmps124
  go_wp2_with (first | (go_at_call 125; refine (size_nat _ (by assumption) _).mono ?_; rintro e w' ⟨rfl, rfl⟩) | (go_at_call 135; refine (mul64_any a b (by omega) (by omega) _).mono ?_; rintro e w' ⟨rfl, rfl⟩) | (go_at_call 126; refine (sign_any _ _).mono ?_; rintro e w' ⟨rfl, rfl⟩))
  have hw : RowKit.wrap64 (sgnI a * sgnI b) = sgnI a * sgnI b := by
    have h1' := h1.out
    have h2' := h2.out
    generalize sgnI a = x at *
    generalize sgnI b = y at *
    have : x = -1 ∨ x = 0 ∨ x = 1 := by omega
    rcases this with rfl | rfl | rfl <;> (unfold RowKit.wrap64; omega)
  refine bodyPost_ret (v := .tuple #[.int .u64 ((a : Int) * b / 18446744073709551616), .int .u64 ((a : Int) * b % 18446744073709551616), .int .i64 (RowKit.wrap64 (sgnI a * sgnI b))]) (by simp [results, Try.results124, go_sem]) rfl ⟨?_, rfl⟩
  rw [hw]
  simp
end Go.Proofs.Ytehkmngbknbbaaa
