/-
  math/bits: Len64, LeadingZeros64 (the walk of Len64 is turned from the kit's worked text).
-/
import Derived.Test.YtehkmngbknbbaaaCa
import Derived.Lib.Strings
import Derived.Lib.Slices
import Derived.Lib.Small
import Derived.Lib.Walk
import Derived.Lib.BitFns
set_option linter.unusedVariables false
namespace Go.Proofs.Ytehkmngbknbbaaa
open Go.RowKit

theorem tab_at (i : Int) (h0 : 0 ≤ i) (h1 : i ≤ 255) (h : i.toNat < Lib.len8tab.size) : ((Lib.len8tab[i.toNat]'h).toNat : Int) = (Lib.bitLen i.toNat : Int) := by
  rw [← Lib.len8_of i h0 h1]
  unfold Lib.len8
  simp [h]
theorem len_case (x c : Int) (k : Nat) (h0 : 0 ≤ c) (h1 : c ≤ 255) (hk : k ≤ 56) (he : Lib.bitLen x.toNat = k + Lib.bitLen c.toNat) (h : c.toNat < Lib.len8tab.size) :
    RowKit.wrap64 ((k : Int) + RowKit.wrap64 ((Lib.len8tab[c.toNat]'h).toNat : Int)) = (Lib.bitLen x.toNat : Int) := by
  rw [tab_at c h0 h1, he]
  have l := Lib.bitLen_le8' c h0 h1
  generalize Lib.bitLen c.toNat = m at *
  unfold RowKit.wrap64
  omega
theorem len_case0 (x : Int) (h0 : 0 ≤ x) (h1 : x ≤ 255) (h : x.toNat < Lib.len8tab.size) :
    RowKit.wrap64 (RowKit.wrap64 ((Lib.len8tab[x.toNat]'h).toNat : Int)) = (Lib.bitLen x.toNat : Int) := by
  rw [tab_at x h0 h1]
  have l := Lib.bitLen_le8' x h0 h1
  generalize Lib.bitLen x.toNat = m at *
  unfold RowKit.wrap64
  omega
set_option maxHeartbeats 4000000 in
set_option maxRecDepth 100000 in
theorem len64_any (x : Int) (w : World) (h0 : 0 ≤ x) (h1 : x ≤ 18446744073709551615) :
    Calls Try.prog 139 #[.int .u64 x] w fun e w' => e = .returned (.int .i64 (Lib.bitLen x.toNat)) ∧ w' = w := by
  have hsz := Lib.len8tab_size
  go_enter Try.func139, Try.ntmps139
  go_wp2
  all_goals (go_ret; refine ⟨ret_int ?_, rfl⟩)
  all_goals first
    | (refine len_case x (x / 4294967296 / 65536 / 256) 56 ?_ ?_ ?_ ?_ _; (omega); (omega); (omega); (rw [show (x / 4294967296 / 65536 / 256).toNat = x.toNat / 72057594037927936 by omega]; exact Lib.bitLen_shift56 x.toNat (by omega) (by omega)))
    | (refine len_case x (x / 4294967296 / 65536) 48 ?_ ?_ ?_ ?_ _; (omega); (omega); (omega); (rw [show (x / 4294967296 / 65536).toNat = x.toNat / 281474976710656 by omega]; exact Lib.bitLen_shift48 x.toNat (by omega) (by omega)))
    | (refine len_case x (x / 4294967296 / 256) 40 ?_ ?_ ?_ ?_ _; (omega); (omega); (omega); (rw [show (x / 4294967296 / 256).toNat = x.toNat / 1099511627776 by omega]; exact Lib.bitLen_shift40 x.toNat (by omega) (by omega)))
    | (refine len_case x (x / 4294967296) 32 ?_ ?_ ?_ ?_ _; (omega); (omega); (omega); (rw [show (x / 4294967296).toNat = x.toNat / 4294967296 by omega]; exact Lib.bitLen_shift32 x.toNat (by omega) (by omega)))
    | (refine len_case x (x / 65536 / 256) 24 ?_ ?_ ?_ ?_ _; (omega); (omega); (omega); (rw [show (x / 65536 / 256).toNat = x.toNat / 16777216 by omega]; exact Lib.bitLen_shift24 x.toNat (by omega) (by omega)))
    | (refine len_case x (x / 65536) 16 ?_ ?_ ?_ ?_ _; (omega); (omega); (omega); (rw [show (x / 65536).toNat = x.toNat / 65536 by omega]; exact Lib.bitLen_shift16 x.toNat (by omega) (by omega)))
    | (refine len_case x (x / 256) 8 ?_ ?_ ?_ ?_ _; (omega); (omega); (omega); (rw [show (x / 256).toNat = x.toNat / 256 by omega]; exact Lib.bitLen_shift8 x.toNat (by omega) (by omega)))
    | (refine len_case0 x h0 ?_ _; omega)

theorem bitLen_bounds : ∀ (k x : Nat), x < 2 ^ k → k ≤ 64 → 0 < x → 2 ^ (Lib.bitLen x - 1) ≤ x ∧ x < 2 ^ Lib.bitLen x ∧ 1 ≤ Lib.bitLen x
  | 0, x, h, _, h0 => by simp at h; omega
  | k + 1, x, h, hk, h0 => by
    have hx64 : x < 2 ^ 64 := Nat.lt_of_lt_of_le h (Nat.pow_le_pow_right (by decide) hk)
    have hh := Lib.bitLen_half x (by omega) hx64
    by_cases h1 : x = 1
    · subst h1; decide
    · have hp : 0 < x / 2 := by omega
      obtain ⟨a, b, c⟩ := bitLen_bounds k (x / 2) (by rw [Nat.pow_succ] at h; omega) (by omega) hp
      rw [hh]
      generalize Lib.bitLen (x / 2) = m at *
      obtain ⟨m, rfl⟩ : ∃ n, m = n + 1 := ⟨m - 1, by omega⟩
      rw [show 1 + (m + 1) - 1 = m + 1 by omega, show 1 + (m + 1) = m + 1 + 1 by omega]
      rw [Nat.pow_succ 2 (m + 1)]
      rw [show m + 1 - 1 = m by omega] at a
      rw [Nat.pow_succ] at b ⊢
      omega
/-- The shift that brings the top bit up. -/
def lzN (y : Nat) : Nat := 64 - Lib.bitLen y
theorem lzN_le (y : Nat) (h0 : 0 < y) (h : y < 2 ^ 64) : lzN y ≤ 63 ∧ Lib.bitLen y ≤ 64 ∧ 1 ≤ Lib.bitLen y := by
  have := bitLen_bounds 64 y h (Nat.le_refl _) h0
  have := Lib.bitLen_le y 64 (Nat.le_refl _) h
  unfold lzN
  omega
theorem lz_norm (y : Nat) (h0 : 0 < y) (h : y < 2 ^ 64) : 2 ^ 63 ≤ y * 2 ^ lzN y ∧ y * 2 ^ lzN y < 2 ^ 64 := by
  obtain ⟨a, b, c⟩ := bitLen_bounds 64 y h (Nat.le_refl _) h0
  have hl := Lib.bitLen_le y 64 (Nat.le_refl _) h
  have e1 : 2 ^ (Lib.bitLen y - 1) * 2 ^ lzN y = 2 ^ 63 := by rw [← Nat.pow_add]; congr 1; unfold lzN; omega
  have e2 : 2 ^ Lib.bitLen y * 2 ^ lzN y = 2 ^ 64 := by rw [← Nat.pow_add]; congr 1; unfold lzN; omega
  constructor
  · rw [← e1]; exact Nat.mul_le_mul_right _ a
  · rw [← e2]; exact Nat.mul_lt_mul_of_pos_right b (Nat.pow_pos (by decide))
theorem lz_any (y : Nat) (h : y < 18446744073709551616) (w : World) :
    Calls Try.prog 137 #[.int .u64 (y : Int)] w fun e w' => e = .returned (.int .i64 (lzN y : Int)) ∧ w = w' := by
  have hb : Lib.bitLen y ≤ 64 := Lib.bitLen_le y 64 (Nat.le_refl _) h
  have hw : 64 - (Lib.bitLen y : Int) = (lzN y : Int) := by unfold lzN; omega
  replace hw := Lib.hid hw
  go_enter Try.func137, Try.ntmps137
  go_wp2_with (go_at_call 139; refine (len64_any (y : Int) _ (by omega) (by omega)).mono ?_; rintro e w' ⟨rfl, rfl⟩)
  go_ret
  exact ⟨ret_int (by simpa using hw.out), rfl⟩
end Go.Proofs.Ytehkmngbknbbaaa
