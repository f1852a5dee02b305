/-
  Numbers as bytes: the walks through both Puts.
-/
import Derived.Test.YtjaponmpfdpemaaGreatDoorProg
import Derived.Test.YtjaponmpfdpemaaGreatDoorKb06
import Derived.Shelf.Bits.Mul64
import Derived.Lib.Strings
import Derived.Lib.Slices
import Derived.Lib.Small
import Derived.Lib.Walk
import Derived.Lib.BitFns
set_option linter.unusedVariables false
namespace Go.Proofs.YtjaponmpfdpemaaGreatDoor
open Go.RowKit
/-- A round of a Put: so much is written, r is left. -/
def PutRel (w : World) (z : Nat) (s o : Value) (wr : World) : Prop :=
  ∃ (f r : Nat) (out : List UInt8), s = .int .u64 (r : Int) ∧ r < 128 ^ f ∧ r < 18446744073709551616 ∧ 1 ≤ f ∧ f + out.length ≤ 10 ∧ lebF 10 z = out ++ lebF f r ∧ wr.ownsRow w.heap.size 5 1 o out.length (bV out) ∧ Ext w wr ∧ AllP wr o u8P
theorem PutRel.next {w w1 : World} {z f r : Nat} {out : List UInt8} {v1 : Value} {n c : Int} (hr : r < 128 ^ (f + 1)) (hrl : r < 18446744073709551616) (hge : 128 ≤ r) (hfl : f + 1 + out.length ≤ 10) (h : lebF 10 z = out ++ lebF (f + 1) r)
    (hg : w1.ownsRow w.heap.size 5 1 v1 (out.length + 1) (bV out ++ [.int .u8 c])) (hc : c = ((UInt8.ofNat (r % 128 + 128)).toNat : Int)) (hx : Ext w w1) (hall : AllP w1 v1 u8P) (hn : n = ((r / 128 : Nat) : Int)) : PutRel w z (.int .u64 n) v1 w1 := by
  subst hn hc
  refine ⟨f, r / 128, out ++ [UInt8.ofNat (r % 128 + 128)], rfl, ?_, by omega, ?_, by simp; omega, by rw [h, lebF_big f r hge]; simp, ?_, hx, hall⟩
  · rw [Nat.pow_succ] at hr; exact Nat.div_lt_of_lt_mul (by omega)
  · rcases f with _ | f
    · simp at hr; omega
    · omega
  · rw [bV_app, List.length_append]
    simpa [bV] using hg
theorem PutRel.done {w w1 : World} {z f r : Nat} {out : List UInt8} {v1 : Value} (hlt : r < 128) (h : lebF 10 z = out ++ lebF (f + 1) r)
    (hg : w1.ownsRow w.heap.size 5 1 v1 (out.length + 1) (bV out ++ [.int .u8 ((UInt8.ofNat r).toNat : Int)])) : w1.ownsRow w.heap.size 5 1 v1 (lebF 10 z).length (bV (lebF 10 z)) := by
  rw [h, lebF_small f r hlt, bV_app, List.length_append]
  simpa [bV] using hg

end Go.Proofs.YtjaponmpfdpemaaGreatDoor

set_option linter.unusedVariables false
namespace Go.Proofs.YtjaponmpfdpemaaGreatDoor
open Go.RowKit

/-- The sign of a number. -/
def sgnI (x : Int) : Int := if x < 0 then -1 else if 0 < x then 1 else 0
theorem nan_any (x : Int) (w : World) : Calls Tryz.prog 158 #[.int .i64 x] w fun e w' => e = .returned (.bool false) ∧ w = w' := by
  go_enter Tryz.func158, Tryz.ntmps158
  go_wp2
  go_ret
  exact ⟨ret_bool (by simp), rfl⟩
theorem cmp0_any (x : Int) (w : World) : Calls Tryz.prog 132 #[.int .i64 x, .int .i64 0] w fun e w' => e = .returned (.int .i64 (sgnI x)) ∧ w = w' := by
  by_cases h1 : x < 0
  · go_enter Tryz.func132, Tryz.ntmps132
    go_wp2_with (go_at_call 158; refine (nan_any _ _).mono ?_; rintro e w' ⟨rfl, rfl⟩)
    go_ret
    exact ⟨by simp [sgnI, h1], rfl⟩
  · by_cases h2 : 0 < x
    · go_enter Tryz.func132, Tryz.ntmps132
      go_wp2_with (go_at_call 158; refine (nan_any _ _).mono ?_; rintro e w' ⟨rfl, rfl⟩)
      go_ret
      exact ⟨by simp [sgnI, h1, h2], rfl⟩
    · go_enter Tryz.func132, Tryz.ntmps132
      go_wp2_with (go_at_call 158; refine (nan_any _ _).mono ?_; rintro e w' ⟨rfl, rfl⟩)
      go_ret
      exact ⟨by rw [show sgnI x = 0 by rw [sgnI, if_neg (by omega), if_neg (by omega)]]; rfl, rfl⟩
theorem sign_any (x : Int) (w : World) : Calls Tryz.prog 98 #[.int .i64 x] w fun e w' => e = .returned (.int .i64 (sgnI x)) ∧ w = w' := by
  go_enter Tryz.func98, Tryz.ntmps98
  go_wp2_with (go_at_call 132; refine (cmp0_any _ _).mono ?_; rintro e w' ⟨rfl, rfl⟩)
  go_ret
  exact ⟨rfl, rfl⟩
theorem size_nat (n : Nat) (h : n < 9223372036854775808) (w : World) : Calls Tryz.prog 97 #[.int .i64 (n : Int)] w fun e w' => e = .returned (.int .u64 (n : Int)) ∧ w = w' := by
  have hd : decide ((n : Int) < 0) = false := by simp
  go_enter Tryz.func97, Tryz.ntmps97
  go_wp2
  go_ret
  exact ⟨rfl, rfl⟩
theorem signed_nat (n : Nat) (h : n < 9223372036854775808) (w : World) : Calls Tryz.prog 100 #[.int .u64 (n : Int), .bool false] w fun e w' => e = .returned (.tuple #[.int .i64 (n : Int), .int .i64 0]) ∧ w = w' := by
  have hd : decide ((n : Int) < 9223372036854775808) = true := by simp; omega
  go_enter Tryz.func100, Tryz.ntmps100
  go_wp2
  go_ret2
  exact ⟨rfl, rfl⟩
set_option maxHeartbeats 1000000 in
/-- (The walk of the shelf's contract, at this program.) -/
theorem mul64_any (x y : Nat) (hx : x < 18446744073709551616) (hy : y < 18446744073709551616) (w : World) :
    Calls Tryz.prog 131 #[.int .u64 (x : Int), .int .u64 (y : Int)] w fun e w' => e = .returned (.tuple #[.int .u64 ((x * y / 18446744073709551616 : Nat) : Int), .int .u64 ((x * y % 18446744073709551616 : Nat) : Int)]) ∧ w = w' := by
  obtain ⟨bd, bt, bw, hhi⟩ := Lib.mul64_hi x y hx hy
  have ba := Lib.half_mul_le (a := x / 4294967296) (b := y / 4294967296) (by omega) (by omega)
  have bb := Lib.half_mul_le (a := x / 4294967296) (b := y % 4294967296) (by omega) (by omega)
  have bc := Lib.half_mul_le (a := x % 4294967296) (b := y / 4294967296) (by omega) (by omega)
  have ba' : x / 4294967296 * (y / 4294967296) < 18446744073709551616 := by omega
  have bb' : x / 4294967296 * (y % 4294967296) < 18446744073709551616 := by omega
  have bc' : x % 4294967296 * (y / 4294967296) < 18446744073709551616 := by omega
  have bh1 : x / 4294967296 * (y / 4294967296) + (x / 4294967296 * (y % 4294967296) + x % 4294967296 * (y % 4294967296) / 4294967296) / 4294967296 < 18446744073709551616 := by omega
  have bh : x / 4294967296 * (y / 4294967296) + (x / 4294967296 * (y % 4294967296) + x % 4294967296 * (y % 4294967296) / 4294967296) / 4294967296 + ((x / 4294967296 * (y % 4294967296) + x % 4294967296 * (y % 4294967296) / 4294967296) % 4294967296 + x % 4294967296 * (y / 4294967296)) / 4294967296 < 18446744073709551616 := by
    rw [hhi]
    exact Nat.div_lt_of_lt_mul (Nat.lt_of_lt_of_le (Nat.mul_lt_mul'' hx hy) (Nat.le_refl _))
  go_enter Tryz.func131, Tryz.ntmps131
  go_wp2
  simp only [Mul64.maskN x hx, Mul64.maskN y hy, Mul64.divN, Mul64.mulN, Mul64.addN, Mul64.wrapN _ bd, Mul64.wrapN _ bb', Mul64.wrapN _ bt, Mul64.maskN _ bt, Mul64.wrapN _ bc', Mul64.wrapN _ bw, Mul64.wrapN _ ba', Mul64.wrapN _ bh1, Mul64.wrapN _ bh, Mul64.wrapM (x * y)]
  rw [hhi]
  go_ret2
  exact ⟨rfl, rfl⟩

end Go.Proofs.YtjaponmpfdpemaaGreatDoor

set_option linter.unusedVariables false
namespace Go.Proofs.YtjaponmpfdpemaaGreatDoor
open Go.RowKit

theorem tab_at (i : Int) (h0 : 0 ≤ i) (h1 : i ≤ 255) (h : i.toNat < Lib.len8tab.size) : ((Lib.len8tab[i.toNat]'h).toNat : Int) = (Lib.bitLen i.toNat : Int) := by
  rw [← Lib.len8_of i h0 h1]
  unfold Lib.len8
  simp [h]
theorem len_case (x c : Int) (k : Nat) (h0 : 0 ≤ c) (h1 : c ≤ 255) (hk : k ≤ 56) (he : Lib.bitLen x.toNat = k + Lib.bitLen c.toNat) (h : c.toNat < Lib.len8tab.size) :
    RowKit.wrap64 ((k : Int) + RowKit.wrap64 ((Lib.len8tab[c.toNat]'h).toNat : Int)) = (Lib.bitLen x.toNat : Int) := by
  rw [tab_at c h0 h1, he]
  have l := Lib.bitLen_le8' c h0 h1
  generalize Lib.bitLen c.toNat = m at *
  unfold RowKit.wrap64
  omega
theorem len_case0 (x : Int) (h0 : 0 ≤ x) (h1 : x ≤ 255) (h : x.toNat < Lib.len8tab.size) :
    RowKit.wrap64 (RowKit.wrap64 ((Lib.len8tab[x.toNat]'h).toNat : Int)) = (Lib.bitLen x.toNat : Int) := by
  rw [tab_at x h0 h1]
  have l := Lib.bitLen_le8' x h0 h1
  generalize Lib.bitLen x.toNat = m at *
  unfold RowKit.wrap64
  omega
set_option maxHeartbeats 4000000 in
set_option maxRecDepth 100000 in
theorem len64_any (x : Int) (w : World) (h0 : 0 ≤ x) (h1 : x ≤ 18446744073709551615) :
    Calls Tryz.prog 159 #[.int .u64 x] w fun e w' => e = .returned (.int .i64 (Lib.bitLen x.toNat)) ∧ w' = w := by
  have hsz := Lib.len8tab_size
  go_enter Tryz.func159, Tryz.ntmps159
  go_wp2
  all_goals (go_ret; refine ⟨ret_int ?_, rfl⟩)
  all_goals first
    | (refine len_case x (x / 4294967296 / 65536 / 256) 56 ?_ ?_ ?_ ?_ _; (omega); (omega); (omega); (rw [show (x / 4294967296 / 65536 / 256).toNat = x.toNat / 72057594037927936 by omega]; exact Lib.bitLen_shift56 x.toNat (by omega) (by omega)))
    | (refine len_case x (x / 4294967296 / 65536) 48 ?_ ?_ ?_ ?_ _; (omega); (omega); (omega); (rw [show (x / 4294967296 / 65536).toNat = x.toNat / 281474976710656 by omega]; exact Lib.bitLen_shift48 x.toNat (by omega) (by omega)))
    | (refine len_case x (x / 4294967296 / 256) 40 ?_ ?_ ?_ ?_ _; (omega); (omega); (omega); (rw [show (x / 4294967296 / 256).toNat = x.toNat / 1099511627776 by omega]; exact Lib.bitLen_shift40 x.toNat (by omega) (by omega)))
    | (refine len_case x (x / 4294967296) 32 ?_ ?_ ?_ ?_ _; (omega); (omega); (omega); (rw [show (x / 4294967296).toNat = x.toNat / 4294967296 by omega]; exact Lib.bitLen_shift32 x.toNat (by omega) (by omega)))
    | (refine len_case x (x / 65536 / 256) 24 ?_ ?_ ?_ ?_ _; (omega); (omega); (omega); (rw [show (x / 65536 / 256).toNat = x.toNat / 16777216 by omega]; exact Lib.bitLen_shift24 x.toNat (by omega) (by omega)))
    | (refine len_case x (x / 65536) 16 ?_ ?_ ?_ ?_ _; (omega); (omega); (omega); (rw [show (x / 65536).toNat = x.toNat / 65536 by omega]; exact Lib.bitLen_shift16 x.toNat (by omega) (by omega)))
    | (refine len_case x (x / 256) 8 ?_ ?_ ?_ ?_ _; (omega); (omega); (omega); (rw [show (x / 256).toNat = x.toNat / 256 by omega]; exact Lib.bitLen_shift8 x.toNat (by omega) (by omega)))
    | (refine len_case0 x h0 ?_ _; omega)

theorem bitLen_bounds : ∀ (k x : Nat), x < 2 ^ k → k ≤ 64 → 0 < x → 2 ^ (Lib.bitLen x - 1) ≤ x ∧ x < 2 ^ Lib.bitLen x ∧ 1 ≤ Lib.bitLen x
  | 0, x, h, _, h0 => by simp at h; omega
  | k + 1, x, h, hk, h0 => by
    have hx64 : x < 2 ^ 64 := Nat.lt_of_lt_of_le h (Nat.pow_le_pow_right (by decide) hk)
    have hh := Lib.bitLen_half x (by omega) hx64
    by_cases h1 : x = 1
    · subst h1; decide
    · have hp : 0 < x / 2 := by omega
      obtain ⟨a, b, c⟩ := bitLen_bounds k (x / 2) (by rw [Nat.pow_succ] at h; omega) (by omega) hp
      rw [hh]
      generalize Lib.bitLen (x / 2) = m at *
      obtain ⟨m, rfl⟩ : ∃ n, m = n + 1 := ⟨m - 1, by omega⟩
      rw [show 1 + (m + 1) - 1 = m + 1 by omega, show 1 + (m + 1) = m + 1 + 1 by omega]
      rw [Nat.pow_succ 2 (m + 1)]
      rw [show m + 1 - 1 = m by omega] at a
      rw [Nat.pow_succ] at b ⊢
      omega
/-- The shift that brings the top bit up. -/
def lzN (y : Nat) : Nat := 64 - Lib.bitLen y
theorem lzN_le (y : Nat) (h0 : 0 < y) (h : y < 2 ^ 64) : lzN y ≤ 63 ∧ Lib.bitLen y ≤ 64 ∧ 1 ≤ Lib.bitLen y := by
  have := bitLen_bounds 64 y h (Nat.le_refl _) h0
  have := Lib.bitLen_le y 64 (Nat.le_refl _) h
  unfold lzN
  omega
theorem lz_norm (y : Nat) (h0 : 0 < y) (h : y < 2 ^ 64) : 2 ^ 63 ≤ y * 2 ^ lzN y ∧ y * 2 ^ lzN y < 2 ^ 64 := by
  obtain ⟨a, b, c⟩ := bitLen_bounds 64 y h (Nat.le_refl _) h0
  have hl := Lib.bitLen_le y 64 (Nat.le_refl _) h
  have e1 : 2 ^ (Lib.bitLen y - 1) * 2 ^ lzN y = 2 ^ 63 := by rw [← Nat.pow_add]; congr 1; unfold lzN; omega
  have e2 : 2 ^ Lib.bitLen y * 2 ^ lzN y = 2 ^ 64 := by rw [← Nat.pow_add]; congr 1; unfold lzN; omega
  constructor
  · rw [← e1]; exact Nat.mul_le_mul_right _ a
  · rw [← e2]; exact Nat.mul_lt_mul_of_pos_right b (Nat.pow_pos (by decide))
theorem lz_any (y : Nat) (h : y < 18446744073709551616) (w : World) :
    Calls Tryz.prog 133 #[.int .u64 (y : Int)] w fun e w' => e = .returned (.int .i64 (lzN y : Int)) ∧ w = w' := by
  have hb : Lib.bitLen y ≤ 64 := Lib.bitLen_le y 64 (Nat.le_refl _) h
  have hw : 64 - (Lib.bitLen y : Int) = (lzN y : Int) := by unfold lzN; omega
  replace hw := Lib.hid hw
  go_enter Tryz.func133, Tryz.ntmps133
  go_wp2_with (go_at_call 159; refine (len64_any (y : Int) _ (by omega) (by omega)).mono ?_; rintro e w' ⟨rfl, rfl⟩)
  go_ret
  exact ⟨ret_int (by simpa using hw.out), rfl⟩
end Go.Proofs.YtjaponmpfdpemaaGreatDoor

set_option linter.unusedVariables false
namespace Go.Proofs.YtjaponmpfdpemaaGreatDoor

/-- One half-step's setting: Y = yn1 * 2^32 + yn0 with its top bit set; u < Y; d a half word. -/
structure HalfS (y yn1 yn0 u d : Nat) : Prop where
  hy : y = yn1 * 4294967296 + yn0
  h1 : 2147483648 ≤ yn1
  h1' : yn1 < 4294967296
  h0 : yn0 < 4294967296
  hu : u < y
  hd : d < 4294967296

/-- The quotient and the rest of the half-step. -/
def hq (y u d : Nat) : Nat := (u * 4294967296 + d) / y
def hr (y u d : Nat) : Nat := (u * 4294967296 + d) % y

theorem HalfS.ypos {y yn1 yn0 u d : Nat} (h : HalfS y yn1 yn0 u d) : 0 < y := by have := h.hy; have := h.h1; omega
theorem HalfS.qlt {y yn1 yn0 u d : Nat} (h : HalfS y yn1 yn0 u d) : hq y u d < 4294967296 := by
  unfold hq
  rw [Nat.div_lt_iff_lt_mul h.ypos]
  have := h.hu; have := h.hd
  omega
theorem hqr (y u d : Nat) : y * hq y u d + hr y u d = u * 4294967296 + d := Nat.div_add_mod _ _
theorem HalfS.rlt {y yn1 yn0 u d : Nat} (h : HalfS y yn1 yn0 u d) : hr y u d < y := Nat.mod_lt _ h.ypos

/-- The loop's relation: q is not below the true one, q * yn1 + r = u. -/
structure HalfR (y yn1 u d q r : Nat) : Prop where
  ge : hq y u d ≤ q
  eq : q * yn1 + r = u
  le : q ≤ 4294967297
theorem HalfS.start {y yn1 yn0 u d : Nat} (h : HalfS y yn1 yn0 u d) : HalfR y yn1 u d (u / yn1) (u % yn1) := by
  have hp : 0 < yn1 := by have := h.h1; omega
  refine ⟨?_, ?_, ?_⟩
  · unfold hq
    rw [Nat.le_div_iff_mul_le hp]
    have h2 := Nat.div_mul_le_self (u * 4294967296 + d) y
    generalize (u * 4294967296 + d) / y = q at h2
    rw [h.hy, Nat.mul_add, ← Nat.mul_assoc] at h2
    have := h.hd
    have h3 : q * yn1 * 4294967296 < (u + 1) * 4294967296 := by
      have : 0 ≤ q * yn0 := Nat.zero_le _
      omega
    omega
  · rw [Nat.mul_comm]; exact Nat.div_add_mod u yn1
  · have : u / yn1 < 4294967298 := by
      rw [Nat.div_lt_iff_lt_mul hp]
      have := h.hu; have := h.hy; have := h.h0; have := h.h1; have := h.h1'
      omega
    omega
/-- The test says yes: one more is too much. -/
theorem HalfR.gt {y yn1 yn0 u d q r : Nat} (h : HalfS y yn1 yn0 u d) (hR : HalfR y yn1 u d q r) (ht : 4294967296 ≤ q ∨ 4294967296 * r + d < q * yn0) : hq y u d < q := by
  rcases ht with ht | ht
  · exact Nat.lt_of_lt_of_le h.qlt ht
  · unfold hq
    rw [Nat.div_lt_iff_lt_mul h.ypos, h.hy, Nat.mul_add, ← Nat.mul_assoc, ← hR.eq, Nat.add_mul]
    omega
/-- The test says no: it is the true one. -/
theorem HalfR.done {y yn1 yn0 u d q r : Nat} (h : HalfS y yn1 yn0 u d) (hR : HalfR y yn1 u d q r) (ht : ¬ 4294967296 * r + d < q * yn0) : q = hq y u d := by
  apply Nat.le_antisymm _ hR.ge
  unfold hq
  rw [Nat.le_div_iff_mul_le h.ypos, h.hy, Nat.mul_add, ← Nat.mul_assoc, ← hR.eq, Nat.add_mul]
  omega
theorem HalfR.next {y yn1 yn0 u d q r : Nat} (h : HalfS y yn1 yn0 u d) (hR : HalfR y yn1 u d q r) (ht : 4294967296 ≤ q ∨ 4294967296 * r + d < q * yn0) : 1 ≤ q ∧ HalfR y yn1 u d (q - 1) (r + yn1) := by
  have hg := HalfR.gt h hR ht
  obtain ⟨k, rfl⟩ : ∃ k, q = k + 1 := ⟨q - 1, by omega⟩
  have := hR.eq
  have := hR.le
  refine ⟨by omega, by omega, ?_, by omega⟩
  rw [Nat.add_mul] at *
  simp only [Nat.add_sub_cancel]
  omega
/-- The rest has grown to a whole word: it is the true one. -/
theorem HalfR.brk {y yn1 yn0 u d q r : Nat} (h : HalfS y yn1 yn0 u d) (hR : HalfR y yn1 u d q r) (hr : 4294967296 ≤ r) (hq' : q ≤ 4294967296) : q = hq y u d := by
  apply HalfR.done h hR
  have : q * yn0 ≤ 4294967296 * 4294967295 := Nat.mul_le_mul hq' (by have := h.h0; omega)
  omega
/-- The rest, as the machine reckons it. -/
theorem HalfS.rest {y yn1 yn0 u d : Nat} (_h : HalfS y yn1 yn0 u d) : ((u : Int) * 4294967296 + d - hq y u d * y) = (hr y u d : Int) := by
  have := hqr y u d
  have h2 : (((y * hq y u d + hr y u d : Nat)) : Int) = ((u * 4294967296 + d : Nat) : Int) := by rw [this]
  simp only [Int.natCast_add, Int.natCast_mul] at h2
  have h3 : (hq y u d : Int) * y = y * hq y u d := Int.mul_comm _ _
  omega
/-- Two half-steps are the whole division. -/
theorem two_halves (y u d1 d0 : Nat) (hy : 0 < y) (hd : d0 < 4294967296) :
    (u * 18446744073709551616 + d1 * 4294967296 + d0) / y = hq y u d1 * 4294967296 + hq y (hr y u d1) d0 ∧
    (u * 18446744073709551616 + d1 * 4294967296 + d0) % y = hr y (hr y u d1) d0 := by
  have e1 := hqr y u d1
  have e2 := hqr y (hr y u d1) d0
  have hrl : hr y (hr y u d1) d0 < y := Nat.mod_lt _ hy
  have e : u * 18446744073709551616 + d1 * 4294967296 + d0 = (hq y u d1 * 4294967296 + hq y (hr y u d1) d0) * y + hr y (hr y u d1) d0 := by
    rw [Nat.add_mul]
    have a1 : hq y u d1 * 4294967296 * y = (y * hq y u d1) * 4294967296 := by rw [Nat.mul_comm y, Nat.mul_assoc, Nat.mul_assoc, Nat.mul_comm 4294967296]
    have a2 : hq y (hr y u d1) d0 * y = y * hq y (hr y u d1) d0 := Nat.mul_comm _ _
    omega
  rw [e]
  constructor
  · rw [Nat.mul_comm _ y, Nat.mul_add_div hy, Nat.div_eq_of_lt hrl, Nat.add_zero]
  · rw [Nat.mul_comm _ y, Nat.mul_add_mod, Nat.mod_eq_of_lt hrl]
/-- Scaled by a power of two. -/
theorem scaled (n y s : Nat) (hs : 0 < s) : (n * s) / (y * s) = n / y ∧ (n * s) % (y * s) = n % y * s :=
  ⟨Nat.mul_div_mul_right _ _ hs, Nat.mul_mod_mul_right _ _ _⟩
end Go.Proofs.YtjaponmpfdpemaaGreatDoor
