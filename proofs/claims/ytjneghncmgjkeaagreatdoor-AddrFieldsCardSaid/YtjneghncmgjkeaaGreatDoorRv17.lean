/-
  Numbers as bytes: the walks through both Puts.
-/
import Derived.Test.YtjneghncmgjkeaaGreatDoorProg
import Derived.Test.YtjneghncmgjkeaaGreatDoorRv11
import Derived.Shelf.Bits.Mul64
import Derived.Lib.Strings
import Derived.Lib.Slices
import Derived.Lib.Small
import Derived.Lib.Walk
import Derived.Lib.BitFns
set_option linter.unusedVariables false
namespace Go.Proofs.YtjneghncmgjkeaaGreatDoor
open Go.RowKit
/-- A round of a Put: so much is written, r is left. -/
def PutRel (w : World) (z : Nat) (s o : Value) (wr : World) : Prop :=
  ∃ (f r : Nat) (out : List UInt8), s = .int .u64 (r : Int) ∧ r < 128 ^ f ∧ r < 18446744073709551616 ∧ 1 ≤ f ∧ f + out.length ≤ 10 ∧ lebF 10 z = out ++ lebF f r ∧ wr.ownsRow w.heap.size 5 1 o out.length (bV out) ∧ Ext w wr ∧ AllP wr o u8P
theorem PutRel.next {w w1 : World} {z f r : Nat} {out : List UInt8} {v1 : Value} {n c : Int} (hr : r < 128 ^ (f + 1)) (hrl : r < 18446744073709551616) (hge : 128 ≤ r) (hfl : f + 1 + out.length ≤ 10) (h : lebF 10 z = out ++ lebF (f + 1) r)
    (hg : w1.ownsRow w.heap.size 5 1 v1 (out.length + 1) (bV out ++ [.int .u8 c])) (hc : c = ((UInt8.ofNat (r % 128 + 128)).toNat : Int)) (hx : Ext w w1) (hall : AllP w1 v1 u8P) (hn : n = ((r / 128 : Nat) : Int)) : PutRel w z (.int .u64 n) v1 w1 := by
  subst hn hc
  refine ⟨f, r / 128, out ++ [UInt8.ofNat (r % 128 + 128)], rfl, ?_, by omega, ?_, by simp; omega, by rw [h, lebF_big f r hge]; simp, ?_, hx, hall⟩
  · rw [Nat.pow_succ] at hr; exact Nat.div_lt_of_lt_mul (by omega)
  · rcases f with _ | f
    · simp at hr; omega
    · omega
  · rw [bV_app, List.length_append]
    simpa [bV] using hg
theorem PutRel.done {w w1 : World} {z f r : Nat} {out : List UInt8} {v1 : Value} (hlt : r < 128) (h : lebF 10 z = out ++ lebF (f + 1) r)
    (hg : w1.ownsRow w.heap.size 5 1 v1 (out.length + 1) (bV out ++ [.int .u8 ((UInt8.ofNat r).toNat : Int)])) : w1.ownsRow w.heap.size 5 1 v1 (lebF 10 z).length (bV (lebF 10 z)) := by
  rw [h, lebF_small f r hlt, bV_app, List.length_append]
  simpa [bV] using hg

end Go.Proofs.YtjneghncmgjkeaaGreatDoor

set_option linter.unusedVariables false
namespace Go.Proofs.YtjneghncmgjkeaaGreatDoor
open Go.RowKit
end Go.Proofs.YtjneghncmgjkeaaGreatDoor

set_option linter.unusedVariables false
namespace Go.Proofs.YtjneghncmgjkeaaGreatDoor
open Go.RowKit
end Go.Proofs.YtjneghncmgjkeaaGreatDoor

set_option linter.unusedVariables false
namespace Go.Proofs.YtjneghncmgjkeaaGreatDoor

/-- One half-step's setting: Y = yn1 * 2^32 + yn0 with its top bit set; u < Y; d a half word. -/
structure HalfS (y yn1 yn0 u d : Nat) : Prop where
  hy : y = yn1 * 4294967296 + yn0
  h1 : 2147483648 ≤ yn1
  h1' : yn1 < 4294967296
  h0 : yn0 < 4294967296
  hu : u < y
  hd : d < 4294967296

/-- The quotient and the rest of the half-step. -/
def hq (y u d : Nat) : Nat := (u * 4294967296 + d) / y
def hr (y u d : Nat) : Nat := (u * 4294967296 + d) % y

theorem HalfS.ypos {y yn1 yn0 u d : Nat} (h : HalfS y yn1 yn0 u d) : 0 < y := by have := h.hy; have := h.h1; omega
theorem HalfS.qlt {y yn1 yn0 u d : Nat} (h : HalfS y yn1 yn0 u d) : hq y u d < 4294967296 := by
  unfold hq
  rw [Nat.div_lt_iff_lt_mul h.ypos]
  have := h.hu; have := h.hd
  omega
theorem hqr (y u d : Nat) : y * hq y u d + hr y u d = u * 4294967296 + d := Nat.div_add_mod _ _
/-- The loop's relation: q is not below the true one, q * yn1 + r = u. -/
structure HalfR (y yn1 u d q r : Nat) : Prop where
  ge : hq y u d ≤ q
  eq : q * yn1 + r = u
  le : q ≤ 4294967297
theorem HalfS.start {y yn1 yn0 u d : Nat} (h : HalfS y yn1 yn0 u d) : HalfR y yn1 u d (u / yn1) (u % yn1) := by
  have hp : 0 < yn1 := by have := h.h1; omega
  refine ⟨?_, ?_, ?_⟩
  · unfold hq
    rw [Nat.le_div_iff_mul_le hp]
    have h2 := Nat.div_mul_le_self (u * 4294967296 + d) y
    generalize (u * 4294967296 + d) / y = q at h2
    rw [h.hy, Nat.mul_add, ← Nat.mul_assoc] at h2
    have := h.hd
    have h3 : q * yn1 * 4294967296 < (u + 1) * 4294967296 := by
      have : 0 ≤ q * yn0 := Nat.zero_le _
      omega
    omega
  · rw [Nat.mul_comm]; exact Nat.div_add_mod u yn1
  · have : u / yn1 < 4294967298 := by
      rw [Nat.div_lt_iff_lt_mul hp]
      have := h.hu; have := h.hy; have := h.h0; have := h.h1; have := h.h1'
      omega
    omega
/-- The test says yes: one more is too much. -/
theorem HalfR.gt {y yn1 yn0 u d q r : Nat} (h : HalfS y yn1 yn0 u d) (hR : HalfR y yn1 u d q r) (ht : 4294967296 ≤ q ∨ 4294967296 * r + d < q * yn0) : hq y u d < q := by
  rcases ht with ht | ht
  · exact Nat.lt_of_lt_of_le h.qlt ht
  · unfold hq
    rw [Nat.div_lt_iff_lt_mul h.ypos, h.hy, Nat.mul_add, ← Nat.mul_assoc, ← hR.eq, Nat.add_mul]
    omega
/-- The test says no: it is the true one. -/
theorem HalfR.done {y yn1 yn0 u d q r : Nat} (h : HalfS y yn1 yn0 u d) (hR : HalfR y yn1 u d q r) (ht : ¬ 4294967296 * r + d < q * yn0) : q = hq y u d := by
  apply Nat.le_antisymm _ hR.ge
  unfold hq
  rw [Nat.le_div_iff_mul_le h.ypos, h.hy, Nat.mul_add, ← Nat.mul_assoc, ← hR.eq, Nat.add_mul]
  omega
theorem HalfR.next {y yn1 yn0 u d q r : Nat} (h : HalfS y yn1 yn0 u d) (hR : HalfR y yn1 u d q r) (ht : 4294967296 ≤ q ∨ 4294967296 * r + d < q * yn0) : 1 ≤ q ∧ HalfR y yn1 u d (q - 1) (r + yn1) := by
  have hg := HalfR.gt h hR ht
  obtain ⟨k, rfl⟩ : ∃ k, q = k + 1 := ⟨q - 1, by omega⟩
  have := hR.eq
  have := hR.le
  refine ⟨by omega, by omega, ?_, by omega⟩
  rw [Nat.add_mul] at *
  simp only [Nat.add_sub_cancel]
  omega
/-- The rest, as the machine reckons it. -/
theorem HalfS.rest {y yn1 yn0 u d : Nat} (_h : HalfS y yn1 yn0 u d) : ((u : Int) * 4294967296 + d - hq y u d * y) = (hr y u d : Int) := by
  have := hqr y u d
  have h2 : (((y * hq y u d + hr y u d : Nat)) : Int) = ((u * 4294967296 + d : Nat) : Int) := by rw [this]
  simp only [Int.natCast_add, Int.natCast_mul] at h2
  have h3 : (hq y u d : Int) * y = y * hq y u d := Int.mul_comm _ _
  omega
end Go.Proofs.YtjneghncmgjkeaaGreatDoor
