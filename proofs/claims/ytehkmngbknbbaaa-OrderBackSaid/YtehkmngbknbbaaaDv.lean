/-
  Division of a number of two words by one word, half by half: plain arithmetic of naturals.
-/
set_option linter.unusedVariables false
namespace Go.Proofs.Ytehkmngbknbbaaa

/-- One half-step's setting: Y = yn1 * 2^32 + yn0 with its top bit set; u < Y; d a half word. -/
structure HalfS (y yn1 yn0 u d : Nat) : Prop where
  hy : y = yn1 * 4294967296 + yn0
  h1 : 2147483648 ≤ yn1
  h1' : yn1 < 4294967296
  h0 : yn0 < 4294967296
  hu : u < y
  hd : d < 4294967296

/-- The quotient and the rest of the half-step. -/
def hq (y u d : Nat) : Nat := (u * 4294967296 + d) / y
def hr (y u d : Nat) : Nat := (u * 4294967296 + d) % y

theorem HalfS.ypos {y yn1 yn0 u d : Nat} (h : HalfS y yn1 yn0 u d) : 0 < y := by have := h.hy; have := h.h1; omega
theorem HalfS.qlt {y yn1 yn0 u d : Nat} (h : HalfS y yn1 yn0 u d) : hq y u d < 4294967296 := by
  unfold hq
  rw [Nat.div_lt_iff_lt_mul h.ypos]
  have := h.hu; have := h.hd
  omega
theorem hqr (y u d : Nat) : y * hq y u d + hr y u d = u * 4294967296 + d := Nat.div_add_mod _ _
theorem HalfS.rlt {y yn1 yn0 u d : Nat} (h : HalfS y yn1 yn0 u d) : hr y u d < y := Nat.mod_lt _ h.ypos

/-- The loop's relation: q is not below the true one, q * yn1 + r = u. -/
structure HalfR (y yn1 u d q r : Nat) : Prop where
  ge : hq y u d ≤ q
  eq : q * yn1 + r = u
  le : q ≤ 4294967297
theorem HalfS.start {y yn1 yn0 u d : Nat} (h : HalfS y yn1 yn0 u d) : HalfR y yn1 u d (u / yn1) (u % yn1) := by
  have hp : 0 < yn1 := by have := h.h1; omega
  refine ⟨?_, ?_, ?_⟩
  · unfold hq
    rw [Nat.le_div_iff_mul_le hp]
    have h2 := Nat.div_mul_le_self (u * 4294967296 + d) y
    generalize (u * 4294967296 + d) / y = q at h2
    rw [h.hy, Nat.mul_add, ← Nat.mul_assoc] at h2
    have := h.hd
    have h3 : q * yn1 * 4294967296 < (u + 1) * 4294967296 := by
      have : 0 ≤ q * yn0 := Nat.zero_le _
      omega
    omega
  · rw [Nat.mul_comm]; exact Nat.div_add_mod u yn1
  · have : u / yn1 < 4294967298 := by
      rw [Nat.div_lt_iff_lt_mul hp]
      have := h.hu; have := h.hy; have := h.h0; have := h.h1; have := h.h1'
      omega
    omega
/-- The test says yes: one more is too much. -/
theorem HalfR.gt {y yn1 yn0 u d q r : Nat} (h : HalfS y yn1 yn0 u d) (hR : HalfR y yn1 u d q r) (ht : 4294967296 ≤ q ∨ 4294967296 * r + d < q * yn0) : hq y u d < q := by
  rcases ht with ht | ht
  · exact Nat.lt_of_lt_of_le h.qlt ht
  · unfold hq
    rw [Nat.div_lt_iff_lt_mul h.ypos, h.hy, Nat.mul_add, ← Nat.mul_assoc, ← hR.eq, Nat.add_mul]
    omega
/-- The test says no: it is the true one. -/
theorem HalfR.done {y yn1 yn0 u d q r : Nat} (h : HalfS y yn1 yn0 u d) (hR : HalfR y yn1 u d q r) (ht : ¬ 4294967296 * r + d < q * yn0) : q = hq y u d := by
  apply Nat.le_antisymm _ hR.ge
  unfold hq
  rw [Nat.le_div_iff_mul_le h.ypos, h.hy, Nat.mul_add, ← Nat.mul_assoc, ← hR.eq, Nat.add_mul]
  omega
theorem HalfR.next {y yn1 yn0 u d q r : Nat} (h : HalfS y yn1 yn0 u d) (hR : HalfR y yn1 u d q r) (ht : 4294967296 ≤ q ∨ 4294967296 * r + d < q * yn0) : 1 ≤ q ∧ HalfR y yn1 u d (q - 1) (r + yn1) := by
  have hg := HalfR.gt h hR ht
  obtain ⟨k, rfl⟩ : ∃ k, q = k + 1 := ⟨q - 1, by omega⟩
  have := hR.eq
  have := hR.le
  refine ⟨by omega, by omega, ?_, by omega⟩
  rw [Nat.add_mul] at *
  simp only [Nat.add_sub_cancel]
  omega
/-- The rest has grown to a whole word: it is the true one. -/
theorem HalfR.brk {y yn1 yn0 u d q r : Nat} (h : HalfS y yn1 yn0 u d) (hR : HalfR y yn1 u d q r) (hr : 4294967296 ≤ r) (hq' : q ≤ 4294967296) : q = hq y u d := by
  apply HalfR.done h hR
  have : q * yn0 ≤ 4294967296 * 4294967295 := Nat.mul_le_mul hq' (by have := h.h0; omega)
  omega
/-- The rest, as the machine reckons it. -/
theorem HalfS.rest {y yn1 yn0 u d : Nat} (_h : HalfS y yn1 yn0 u d) : ((u : Int) * 4294967296 + d - hq y u d * y) = (hr y u d : Int) := by
  have := hqr y u d
  have h2 : (((y * hq y u d + hr y u d : Nat)) : Int) = ((u * 4294967296 + d : Nat) : Int) := by rw [this]
  simp only [Int.natCast_add, Int.natCast_mul] at h2
  have h3 : (hq y u d : Int) * y = y * hq y u d := Int.mul_comm _ _
  omega
/-- Two half-steps are the whole division. -/
theorem two_halves (y u d1 d0 : Nat) (hy : 0 < y) (hd : d0 < 4294967296) :
    (u * 18446744073709551616 + d1 * 4294967296 + d0) / y = hq y u d1 * 4294967296 + hq y (hr y u d1) d0 ∧
    (u * 18446744073709551616 + d1 * 4294967296 + d0) % y = hr y (hr y u d1) d0 := by
  have e1 := hqr y u d1
  have e2 := hqr y (hr y u d1) d0
  have hrl : hr y (hr y u d1) d0 < y := Nat.mod_lt _ hy
  have e : u * 18446744073709551616 + d1 * 4294967296 + d0 = (hq y u d1 * 4294967296 + hq y (hr y u d1) d0) * y + hr y (hr y u d1) d0 := by
    rw [Nat.add_mul]
    have a1 : hq y u d1 * 4294967296 * y = (y * hq y u d1) * 4294967296 := by rw [Nat.mul_comm y, Nat.mul_assoc, Nat.mul_assoc, Nat.mul_comm 4294967296]
    have a2 : hq y (hr y u d1) d0 * y = y * hq y (hr y u d1) d0 := Nat.mul_comm _ _
    omega
  rw [e]
  constructor
  · rw [Nat.mul_comm _ y, Nat.mul_add_div hy, Nat.div_eq_of_lt hrl, Nat.add_zero]
  · rw [Nat.mul_comm _ y, Nat.mul_add_mod, Nat.mod_eq_of_lt hrl]
/-- Scaled by a power of two. -/
theorem scaled (n y s : Nat) (hs : 0 < s) : (n * s) / (y * s) = n / y ∧ (n * s) % (y * s) = n % y * s :=
  ⟨Nat.mul_div_mul_right _ _ hs, Nat.mul_mod_mul_right _ _ _⟩
end Go.Proofs.Ytehkmngbknbbaaa
