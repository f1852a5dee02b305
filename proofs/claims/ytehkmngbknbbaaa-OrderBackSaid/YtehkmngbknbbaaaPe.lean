/-
  Shares rounded half to even: plain arithmetic.
-/
set_option linter.unusedVariables false
namespace Go.Proofs.Ytehkmngbknbbaaa

/-- Rounded up: the rest is more than half, or just half behind an odd quotient. -/
def evUp (q r c : Nat) : Bool := decide (c - r < r) || (decide (r = c - r) && decide (q % 2 = 1))
/-- a * b / c, rounded half to even. -/
def evenN (a b c : Nat) : Nat := if evUp (a * b / c) (a * b % c) c then a * b / c + 1 else a * b / c

theorem evenN_spec (a b c : Nat) (hc : 0 < c) : 2 * (a * b) ≤ (2 * evenN a b c + 1) * c ∧ 2 * evenN a b c * c ≤ 2 * (a * b) + c ∧
    (2 * (a * b) = (2 * evenN a b c + 1) * c → evenN a b c % 2 = 0) ∧ (2 * evenN a b c * c = 2 * (a * b) + c → evenN a b c % 2 = 0) := by
  have h1 := Nat.div_add_mod (a * b) c
  have h2 := Nat.mod_lt (a * b) hc
  unfold evenN
  generalize a * b / c = q at *
  generalize a * b % c = r at *
  generalize a * b = m at *
  have e1 : c * q = q * c := Nat.mul_comm _ _
  rw [e1] at h1
  have e2 : (2 * q + 1) * c = 2 * (q * c) + c := by rw [Nat.add_mul, Nat.mul_assoc, Nat.one_mul]
  have e3 : 2 * q * c = 2 * (q * c) := Nat.mul_assoc _ _ _
  have e4 : (2 * (q + 1) + 1) * c = 2 * (q * c) + 3 * c := by rw [Nat.add_mul, Nat.mul_assoc, Nat.add_mul, Nat.one_mul]; omega
  have e5 : 2 * (q + 1) * c = 2 * (q * c) + 2 * c := by rw [Nat.mul_assoc, Nat.add_mul, Nat.one_mul]; omega
  by_cases hu : evUp q r c = true
  · rw [if_pos hu, e4, e5]
    unfold evUp at hu
    simp only [Bool.or_eq_true, Bool.and_eq_true, decide_eq_true_eq] at hu
    omega
  · rw [if_neg hu, e2, e3]
    unfold evUp at hu
    simp only [Bool.or_eq_true, Bool.and_eq_true, decide_eq_true_eq] at hu
    omega
/-- Which numbers are the share: one alone. -/
theorem even_le {m m' c q q' : Nat} (hc : 0 < c) (hm : m ≤ m') (h2 : 2 * q * c ≤ 2 * m + c) (h2' : 2 * q * c = 2 * m + c → q % 2 = 0) (h1 : 2 * m' ≤ (2 * q' + 1) * c) (h1' : 2 * m' = (2 * q' + 1) * c → q' % 2 = 0) : q ≤ q' := by
  rcases Nat.lt_or_ge q' q with h | h
  · exfalso
    obtain ⟨k, rfl⟩ : ∃ k, q = q' + 1 + k := ⟨q - q' - 1, by omega⟩
    have e1 : 2 * (q' + 1 + k) * c = 2 * (q' * c) + 2 * c + 2 * (k * c) := by rw [Nat.mul_assoc, Nat.add_mul, Nat.add_mul, Nat.one_mul]; omega
    have e2 : (2 * q' + 1) * c = 2 * (q' * c) + c := by rw [Nat.add_mul, Nat.mul_assoc, Nat.one_mul]
    rw [e1] at h2 h2'
    rw [e2] at h1 h1'
    have hk : k * c = 0 := by omega
    have hk0 : k = 0 := by
      rcases Nat.mul_eq_zero.1 hk with h | h <;> omega
    have a1 := h2' (by omega)
    have a2 := h1' (by omega)
    omega
  · exact h
theorem evenN_mono {a b b' c : Nat} (hc : 0 < c) (h : b ≤ b') : evenN a b c ≤ evenN a b' c := by
  obtain ⟨_, h2, _, h2'⟩ := evenN_spec a b c hc
  obtain ⟨h1, _, h1', _⟩ := evenN_spec a b' c hc
  exact even_le hc (Nat.mul_le_mul_left a h) h2 h2' h1 h1'
theorem evenN_all {a c : Nat} (hc : 0 < c) : evenN a c c = a := by
  unfold evenN
  rw [Nat.mul_div_cancel _ hc, Nat.mul_mod_left]
  rw [if_neg]
  unfold evUp
  simp only [Bool.or_eq_true, Bool.and_eq_true, decide_eq_true_eq]
  omega
theorem evenN_zero {a c : Nat} (hc : 0 < c) : evenN a 0 c = 0 := by
  unfold evenN
  rw [Nat.mul_zero, Nat.zero_div, Nat.zero_mod, if_neg]
  unfold evUp
  simp only [Bool.or_eq_true, Bool.and_eq_true, decide_eq_true_eq]
  omega
theorem evenN_nil (b c : Nat) (hc : 0 < c) : evenN 0 b c = 0 := by
  unfold evenN
  rw [Nat.zero_mul, Nat.zero_div, Nat.zero_mod, if_neg]
  unfold evUp
  simp only [Bool.or_eq_true, Bool.and_eq_true, decide_eq_true_eq]
  omega
theorem evenN_le {a b c : Nat} (hc : 0 < c) (h : b ≤ c) : evenN a b c ≤ a := by
  have := evenN_mono (a := a) hc h
  rwa [evenN_all hc] at this
/-- Shares of rising parts rise by no more than the parts, where the whole of the shares is no more than the whole of the parts. -/
theorem evenN_step {a b b' c : Nat} (hc : 0 < c) (hac : a ≤ c) (h : b ≤ b') : evenN a b' c ≤ evenN a b c + (b' - b) := by
  obtain ⟨d, rfl⟩ : ∃ d, b' = b + d := ⟨b' - b, by omega⟩
  rw [Nat.add_sub_cancel_left]
  obtain ⟨h1, h2, h1', h2'⟩ := evenN_spec a b c hc
  obtain ⟨g1, g2, g1', g2'⟩ := evenN_spec a (b + d) c hc
  rcases Nat.eq_or_lt_of_le hac with hx | hx
  · subst hx
    have e : ∀ n, evenN a n a = n := by
      intro n
      unfold evenN
      rw [Nat.mul_div_cancel_left _ hc, Nat.mul_mod_right, if_neg]
      unfold evUp
      simp only [Bool.or_eq_true, Bool.and_eq_true, decide_eq_true_eq]
      omega
    rw [e, e]
    exact Nat.le_refl _
  · rcases Nat.eq_zero_or_pos d with hd | hd
    · subst hd; simp
    generalize evenN a b c = q at *
    generalize evenN a (b + d) c = p at *
    rcases Nat.lt_or_ge (q + d) p with hlt | hge
    · exfalso
      obtain ⟨k, rfl⟩ : ∃ k, p = q + d + 1 + k := ⟨p - (q + d) - 1, by omega⟩
      have e1 : 2 * (q + d + 1 + k) * c = 2 * (q * c) + 2 * (d * c) + 2 * c + 2 * (k * c) := by rw [Nat.mul_assoc, Nat.add_mul, Nat.add_mul, Nat.add_mul, Nat.one_mul]; omega
      have e2 : (2 * q + 1) * c = 2 * (q * c) + c := by rw [Nat.add_mul, Nat.mul_assoc, Nat.one_mul]
      have e3 : a * (b + d) = a * b + a * d := Nat.mul_add _ _ _
      have e4 : a * d < d * c := by rw [Nat.mul_comm d c]; exact Nat.mul_lt_mul_of_pos_right hx hd
      rw [e1, e3] at g2
      rw [e2] at h1
      omega
    · exact hge
end Go.Proofs.Ytehkmngbknbbaaa
