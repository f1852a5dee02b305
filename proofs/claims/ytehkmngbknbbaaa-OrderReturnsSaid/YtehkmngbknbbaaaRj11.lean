/-
  The reference's numbers: as an int.
-/
import Derived.Test.YtehkmngbknbbaaaRj09
import Derived.Deep.DeepCutAuto
set_option linter.unusedVariables false
namespace Go.Proofs.Ytehkmngbknbbaaa
open Go.RowKit

theorem sumD_hi (f : Nat → Nat) (a : Nat) : ∀ b, (∀ j, a ≤ j → j < a + b → f j = 0) → sumD f (a + b) = sumD f a
  | 0, _ => rfl
  | b + 1, h => by
    have h1 := sumD_hi f a b fun j h1 h2 => h j h1 (by omega)
    have h2 := h (a + b) (by omega) (by omega)
    rw [← Nat.add_assoc, sumD, h1, h2, Nat.zero_mul, Nat.add_zero]
theorem small_of_digs {n : Nat} (h : n < 65536 ^ 12) (hz : ∀ j, 4 ≤ j → j < 12 → dig n j = 0) : n < 65536 ^ 4 := by
  have h1 : sumD (dig n) (4 + 8) = n := sumD_dig12 h
  have h2 := sumD_hi (dig n) 4 8 hz
  have h3 := sumD_lt (f := dig n) (k := 4) fun i _ => dig_lt n i
  exact Nat.lt_of_le_of_lt (Nat.le_of_eq (h1.symm.trans h2)) h3
theorem four_digs {n : Nat} (h : n < 65536 ^ 4) : digI n 0 + digI n 1 * 65536 + digI n 2 * 4294967296 + digI n 3 * 281474976710656 = (n : Int) := by
  have h1 := sumD_dig n 4
  rw [Nat.mod_eq_of_lt h] at h1
  simp only [sumD] at h1
  unfold digI
  omega
def IntRel (n : Nat) (w : World) (i : Value) (wr : World) : Prop :=
  ∃ k : Nat, 4 ≤ k ∧ k ≤ 12 ∧ i = .int .i64 (k : Int) ∧ (∀ j, 4 ≤ j → j < k → dig n j = 0) ∧ w = wr
set_option maxRecDepth 100000 in
set_option maxHeartbeats 1000000 in
theorem int_any01 (n : Nat) (hn : n < 65536 ^ 12) (w : World) :
    Calls Try.prog 132 #[numV false (digI n)] w fun e w' => e = .returned (.tuple #[.int .i64 (if n < 9223372036854775808 then (n : Int) else 0), .bool (decide (n < 9223372036854775808))]) ∧ Ext w w' := by
  have B := Blk.new w 169 (numC false (digI n))
  have X0 := (Ext.refl w).alloc (.cells (numC false (digI n)) 169)
  obtain ⟨W1, hW1⟩ : ∃ W1, w.alloc (.cells (numC false (digI n)) 169) = W1 := ⟨_, rfl⟩
  have HW := Lib.hid hW1
  rw [hW1] at B X0
  obtain ⟨E, hE⟩ : ∃ E : Int × Bool, ((if n < 9223372036854775808 then (n : Int) else 0), decide (n < 9223372036854775808)) = E := ⟨_, rfl⟩
  obtain ⟨E1, E2⟩ := E
  injection hE with hE1 hE2
  rw [hE1, hE2]
  replace hE1 := Lib.hid hE1
  replace hE2 := Lib.hid hE2
  clear hW1
  unfold numC at HW
  go_enter Try.func132, Try.ntmps132
  go_wp2_with fail
  rw [HW.out]
  clear HW
  have hn' := Lib.hid hn
  clear hn
  go_loopw [4] (fun i wr => IntRel n W1 i wr) (fun i _ => 12 - (intOf i).toNat)
  case atStart => exact ⟨4, by omega, by omega, rfl, fun j h1 h2 => by omega, rfl⟩
  case round =>
    obtain ⟨k, hk4, hk, rfl, hz, rfl⟩ := hrel
    by_cases hlt : k < 12
    · have hd : decide ((k : Int) < 12) = true := by simp; omega
      have c1 := (B.cell (1 + k)).trans (numC_at false _ k hlt)
      have e5 : (k : Int) < 12 := by omega
      by_cases hdz : dig n k = 0
      · have hD : digI n k = 0 := by unfold digI; omega
        rw [hD] at c1
        have HN := Lib.hid (show IntRel n W1 (.int .i64 ((k + 1 : Nat) : Int)) W1 from ⟨k + 1, by omega, by omega, rfl, fun j h1 h2 => by
          rcases Nat.lt_or_ge j k with h | h
          · exact hz j h1 h
          · rw [show j = k by omega]; exact hdz, rfl⟩)
        clear hz hD
        replace hdz := Lib.hid hdz
        go_wp2_with fail
        go_roundw
        case rel => exact HN.out
        case measure => simp [intOf] <;> omega
      · have hD : (digI n k != 0) = true := by rw [bne_iff_ne]; unfold digI; omega
        have hbig : 9223372036854775808 ≤ n := by
          rcases Nat.lt_or_ge n 9223372036854775808 with h | h
          · exact absurd (dig_hi (n := n) (by omega) hk4) hdz
          · exact h
        have e1 : E1 = 0 := by rw [← hE1.out, if_neg (by omega)]
        have e2 : E2 = false := by rw [← hE2.out]; simp; omega
        replace e1 := Lib.hid e1
        replace e2 := Lib.hid e2
        replace hdz := Lib.hid hdz
        clear hz
        go_wp2_with fail
        go_ret2
        exact ⟨by rw [e1.out, e2.out]; rfl, X0⟩
    · have hk12 : k = 12 := by omega
      subst hk12
      have hs := small_of_digs hn'.out hz
      have h4 := four_digs hs
      have d0 : 0 ≤ digI n 0 ∧ digI n 0 < 65536 := by have := dig_lt n 0; unfold digI; omega
      have d1 : 0 ≤ digI n 1 ∧ digI n 1 < 65536 := by have := dig_lt n 1; unfold digI; omega
      have d2 : 0 ≤ digI n 2 ∧ digI n 2 < 65536 := by have := dig_lt n 2; unfold digI; omega
      have d3 : 0 ≤ digI n 3 ∧ digI n 3 < 65536 := by have := dig_lt n 3; unfold digI; omega
      obtain ⟨q, q'⟩ := B.cells
      unfold numC at q
      clear hz hs
      generalize digI n 0 = a0 at *
      generalize digI n 1 = a1 at *
      generalize digI n 2 = a2 at *
      generalize digI n 3 = a3 at *
      obtain ⟨d00, d01⟩ := d0
      obtain ⟨d10, d11⟩ := d1
      obtain ⟨d20, d21⟩ := d2
      obtain ⟨d30, d31⟩ := d3
      replace h4 := Lib.hid h4
      go_upto_region 7 with (fail)
      rw [h4.out]
      have hb0 : (0 : Int) ≤ (n : Int) := Int.natCast_nonneg n
      by_cases hl : n < 9223372036854775808
      · have hd2 : decide ((9223372036854775808 : Int) ≤ (n : Int)) = false := by simp; omega
        have e1 : E1 = (n : Int) := by rw [← hE1.out, if_pos hl]
        have e2 : E2 = true := by rw [← hE2.out]; simpa using hl
        replace e1 := Lib.hid e1
        replace e2 := Lib.hid e2
        have hb1 : (n : Int) < 9223372036854775808 := by omega
        go_wp2_with fail
        go_ret2
        exact ⟨by rw [e1.out, e2.out]; rfl, X0⟩
      · have hd2 : decide ((9223372036854775808 : Int) ≤ (n : Int)) = true := by simp; omega
        have e1 : E1 = 0 := by rw [← hE1.out, if_neg hl]
        have e2 : E2 = false := by rw [← hE2.out]; simpa using hl
        replace e1 := Lib.hid e1
        replace e2 := Lib.hid e2
        go_wp2_with fail
        go_ret2
        exact ⟨by rw [e1.out, e2.out]; rfl, X0⟩
set_option maxRecDepth 100000 in
set_option maxHeartbeats 1000000 in
theorem told_any (n : Nat) (hn : n < 65536 ^ 12) (w : World) :
    Calls Try.prog 114 #[numV false (digI n)] w fun e w' => e = .returned (.tuple #[.int .i64 (if n < 9223372036854775808 then (n : Int) else 0), .int .i64 (if n < 9223372036854775808 then 0 else 5)]) ∧ Ext w w' := by
  have X0 := (Ext.refl w).alloc (.cells (numC false (digI n)) 169)
  have HI := Lib.hid (int_any01 n hn)
  unfold numC at X0
  by_cases hl : n < 9223372036854775808
  · have e1 : (if n < 9223372036854775808 then (n : Int) else 0) = (n : Int) := if_pos hl
    have e2 : (if n < 9223372036854775808 then (0 : Int) else 5) = 0 := if_pos hl
    have e3 : decide (n < 9223372036854775808) = true := by simpa using hl
    rw [e1, e2]
    have HJ := HI.out
    rw [e1, e3] at HJ
    replace HJ := Lib.hid HJ
    clear HI e1 e2 e3 hn
    go_enter Try.func114, Try.ntmps114
    go_wp2_with fail
    refine (HJ.out _).mono ?_
    rintro e w1 ⟨rfl, hx1⟩
    go_wp2_with fail
    go_ret2
    exact ⟨rfl, X0.trans hx1⟩
  · have e1 : (if n < 9223372036854775808 then (n : Int) else 0) = 0 := if_neg hl
    have e2 : (if n < 9223372036854775808 then (0 : Int) else 5) = 5 := if_neg hl
    have e3 : decide (n < 9223372036854775808) = false := by simpa using hl
    rw [e1, e2]
    have HJ := HI.out
    rw [e1, e3] at HJ
    replace HJ := Lib.hid HJ
    clear HI e1 e2 e3 hn
    go_enter Try.func114, Try.ntmps114
    go_wp2_with fail
    refine (HJ.out _).mono ?_
    rintro e w1 ⟨rfl, hx1⟩
    go_wp2_with fail
    go_ret2
    exact ⟨rfl, X0.trans hx1⟩
end Go.Proofs.Ytehkmngbknbbaaa

set_option linter.unusedVariables false
namespace Go.Proofs.Ytehkmngbknbbaaa

/-- Rounded up: the rest is more than half, or just half behind an odd quotient. -/
def evUp (q r c : Nat) : Bool := decide (c - r < r) || (decide (r = c - r) && decide (q % 2 = 1))
/-- a * b / c, rounded half to even. -/
def evenN (a b c : Nat) : Nat := if evUp (a * b / c) (a * b % c) c then a * b / c + 1 else a * b / c

theorem evenN_spec (a b c : Nat) (hc : 0 < c) : 2 * (a * b) ≤ (2 * evenN a b c + 1) * c ∧ 2 * evenN a b c * c ≤ 2 * (a * b) + c ∧
    (2 * (a * b) = (2 * evenN a b c + 1) * c → evenN a b c % 2 = 0) ∧ (2 * evenN a b c * c = 2 * (a * b) + c → evenN a b c % 2 = 0) := by
  have h1 := Nat.div_add_mod (a * b) c
  have h2 := Nat.mod_lt (a * b) hc
  unfold evenN
  generalize a * b / c = q at *
  generalize a * b % c = r at *
  generalize a * b = m at *
  have e1 : c * q = q * c := Nat.mul_comm _ _
  rw [e1] at h1
  have e2 : (2 * q + 1) * c = 2 * (q * c) + c := by rw [Nat.add_mul, Nat.mul_assoc, Nat.one_mul]
  have e3 : 2 * q * c = 2 * (q * c) := Nat.mul_assoc _ _ _
  have e4 : (2 * (q + 1) + 1) * c = 2 * (q * c) + 3 * c := by rw [Nat.add_mul, Nat.mul_assoc, Nat.add_mul, Nat.one_mul]; omega
  have e5 : 2 * (q + 1) * c = 2 * (q * c) + 2 * c := by rw [Nat.mul_assoc, Nat.add_mul, Nat.one_mul]; omega
  by_cases hu : evUp q r c = true
  · rw [if_pos hu, e4, e5]
    unfold evUp at hu
    simp only [Bool.or_eq_true, Bool.and_eq_true, decide_eq_true_eq] at hu
    omega
  · rw [if_neg hu, e2, e3]
    unfold evUp at hu
    simp only [Bool.or_eq_true, Bool.and_eq_true, decide_eq_true_eq] at hu
    omega
/-- Which numbers are the share: one alone. -/
theorem even_le {m m' c q q' : Nat} (hc : 0 < c) (hm : m ≤ m') (h2 : 2 * q * c ≤ 2 * m + c) (h2' : 2 * q * c = 2 * m + c → q % 2 = 0) (h1 : 2 * m' ≤ (2 * q' + 1) * c) (h1' : 2 * m' = (2 * q' + 1) * c → q' % 2 = 0) : q ≤ q' := by
  rcases Nat.lt_or_ge q' q with h | h
  · exfalso
    obtain ⟨k, rfl⟩ : ∃ k, q = q' + 1 + k := ⟨q - q' - 1, by omega⟩
    have e1 : 2 * (q' + 1 + k) * c = 2 * (q' * c) + 2 * c + 2 * (k * c) := by rw [Nat.mul_assoc, Nat.add_mul, Nat.add_mul, Nat.one_mul]; omega
    have e2 : (2 * q' + 1) * c = 2 * (q' * c) + c := by rw [Nat.add_mul, Nat.mul_assoc, Nat.one_mul]
    rw [e1] at h2 h2'
    rw [e2] at h1 h1'
    have hk : k * c = 0 := by omega
    have hk0 : k = 0 := by
      rcases Nat.mul_eq_zero.1 hk with h | h <;> omega
    have a1 := h2' (by omega)
    have a2 := h1' (by omega)
    omega
  · exact h
theorem evenN_mono {a b b' c : Nat} (hc : 0 < c) (h : b ≤ b') : evenN a b c ≤ evenN a b' c := by
  obtain ⟨_, h2, _, h2'⟩ := evenN_spec a b c hc
  obtain ⟨h1, _, h1', _⟩ := evenN_spec a b' c hc
  exact even_le hc (Nat.mul_le_mul_left a h) h2 h2' h1 h1'
theorem evenN_all {a c : Nat} (hc : 0 < c) : evenN a c c = a := by
  unfold evenN
  rw [Nat.mul_div_cancel _ hc, Nat.mul_mod_left]
  rw [if_neg]
  unfold evUp
  simp only [Bool.or_eq_true, Bool.and_eq_true, decide_eq_true_eq]
  omega
theorem evenN_zero {a c : Nat} (hc : 0 < c) : evenN a 0 c = 0 := by
  unfold evenN
  rw [Nat.mul_zero, Nat.zero_div, Nat.zero_mod, if_neg]
  unfold evUp
  simp only [Bool.or_eq_true, Bool.and_eq_true, decide_eq_true_eq]
  omega
theorem evenN_nil (b c : Nat) (hc : 0 < c) : evenN 0 b c = 0 := by
  unfold evenN
  rw [Nat.zero_mul, Nat.zero_div, Nat.zero_mod, if_neg]
  unfold evUp
  simp only [Bool.or_eq_true, Bool.and_eq_true, decide_eq_true_eq]
  omega
theorem evenN_le {a b c : Nat} (hc : 0 < c) (h : b ≤ c) : evenN a b c ≤ a := by
  have := evenN_mono (a := a) hc h
  rwa [evenN_all hc] at this
/-- Shares of rising parts rise by no more than the parts, where the whole of the shares is no more than the whole of the parts. -/
theorem evenN_step {a b b' c : Nat} (hc : 0 < c) (hac : a ≤ c) (h : b ≤ b') : evenN a b' c ≤ evenN a b c + (b' - b) := by
  obtain ⟨d, rfl⟩ : ∃ d, b' = b + d := ⟨b' - b, by omega⟩
  rw [Nat.add_sub_cancel_left]
  obtain ⟨h1, h2, h1', h2'⟩ := evenN_spec a b c hc
  obtain ⟨g1, g2, g1', g2'⟩ := evenN_spec a (b + d) c hc
  rcases Nat.eq_or_lt_of_le hac with hx | hx
  · subst hx
    have e : ∀ n, evenN a n a = n := by
      intro n
      unfold evenN
      rw [Nat.mul_div_cancel_left _ hc, Nat.mul_mod_right, if_neg]
      unfold evUp
      simp only [Bool.or_eq_true, Bool.and_eq_true, decide_eq_true_eq]
      omega
    rw [e, e]
    exact Nat.le_refl _
  · rcases Nat.eq_zero_or_pos d with hd | hd
    · subst hd; simp
    generalize evenN a b c = q at *
    generalize evenN a (b + d) c = p at *
    rcases Nat.lt_or_ge (q + d) p with hlt | hge
    · exfalso
      obtain ⟨k, rfl⟩ : ∃ k, p = q + d + 1 + k := ⟨p - (q + d) - 1, by omega⟩
      have e1 : 2 * (q + d + 1 + k) * c = 2 * (q * c) + 2 * (d * c) + 2 * c + 2 * (k * c) := by rw [Nat.mul_assoc, Nat.add_mul, Nat.add_mul, Nat.add_mul, Nat.one_mul]; omega
      have e2 : (2 * q + 1) * c = 2 * (q * c) + c := by rw [Nat.add_mul, Nat.mul_assoc, Nat.one_mul]
      have e3 : a * (b + d) = a * b + a * d := Nat.mul_add _ _ _
      have e4 : a * d < d * c := by rw [Nat.mul_comm d c]; exact Nat.mul_lt_mul_of_pos_right hx hd
      rw [e1, e3] at g2
      rw [e2] at h1
      omega
    · exact hge
end Go.Proofs.Ytehkmngbknbbaaa
