/-
  Shares rounded half to even: plain arithmetic.
-/
import Derived.Test.YtokakpbpenndlaaGreatDoorRt07
import Derived.Test.YtokakpbpenndlaaGreatDoorRt05
import Derived.Test.YtokakpbpenndlaaGreatDoorRt02
set_option linter.unusedVariables false
namespace Go.Proofs.YtokakpbpenndlaaGreatDoor

/-- Rounded up: the rest is more than half, or just half behind an odd quotient. -/
def evUp (q r c : Nat) : Bool := decide (c - r < r) || (decide (r = c - r) && decide (q % 2 = 1))
/-- a * b / c, rounded half to even. -/
def evenN (a b c : Nat) : Nat := if evUp (a * b / c) (a * b % c) c then a * b / c + 1 else a * b / c

theorem evenN_spec (a b c : Nat) (hc : 0 < c) : 2 * (a * b) ≤ (2 * evenN a b c + 1) * c ∧ 2 * evenN a b c * c ≤ 2 * (a * b) + c ∧
    (2 * (a * b) = (2 * evenN a b c + 1) * c → evenN a b c % 2 = 0) ∧ (2 * evenN a b c * c = 2 * (a * b) + c → evenN a b c % 2 = 0) := by
  have h1 := Nat.div_add_mod (a * b) c
  have h2 := Nat.mod_lt (a * b) hc
  unfold evenN
  generalize a * b / c = q at *
  generalize a * b % c = r at *
  generalize a * b = m at *
  have e1 : c * q = q * c := Nat.mul_comm _ _
  rw [e1] at h1
  have e2 : (2 * q + 1) * c = 2 * (q * c) + c := by rw [Nat.add_mul, Nat.mul_assoc, Nat.one_mul]
  have e3 : 2 * q * c = 2 * (q * c) := Nat.mul_assoc _ _ _
  have e4 : (2 * (q + 1) + 1) * c = 2 * (q * c) + 3 * c := by rw [Nat.add_mul, Nat.mul_assoc, Nat.add_mul, Nat.one_mul]; omega
  have e5 : 2 * (q + 1) * c = 2 * (q * c) + 2 * c := by rw [Nat.mul_assoc, Nat.add_mul, Nat.one_mul]; omega
  by_cases hu : evUp q r c = true
  · rw [if_pos hu, e4, e5]
    unfold evUp at hu
    simp only [Bool.or_eq_true, Bool.and_eq_true, decide_eq_true_eq] at hu
    omega
  · rw [if_neg hu, e2, e3]
    unfold evUp at hu
    simp only [Bool.or_eq_true, Bool.and_eq_true, decide_eq_true_eq] at hu
    omega
/-- Which numbers are the share: one alone. -/
theorem even_le {m m' c q q' : Nat} (hc : 0 < c) (hm : m ≤ m') (h2 : 2 * q * c ≤ 2 * m + c) (h2' : 2 * q * c = 2 * m + c → q % 2 = 0) (h1 : 2 * m' ≤ (2 * q' + 1) * c) (h1' : 2 * m' = (2 * q' + 1) * c → q' % 2 = 0) : q ≤ q' := by
  rcases Nat.lt_or_ge q' q with h | h
  · exfalso
    obtain ⟨k, rfl⟩ : ∃ k, q = q' + 1 + k := ⟨q - q' - 1, by omega⟩
    have e1 : 2 * (q' + 1 + k) * c = 2 * (q' * c) + 2 * c + 2 * (k * c) := by rw [Nat.mul_assoc, Nat.add_mul, Nat.add_mul, Nat.one_mul]; omega
    have e2 : (2 * q' + 1) * c = 2 * (q' * c) + c := by rw [Nat.add_mul, Nat.mul_assoc, Nat.one_mul]
    rw [e1] at h2 h2'
    rw [e2] at h1 h1'
    have hk : k * c = 0 := by omega
    have hk0 : k = 0 := by
      rcases Nat.mul_eq_zero.1 hk with h | h <;> omega
    have a1 := h2' (by omega)
    have a2 := h1' (by omega)
    omega
  · exact h
theorem evenN_mono {a b b' c : Nat} (hc : 0 < c) (h : b ≤ b') : evenN a b c ≤ evenN a b' c := by
  obtain ⟨_, h2, _, h2'⟩ := evenN_spec a b c hc
  obtain ⟨h1, _, h1', _⟩ := evenN_spec a b' c hc
  exact even_le hc (Nat.mul_le_mul_left a h) h2 h2' h1 h1'
theorem evenN_all {a c : Nat} (hc : 0 < c) : evenN a c c = a := by
  unfold evenN
  rw [Nat.mul_div_cancel _ hc, Nat.mul_mod_left]
  rw [if_neg]
  unfold evUp
  simp only [Bool.or_eq_true, Bool.and_eq_true, decide_eq_true_eq]
  omega
theorem evenN_le {a b c : Nat} (hc : 0 < c) (h : b ≤ c) : evenN a b c ≤ a := by
  have := evenN_mono (a := a) hc h
  rwa [evenN_all hc] at this
/-- Shares of rising parts rise by no more than the parts, where the whole of the shares is no more than the whole of the parts. -/
theorem evenN_step {a b b' c : Nat} (hc : 0 < c) (hac : a ≤ c) (h : b ≤ b') : evenN a b' c ≤ evenN a b c + (b' - b) := by
  obtain ⟨d, rfl⟩ : ∃ d, b' = b + d := ⟨b' - b, by omega⟩
  rw [Nat.add_sub_cancel_left]
  obtain ⟨h1, h2, h1', h2'⟩ := evenN_spec a b c hc
  obtain ⟨g1, g2, g1', g2'⟩ := evenN_spec a (b + d) c hc
  rcases Nat.eq_or_lt_of_le hac with hx | hx
  · subst hx
    have e : ∀ n, evenN a n a = n := by
      intro n
      unfold evenN
      rw [Nat.mul_div_cancel_left _ hc, Nat.mul_mod_right, if_neg]
      unfold evUp
      simp only [Bool.or_eq_true, Bool.and_eq_true, decide_eq_true_eq]
      omega
    rw [e, e]
    exact Nat.le_refl _
  · rcases Nat.eq_zero_or_pos d with hd | hd
    · subst hd; simp
    generalize evenN a b c = q at *
    generalize evenN a (b + d) c = p at *
    rcases Nat.lt_or_ge (q + d) p with hlt | hge
    · exfalso
      obtain ⟨k, rfl⟩ : ∃ k, p = q + d + 1 + k := ⟨p - (q + d) - 1, by omega⟩
      have e1 : 2 * (q + d + 1 + k) * c = 2 * (q * c) + 2 * (d * c) + 2 * c + 2 * (k * c) := by rw [Nat.mul_assoc, Nat.add_mul, Nat.add_mul, Nat.add_mul, Nat.one_mul]; omega
      have e2 : (2 * q + 1) * c = 2 * (q * c) + c := by rw [Nat.add_mul, Nat.mul_assoc, Nat.one_mul]
      have e3 : a * (b + d) = a * b + a * d := Nat.mul_add _ _ _
      have e4 : a * d < d * c := by rw [Nat.mul_comm d c]; exact Nat.mul_lt_mul_of_pos_right hx hd
      rw [e1, e3] at g2
      rw [e2] at h1
      omega
    · exact hge
end Go.Proofs.YtokakpbpenndlaaGreatDoor

set_option linter.unusedVariables false
namespace Go.Proofs.YtokakpbpenndlaaGreatDoor
open Go.RowKit

set_option maxRecDepth 100000 in
set_option maxHeartbeats 1000000 in
theorem evup_any (q r c : Nat) (hq : q < 18446744073709551616) (hr : r < c) (hc : c < 18446744073709551616) (bl : Bool) (w : World) :
    Calls Tryz.prog 190 #[.int .u64 (q : Int), .int .u64 (r : Int), .int .u64 (c : Int), .bool bl] w fun e w' => e = .returned (.bool (evUp q r c)) ∧ w = w' := by
  have e1 : IntKind.u64.wrap ((c : Int) - r) = ((c - r : Nat) : Int) := by rw [IntKind.wrap_u64]; omega
  have hH := Lib.hid hr
  unfold evUp
  go_enter Tryz.func190, Tryz.ntmps190
  go_wp2
  all_goals
    go_ret
    refine ⟨ret_bool ?_, rfl⟩
    have hr' := hH.out
    rw [Bool.eq_iff_iff]
    simp
    try omega

theorem sgn_nat (a : Nat) : 0 ≤ sgnI (a : Int) ∧ sgnI (a : Int) ≤ 1 := by unfold sgnI; split <;> (try split) <;> omega

set_option maxRecDepth 100000 in
set_option maxHeartbeats 2000000 in
theorem divide_nat (a b c : Nat) (ha : a < 9223372036854775808) (hb : b < 9223372036854775808) (hc : 0 < c) (hc2 : c < 9223372036854775808) (hq : evenN a b c < 9223372036854775808) (w : World) :
    Calls Tryz.prog 189 #[.int .i64 (a : Int), .int .i64 (b : Int), .int .i64 (c : Int), .func (.func 190) #[] #[]] w fun e w' => e = .returned (.tuple #[.int .i64 (evenN a b c : Int), .int .i64 0]) ∧ Ext w w' := by
  have h1 : ((c : Int) == 0) = false := by rw [beq_eq_false_iff_ne]; omega
  have h2 : decide ((c : Int) ≤ 0) = false := by simp; omega
  have hs : decide (RowKit.wrap64 (sgnI a * sgnI b * sgnI c) < 0) = false := by
    have s1 := sgn_nat a; have s2 := sgn_nat b; have s3 := sgn_nat c
    generalize sgnI (a : Int) = x at *
    generalize sgnI (b : Int) = y at *
    generalize sgnI (c : Int) = z at *
    have hx : x = 0 ∨ x = 1 := by omega
    have hy : y = 0 ∨ y = 1 := by omega
    have hz : z = 0 ∨ z = 1 := by omega
    rcases hx with rfl | rfl <;> rcases hy with rfl | rfl <;> rcases hz with rfl | rfl <;> simp [RowKit.wrap64]
  have hql : a * b / c < 9223372036854775808 := by
    have : a * b / c ≤ evenN a b c := by unfold evenN; split <;> omega
    omega
  have hhi : a * b / 18446744073709551616 < c := by
    rw [Nat.div_lt_iff_lt_mul (by decide)]
    have h1 : a * b < 9223372036854775808 * c := (Nat.div_lt_iff_lt_mul hc).1 hql
    omega
  have hrl := Nat.mod_lt (a * b) hc
  have HQ := Lib.hid hq
  clear hq
  generalize hm : a * b = m at *
  replace hm := Lib.hid hm
  go_enter Tryz.func189, Tryz.ntmps189
  go_wp2_with fail
  refine (wmul_nat a b ha hb _).mono ?_
  rintro e v1 ⟨rfl, rfl⟩
  rw [hm.out]
  have hd := Nat.div_add_mod m 18446744073709551616
  have hml : m % 18446744073709551616 < 18446744073709551616 := Nat.mod_lt _ (by decide)
  generalize m / 18446744073709551616 = mh at *
  generalize m % 18446744073709551616 = ml at *
  have h5 : decide ((c : Int) ≤ (mh : Int)) = false := by simp; omega
  replace hd := Lib.hid hd
  go_wp2_with (first | (go_at_call 202; refine (size_nat c hc2 _).mono ?_; rintro e w' ⟨rfl, rfl⟩) | (go_at_call 203; refine (sign_any _ _).mono ?_; rintro e w' ⟨rfl, rfl⟩))
  refine (div64_any mh ml c hhi hml (by omega) _).mono ?_
  rintro e v2 ⟨rfl, hx⟩
  rw [show mh * 18446744073709551616 + ml = m by rw [Nat.mul_comm]; exact hd.out]
  have HE := Lib.hid (show evenN a b c = if evUp (m / c) (m % c) c then m / c + 1 else m / c by unfold evenN; rw [hm.out])
  generalize m / c = q at *
  generalize m % c = r at *
  go_wp2_with fail
  refine (evup_any q r c (by omega) hrl (by omega) _ _).mono ?_
  rintro e v3 ⟨rfl, rfl⟩
  cases hu : evUp q r c
  · have HE2 := Lib.hid (HE.out.trans (by rw [hu]; rfl) : evenN a b c = q)
    have hq1 : q < 9223372036854775808 := by have := HQ.out; rw [HE2.out] at this; exact this
    go_wp2_with fail
    refine (signed_nat q hq1 _).mono ?_
    rintro e v4 ⟨rfl, rfl⟩
    go_wp2_with fail
    exact bodyPost_ret (results_tmp2 rfl _ _ _) rfl ⟨by rw [HE2.out]; rfl, hx⟩
  · have HE2 := Lib.hid (HE.out.trans (by rw [hu]; rfl) : evenN a b c = q + 1)
    have hq1 : q + 1 < 9223372036854775808 := by have := HQ.out; rw [HE2.out] at this; exact this
    have hb : ((q : Int) == 18446744073709551615) = false := by rw [beq_eq_false_iff_ne]; omega
    have hw : IntKind.u64.wrap ((q : Int) + 1) = ((q + 1 : Nat) : Int) := by rw [IntKind.wrap_u64]; omega
    go_wp2_with fail
    refine (signed_nat (q + 1) hq1 _).mono ?_
    rintro e v4 ⟨rfl, rfl⟩
    go_wp2_with fail
    exact bodyPost_ret (results_tmp2 rfl _ _ _) rfl ⟨by rw [HE2.out]; rfl, hx⟩
end Go.Proofs.YtokakpbpenndlaaGreatDoor

set_option linter.unusedVariables false
namespace Go.Proofs.YtokakpbpenndlaaGreatDoor
open Go.RowKit

set_option maxRecDepth 100000 in
theorem even_nat (a b c : Nat) (ha : a < 9223372036854775808) (hb : b < 9223372036854775808) (hc : 0 < c) (hc2 : c < 9223372036854775808) (hq : evenN a b c < 9223372036854775808) (w : World) :
    Calls Tryz.prog 170 #[.int .i64 (a : Int), .int .i64 (b : Int), .int .i64 (c : Int)] w fun e w' => e = .returned (.tuple #[.int .i64 (evenN a b c : Int), .int .i64 0]) ∧ Ext w w' := by
  replace hq := Lib.hid hq
  go_enter Tryz.func170, Tryz.ntmps170
  go_wp2_with fail
  refine (divide_nat a b c ha hb hc hc2 hq.out _).mono ?_
  rintro e w' ⟨rfl, hx⟩
  go_wp2_with fail
  exact bodyPost_ret (results_tmp2 rfl _ _ _) rfl ⟨rfl, hx⟩
/-- P25.3: what of a total comes back, and the error. -/
def backI (t n b a : Int) : Int × Int :=
  if win t 0 4611686018427387904 = false ∨ win n 0 4611686018427387904 = false then (0, 5)
  else if b < 0 ∨ a < b ∨ n < a then (0, 2)
  else if n = 0 then (0, 0)
  else ((evenN t.toNat a.toNat n.toNat : Int) - evenN t.toNat b.toNat n.toNat, 0)
set_option maxRecDepth 100000 in
set_option maxHeartbeats 1000000 in
theorem back_any (t n b a : Int) (w : World) :
    Calls Tryz.prog 144 #[.int .i64 t, .int .i64 n, .int .i64 b, .int .i64 a] w fun e w' => e = .returned (.tuple #[.int .i64 (backI t n b a).1, .int .i64 (backI t n b a).2]) ∧ Ext w w' := by
  by_cases h1 : win t 0 4611686018427387904 = false
  · have HB := Lib.hid (show backI t n b a = (0, 5) by unfold backI; rw [if_pos (.inl h1)])
    go_enter Tryz.func144, Tryz.ntmps144
    go_wp2_with (go_at_call 169; refine (within_any _ _ _ _).mono ?_; rintro e w' ⟨rfl, rfl⟩)
    exact bodyPost_ret (results_tmp2 rfl _ _ _) rfl ⟨by rw [HB.out]; rfl, Ext.refl _⟩
  by_cases h2 : win n 0 4611686018427387904 = false
  · have HB := Lib.hid (show backI t n b a = (0, 5) by unfold backI; rw [if_pos (.inr h2)])
    have h1' : win t 0 4611686018427387904 = true := by simpa using h1
    clear h1
    go_enter Tryz.func144, Tryz.ntmps144
    go_wp2_with (go_at_call 169; refine (within_any _ _ _ _).mono ?_; rintro e w' ⟨rfl, rfl⟩)
    exact bodyPost_ret (results_tmp2 rfl _ _ _) rfl ⟨by rw [HB.out]; rfl, Ext.refl _⟩
  have h1' : win t 0 4611686018427387904 = true := by simpa using h1
  have h2' : win n 0 4611686018427387904 = true := by simpa using h2
  have e0 : ¬ (win t 0 4611686018427387904 = false ∨ win n 0 4611686018427387904 = false) := by simp [h1', h2']
  by_cases h3 : b < 0
  · have HB := Lib.hid (show backI t n b a = (0, 2) by unfold backI; rw [if_neg e0, if_pos (.inl h3)])
    have g1 : decide (b < 0) = true := by simpa using h3
    clear h1 h2 e0
    go_enter Tryz.func144, Tryz.ntmps144
    go_wp2_with (go_at_call 169; refine (within_any _ _ _ _).mono ?_; rintro e w' ⟨rfl, rfl⟩)
    exact bodyPost_ret (results_tmp2 rfl _ _ _) rfl ⟨by rw [HB.out]; rfl, Ext.refl _⟩
  have g1 : decide (b < 0) = false := by simpa using h3
  by_cases h4 : a < b
  · have HB := Lib.hid (show backI t n b a = (0, 2) by unfold backI; rw [if_neg e0, if_pos (.inr (.inl h4))])
    have g2 : decide (a < b) = true := by simpa using h4
    clear h1 h2 e0
    go_enter Tryz.func144, Tryz.ntmps144
    go_wp2_with (go_at_call 169; refine (within_any _ _ _ _).mono ?_; rintro e w' ⟨rfl, rfl⟩)
    exact bodyPost_ret (results_tmp2 rfl _ _ _) rfl ⟨by rw [HB.out]; rfl, Ext.refl _⟩
  have g2 : decide (a < b) = false := by simpa using h4
  by_cases h5 : n < a
  · have HB := Lib.hid (show backI t n b a = (0, 2) by unfold backI; rw [if_neg e0, if_pos (.inr (.inr h5))])
    have g3 : decide (n < a) = true := by simpa using h5
    clear h1 h2 e0
    go_enter Tryz.func144, Tryz.ntmps144
    go_wp2_with (go_at_call 169; refine (within_any _ _ _ _).mono ?_; rintro e w' ⟨rfl, rfl⟩)
    exact bodyPost_ret (results_tmp2 rfl _ _ _) rfl ⟨by rw [HB.out]; rfl, Ext.refl _⟩
  have g3 : decide (n < a) = false := by simpa using h5
  have e1 : ¬ (b < 0 ∨ a < b ∨ n < a) := by omega
  by_cases h6 : n = 0
  · have HB := Lib.hid (show backI t n b a = (0, 0) by unfold backI; rw [if_neg e0, if_neg e1, if_pos h6])
    have g4 : (n == 0) = true := by simpa using h6
    replace h6 := Lib.hid h6
    clear h1 h2 e0
    go_enter Tryz.func144, Tryz.ntmps144
    go_wp2_with (go_at_call 169; refine (within_any _ _ _ _).mono ?_; rintro e w' ⟨rfl, rfl⟩)
    exact bodyPost_ret (results_tmp2 rfl _ _ _) rfl ⟨by rw [HB.out]; rfl, Ext.refl _⟩
  have g4 : (n == 0) = false := by simpa using h6
  have HB := Lib.hid (show backI t n b a = ((evenN t.toNat a.toNat n.toNat : Int) - evenN t.toNat b.toNat n.toNat, 0) by unfold backI; rw [if_neg e0, if_neg e1, if_neg h6])
  obtain ⟨t1, t2⟩ := win_bd h1'
  obtain ⟨n1, n2⟩ := win_bd h2'
  obtain ⟨t, rfl⟩ := Int.eq_ofNat_of_zero_le t1
  obtain ⟨n, rfl⟩ := Int.eq_ofNat_of_zero_le n1
  obtain ⟨b, rfl⟩ := Int.eq_ofNat_of_zero_le (show 0 ≤ b by omega)
  obtain ⟨a, rfl⟩ := Int.eq_ofNat_of_zero_le (show 0 ≤ a by omega)
  simp only [Int.toNat_natCast] at HB
  have hn : 0 < n := by omega
  have q5 : a ≤ n := by omega
  have q4 : b ≤ a := by omega
  have p1 := evenN_le (a := t) hn (show a ≤ n by omega)
  have p2 := evenN_le (a := t) hn (show b ≤ n by omega)
  have hw : RowKit.wrap64 ((evenN t a n : Int) - evenN t b n) = (evenN t a n : Int) - evenN t b n := by unfold RowKit.wrap64; omega
  replace hw := Lib.hid hw
  replace p1 := Lib.hid p1
  replace p2 := Lib.hid p2
  clear h1 h2 h3 h4 h5 h6 e0 e1 t1 n1
  go_enter Tryz.func144, Tryz.ntmps144
  go_wp2_with (go_at_call 169; refine (within_any _ _ _ _).mono ?_; rintro e w' ⟨rfl, rfl⟩)
  refine (even_nat t a n (by omega) (by omega) hn (by omega) (by have := p1.out; omega) _).mono ?_
  rintro e v1 ⟨rfl, hx1⟩
  go_wp2_with fail
  refine (even_nat t b n (by omega) (by omega) hn (by omega) (by have := p2.out; omega) _).mono ?_
  rintro e v2 ⟨rfl, hx2⟩
  go_wp2_with fail
  exact bodyPost_ret (results_tmp2 rfl _ _ _) rfl ⟨by rw [HB.out]; show Ending.returned (.tuple #[.int .i64 (RowKit.wrap64 ((evenN t a n : Int) - evenN t b n)), .int .i64 0]) = _; rw [hw.out], hx1.trans hx2⟩
def taxV (a b c d e f : Int) : Value := .agg #[.int .i64 a, .int .i64 b, .int .i64 c, .int .i64 d, .int .i64 e, .int .i64 f]
theorem ld_tax {w : World} {g : Nat} {a b c d e f : Value} (h : Blk w g 117 #[a, b, c, d, e, f]) : (loadVar 117 ⟨g, 0, none⟩).run Tryz.prog w = .ok (.agg #[a, b, c, d, e, f]) w := by
  have q := h.cell
  simp [go_sem, q]
def Tax1 (a b c d e f : Int) : Bool := win a 0 99 && win b 1 1099511627775 && win c 0 4611686018427387904 && win d 0 (4611686018427387904 - c) && win e 0 1000000 && win f 0 4611686018427387904
set_option maxRecDepth 100000 in
set_option maxHeartbeats 1000000 in
theorem one_any (a b c d e f : Int) (w : World) : Calls Tryz.prog 143 #[taxV a b c d e f] w fun r w' => r = .returned (.bool (Tax1 a b c d e f)) ∧ Ext w w' := by
  unfold taxV Tax1
  cases hw : win c 0 4611686018427387904
  · have hw' := hw
    clear hw
    go_enter Tryz.func143, Tryz.ntmps143
    go_wp2_with (go_at_call 169; refine (within_any _ _ _ _).mono ?_; rintro e w' ⟨rfl, rfl⟩)
    all_goals
      refine bodyPost_ret (results_tmp rfl _ _ _) rfl ⟨?_, (Ext.refl w).alloc _⟩
      simp [*]
  · obtain ⟨c1, c2⟩ := win_bd hw
    have hc : RowKit.wrap64 (4611686018427387904 - c) = 4611686018427387904 - c := by unfold RowKit.wrap64; omega
    go_enter Tryz.func143, Tryz.ntmps143
    go_wp2_with (go_at_call 169; refine (within_any _ _ _ _).mono ?_; rintro e w' ⟨rfl, rfl⟩)
    all_goals
      refine bodyPost_ret (results_tmp rfl _ _ _) rfl ⟨?_, (Ext.refl w).alloc _⟩
      simp [*]
structure Tx where
  l : Int
  j : Int
  t : Int
  x : Int
  r : Int
  v : Int
deriving DecidableEq
def Tx.V (x : Tx) : Value := taxV x.l x.j x.t x.x x.r x.v
def Tx.zero : Tx := ⟨0, 0, 0, 0, 0, 0⟩
def Tx.ok (x : Tx) : Bool := Tax1 x.l x.j x.t x.x x.r x.v
/-- P25.3: what of a tax line comes back, and the error. -/
def Tx.ret (x : Tx) (b a : Int) : Tx × Int :=
  if x.ok = false then (Tx.zero, 5)
  else if (backI x.t (x.t + x.x) b a).2 ≠ 0 then (Tx.zero, (backI x.t (x.t + x.x) b a).2)
  else ({ x with t := (backI x.t (x.t + x.x) b a).1, x := a - b - (backI x.t (x.t + x.x) b a).1, v := (backI x.v (x.t + x.x) b a).1 }, 0)
theorem Tx.ok_bd {x : Tx} (h : x.ok = true) : (0 ≤ x.l ∧ x.l ≤ 99) ∧ (1 ≤ x.j ∧ x.j ≤ 1099511627775) ∧ (0 ≤ x.t ∧ x.t ≤ 4611686018427387904) ∧ (0 ≤ x.x ∧ x.x ≤ 4611686018427387904 - x.t) ∧ (0 ≤ x.r ∧ x.r ≤ 1000000) ∧ (0 ≤ x.v ∧ x.v ≤ 4611686018427387904) := by
  unfold Tx.ok Tax1 at h
  simp only [Bool.and_eq_true] at h
  obtain ⟨⟨⟨⟨⟨h1, h2⟩, h3⟩, h4⟩, h5⟩, h6⟩ := h
  exact ⟨win_bd h1, win_bd h2, win_bd h3, win_bd h4, win_bd h5, win_bd h6⟩
theorem backI_ok {t n b a : Int} (h : (backI t n b a).2 = 0) : (0 ≤ t ∧ t ≤ 4611686018427387904) ∧ (0 ≤ n ∧ n ≤ 4611686018427387904) ∧ 0 ≤ b ∧ b ≤ a ∧ a ≤ n ∧ 0 ≤ (backI t n b a).1 ∧ (backI t n b a).1 ≤ t := by
  unfold backI at h ⊢
  by_cases h1 : win t 0 4611686018427387904 = false ∨ win n 0 4611686018427387904 = false
  · rw [if_pos h1] at h; simp at h
  rw [if_neg h1] at h ⊢
  have h1' := not_or.1 h1
  have t1 := win_bd (show win t 0 4611686018427387904 = true by simpa using h1'.1)
  have n1 := win_bd (show win n 0 4611686018427387904 = true by simpa using h1'.2)
  by_cases h2 : b < 0 ∨ a < b ∨ n < a
  · rw [if_pos h2] at h; simp at h
  rw [if_neg h2]
  by_cases h3 : n = 0
  · rw [if_pos h3]; refine ⟨t1, n1, by omega, by omega, by omega, by simp, t1.1⟩
  rw [if_neg h3]
  have hn : 0 < n.toNat := by omega
  have p1 := evenN_le (a := t.toNat) hn (show a.toNat ≤ n.toNat by omega)
  have p2 := evenN_mono (a := t.toNat) hn (show b.toNat ≤ a.toNat by omega)
  refine ⟨t1, n1, by omega, by omega, by omega, ?_, ?_⟩
  · simp only; omega
  · simp only; omega
theorem backI_err {t t' n b a : Int} (ht : 0 ≤ t' ∧ t' ≤ 4611686018427387904) (h : (backI t n b a).2 = 0) : (backI t' n b a).2 = 0 := by
  obtain ⟨h1, h2, h3, h4, h5, _⟩ := backI_ok h
  unfold backI
  rw [if_neg (by simp [win]; omega), if_neg (by omega)]
  split <;> rfl

/-- A block that holds a tax line. -/
def Tx.cells (x : Tx) : Array Value := #[.int .i64 x.l, .int .i64 x.j, .int .i64 x.t, .int .i64 x.x, .int .i64 x.r, .int .i64 x.v]
end Go.Proofs.YtokakpbpenndlaaGreatDoor

set_option linter.unusedVariables false
namespace Go.Proofs.YtokakpbpenndlaaGreatDoor
open Go.RowKit

/-- What is stored in the result's block, cell by cell. -/
def put6 (W : World) (g : Nat) (a b c d e f : Value) : World := (((((W.setCell ⟨g, 0, none⟩ a).setCell ⟨g, 1, none⟩ b).setCell ⟨g, 2, none⟩ c).setCell ⟨g, 3, none⟩ d).setCell ⟨g, 4, none⟩ e).setCell ⟨g, 5, none⟩ f
theorem put6_blk {W : World} {g : Nat} {t : TypeId} {a b c d e f a' b' c' d' e' f' : Value} (h : Blk W g t #[a', b', c', d', e', f']) : Blk (put6 W g a b c d e f) g t #[a, b, c, d, e, f] :=
  (((((h.set_ 0 a).set_ 1 b).set_ 2 c).set_ 3 d).set_ 4 e).set_ 5 f
theorem put6_ext {V W : World} {g : Nat} {a b c d e f : Value} (h : Ext V W) (hg : V.heap.size ≤ g) : Ext V (put6 W g a b c d e f) :=
  (((((h.set (p := ⟨g, 0, none⟩) hg a).set (p := ⟨g, 1, none⟩) hg b).set (p := ⟨g, 2, none⟩) hg c).set (p := ⟨g, 3, none⟩) hg d).set (p := ⟨g, 4, none⟩) hg e).set (p := ⟨g, 5, none⟩) hg f

set_option maxRecDepth 100000 in
set_option maxHeartbeats 2000000 in
theorem return_any (x : Tx) (b a : Int) (w : World) : Calls Tryz.prog 105 #[x.V, .int .i64 b, .int .i64 a] w fun r w' => r = .returned (.tuple #[(x.ret b a).1.V, .int .i64 (x.ret b a).2]) ∧ Ext w w' := by
  have B3 := Lib.hid ((Blk.new w 117 #[.int .i64 x.l, .int .i64 x.j, .int .i64 x.t, .int .i64 x.x, .int .i64 x.r, .int .i64 x.v]).alloc (.cells #[.int .i64 0, .int .i64 0, .int .i64 0, .int .i64 0, .int .i64 0, .int .i64 0] 117))
  have B6 : Hid (Blk ((w.alloc (.cells #[.int .i64 x.l, .int .i64 x.j, .int .i64 x.t, .int .i64 x.x, .int .i64 x.r, .int .i64 x.v] 117)).alloc (.cells #[.int .i64 0, .int .i64 0, .int .i64 0, .int .i64 0, .int .i64 0, .int .i64 0] 117)) (w.heap.size + 1) 117 #[.int .i64 0, .int .i64 0, .int .i64 0, .int .i64 0, .int .i64 0, .int .i64 0]) := Lib.hid (by
    have := Blk.new (w.alloc (.cells #[.int .i64 x.l, .int .i64 x.j, .int .i64 x.t, .int .i64 x.x, .int .i64 x.r, .int .i64 x.v] 117)) 117 #[.int .i64 0, .int .i64 0, .int .i64 0, .int .i64 0, .int .i64 0, .int .i64 0]
    simpa using this)
  have kk : w.heap.size ≤ w.heap.size + 1 := by omega
  have nn : w.heap.size + 1 ≠ w.heap.size := by omega
  cases hok : x.ok
  · have HR := Lib.hid (show x.ret b a = (Tx.zero, 5) by unfold Tx.ret; rw [if_pos hok])
    replace hok := Lib.hid hok
    unfold Tx.V taxV
    go_enter Tryz.func105, Tryz.ntmps105
    go_wp2_with fail
    refine (one_any x.l x.j x.t x.x x.r x.v _).mono ?_
    rintro e v1 ⟨rfl, hx1⟩
    rw [show Tax1 x.l x.j x.t x.x x.r x.v = false from hok.out]
    have X1 := (((Ext.refl w).alloc _).alloc _).trans hx1
    have C6 := B6.out.ext hx1
    clear hx1 B3 B6
    obtain ⟨q6, q6'⟩ := C6.cells
    go_wp2_with fail
    refine bodyPost_ret (results_ct rfl rfl (ld_tax (put6_blk (a := .int .i64 0) (b := .int .i64 0) (c := .int .i64 0) (d := .int .i64 0) (e := .int .i64 0) (f := .int .i64 0) C6))) rfl ⟨by rw [HR.out]; rfl, put6_ext X1 kk⟩
  · obtain ⟨b1, b2, b3, b4, b5, b6⟩ := Tx.ok_bd hok
    have hu := Lib.hid (show x.ret b a = if (backI x.t (x.t + x.x) b a).2 ≠ 0 then (Tx.zero, (backI x.t (x.t + x.x) b a).2)
      else ({ x with t := (backI x.t (x.t + x.x) b a).1, x := a - b - (backI x.t (x.t + x.x) b a).1, v := (backI x.v (x.t + x.x) b a).1 }, 0) by
        unfold Tx.ret; rw [if_neg (by simp [hok])])
    replace hok := Lib.hid hok
    by_cases he : (backI x.t (x.t + x.x) b a).2 = 0
    · have HR := Lib.hid (hu.out.trans (if_neg (by simpa using he)))
      have hbd := backI_ok he
      have he0 : ((backI x.t (x.t + x.x) b a).2 != 0) = false := by simp [he]
      clear hu
      replace he := Lib.hid he
      generalize hT : (backI x.t (x.t + x.x) b a).1 = T at *
      generalize hE : (backI x.t (x.t + x.x) b a).2 = E at *
      replace hT := Lib.hid hT
      replace hE := Lib.hid hE
      obtain ⟨_, _, c1, c2, c3, c4, c5⟩ := hbd
      unfold Tx.V taxV
      go_enter Tryz.func105, Tryz.ntmps105
      go_wp2_with fail
      refine (one_any x.l x.j x.t x.x x.r x.v _).mono ?_
      rintro e v1 ⟨rfl, hx1⟩
      rw [show Tax1 x.l x.j x.t x.x x.r x.v = true from hok.out]
      have X1 := (((Ext.refl w).alloc _).alloc _).trans hx1
      have C3 := B3.out.ext hx1
      have C6 := B6.out.ext hx1
      clear hx1 B3 B6
      obtain ⟨q3, q3'⟩ := C3.cells
      go_wp2_with fail
      refine (back_any x.t (x.t + x.x) b a _).mono ?_
      rintro e v2 ⟨rfl, hx2⟩
      rw [hT.out, hE.out]
      have X2 := X1.trans hx2
      replace C3 := C3.ext hx2
      replace C6 := C6.ext hx2
      clear hx2 X1 q3 q3'
      obtain ⟨q3, q3'⟩ := C3.cells
      go_wp2_with fail
      refine (back_any x.v (x.t + x.x) b a _).mono ?_
      rintro e v3 ⟨rfl, hx3⟩
      have X3 := X2.trans hx3
      replace C3 := C3.ext hx3
      replace C6 := C6.ext hx3
      clear hx3 X2 q3 q3'
      obtain ⟨q3, q3'⟩ := C3.cells
      obtain ⟨q6, q6'⟩ := C6.cells
      generalize hV : (backI x.v (x.t + x.x) b a).1 = V at *
      generalize hV2 : (backI x.v (x.t + x.x) b a).2 = V2 at *
      replace hV := Lib.hid hV
      replace hV2 := Lib.hid hV2
      go_wp2_with fail
      have B : Blk _ (w.heap.size + 1) 117 #[.int .i64 x.l, .int .i64 x.j, .int .i64 T, .int .i64 (a - b - T), .int .i64 x.r, .int .i64 V] :=
        put6_blk (((C6.far (p := ⟨w.heap.size, 5, none⟩) nn (.int .i64 V)).far (p := ⟨w.heap.size, 2, none⟩) nn (.int .i64 T)).far (p := ⟨w.heap.size, 3, none⟩) nn (.int .i64 (a - b - T)))
      refine bodyPost_ret (results_ct rfl rfl (ld_tax B)) rfl ⟨by rw [HR.out]; rfl, put6_ext (((X3.set (p := ⟨w.heap.size, 5, none⟩) (Nat.le_refl _) (.int .i64 V)).set (p := ⟨w.heap.size, 2, none⟩) (Nat.le_refl _) (.int .i64 T)).set (p := ⟨w.heap.size, 3, none⟩) (Nat.le_refl _) (.int .i64 (a - b - T))) kk⟩
    · have HR := Lib.hid (hu.out.trans (if_pos he))
      have he0 : ((backI x.t (x.t + x.x) b a).2 != 0) = true := by simpa using he
      clear hu
      replace he := Lib.hid he
      generalize hT : (backI x.t (x.t + x.x) b a).1 = T at *
      generalize hE : (backI x.t (x.t + x.x) b a).2 = E at *
      replace hT := Lib.hid hT
      replace hE := Lib.hid hE
      unfold Tx.V taxV
      go_enter Tryz.func105, Tryz.ntmps105
      go_wp2_with fail
      refine (one_any x.l x.j x.t x.x x.r x.v _).mono ?_
      rintro e v1 ⟨rfl, hx1⟩
      rw [show Tax1 x.l x.j x.t x.x x.r x.v = true from hok.out]
      have X1 := (((Ext.refl w).alloc _).alloc _).trans hx1
      have C3 := B3.out.ext hx1
      have C6 := B6.out.ext hx1
      clear hx1 B3 B6
      obtain ⟨q3, q3'⟩ := C3.cells
      go_wp2_with fail
      refine (back_any x.t (x.t + x.x) b a _).mono ?_
      rintro e v2 ⟨rfl, hx2⟩
      rw [hT.out, hE.out]
      have X2 := X1.trans hx2
      replace C6 := C6.ext hx2
      clear hx2 X1 q3 q3' C3
      obtain ⟨q6, q6'⟩ := C6.cells
      go_wp2_with fail
      refine bodyPost_ret (results_ct rfl rfl (ld_tax (put6_blk (a := .int .i64 0) (b := .int .i64 0) (c := .int .i64 0) (d := .int .i64 0) (e := .int .i64 0) (f := .int .i64 0) C6))) rfl ⟨by rw [HR.out]; rfl, put6_ext X2 kk⟩
end Go.Proofs.YtokakpbpenndlaaGreatDoor
