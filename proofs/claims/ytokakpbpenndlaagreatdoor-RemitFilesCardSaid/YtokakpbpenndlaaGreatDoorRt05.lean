/-
  The reference's numbers: as an int.
-/
import Derived.Test.YtokakpbpenndlaaGreatDoorRt04
import Derived.Deep.DeepCutAuto
import Derived.Test.YtokakpbpenndlaaGreatDoorRt01
import Derived.Test.YtokakpbpenndlaaGreatDoorRt02
import Derived.Test.YtokakpbpenndlaaGreatDoorProg
set_option linter.unusedVariables false
namespace Go.Proofs.YtokakpbpenndlaaGreatDoor
open Go.RowKit

theorem sumD_hi (f : Nat → Nat) (a : Nat) : ∀ b, (∀ j, a ≤ j → j < a + b → f j = 0) → sumD f (a + b) = sumD f a
  | 0, _ => rfl
  | b + 1, h => by
    have h1 := sumD_hi f a b fun j h1 h2 => h j h1 (by omega)
    have h2 := h (a + b) (by omega) (by omega)
    rw [← Nat.add_assoc, sumD, h1, h2, Nat.zero_mul, Nat.add_zero]
theorem small_of_digs {n : Nat} (h : n < 65536 ^ 12) (hz : ∀ j, 4 ≤ j → j < 12 → dig n j = 0) : n < 65536 ^ 4 := by
  have h1 : sumD (dig n) (4 + 8) = n := sumD_dig12 h
  have h2 := sumD_hi (dig n) 4 8 hz
  have h3 := sumD_lt (f := dig n) (k := 4) fun i _ => dig_lt n i
  exact Nat.lt_of_le_of_lt (Nat.le_of_eq (h1.symm.trans h2)) h3
theorem four_digs {n : Nat} (h : n < 65536 ^ 4) : digI n 0 + digI n 1 * 65536 + digI n 2 * 4294967296 + digI n 3 * 281474976710656 = (n : Int) := by
  have h1 := sumD_dig n 4
  rw [Nat.mod_eq_of_lt h] at h1
  simp only [sumD] at h1
  unfold digI
  omega
def IntRel (n : Nat) (w : World) (i : Value) (wr : World) : Prop :=
  ∃ k : Nat, 4 ≤ k ∧ k ≤ 12 ∧ i = .int .i64 (k : Int) ∧ (∀ j, 4 ≤ j → j < k → dig n j = 0) ∧ w = wr
set_option maxRecDepth 100000 in
set_option maxHeartbeats 1000000 in
theorem int_any01 (n : Nat) (hn : n < 65536 ^ 12) (w : World) :
    Calls Tryz.prog 78 #[numV false (digI n)] w fun e w' => e = .returned (.tuple #[.int .i64 (if n < 9223372036854775808 then (n : Int) else 0), .bool (decide (n < 9223372036854775808))]) ∧ Ext w w' := by
  have B := Blk.new w 143 (numC false (digI n))
  have X0 := (Ext.refl w).alloc (.cells (numC false (digI n)) 143)
  obtain ⟨W1, hW1⟩ : ∃ W1, w.alloc (.cells (numC false (digI n)) 143) = W1 := ⟨_, rfl⟩
  have HW := Lib.hid hW1
  rw [hW1] at B X0
  obtain ⟨E, hE⟩ : ∃ E : Int × Bool, ((if n < 9223372036854775808 then (n : Int) else 0), decide (n < 9223372036854775808)) = E := ⟨_, rfl⟩
  obtain ⟨E1, E2⟩ := E
  injection hE with hE1 hE2
  rw [hE1, hE2]
  replace hE1 := Lib.hid hE1
  replace hE2 := Lib.hid hE2
  clear hW1
  unfold numC at HW
  go_enter Tryz.func78, Tryz.ntmps78
  go_wp2_with fail
  rw [HW.out]
  clear HW
  have hn' := Lib.hid hn
  clear hn
  go_loopw [4] (fun i wr => IntRel n W1 i wr) (fun i _ => 12 - (intOf i).toNat)
  case atStart => exact ⟨4, by omega, by omega, rfl, fun j h1 h2 => by omega, rfl⟩
  case round =>
    obtain ⟨k, hk4, hk, rfl, hz, rfl⟩ := hrel
    by_cases hlt : k < 12
    · have hd : decide ((k : Int) < 12) = true := by simp; omega
      have c1 := (B.cell (1 + k)).trans (numC_at false _ k hlt)
      have e5 : (k : Int) < 12 := by omega
      by_cases hdz : dig n k = 0
      · have hD : digI n k = 0 := by unfold digI; omega
        rw [hD] at c1
        have HN := Lib.hid (show IntRel n W1 (.int .i64 ((k + 1 : Nat) : Int)) W1 from ⟨k + 1, by omega, by omega, rfl, fun j h1 h2 => by
          rcases Nat.lt_or_ge j k with h | h
          · exact hz j h1 h
          · rw [show j = k by omega]; exact hdz, rfl⟩)
        clear hz hD
        replace hdz := Lib.hid hdz
        go_wp2_with fail
        go_roundw
        case rel => exact HN.out
        case measure => simp [intOf] <;> omega
      · have hD : (digI n k != 0) = true := by rw [bne_iff_ne]; unfold digI; omega
        have hbig : 9223372036854775808 ≤ n := by
          rcases Nat.lt_or_ge n 9223372036854775808 with h | h
          · exact absurd (dig_hi (n := n) (by omega) hk4) hdz
          · exact h
        have e1 : E1 = 0 := by rw [← hE1.out, if_neg (by omega)]
        have e2 : E2 = false := by rw [← hE2.out]; simp; omega
        replace e1 := Lib.hid e1
        replace e2 := Lib.hid e2
        replace hdz := Lib.hid hdz
        clear hz
        go_wp2_with fail
        go_ret2
        exact ⟨by rw [e1.out, e2.out]; rfl, X0⟩
    · have hk12 : k = 12 := by omega
      subst hk12
      have hs := small_of_digs hn'.out hz
      have h4 := four_digs hs
      have d0 : 0 ≤ digI n 0 ∧ digI n 0 < 65536 := by have := dig_lt n 0; unfold digI; omega
      have d1 : 0 ≤ digI n 1 ∧ digI n 1 < 65536 := by have := dig_lt n 1; unfold digI; omega
      have d2 : 0 ≤ digI n 2 ∧ digI n 2 < 65536 := by have := dig_lt n 2; unfold digI; omega
      have d3 : 0 ≤ digI n 3 ∧ digI n 3 < 65536 := by have := dig_lt n 3; unfold digI; omega
      obtain ⟨q, q'⟩ := B.cells
      unfold numC at q
      clear hz hs
      generalize digI n 0 = a0 at *
      generalize digI n 1 = a1 at *
      generalize digI n 2 = a2 at *
      generalize digI n 3 = a3 at *
      obtain ⟨d00, d01⟩ := d0
      obtain ⟨d10, d11⟩ := d1
      obtain ⟨d20, d21⟩ := d2
      obtain ⟨d30, d31⟩ := d3
      replace h4 := Lib.hid h4
      go_upto_region 7 with (fail)
      rw [h4.out]
      have hb0 : (0 : Int) ≤ (n : Int) := Int.natCast_nonneg n
      by_cases hl : n < 9223372036854775808
      · have hd2 : decide ((9223372036854775808 : Int) ≤ (n : Int)) = false := by simp; omega
        have e1 : E1 = (n : Int) := by rw [← hE1.out, if_pos hl]
        have e2 : E2 = true := by rw [← hE2.out]; simpa using hl
        replace e1 := Lib.hid e1
        replace e2 := Lib.hid e2
        have hb1 : (n : Int) < 9223372036854775808 := by omega
        go_wp2_with fail
        go_ret2
        exact ⟨by rw [e1.out, e2.out]; rfl, X0⟩
      · have hd2 : decide ((9223372036854775808 : Int) ≤ (n : Int)) = true := by simp; omega
        have e1 : E1 = 0 := by rw [← hE1.out, if_neg hl]
        have e2 : E2 = false := by rw [← hE2.out]; simpa using hl
        replace e1 := Lib.hid e1
        replace e2 := Lib.hid e2
        go_wp2_with fail
        go_ret2
        exact ⟨by rw [e1.out, e2.out]; rfl, X0⟩
set_option maxRecDepth 100000 in
set_option maxHeartbeats 1000000 in
theorem told_any (n : Nat) (hn : n < 65536 ^ 12) (w : World) :
    Calls Tryz.prog 208 #[numV false (digI n)] w fun e w' => e = .returned (.tuple #[.int .i64 (if n < 9223372036854775808 then (n : Int) else 0), .int .i64 (if n < 9223372036854775808 then 0 else 5)]) ∧ Ext w w' := by
  have X0 := (Ext.refl w).alloc (.cells (numC false (digI n)) 143)
  have HI := Lib.hid (int_any01 n hn)
  unfold numC at X0
  by_cases hl : n < 9223372036854775808
  · have e1 : (if n < 9223372036854775808 then (n : Int) else 0) = (n : Int) := if_pos hl
    have e2 : (if n < 9223372036854775808 then (0 : Int) else 5) = 0 := if_pos hl
    have e3 : decide (n < 9223372036854775808) = true := by simpa using hl
    rw [e1, e2]
    have HJ := HI.out
    rw [e1, e3] at HJ
    replace HJ := Lib.hid HJ
    clear HI e1 e2 e3 hn
    go_enter Tryz.func208, Tryz.ntmps208
    go_wp2_with fail
    refine (HJ.out _).mono ?_
    rintro e w1 ⟨rfl, hx1⟩
    go_wp2_with fail
    go_ret2
    exact ⟨rfl, X0.trans hx1⟩
  · have e1 : (if n < 9223372036854775808 then (n : Int) else 0) = 0 := if_neg hl
    have e2 : (if n < 9223372036854775808 then (0 : Int) else 5) = 5 := if_neg hl
    have e3 : decide (n < 9223372036854775808) = false := by simpa using hl
    rw [e1, e2]
    have HJ := HI.out
    rw [e1, e3] at HJ
    replace HJ := Lib.hid HJ
    clear HI e1 e2 e3 hn
    go_enter Tryz.func208, Tryz.ntmps208
    go_wp2_with fail
    refine (HJ.out _).mono ?_
    rintro e w1 ⟨rfl, hx1⟩
    go_wp2_with fail
    go_ret2
    exact ⟨rfl, X0.trans hx1⟩
end Go.Proofs.YtokakpbpenndlaaGreatDoor

set_option linter.unusedVariables false
namespace Go.Proofs.YtokakpbpenndlaaGreatDoor

/-- How many months a kind's period has; 0: there is no such kind. -/
def longI (k : Int) : Int := if k = 1 then 1 else if k = 2 then 3 else if k = 3 then 6 else if k = 4 then 12 else 0
theorem longI_bd (k : Int) : 0 ≤ longI k ∧ longI k ≤ 12 := by
  unfold longI
  repeat' split
  all_goals omega
/-- P4.1: the error of a kind and a period. -/
def perE (k p : Int) : Int := if longI k = 0 then 2 else if p < 0 ∨ 119988 / longI k ≤ p then 5 else 0
/-- Has a year 29 days in February? -/
def leapI (y : Int) : Prop := y % 4 = 0 ∧ (y % 100 ≠ 0 ∨ y % 400 = 0)
instance (y : Int) : Decidable (leapI y) := inferInstanceAs (Decidable (_ ∧ _))
/-- How many days a month has; 0: there is no such month. -/
def lenI (y m : Int) : Int :=
  if y < 1 ∨ 9999 < y ∨ m < 1 ∨ 12 < m then 0
  else if m = 2 then (if leapI y then 29 else 28)
  else if m = 4 ∨ m = 6 ∨ m = 9 ∨ m = 11 then 30 else 31
theorem lenI_bd (y m : Int) : 0 ≤ lenI y m ∧ lenI y m ≤ 31 := by
  unfold lenI
  repeat' split
  all_goals omega
theorem lenI_pos {y m : Int} (hy : 1 ≤ y ∧ y ≤ 9999) (hm : 1 ≤ m ∧ m ≤ 12) : 28 ≤ lenI y m := by
  unfold lenI
  rw [if_neg (by omega)]
  repeat' split
  all_goals omega
/-- The days ahead of a year. -/
def ysI (y : Int) : Int := 365 * (y - 1) + (y - 1) / 4 - (y - 1) / 100 + (y - 1) / 400
theorem ysI_succ (y : Int) : ysI (y + 1) = ysI y + (if leapI y then 366 else 365) := by
  by_cases h : leapI y
  · rw [if_pos h]
    unfold leapI at h
    unfold ysI
    omega
  · rw [if_neg h]
    unfold leapI at h
    unfold ysI
    omega
theorem ysI_add (y : Int) (n : Nat) : ysI y + 365 * n ≤ ysI (y + n) := by
  induction n with
  | zero => simp
  | succ n ih =>
    have h := ysI_succ (y + n)
    have e : y + ((n + 1 : Nat) : Int) = y + n + 1 := by omega
    rw [e, h]
    split <;> omega
theorem ysI_lt {y z : Int} (h : y < z) : ysI y + (if leapI y then 366 else 365) ≤ ysI z := by
  rw [← ysI_succ]
  have := ysI_add (y + 1) (z - (y + 1)).toNat
  have e : y + 1 + ((z - (y + 1)).toNat : Int) = z := by omega
  rw [e] at this
  omega
/-- A day is in one year alone. -/
theorem ysI_one {y z d : Int} (h1 : ysI y ≤ d) (h2 : d < ysI (y + 1)) (h3 : ysI z ≤ d) (h4 : d < ysI (z + 1)) : y = z := by
  by_cases h : y < z
  · have := ysI_lt h
    rw [← ysI_succ] at this
    omega
  by_cases h' : z < y
  · have := ysI_lt h'
    rw [← ysI_succ] at this
    omega
  omega
/-- The days of a year ahead of a month. -/
def msI (y : Int) : Nat → Int
  | 0 => 0
  | n + 1 => msI y n + lenI y (n + 1 : Nat)
theorem msI_year {y : Int} (hy : 1 ≤ y ∧ y ≤ 9999) : msI y 12 = if leapI y then 366 else 365 := by
  by_cases hl : leapI y <;> simp [msI, lenI, hl, show ¬ y < 1 by omega, show ¬ 9999 < y by omega]
theorem msI_mono (y : Int) (n k : Nat) : msI y n ≤ msI y (n + k) := by
  induction k with
  | zero => simp
  | succ k ih =>
    have := (lenI_bd y ((n + k + 1 : Nat))).1
    show msI y n ≤ msI y (n + k) + lenI y ((n + k + 1 : Nat))
    omega
theorem msI_one {y : Int} {m n : Nat} {d : Int} (h1 : msI y m ≤ d) (h2 : d < msI y (m + 1)) (h3 : msI y n ≤ d) (h4 : d < msI y (n + 1)) : m = n := by
  by_cases h : m < n
  · have := msI_mono y (m + 1) (n - (m + 1))
    have e : m + 1 + (n - (m + 1)) = n := by omega
    rw [e] at this
    omega
  by_cases h' : n < m
  · have := msI_mono y (n + 1) (m - (n + 1))
    have e : n + 1 + (m - (n + 1)) = m := by omega
    rw [e] at this
    omega
  omega
/-- A year, a month (from 0) and what is left (from 0) that are a day's. -/
structure DateIs (day y : Int) (m : Nat) (l : Int) : Prop where
  hy : 1 ≤ y ∧ y ≤ 9999
  hm : m < 12
  hl : 0 ≤ l ∧ l < lenI y (m + 1 : Nat)
  is : day = ysI y + msI y m + l
theorem DateIs.year {day y l : Int} {m : Nat} (h : DateIs day y m l) : ysI y ≤ day ∧ day < ysI (y + 1) := by
  have h0 := msI_mono y 0 m
  have h1 := msI_mono y (m + 1) (12 - (m + 1))
  have e : m + 1 + (12 - (m + 1)) = 12 := by have := h.hm; omega
  rw [e, msI_year h.hy] at h1
  rw [Nat.zero_add] at h0
  have h2 := h.is
  have h3 := h.hl
  have h4 : msI y (m + 1) = msI y m + lenI y (m + 1 : Nat) := rfl
  rw [ysI_succ]
  have h5 : msI y 0 = 0 := rfl
  constructor
  · omega
  · omega
/-- The date of a day is one alone. -/
theorem DateIs.one {day y z l k : Int} {m n : Nat} (h : DateIs day y m l) (h' : DateIs day z n k) : y = z ∧ m = n ∧ l = k := by
  have e : y = z := ysI_one h.year.1 h.year.2 h'.year.1 h'.year.2
  subst e
  have a1 := h.is
  have a2 := h'.is
  have b1 : msI y (m + 1) = msI y m + lenI y (m + 1 : Nat) := rfl
  have b2 : msI y (n + 1) = msI y n + lenI y (n + 1 : Nat) := rfl
  have c1 := h.hl
  have c2 := h'.hl
  have e2 : m = n := msI_one (y := y) (d := day - ysI y) (by omega) (by omega) (by omega) (by omega)
  subst e2
  exact ⟨rfl, rfl, by omega⟩
/-- The year of a day as the program reckons it: by eras, centuries, fours. -/
theorem year_of {day q r c l f g o : Int} (hd : day = 146097 * q + r) (hr : 0 ≤ r ∧ r < 146097)
    (hc : c = min (r / 36524) 3) (hl : l = r - c * 36524) (hf : f = l / 1461) (hg : g = l % 1461) (ho : o = min (g / 365) 3) :
    ysI (400 * q + 100 * c + 4 * f + o + 1) = day - (g - 365 * o) ∧ 0 ≤ g - 365 * o ∧ g - 365 * o < (if leapI (400 * q + 100 * c + 4 * f + o + 1) then 366 else 365) := by
  have c0 : 0 ≤ c ∧ c ≤ 3 := by omega
  have l0 : 0 ≤ l ∧ l ≤ 36524 ∧ (c < 3 → l < 36524) := by
    have : c = 0 ∨ c = 1 ∨ c = 2 ∨ c = 3 := by omega
    rcases this with h | h | h | h <;> subst h <;> omega
  have f0 : 0 ≤ f ∧ f ≤ 24 := by omega
  have o0 : 0 ≤ o ∧ o ≤ 3 := by omega
  have hg' : g = l - 1461 * f := by omega
  have g0 : 0 ≤ g - 365 * o ∧ g - 365 * o ≤ 365 ∧ (g - 365 * o = 365 → o = 3) := by
    have : o = 0 ∨ o = 1 ∨ o = 2 ∨ o = 3 := by omega
    rcases this with h | h | h | h <;> subst h <;> omega
  refine ⟨?_, g0.1, ?_⟩
  · unfold ysI
    have e4 : (400 * q + 100 * c + 4 * f + o + 1 - 1) / 4 = 100 * q + 25 * c + f := by omega
    have e100 : (400 * q + 100 * c + 4 * f + o + 1 - 1) / 100 = 4 * q + c := by omega
    have e400 : (400 * q + 100 * c + 4 * f + o + 1 - 1) / 400 = q := by omega
    rw [e4, e100, e400]
    omega
  · split
    · omega
    · next hn =>
      have : g - 365 * o ≠ 365 := by
        intro h
        have ho3 := g0.2.2 h
        apply hn
        unfold leapI
        subst ho3
        refine ⟨by omega, ?_⟩
        by_cases hf24 : f = 24
        · right
          have : c = 3 := by omega
          omega
        · left
          omega
      omega
theorem month_ex {y l : Int} (h0 : 0 ≤ l) : ∀ n : Nat, l < msI y n → ∃ m, m < n ∧ msI y m ≤ l ∧ l < msI y (m + 1)
  | 0, h => by
    have : msI y 0 = 0 := rfl
    omega
  | n + 1, h => by
    by_cases h1 : l < msI y n
    · obtain ⟨m, a, b, c⟩ := month_ex h0 n h1
      exact ⟨m, by omega, b, c⟩
    · exact ⟨n, by omega, by omega, h⟩
/-- A year in which a day is, and what is left of it: there is a month. -/
theorem DateIs.mk' {day y l : Int} (hd : 0 ≤ day ∧ day ≤ 3652058) (h1 : ysI y = day - l) (h2 : 0 ≤ l) (h3 : l < (if leapI y then 366 else 365)) : ∃ m, DateIs day y m (l - msI y m) := by
  have hy : 1 ≤ y ∧ y ≤ 9999 := by
    have a1 : ysI 1 = 0 := by decide
    have a2 : ysI 10000 = 3652059 := by decide
    constructor
    · by_cases h : y < 1
      · have := ysI_lt h
        omega
      · omega
    · by_cases h : 9999 < y
      · by_cases h' : y = 10000
        · subst h'
          omega
        · have := ysI_lt (show 10000 < y by omega)
          have b : (0 : Int) ≤ (if leapI 10000 then 366 else 365) := by split <;> omega
          omega
      · omega
  rw [← msI_year hy] at h3
  obtain ⟨m, a, b, c⟩ := month_ex h2 12 h3
  have e : msI y (m + 1) = msI y m + lenI y (m + 1 : Nat) := rfl
  exact ⟨m, hy, a, by omega, by omega⟩
theorem date_ex {day : Int} (hd : 0 ≤ day ∧ day ≤ 3652058) : ∃ y m l, DateIs day y m l := by
  obtain ⟨a, b, c⟩ := year_of (day := day) (q := day / 146097) (r := day % 146097) (by omega) (by omega) rfl rfl rfl rfl rfl
  obtain ⟨m, h⟩ := DateIs.mk' hd a b c
  exact ⟨_, m, _, h⟩
/-- A day's month, reckoned from the first one of all. -/
noncomputable def monI (day : Int) : Int :=
  open Classical in
  if h : ∃ p : Int × Nat × Int, DateIs day p.1 p.2.1 p.2.2 then 12 * ((Classical.choose h).1 - 1) + (Classical.choose h).2.1 else 0
theorem monI_of {day y l : Int} {m : Nat} (h : DateIs day y m l) : monI day = 12 * (y - 1) + m := by
  unfold monI
  have hx : ∃ p : Int × Nat × Int, DateIs day p.1 p.2.1 p.2.2 := ⟨(y, m, l), h⟩
  rw [dif_pos hx]
  obtain ⟨e1, e2, _⟩ := (Classical.choose_spec hx).one h
  rw [e1, e2]
theorem monI_bd {day : Int} (hd : 0 ≤ day ∧ day ≤ 3652058) : 0 ≤ monI day ∧ monI day < 119988 := by
  obtain ⟨y, m, l, h⟩ := date_ex hd
  rw [monI_of h]
  have := h.hy
  have := h.hm
  omega
/-- P4.1: the period of a day (of a kind that is). -/
noncomputable def ofI (k day : Int) : Int := monI day / longI k
/-- The period of a day may be. -/
theorem ofI_fine {k day : Int} (hk : 1 ≤ k ∧ k ≤ 4) (hd : 0 ≤ day ∧ day ≤ 3652058) : perE k (ofI k day) = 0 := by
  have hm := monI_bd hd
  unfold perE ofI
  generalize monI day = n at *
  have : k = 1 ∨ k = 2 ∨ k = 3 ∨ k = 4 := by omega
  rcases this with h | h | h | h <;> subst h <;> simp only [longI] <;> (rw [if_neg (by decide), if_neg (by simp; omega)])
end Go.Proofs.YtokakpbpenndlaaGreatDoor

set_option linter.unusedVariables false
namespace Go.Proofs.YtokakpbpenndlaaGreatDoor

/-- A jurisdiction: its number, its kind, what it is a part of, how often it is filed for. -/
structure Jur where
  id : Int
  k : Int
  par : Int
  f : Int
deriving DecidableEq
def Jur.zero : Jur := ⟨0, 0, 0, 0⟩
/-- The first index at which there is a fault, and the fault. -/
def firstE (f : Nat → Int) : Nat → Nat → Int × Nat
  | 0, _ => (0, 0)
  | n + 1, i => if f i = 0 then firstE f n (i + 1) else (f i, i)
theorem firstE_none {f : Nat → Int} : ∀ n i, (∀ j, i ≤ j → j < i + n → f j = 0) → firstE f n i = (0, 0)
  | 0, _, _ => rfl
  | n + 1, i, h => by
    unfold firstE
    rw [if_pos (h i (by omega) (by omega))]
    exact firstE_none n (i + 1) fun j h1 h2 => h j (by omega) (by omega)
theorem firstE_at {f : Nat → Int} {k : Nat} : ∀ n i, i ≤ k → k < i + n → (∀ j, i ≤ j → j < k → f j = 0) → f k ≠ 0 → firstE f n i = (f k, k)
  | 0, _, h1, h2, _, _ => by omega
  | n + 1, i, h1, h2, h, hk => by
    unfold firstE
    by_cases e : i = k
    · subst e
      rw [if_neg hk]
    · rw [if_pos (h i (by omega) (by omega))]
      exact firstE_at n (i + 1) (by omega) (by omega) (fun j h1 h2 => h j (by omega) h2) hk
theorem firstE_ok {f : Nat → Int} : ∀ n i, (firstE f n i).1 = 0 → firstE f n i = (0, 0) ∧ ∀ j, i ≤ j → j < i + n → f j = 0
  | 0, i, _ => ⟨rfl, fun j h1 h2 => by omega⟩
  | n + 1, i, h => by
    unfold firstE at h ⊢
    by_cases e : f i = 0
    · rw [if_pos e] at h ⊢
      obtain ⟨a, b⟩ := firstE_ok n (i + 1) h
      refine ⟨a, fun j h1 h2 => ?_⟩
      by_cases hj : j = i
      · rw [hj]; exact e
      · exact b j (by omega) (by omega)
    · rw [if_neg e] at h
      exact absurd h e
def four (n : Int) : Bool := decide (1 ≤ n) && decide (n ≤ 4)
/-- The place of a number; -1: it is not there. -/
def placeJ : List Jur → Int → Int
  | [], _ => -1
  | j :: l, id => if j.id = id then 0 else if placeJ l id < 0 then -1 else placeJ l id + 1
def findJ (l : List Jur) (id : Int) : Option Jur := l.find? fun j => decide (j.id = id)
/-- What is wrong with a jurisdiction by itself and the one ahead of it. -/
def jErr1 (l : List Jur) (i : Nat) : Int :=
  if (l.getD i Jur.zero).id < 1 ∨ 1099511627775 < (l.getD i Jur.zero).id then 5
  else if 0 < i ∧ (l.getD i Jur.zero).id ≤ (l.getD (i - 1) Jur.zero).id then 7
  else if four (l.getD i Jur.zero).k = false ∨ four (l.getD i Jur.zero).f = false then 2 else 0
/-- What is wrong with its parent. -/
def parErr (l : List Jur) (j : Jur) : Int :=
  if (j.k = 1 ∧ j.par ≠ 0) ∨ ((j.k = 2 ∨ j.k = 3) ∧ j.par = 0) then 9
  else if j.par = 0 then 0
  else match findJ l j.par with
    | none => 6
    | some p => if j.k ≤ p.k then 9 else 0
def jErr2 (l : List Jur) (i : Nat) : Int := parErr l (l.getD i Jur.zero)
/-- P20.1. -/
def checkJ (l : List Jur) : Int × Nat :=
  if 64 < l.length then (3, 0)
  else if (firstE (jErr1 l) l.length 0).1 = 0 then firstE (jErr2 l) l.length 0 else firstE (jErr1 l) l.length 0
/-- What a list that may be is. -/
theorem checkJ_ok {l : List Jur} (h : (checkJ l).1 = 0) : l.length ≤ 64 ∧ (∀ i, i < l.length → (1 ≤ (l.getD i Jur.zero).id ∧ (l.getD i Jur.zero).id ≤ 1099511627775) ∧ (1 ≤ (l.getD i Jur.zero).f ∧ (l.getD i Jur.zero).f ≤ 4)) ∧ (∀ i, i + 1 < l.length → (l.getD i Jur.zero).id < (l.getD (i + 1) Jur.zero).id) := by
  unfold checkJ at h
  by_cases hl : 64 < l.length
  · rw [if_pos hl] at h; cases h
  rw [if_neg hl] at h
  by_cases h1 : (firstE (jErr1 l) l.length 0).1 = 0
  · obtain ⟨_, hz⟩ := firstE_ok _ _ h1
    have key : ∀ i, i < l.length → ¬ ((l.getD i Jur.zero).id < 1 ∨ 1099511627775 < (l.getD i Jur.zero).id) ∧ ¬ (0 < i ∧ (l.getD i Jur.zero).id ≤ (l.getD (i - 1) Jur.zero).id) ∧ ¬ (four (l.getD i Jur.zero).k = false ∨ four (l.getD i Jur.zero).f = false) := by
      intro i hi
      have := hz i (by omega) (by omega)
      unfold jErr1 at this
      refine ⟨fun c => ?_, fun c => ?_, fun c => ?_⟩
      · rw [if_pos c] at this; cases this
      · by_cases c0 : (l.getD i Jur.zero).id < 1 ∨ 1099511627775 < (l.getD i Jur.zero).id
        · rw [if_pos c0] at this; cases this
        · rw [if_neg c0, if_pos c] at this; cases this
      · by_cases c0 : (l.getD i Jur.zero).id < 1 ∨ 1099511627775 < (l.getD i Jur.zero).id
        · rw [if_pos c0] at this; cases this
        · rw [if_neg c0] at this
          by_cases c1 : 0 < i ∧ (l.getD i Jur.zero).id ≤ (l.getD (i - 1) Jur.zero).id
          · rw [if_pos c1] at this; cases this
          · rw [if_neg c1, if_pos c] at this; cases this
    refine ⟨by omega, fun i hi => ?_, fun i hi => ?_⟩
    · obtain ⟨a, _, c⟩ := key i hi
      have cf : four (l.getD i Jur.zero).f = true := by
        cases hq : four (l.getD i Jur.zero).f
        · exact absurd (.inr hq) c
        · rfl
      unfold four at cf
      simp only [Bool.and_eq_true, decide_eq_true_eq] at cf
      exact ⟨by omega, cf⟩
    · obtain ⟨_, b, _⟩ := key (i + 1) hi
      rw [Nat.add_sub_cancel] at b
      omega
  · rw [if_neg h1] at h
    exact absurd h h1
theorem findJ_mem {l : List Jur} {id : Int} {j : Jur} (h : findJ l id = some j) : j ∈ l ∧ j.id = id := by
  unfold findJ at h
  exact ⟨List.mem_of_find?_eq_some h, by simpa using List.find?_some h⟩
/-- The place, and what is found there. -/
theorem placeJ_none {l : List Jur} {id : Int} (h : ∀ i, i < l.length → (l.getD i Jur.zero).id ≠ id) : placeJ l id = -1 ∧ findJ l id = none := by
  induction l with
  | nil => exact ⟨rfl, rfl⟩
  | cons j l ih =>
    have h0 : j.id ≠ id := h 0 (by simp)
    obtain ⟨a, b⟩ := ih fun i hi => by simpa using h (i + 1) (by simp; omega)
    constructor
    · unfold placeJ
      rw [if_neg h0, a]
      rfl
    · unfold findJ at b ⊢
      rw [List.find?_cons, b]
      simp [h0]
theorem placeJ_at {l : List Jur} {id : Int} {k : Nat} (hk : k < l.length) (h : ∀ i, i < k → (l.getD i Jur.zero).id ≠ id) (hi : (l.getD k Jur.zero).id = id) : placeJ l id = (k : Int) ∧ findJ l id = some (l.getD k Jur.zero) := by
  induction l generalizing k with
  | nil => simp at hk
  | cons j l ih =>
    cases k with
    | zero =>
      have h0 : j.id = id := hi
      constructor
      · unfold placeJ
        rw [if_pos h0]
        rfl
      · unfold findJ
        rw [List.find?_cons]
        simp [h0]
    | succ k =>
      have h0 : j.id ≠ id := h 0 (by omega)
      obtain ⟨a, b⟩ := ih (k := k) (by simpa using hk) (fun i hi => by simpa using h (i + 1) (by omega)) (by simpa using hi)
      constructor
      · unfold placeJ
        rw [if_neg h0, a, if_neg (by omega)]
        omega
      · unfold findJ at b ⊢
        rw [List.find?_cons]
        simp only [h0, decide_false]
        simpa using b
end Go.Proofs.YtokakpbpenndlaaGreatDoor

set_option linter.unusedVariables false
namespace Go.Proofs.YtokakpbpenndlaaGreatDoor

/-- The number of a rank. -/
def unzig (r : Nat) : Int := if r % 2 = 0 then ((r / 2 : Nat) : Int) else -((r / 2 : Nat) : Int) - 1
/-- What a reading gives: the number, the place behind it, the fault, its place. -/
structure Got where
  n : Int
  next : Nat
  fe : Int
  fa : Nat
deriving DecidableEq

/-- P5.2, from the i-th byte on: the bytes that are left, the rank so far. -/
def getGo (at_ : Nat) : List UInt8 → Nat → Nat → Got
  | [], i, _ => ⟨0, 0, 4, at_ + i⟩
  | c :: r, i, rank =>
    if i = 9 ∧ 1 < c.toNat then ⟨0, 0, 5, at_ + i⟩
    else if 0 < i ∧ c.toNat = 0 then ⟨0, 0, 4, at_ + i⟩
    else if c.toNat < 128 then ⟨unzig (rank + c.toNat % 128 * 128 ^ i), at_ + i + 1, 0, 0⟩
    else getGo at_ r (i + 1) (rank + c.toNat % 128 * 128 ^ i)
def getN (b : List UInt8) (at_ : Nat) : Got := getGo at_ (b.drop at_) 0 0

/-- A reader: its bytes, its place, its fault. -/
structure RS where
  b : List UInt8
  at_ : Nat
  fe : Int
  fa : Nat
deriving DecidableEq
def RS.start (b : List UInt8) : RS := ⟨b, 0, 0, 0⟩
/-- P5.4: a number from low to high; above: the error, if it is above. -/
def RS.num (s : RS) (lo hi above : Int) : Int × RS :=
  if s.fe ≠ 0 then (0, s) else
    let g := getN s.b s.at_
    if g.fe ≠ 0 then (0, { s with fe := g.fe, fa := g.fa })
    else if hi < g.n then (0, { s with fe := above, fa := s.at_ })
    else if g.n < lo then (0, { s with fe := 5, fa := s.at_ })
    else (g.n, { s with at_ := g.next })
def RS.int (s : RS) (lo hi : Int) : Int × RS := s.num lo hi 5
/-- A reader that stands within its bytes. -/
def RS.ok (s : RS) : Prop := s.at_ ≤ s.b.length ∧ s.fa ≤ s.b.length
end Go.Proofs.YtokakpbpenndlaaGreatDoor

set_option linter.unusedVariables false
namespace Go.Proofs.YtokakpbpenndlaaGreatDoor

def win (n lo hi : Int) : Bool := decide (lo ≤ n) && decide (n ≤ hi)
theorem win_bd {n lo hi : Int} (h : win n lo hi = true) : lo ≤ n ∧ n ≤ hi := by simpa [win] using h
structure Ln where
  c : Int
  a : Int
deriving DecidableEq
structure Ord where
  cu : Int
  day : Int
  px : Int
  py : Int
  ls : List Ln
deriving DecidableEq

def Ln.ok (l : Ln) : Bool := win l.c 1 1099511627775 && win l.a 0 1099511627775
/-- The place of the first line that may not be. -/
def badLn : List Ln → Nat → Option Nat
  | [], _ => none
  | l :: r, k => if l.ok then badLn r (k + 1) else some k
def Ord.head (o : Ord) : Bool := win o.cu 0 1099511627775 && win o.day 0 3652058 && win o.px (-1099511627775) 1099511627775 && win o.py (-1099511627775) 1099511627775
/-- P25.1: the error, and at which line. -/
def Ord.check (o : Ord) : Int × Int :=
  if o.head = false then (5, 0) else if o.ls.length = 0 then (2, 0) else if 100 < o.ls.length then (3, 0) else
    match badLn o.ls 0 with
    | some k => (5, k)
    | none => (0, 0)

theorem badLn_all (ls : List Ln) : ∀ s, badLn ls s = none → ∀ x ∈ ls, x.ok = true := by
  induction ls with
  | nil => intro s _ x hx; cases hx
  | cons l r ih =>
    intro s h x hx
    unfold badLn at h
    split at h
    · rename_i hl
      rcases List.mem_cons.1 hx with rfl | hx
      · exact hl
      · exact ih _ h x hx
    · cases h
/-- What a checked order is. -/
theorem Ord.check_ok {o : Ord} (h : o.check.1 = 0) : o.head = true ∧ 1 ≤ o.ls.length ∧ o.ls.length ≤ 100 ∧ ∀ x ∈ o.ls, x.ok = true := by
  unfold Ord.check at h
  by_cases h0 : o.head = false
  · rw [if_pos h0] at h; cases h
  rw [if_neg h0] at h
  by_cases h1 : o.ls.length = 0
  · rw [if_pos h1] at h; cases h
  rw [if_neg h1] at h
  by_cases h2 : 100 < o.ls.length
  · rw [if_pos h2] at h; cases h
  rw [if_neg h2] at h
  refine ⟨by simpa using h0, by omega, by omega, ?_⟩
  split at h
  · cases h
  · rename_i hb; exact badLn_all _ _ hb
def lnInts (ls : List Ln) : List Int := ls.flatMap fun l => [l.c, l.a]
theorem lnInts_snoc (ls : List Ln) (k : Nat) (h : k < ls.length) : lnInts (ls.take (k + 1)) = lnInts (ls.take k) ++ [ls[k].c, ls[k].a] := by
  rw [List.take_succ_eq_append_getElem h]; unfold lnInts; rw [List.flatMap_append, List.flatMap_cons, List.flatMap_nil, List.append_nil]
def Ord.hd (o : Ord) : List Int := [o.cu, o.day, o.px, o.py, o.ls.length]
end Go.Proofs.YtokakpbpenndlaaGreatDoor

set_option linter.unusedVariables false
namespace Go.Proofs.YtokakpbpenndlaaGreatDoor
/-- The head of an order that is read: currency, day, place, count; the place at which the count stands. -/
structure Head where
  cu : Int
  day : Int
  px : Int
  py : Int
  at_ : Nat
  n : Int
  s : RS
end Go.Proofs.YtokakpbpenndlaaGreatDoor

set_option linter.unusedVariables false
namespace Go.Proofs.YtokakpbpenndlaaGreatDoor
open Go.RowKit

theorem within_any (n lo hi : Int) (w : World) :
    Calls Tryz.prog 169 #[.int .i64 n, .int .i64 lo, .int .i64 hi] w fun e w' => e = .returned (.bool (win n lo hi)) ∧ w = w' := by
  unfold win
  by_cases h1 : lo ≤ n <;> by_cases h2 : n ≤ hi
  all_goals
    go_enter Tryz.func169, Tryz.ntmps169
    go_wp2
    go_ret
    exact ⟨ret_bool (by simp [h1, h2]), rfl⟩
def Ln.cells (l : Ln) : List Value := [.int .i64 l.c, .int .i64 l.a]
end Go.Proofs.YtokakpbpenndlaaGreatDoor
