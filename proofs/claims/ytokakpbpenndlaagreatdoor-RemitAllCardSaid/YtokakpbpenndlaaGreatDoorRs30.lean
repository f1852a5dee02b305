/-
  DERIVED: THE SHELF's CONTRACTS AT THIS DUMP, IN PLAIN WORDS (tools/lay-plain.mjs out of 'TryzSort.lean', which tools/lay-shelf.mjs wrote): THE SAME DECLARATIONS UNDER THE SAME NAMES: 'import', 'namespace', 'open', 'def', 'theorem' AND NOTHING ELSE: no command of the shelf's: FOR A HAND-IN. Each laying: the table of numbers ('.._ren') and one theorem, a field a fact of the dump's own or the kernel's comparison; each contract: ONE APPLICATION.
-/
import Derived.Shelf.SlSortCmp.NoneTotal
import Derived.Ground.SlsfProg
import Derived.Test.YtokakpbpenndlaaGreatDoorProg
import Derived.Test.YtokakpbpenndlaaGreatDoorRs01
namespace Go.Proofs
open Go.Shelf
def Tryz.dueSort_ren : Go.Shelf.Ren := ⟨fun | 6 => 125 | 15 => 158 | 14 => 157 | 28 => 183 | 29 => 184 | 20 => 175 | 21 => 176 | 22 => 177 | 23 => 178 | 24 => 179 | 25 => 180 | 26 => 181 | 27 => 182 | 46 => 194 | 47 => 195 | 48 => 196 | 49 => 197 | 50 => 198 | 57 => 209 | n => n, fun | 22 => 56 | 24 => 62 | 25 => 153 | 3 => 3 | 39 => 157 | 0 => 0 | 53 => 239 | 55 => 132 | 4 => 4 | 46 => 233 | 45 => 232 | 50 => 139 | 5 => 5 | 9 => 9 | 66 => 248 | 70 => 87 | 76 => 260 | 77 => 261 | n => n, fun | n => n⟩
theorem Tryz.dueSort : Go.Proofs.SlLaysF0.n6 Tryz.prog Tryz.dueSort_ren := {
  mixed := by kernel_rfl
  f6 := ⟨Tryz.f125.name, by decide, Tryz.func125.trans (congrArg some (by kernel_rfl))⟩
  f14 := ⟨Tryz.f157.name, by decide, Tryz.func157.trans (congrArg some (by kernel_rfl))⟩
  f15 := Tryz.func158.trans (congrArg some (by kernel_rfl))
  f20 := ⟨Tryz.f175.name, by decide, Tryz.func175.trans (congrArg some (by kernel_rfl))⟩
  f21 := ⟨Tryz.f176.name, by decide, Tryz.func176.trans (congrArg some (by kernel_rfl))⟩
  f22 := ⟨Tryz.f177.name, by decide, Tryz.func177.trans (congrArg some (by kernel_rfl))⟩
  f23 := ⟨Tryz.f178.name, by decide, Tryz.func178.trans (congrArg some (by kernel_rfl))⟩
  f24 := ⟨Tryz.f179.name, by decide, Tryz.func179.trans (congrArg some (by kernel_rfl))⟩
  f25 := ⟨Tryz.f180.name, by decide, Tryz.func180.trans (congrArg some (by kernel_rfl))⟩
  f26 := ⟨Tryz.f181.name, by decide, Tryz.func181.trans (congrArg some (by kernel_rfl))⟩
  f27 := ⟨Tryz.f182.name, by decide, Tryz.func182.trans (congrArg some (by kernel_rfl))⟩
  f28 := Tryz.func183.trans (congrArg some (by kernel_rfl))
  f29 := Tryz.func184.trans (congrArg some (by kernel_rfl))
  f46 := ⟨Tryz.f194.name, by decide, Tryz.func194.trans (congrArg some (by kernel_rfl))⟩
  f47 := Tryz.func195.trans (congrArg some (by kernel_rfl))
  f48 := Tryz.func196.trans (congrArg some (by kernel_rfl))
  f49 := ⟨Tryz.f197.name, by decide, Tryz.func197.trans (congrArg some (by kernel_rfl))⟩
  f50 := ⟨Tryz.f198.name, by decide, Tryz.func198.trans (congrArg some (by kernel_rfl))⟩
  f57 := ⟨Tryz.f209.name, by decide, Tryz.func209.trans (congrArg some (by kernel_rfl))⟩
  t0 := Tryz.underlying0
  a0 := Tryz.isAgg0
  z0 := Tryz.sizeOf0
  v0 := Tryz.zeroValue0
  t3 := Tryz.underlying3
  a3 := Tryz.isAgg3
  z3 := Tryz.sizeOf3
  v3 := Tryz.zeroValue3
  t4 := Tryz.underlying4
  a4 := Tryz.isAgg4
  z4 := Tryz.sizeOf4
  v4 := Tryz.zeroValue4
  t5 := Tryz.underlying5
  a5 := Tryz.isAgg5
  z5 := Tryz.sizeOf5
  v5 := Tryz.zeroValue5
  t9 := Tryz.underlying9
  a9 := Tryz.isAgg9
  z9 := Tryz.sizeOf9
  v9 := Tryz.zeroValue9
  t22 := Tryz.underlying56
  a22 := Tryz.isAgg56
  z22 := Tryz.sizeOf56
  v22 := Tryz.zeroValue56
  t25 := Tryz.underlying153
  a25 := Tryz.isAgg153
  z25 := Tryz.sizeOf153
  v25 := Tryz.zeroValue153
  t39 := Tryz.underlying157
  a39 := Tryz.isAgg157
  z39 := Tryz.sizeOf157
  v39 := Tryz.zeroValue157
  t45 := Tryz.underlying232
  a45 := Tryz.isAgg232
  z45 := Tryz.sizeOf232
  v45 := Tryz.zeroValue232
  t46 := Tryz.underlying233
  a46 := Tryz.isAgg233
  z46 := Tryz.sizeOf233
  v46 := Tryz.zeroValue233
  t50 := Tryz.underlying139
  a50 := Tryz.isAgg139
  z50 := Tryz.sizeOf139
  v50 := Tryz.zeroValue139
  t53 := Tryz.underlying239
  a53 := Tryz.isAgg239
  z53 := Tryz.sizeOf239
  v53 := Tryz.zeroValue239
  t55 := Tryz.underlying132
  a55 := Tryz.isAgg132
  z55 := Tryz.sizeOf132
  v55 := Tryz.zeroValue132
  t66 := Tryz.underlying248
  a66 := Tryz.isAgg248
  z66 := Tryz.sizeOf248
  v66 := Tryz.zeroValue248
  t70 := Tryz.underlying87
  a70 := Tryz.isAgg87
  z70 := Tryz.sizeOf87
  v70 := Tryz.zeroValue87
  t76 := Tryz.underlying260
  a76 := Tryz.isAgg260
  z76 := Tryz.sizeOf260
  v76 := Tryz.zeroValue260
  t77 := Tryz.underlying261
  a77 := Tryz.isAgg261
  z77 := Tryz.sizeOf261
  v77 := Tryz.zeroValue261 }
end Go.Proofs

set_option linter.unusedVariables false
namespace Go.Proofs.YtokakpbpenndlaaGreatDoor

/-- How many months a kind's period has; 0: there is no such kind. -/
def longI (k : Int) : Int := if k = 1 then 1 else if k = 2 then 3 else if k = 3 then 6 else if k = 4 then 12 else 0
theorem longI_bd (k : Int) : 0 ≤ longI k ∧ longI k ≤ 12 := by
  unfold longI
  repeat' split
  all_goals omega
/-- P4.1: the error of a kind and a period. -/
def perE (k p : Int) : Int := if longI k = 0 then 2 else if p < 0 ∨ 119988 / longI k ≤ p then 5 else 0
/-- Has a year 29 days in February? -/
def leapI (y : Int) : Prop := y % 4 = 0 ∧ (y % 100 ≠ 0 ∨ y % 400 = 0)
instance (y : Int) : Decidable (leapI y) := inferInstanceAs (Decidable (_ ∧ _))
/-- How many days a month has; 0: there is no such month. -/
def lenI (y m : Int) : Int :=
  if y < 1 ∨ 9999 < y ∨ m < 1 ∨ 12 < m then 0
  else if m = 2 then (if leapI y then 29 else 28)
  else if m = 4 ∨ m = 6 ∨ m = 9 ∨ m = 11 then 30 else 31
theorem lenI_bd (y m : Int) : 0 ≤ lenI y m ∧ lenI y m ≤ 31 := by
  unfold lenI
  repeat' split
  all_goals omega
theorem lenI_pos {y m : Int} (hy : 1 ≤ y ∧ y ≤ 9999) (hm : 1 ≤ m ∧ m ≤ 12) : 28 ≤ lenI y m := by
  unfold lenI
  rw [if_neg (by omega)]
  repeat' split
  all_goals omega
/-- The days ahead of a year. -/
def ysI (y : Int) : Int := 365 * (y - 1) + (y - 1) / 4 - (y - 1) / 100 + (y - 1) / 400
theorem ysI_succ (y : Int) : ysI (y + 1) = ysI y + (if leapI y then 366 else 365) := by
  by_cases h : leapI y
  · rw [if_pos h]
    unfold leapI at h
    unfold ysI
    omega
  · rw [if_neg h]
    unfold leapI at h
    unfold ysI
    omega
theorem ysI_add (y : Int) (n : Nat) : ysI y + 365 * n ≤ ysI (y + n) := by
  induction n with
  | zero => simp
  | succ n ih =>
    have h := ysI_succ (y + n)
    have e : y + ((n + 1 : Nat) : Int) = y + n + 1 := by omega
    rw [e, h]
    split <;> omega
theorem ysI_lt {y z : Int} (h : y < z) : ysI y + (if leapI y then 366 else 365) ≤ ysI z := by
  rw [← ysI_succ]
  have := ysI_add (y + 1) (z - (y + 1)).toNat
  have e : y + 1 + ((z - (y + 1)).toNat : Int) = z := by omega
  rw [e] at this
  omega
/-- A day is in one year alone. -/
theorem ysI_one {y z d : Int} (h1 : ysI y ≤ d) (h2 : d < ysI (y + 1)) (h3 : ysI z ≤ d) (h4 : d < ysI (z + 1)) : y = z := by
  by_cases h : y < z
  · have := ysI_lt h
    rw [← ysI_succ] at this
    omega
  by_cases h' : z < y
  · have := ysI_lt h'
    rw [← ysI_succ] at this
    omega
  omega
/-- The days of a year ahead of a month. -/
def msI (y : Int) : Nat → Int
  | 0 => 0
  | n + 1 => msI y n + lenI y (n + 1 : Nat)
theorem msI_year {y : Int} (hy : 1 ≤ y ∧ y ≤ 9999) : msI y 12 = if leapI y then 366 else 365 := by
  by_cases hl : leapI y <;> simp [msI, lenI, hl, show ¬ y < 1 by omega, show ¬ 9999 < y by omega]
theorem msI_mono (y : Int) (n k : Nat) : msI y n ≤ msI y (n + k) := by
  induction k with
  | zero => simp
  | succ k ih =>
    have := (lenI_bd y ((n + k + 1 : Nat))).1
    show msI y n ≤ msI y (n + k) + lenI y ((n + k + 1 : Nat))
    omega
theorem msI_one {y : Int} {m n : Nat} {d : Int} (h1 : msI y m ≤ d) (h2 : d < msI y (m + 1)) (h3 : msI y n ≤ d) (h4 : d < msI y (n + 1)) : m = n := by
  by_cases h : m < n
  · have := msI_mono y (m + 1) (n - (m + 1))
    have e : m + 1 + (n - (m + 1)) = n := by omega
    rw [e] at this
    omega
  by_cases h' : n < m
  · have := msI_mono y (n + 1) (m - (n + 1))
    have e : n + 1 + (m - (n + 1)) = m := by omega
    rw [e] at this
    omega
  omega
/-- A year, a month (from 0) and what is left (from 0) that are a day's. -/
structure DateIs (day y : Int) (m : Nat) (l : Int) : Prop where
  hy : 1 ≤ y ∧ y ≤ 9999
  hm : m < 12
  hl : 0 ≤ l ∧ l < lenI y (m + 1 : Nat)
  is : day = ysI y + msI y m + l
theorem DateIs.year {day y l : Int} {m : Nat} (h : DateIs day y m l) : ysI y ≤ day ∧ day < ysI (y + 1) := by
  have h0 := msI_mono y 0 m
  have h1 := msI_mono y (m + 1) (12 - (m + 1))
  have e : m + 1 + (12 - (m + 1)) = 12 := by have := h.hm; omega
  rw [e, msI_year h.hy] at h1
  rw [Nat.zero_add] at h0
  have h2 := h.is
  have h3 := h.hl
  have h4 : msI y (m + 1) = msI y m + lenI y (m + 1 : Nat) := rfl
  rw [ysI_succ]
  have h5 : msI y 0 = 0 := rfl
  constructor
  · omega
  · omega
/-- The date of a day is one alone. -/
theorem DateIs.one {day y z l k : Int} {m n : Nat} (h : DateIs day y m l) (h' : DateIs day z n k) : y = z ∧ m = n ∧ l = k := by
  have e : y = z := ysI_one h.year.1 h.year.2 h'.year.1 h'.year.2
  subst e
  have a1 := h.is
  have a2 := h'.is
  have b1 : msI y (m + 1) = msI y m + lenI y (m + 1 : Nat) := rfl
  have b2 : msI y (n + 1) = msI y n + lenI y (n + 1 : Nat) := rfl
  have c1 := h.hl
  have c2 := h'.hl
  have e2 : m = n := msI_one (y := y) (d := day - ysI y) (by omega) (by omega) (by omega) (by omega)
  subst e2
  exact ⟨rfl, rfl, by omega⟩
/-- The year of a day as the program reckons it: by eras, centuries, fours. -/
theorem year_of {day q r c l f g o : Int} (hd : day = 146097 * q + r) (hr : 0 ≤ r ∧ r < 146097)
    (hc : c = min (r / 36524) 3) (hl : l = r - c * 36524) (hf : f = l / 1461) (hg : g = l % 1461) (ho : o = min (g / 365) 3) :
    ysI (400 * q + 100 * c + 4 * f + o + 1) = day - (g - 365 * o) ∧ 0 ≤ g - 365 * o ∧ g - 365 * o < (if leapI (400 * q + 100 * c + 4 * f + o + 1) then 366 else 365) := by
  have c0 : 0 ≤ c ∧ c ≤ 3 := by omega
  have l0 : 0 ≤ l ∧ l ≤ 36524 ∧ (c < 3 → l < 36524) := by
    have : c = 0 ∨ c = 1 ∨ c = 2 ∨ c = 3 := by omega
    rcases this with h | h | h | h <;> subst h <;> omega
  have f0 : 0 ≤ f ∧ f ≤ 24 := by omega
  have o0 : 0 ≤ o ∧ o ≤ 3 := by omega
  have hg' : g = l - 1461 * f := by omega
  have g0 : 0 ≤ g - 365 * o ∧ g - 365 * o ≤ 365 ∧ (g - 365 * o = 365 → o = 3) := by
    have : o = 0 ∨ o = 1 ∨ o = 2 ∨ o = 3 := by omega
    rcases this with h | h | h | h <;> subst h <;> omega
  refine ⟨?_, g0.1, ?_⟩
  · unfold ysI
    have e4 : (400 * q + 100 * c + 4 * f + o + 1 - 1) / 4 = 100 * q + 25 * c + f := by omega
    have e100 : (400 * q + 100 * c + 4 * f + o + 1 - 1) / 100 = 4 * q + c := by omega
    have e400 : (400 * q + 100 * c + 4 * f + o + 1 - 1) / 400 = q := by omega
    rw [e4, e100, e400]
    omega
  · split
    · omega
    · next hn =>
      have : g - 365 * o ≠ 365 := by
        intro h
        have ho3 := g0.2.2 h
        apply hn
        unfold leapI
        subst ho3
        refine ⟨by omega, ?_⟩
        by_cases hf24 : f = 24
        · right
          have : c = 3 := by omega
          omega
        · left
          omega
      omega
theorem month_ex {y l : Int} (h0 : 0 ≤ l) : ∀ n : Nat, l < msI y n → ∃ m, m < n ∧ msI y m ≤ l ∧ l < msI y (m + 1)
  | 0, h => by
    have : msI y 0 = 0 := rfl
    omega
  | n + 1, h => by
    by_cases h1 : l < msI y n
    · obtain ⟨m, a, b, c⟩ := month_ex h0 n h1
      exact ⟨m, by omega, b, c⟩
    · exact ⟨n, by omega, by omega, h⟩
/-- A year in which a day is, and what is left of it: there is a month. -/
theorem DateIs.mk' {day y l : Int} (hd : 0 ≤ day ∧ day ≤ 3652058) (h1 : ysI y = day - l) (h2 : 0 ≤ l) (h3 : l < (if leapI y then 366 else 365)) : ∃ m, DateIs day y m (l - msI y m) := by
  have hy : 1 ≤ y ∧ y ≤ 9999 := by
    have a1 : ysI 1 = 0 := by decide
    have a2 : ysI 10000 = 3652059 := by decide
    constructor
    · by_cases h : y < 1
      · have := ysI_lt h
        omega
      · omega
    · by_cases h : 9999 < y
      · by_cases h' : y = 10000
        · subst h'
          omega
        · have := ysI_lt (show 10000 < y by omega)
          have b : (0 : Int) ≤ (if leapI 10000 then 366 else 365) := by split <;> omega
          omega
      · omega
  rw [← msI_year hy] at h3
  obtain ⟨m, a, b, c⟩ := month_ex h2 12 h3
  have e : msI y (m + 1) = msI y m + lenI y (m + 1 : Nat) := rfl
  exact ⟨m, hy, a, by omega, by omega⟩
theorem date_ex {day : Int} (hd : 0 ≤ day ∧ day ≤ 3652058) : ∃ y m l, DateIs day y m l := by
  obtain ⟨a, b, c⟩ := year_of (day := day) (q := day / 146097) (r := day % 146097) (by omega) (by omega) rfl rfl rfl rfl rfl
  obtain ⟨m, h⟩ := DateIs.mk' hd a b c
  exact ⟨_, m, _, h⟩
/-- A day's month, reckoned from the first one of all. -/
noncomputable def monI (day : Int) : Int :=
  open Classical in
  if h : ∃ p : Int × Nat × Int, DateIs day p.1 p.2.1 p.2.2 then 12 * ((Classical.choose h).1 - 1) + (Classical.choose h).2.1 else 0
theorem monI_of {day y l : Int} {m : Nat} (h : DateIs day y m l) : monI day = 12 * (y - 1) + m := by
  unfold monI
  have hx : ∃ p : Int × Nat × Int, DateIs day p.1 p.2.1 p.2.2 := ⟨(y, m, l), h⟩
  rw [dif_pos hx]
  obtain ⟨e1, e2, _⟩ := (Classical.choose_spec hx).one h
  rw [e1, e2]
theorem monI_bd {day : Int} (hd : 0 ≤ day ∧ day ≤ 3652058) : 0 ≤ monI day ∧ monI day < 119988 := by
  obtain ⟨y, m, l, h⟩ := date_ex hd
  rw [monI_of h]
  have := h.hy
  have := h.hm
  omega
/-- P4.1: the period of a day (of a kind that is). -/
noncomputable def ofI (k day : Int) : Int := monI day / longI k
/-- The period of a day may be. -/
theorem ofI_fine {k day : Int} (hk : 1 ≤ k ∧ k ≤ 4) (hd : 0 ≤ day ∧ day ≤ 3652058) : perE k (ofI k day) = 0 := by
  have hm := monI_bd hd
  unfold perE ofI
  generalize monI day = n at *
  have : k = 1 ∨ k = 2 ∨ k = 3 ∨ k = 4 := by omega
  rcases this with h | h | h | h <;> subst h <;> simp only [longI] <;> (rw [if_neg (by decide), if_neg (by simp; omega)])
end Go.Proofs.YtokakpbpenndlaaGreatDoor

set_option linter.unusedVariables false
namespace Go.Proofs.YtokakpbpenndlaaGreatDoor

/-- A jurisdiction: its number, its kind, what it is a part of, how often it is filed for. -/
structure Jur where
  id : Int
  k : Int
  par : Int
  f : Int
deriving DecidableEq
def Jur.zero : Jur := ⟨0, 0, 0, 0⟩
/-- The first index at which there is a fault, and the fault. -/
def firstE (f : Nat → Int) : Nat → Nat → Int × Nat
  | 0, _ => (0, 0)
  | n + 1, i => if f i = 0 then firstE f n (i + 1) else (f i, i)
theorem firstE_none {f : Nat → Int} : ∀ n i, (∀ j, i ≤ j → j < i + n → f j = 0) → firstE f n i = (0, 0)
  | 0, _, _ => rfl
  | n + 1, i, h => by
    unfold firstE
    rw [if_pos (h i (by omega) (by omega))]
    exact firstE_none n (i + 1) fun j h1 h2 => h j (by omega) (by omega)
theorem firstE_at {f : Nat → Int} {k : Nat} : ∀ n i, i ≤ k → k < i + n → (∀ j, i ≤ j → j < k → f j = 0) → f k ≠ 0 → firstE f n i = (f k, k)
  | 0, _, h1, h2, _, _ => by omega
  | n + 1, i, h1, h2, h, hk => by
    unfold firstE
    by_cases e : i = k
    · subst e
      rw [if_neg hk]
    · rw [if_pos (h i (by omega) (by omega))]
      exact firstE_at n (i + 1) (by omega) (by omega) (fun j h1 h2 => h j (by omega) h2) hk
theorem firstE_ok {f : Nat → Int} : ∀ n i, (firstE f n i).1 = 0 → firstE f n i = (0, 0) ∧ ∀ j, i ≤ j → j < i + n → f j = 0
  | 0, i, _ => ⟨rfl, fun j h1 h2 => by omega⟩
  | n + 1, i, h => by
    unfold firstE at h ⊢
    by_cases e : f i = 0
    · rw [if_pos e] at h ⊢
      obtain ⟨a, b⟩ := firstE_ok n (i + 1) h
      refine ⟨a, fun j h1 h2 => ?_⟩
      by_cases hj : j = i
      · rw [hj]; exact e
      · exact b j (by omega) (by omega)
    · rw [if_neg e] at h
      exact absurd h e
def four (n : Int) : Bool := decide (1 ≤ n) && decide (n ≤ 4)
/-- The place of a number; -1: it is not there. -/
def placeJ : List Jur → Int → Int
  | [], _ => -1
  | j :: l, id => if j.id = id then 0 else if placeJ l id < 0 then -1 else placeJ l id + 1
def findJ (l : List Jur) (id : Int) : Option Jur := l.find? fun j => decide (j.id = id)
/-- What is wrong with a jurisdiction by itself and the one ahead of it. -/
def jErr1 (l : List Jur) (i : Nat) : Int :=
  if (l.getD i Jur.zero).id < 1 ∨ 1099511627775 < (l.getD i Jur.zero).id then 5
  else if 0 < i ∧ (l.getD i Jur.zero).id ≤ (l.getD (i - 1) Jur.zero).id then 7
  else if four (l.getD i Jur.zero).k = false ∨ four (l.getD i Jur.zero).f = false then 2 else 0
/-- What is wrong with its parent. -/
def parErr (l : List Jur) (j : Jur) : Int :=
  if (j.k = 1 ∧ j.par ≠ 0) ∨ ((j.k = 2 ∨ j.k = 3) ∧ j.par = 0) then 9
  else if j.par = 0 then 0
  else match findJ l j.par with
    | none => 6
    | some p => if j.k ≤ p.k then 9 else 0
def jErr2 (l : List Jur) (i : Nat) : Int := parErr l (l.getD i Jur.zero)
/-- P20.1. -/
def checkJ (l : List Jur) : Int × Nat :=
  if 64 < l.length then (3, 0)
  else if (firstE (jErr1 l) l.length 0).1 = 0 then firstE (jErr2 l) l.length 0 else firstE (jErr1 l) l.length 0
/-- What a list that may be is. -/
theorem checkJ_ok {l : List Jur} (h : (checkJ l).1 = 0) : l.length ≤ 64 ∧ (∀ i, i < l.length → (1 ≤ (l.getD i Jur.zero).id ∧ (l.getD i Jur.zero).id ≤ 1099511627775) ∧ (1 ≤ (l.getD i Jur.zero).f ∧ (l.getD i Jur.zero).f ≤ 4)) ∧ (∀ i, i + 1 < l.length → (l.getD i Jur.zero).id < (l.getD (i + 1) Jur.zero).id) := by
  unfold checkJ at h
  by_cases hl : 64 < l.length
  · rw [if_pos hl] at h; cases h
  rw [if_neg hl] at h
  by_cases h1 : (firstE (jErr1 l) l.length 0).1 = 0
  · obtain ⟨_, hz⟩ := firstE_ok _ _ h1
    have key : ∀ i, i < l.length → ¬ ((l.getD i Jur.zero).id < 1 ∨ 1099511627775 < (l.getD i Jur.zero).id) ∧ ¬ (0 < i ∧ (l.getD i Jur.zero).id ≤ (l.getD (i - 1) Jur.zero).id) ∧ ¬ (four (l.getD i Jur.zero).k = false ∨ four (l.getD i Jur.zero).f = false) := by
      intro i hi
      have := hz i (by omega) (by omega)
      unfold jErr1 at this
      refine ⟨fun c => ?_, fun c => ?_, fun c => ?_⟩
      · rw [if_pos c] at this; cases this
      · by_cases c0 : (l.getD i Jur.zero).id < 1 ∨ 1099511627775 < (l.getD i Jur.zero).id
        · rw [if_pos c0] at this; cases this
        · rw [if_neg c0, if_pos c] at this; cases this
      · by_cases c0 : (l.getD i Jur.zero).id < 1 ∨ 1099511627775 < (l.getD i Jur.zero).id
        · rw [if_pos c0] at this; cases this
        · rw [if_neg c0] at this
          by_cases c1 : 0 < i ∧ (l.getD i Jur.zero).id ≤ (l.getD (i - 1) Jur.zero).id
          · rw [if_pos c1] at this; cases this
          · rw [if_neg c1, if_pos c] at this; cases this
    refine ⟨by omega, fun i hi => ?_, fun i hi => ?_⟩
    · obtain ⟨a, _, c⟩ := key i hi
      have cf : four (l.getD i Jur.zero).f = true := by
        cases hq : four (l.getD i Jur.zero).f
        · exact absurd (.inr hq) c
        · rfl
      unfold four at cf
      simp only [Bool.and_eq_true, decide_eq_true_eq] at cf
      exact ⟨by omega, cf⟩
    · obtain ⟨_, b, _⟩ := key (i + 1) hi
      rw [Nat.add_sub_cancel] at b
      omega
  · rw [if_neg h1] at h
    exact absurd h h1
theorem findJ_mem {l : List Jur} {id : Int} {j : Jur} (h : findJ l id = some j) : j ∈ l ∧ j.id = id := by
  unfold findJ at h
  exact ⟨List.mem_of_find?_eq_some h, by simpa using List.find?_some h⟩
/-- The place, and what is found there. -/
theorem placeJ_none {l : List Jur} {id : Int} (h : ∀ i, i < l.length → (l.getD i Jur.zero).id ≠ id) : placeJ l id = -1 ∧ findJ l id = none := by
  induction l with
  | nil => exact ⟨rfl, rfl⟩
  | cons j l ih =>
    have h0 : j.id ≠ id := h 0 (by simp)
    obtain ⟨a, b⟩ := ih fun i hi => by simpa using h (i + 1) (by simp; omega)
    constructor
    · unfold placeJ
      rw [if_neg h0, a]
      rfl
    · unfold findJ at b ⊢
      rw [List.find?_cons, b]
      simp [h0]
theorem placeJ_at {l : List Jur} {id : Int} {k : Nat} (hk : k < l.length) (h : ∀ i, i < k → (l.getD i Jur.zero).id ≠ id) (hi : (l.getD k Jur.zero).id = id) : placeJ l id = (k : Int) ∧ findJ l id = some (l.getD k Jur.zero) := by
  induction l generalizing k with
  | nil => simp at hk
  | cons j l ih =>
    cases k with
    | zero =>
      have h0 : j.id = id := hi
      constructor
      · unfold placeJ
        rw [if_pos h0]
        rfl
      · unfold findJ
        rw [List.find?_cons]
        simp [h0]
    | succ k =>
      have h0 : j.id ≠ id := h 0 (by omega)
      obtain ⟨a, b⟩ := ih (k := k) (by simpa using hk) (fun i hi => by simpa using h (i + 1) (by omega)) (by simpa using hi)
      constructor
      · unfold placeJ
        rw [if_neg h0, a, if_neg (by omega)]
        omega
      · unfold findJ at b ⊢
        rw [List.find?_cons]
        simp only [h0, decide_false]
        simpa using b
end Go.Proofs.YtokakpbpenndlaaGreatDoor
