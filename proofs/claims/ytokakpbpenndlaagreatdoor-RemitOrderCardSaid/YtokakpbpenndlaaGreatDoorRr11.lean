/-
  Plain: jurisdictions; the first fault of a list.
-/
import Derived.Test.YtokakpbpenndlaaGreatDoorRr10
import Derived.Test.YtokakpbpenndlaaGreatDoorRr02
set_option linter.unusedVariables false
namespace Go.Proofs.YtokakpbpenndlaaGreatDoor

/-- A jurisdiction: its number, its kind, what it is a part of, how often it is filed for. -/
structure Jur where
  id : Int
  k : Int
  par : Int
  f : Int
deriving DecidableEq
def Jur.zero : Jur := ⟨0, 0, 0, 0⟩
/-- The first index at which there is a fault, and the fault. -/
def firstE (f : Nat → Int) : Nat → Nat → Int × Nat
  | 0, _ => (0, 0)
  | n + 1, i => if f i = 0 then firstE f n (i + 1) else (f i, i)
theorem firstE_none {f : Nat → Int} : ∀ n i, (∀ j, i ≤ j → j < i + n → f j = 0) → firstE f n i = (0, 0)
  | 0, _, _ => rfl
  | n + 1, i, h => by
    unfold firstE
    rw [if_pos (h i (by omega) (by omega))]
    exact firstE_none n (i + 1) fun j h1 h2 => h j (by omega) (by omega)
theorem firstE_at {f : Nat → Int} {k : Nat} : ∀ n i, i ≤ k → k < i + n → (∀ j, i ≤ j → j < k → f j = 0) → f k ≠ 0 → firstE f n i = (f k, k)
  | 0, _, h1, h2, _, _ => by omega
  | n + 1, i, h1, h2, h, hk => by
    unfold firstE
    by_cases e : i = k
    · subst e
      rw [if_neg hk]
    · rw [if_pos (h i (by omega) (by omega))]
      exact firstE_at n (i + 1) (by omega) (by omega) (fun j h1 h2 => h j (by omega) h2) hk
theorem firstE_ok {f : Nat → Int} : ∀ n i, (firstE f n i).1 = 0 → firstE f n i = (0, 0) ∧ ∀ j, i ≤ j → j < i + n → f j = 0
  | 0, i, _ => ⟨rfl, fun j h1 h2 => by omega⟩
  | n + 1, i, h => by
    unfold firstE at h ⊢
    by_cases e : f i = 0
    · rw [if_pos e] at h ⊢
      obtain ⟨a, b⟩ := firstE_ok n (i + 1) h
      refine ⟨a, fun j h1 h2 => ?_⟩
      by_cases hj : j = i
      · rw [hj]; exact e
      · exact b j (by omega) (by omega)
    · rw [if_neg e] at h
      exact absurd h e
def four (n : Int) : Bool := decide (1 ≤ n) && decide (n ≤ 4)
/-- The place of a number; -1: it is not there. -/
def placeJ : List Jur → Int → Int
  | [], _ => -1
  | j :: l, id => if j.id = id then 0 else if placeJ l id < 0 then -1 else placeJ l id + 1
def findJ (l : List Jur) (id : Int) : Option Jur := l.find? fun j => decide (j.id = id)
/-- What is wrong with a jurisdiction by itself and the one ahead of it. -/
def jErr1 (l : List Jur) (i : Nat) : Int :=
  if (l.getD i Jur.zero).id < 1 ∨ 1099511627775 < (l.getD i Jur.zero).id then 5
  else if 0 < i ∧ (l.getD i Jur.zero).id ≤ (l.getD (i - 1) Jur.zero).id then 7
  else if four (l.getD i Jur.zero).k = false ∨ four (l.getD i Jur.zero).f = false then 2 else 0
/-- What is wrong with its parent. -/
def parErr (l : List Jur) (j : Jur) : Int :=
  if (j.k = 1 ∧ j.par ≠ 0) ∨ ((j.k = 2 ∨ j.k = 3) ∧ j.par = 0) then 9
  else if j.par = 0 then 0
  else match findJ l j.par with
    | none => 6
    | some p => if j.k ≤ p.k then 9 else 0
def jErr2 (l : List Jur) (i : Nat) : Int := parErr l (l.getD i Jur.zero)
/-- P20.1. -/
def checkJ (l : List Jur) : Int × Nat :=
  if 64 < l.length then (3, 0)
  else if (firstE (jErr1 l) l.length 0).1 = 0 then firstE (jErr2 l) l.length 0 else firstE (jErr1 l) l.length 0
/-- What a list that may be is. -/
theorem checkJ_ok {l : List Jur} (h : (checkJ l).1 = 0) : l.length ≤ 64 ∧ (∀ i, i < l.length → (1 ≤ (l.getD i Jur.zero).id ∧ (l.getD i Jur.zero).id ≤ 1099511627775) ∧ (1 ≤ (l.getD i Jur.zero).f ∧ (l.getD i Jur.zero).f ≤ 4)) ∧ (∀ i, i + 1 < l.length → (l.getD i Jur.zero).id < (l.getD (i + 1) Jur.zero).id) := by
  unfold checkJ at h
  by_cases hl : 64 < l.length
  · rw [if_pos hl] at h; cases h
  rw [if_neg hl] at h
  by_cases h1 : (firstE (jErr1 l) l.length 0).1 = 0
  · obtain ⟨_, hz⟩ := firstE_ok _ _ h1
    have key : ∀ i, i < l.length → ¬ ((l.getD i Jur.zero).id < 1 ∨ 1099511627775 < (l.getD i Jur.zero).id) ∧ ¬ (0 < i ∧ (l.getD i Jur.zero).id ≤ (l.getD (i - 1) Jur.zero).id) ∧ ¬ (four (l.getD i Jur.zero).k = false ∨ four (l.getD i Jur.zero).f = false) := by
      intro i hi
      have := hz i (by omega) (by omega)
      unfold jErr1 at this
      refine ⟨fun c => ?_, fun c => ?_, fun c => ?_⟩
      · rw [if_pos c] at this; cases this
      · by_cases c0 : (l.getD i Jur.zero).id < 1 ∨ 1099511627775 < (l.getD i Jur.zero).id
        · rw [if_pos c0] at this; cases this
        · rw [if_neg c0, if_pos c] at this; cases this
      · by_cases c0 : (l.getD i Jur.zero).id < 1 ∨ 1099511627775 < (l.getD i Jur.zero).id
        · rw [if_pos c0] at this; cases this
        · rw [if_neg c0] at this
          by_cases c1 : 0 < i ∧ (l.getD i Jur.zero).id ≤ (l.getD (i - 1) Jur.zero).id
          · rw [if_pos c1] at this; cases this
          · rw [if_neg c1, if_pos c] at this; cases this
    refine ⟨by omega, fun i hi => ?_, fun i hi => ?_⟩
    · obtain ⟨a, _, c⟩ := key i hi
      have cf : four (l.getD i Jur.zero).f = true := by
        cases hq : four (l.getD i Jur.zero).f
        · exact absurd (.inr hq) c
        · rfl
      unfold four at cf
      simp only [Bool.and_eq_true, decide_eq_true_eq] at cf
      exact ⟨by omega, cf⟩
    · obtain ⟨_, b, _⟩ := key (i + 1) hi
      rw [Nat.add_sub_cancel] at b
      omega
  · rw [if_neg h1] at h
    exact absurd h h1
theorem findJ_mem {l : List Jur} {id : Int} {j : Jur} (h : findJ l id = some j) : j ∈ l ∧ j.id = id := by
  unfold findJ at h
  exact ⟨List.mem_of_find?_eq_some h, by simpa using List.find?_some h⟩
/-- The place, and what is found there. -/
theorem placeJ_none {l : List Jur} {id : Int} (h : ∀ i, i < l.length → (l.getD i Jur.zero).id ≠ id) : placeJ l id = -1 ∧ findJ l id = none := by
  induction l with
  | nil => exact ⟨rfl, rfl⟩
  | cons j l ih =>
    have h0 : j.id ≠ id := h 0 (by simp)
    obtain ⟨a, b⟩ := ih fun i hi => by simpa using h (i + 1) (by simp; omega)
    constructor
    · unfold placeJ
      rw [if_neg h0, a]
      rfl
    · unfold findJ at b ⊢
      rw [List.find?_cons, b]
      simp [h0]
theorem placeJ_at {l : List Jur} {id : Int} {k : Nat} (hk : k < l.length) (h : ∀ i, i < k → (l.getD i Jur.zero).id ≠ id) (hi : (l.getD k Jur.zero).id = id) : placeJ l id = (k : Int) ∧ findJ l id = some (l.getD k Jur.zero) := by
  induction l generalizing k with
  | nil => simp at hk
  | cons j l ih =>
    cases k with
    | zero =>
      have h0 : j.id = id := hi
      constructor
      · unfold placeJ
        rw [if_pos h0]
        rfl
      · unfold findJ
        rw [List.find?_cons]
        simp [h0]
    | succ k =>
      have h0 : j.id ≠ id := h 0 (by omega)
      obtain ⟨a, b⟩ := ih (k := k) (by simpa using hk) (fun i hi => by simpa using h (i + 1) (by omega)) (by simpa using hi)
      constructor
      · unfold placeJ
        rw [if_neg h0, a, if_neg (by omega)]
        omega
      · unfold findJ at b ⊢
        rw [List.find?_cons]
        simp only [h0, decide_false]
        simpa using b
end Go.Proofs.YtokakpbpenndlaaGreatDoor

set_option linter.unusedVariables false
namespace Go.Proofs.YtokakpbpenndlaaGreatDoor

/-- The number of a rank. -/
def unzig (r : Nat) : Int := if r % 2 = 0 then ((r / 2 : Nat) : Int) else -((r / 2 : Nat) : Int) - 1
theorem unzig_zig (n : Int) : unzig (zig n) = n := by
  unfold unzig zig
  split <;> split <;> omega
theorem zig_unzig (r : Nat) : zig (unzig r) = r := by
  unfold unzig zig
  split <;> split <;> omega

/-- What a reading gives: the number, the place behind it, the fault, its place. -/
structure Got where
  n : Int
  next : Nat
  fe : Int
  fa : Nat
deriving DecidableEq

/-- P5.2, from the i-th byte on: the bytes that are left, the rank so far. -/
def getGo (at_ : Nat) : List UInt8 → Nat → Nat → Got
  | [], i, _ => ⟨0, 0, 4, at_ + i⟩
  | c :: r, i, rank =>
    if i = 9 ∧ 1 < c.toNat then ⟨0, 0, 5, at_ + i⟩
    else if 0 < i ∧ c.toNat = 0 then ⟨0, 0, 4, at_ + i⟩
    else if c.toNat < 128 then ⟨unzig (rank + c.toNat % 128 * 128 ^ i), at_ + i + 1, 0, 0⟩
    else getGo at_ r (i + 1) (rank + c.toNat % 128 * 128 ^ i)
def getN (b : List UInt8) (at_ : Nat) : Got := getGo at_ (b.drop at_) 0 0

theorem getGo_cons (at_ : Nat) (c : UInt8) (l : List UInt8) (i r : Nat) :
    ((i = 9 ∧ 1 < c.toNat) ∧ getGo at_ (c :: l) i r = ⟨0, 0, 5, at_ + i⟩) ∨
    (¬ (i = 9 ∧ 1 < c.toNat) ∧ (0 < i ∧ c.toNat = 0) ∧ getGo at_ (c :: l) i r = ⟨0, 0, 4, at_ + i⟩) ∨
    (¬ (i = 9 ∧ 1 < c.toNat) ∧ ¬ (0 < i ∧ c.toNat = 0) ∧ c.toNat < 128 ∧ getGo at_ (c :: l) i r = ⟨unzig (r + c.toNat % 128 * 128 ^ i), at_ + i + 1, 0, 0⟩) ∨
    (¬ (i = 9 ∧ 1 < c.toNat) ∧ ¬ (0 < i ∧ c.toNat = 0) ∧ 128 ≤ c.toNat ∧ getGo at_ (c :: l) i r = getGo at_ l (i + 1) (r + c.toNat % 128 * 128 ^ i)) := by
  by_cases h1 : i = 9 ∧ 1 < c.toNat
  · exact .inl ⟨h1, by rw [getGo, if_pos h1]⟩
  by_cases h2 : 0 < i ∧ c.toNat = 0
  · exact .inr (.inl ⟨h1, h2, by rw [getGo, if_neg h1, if_pos h2]⟩)
  by_cases h3 : c.toNat < 128
  · exact .inr (.inr (.inl ⟨h1, h2, h3, by rw [getGo, if_neg h1, if_neg h2, if_pos h3]⟩))
  · exact .inr (.inr (.inr ⟨h1, h2, by omega, by rw [getGo, if_neg h1, if_neg h2, if_neg h3]⟩))
theorem getGo_fe (at_ : Nat) (l : List UInt8) : ∀ i rank, (getGo at_ l i rank).fe = 0 ∨ (getGo at_ l i rank).fe = 4 ∨ (getGo at_ l i rank).fe = 5 := by
  induction l with
  | nil => intro i r; simp [getGo]
  | cons c l ih =>
    intro i r
    rcases getGo_cons at_ c l i r with ⟨_, e⟩ | ⟨_, _, e⟩ | ⟨_, _, _, e⟩ | ⟨_, _, _, e⟩ <;> rw [e]
    · simp
    · simp
    · simp
    · exact ih _ _
theorem getGo_next (at_ : Nat) (l : List UInt8) : ∀ i rank, (getGo at_ l i rank).fe = 0 → at_ + i < (getGo at_ l i rank).next ∧ (getGo at_ l i rank).next ≤ at_ + i + l.length := by
  induction l with
  | nil => intro i r h; simp [getGo] at h
  | cons c l ih =>
    intro i r h
    rcases getGo_cons at_ c l i r with ⟨_, e⟩ | ⟨_, _, e⟩ | ⟨_, _, _, e⟩ | ⟨_, _, _, e⟩ <;> rw [e] at h ⊢
    · simp at h
    · simp at h
    · simp
    · have := ih _ _ h
      simp only [List.length_cons]; omega
theorem getGo_bad (at_ : Nat) (l : List UInt8) : ∀ i rank, (getGo at_ l i rank).fe ≠ 0 → (getGo at_ l i rank).n = 0 ∧ (getGo at_ l i rank).next = 0 ∧ (getGo at_ l i rank).fa ≤ at_ + i + l.length := by
  induction l with
  | nil => intro i r h; simp [getGo]
  | cons c l ih =>
    intro i r h
    rcases getGo_cons at_ c l i r with ⟨_, e⟩ | ⟨_, _, e⟩ | ⟨_, _, _, e⟩ | ⟨_, _, _, e⟩ <;> rw [e] at h ⊢
    · simp
    · simp
    · simp at h
    · have := ih _ _ h
      simp only [List.length_cons]; omega
theorem getGo_ok (at_ : Nat) (l : List UInt8) : ∀ i rank, (getGo at_ l i rank).fe = 0 → (getGo at_ l i rank).fa = 0 := by
  induction l with
  | nil => intro i r h; simp [getGo] at h
  | cons c l ih =>
    intro i r h
    rcases getGo_cons at_ c l i r with ⟨_, e⟩ | ⟨_, _, e⟩ | ⟨_, _, _, e⟩ | ⟨_, _, _, e⟩ <;> rw [e] at h ⊢
    · simp at h
    · simp at h
    · exact ih _ _ h

/-- A reader: its bytes, its place, its fault. -/
structure RS where
  b : List UInt8
  at_ : Nat
  fe : Int
  fa : Nat
deriving DecidableEq
def RS.start (b : List UInt8) : RS := ⟨b, 0, 0, 0⟩
/-- P5.4: a number from low to high; above: the error, if it is above. -/
def RS.num (s : RS) (lo hi above : Int) : Int × RS :=
  if s.fe ≠ 0 then (0, s) else
    let g := getN s.b s.at_
    if g.fe ≠ 0 then (0, { s with fe := g.fe, fa := g.fa })
    else if hi < g.n then (0, { s with fe := above, fa := s.at_ })
    else if g.n < lo then (0, { s with fe := 5, fa := s.at_ })
    else (g.n, { s with at_ := g.next })
def RS.int (s : RS) (lo hi : Int) : Int × RS := s.num lo hi 5
def RS.count (s : RS) (most : Int) : Int × RS := s.num 0 most 3
/-- The fault at the end: its number, its place. -/
def RS.fin (s : RS) : Int × Nat := if s.fe = 0 ∧ s.at_ < s.b.length then (4, s.at_) else (s.fe, s.fa)
/-- A reader that stands within its bytes. -/
def RS.ok (s : RS) : Prop := s.at_ ≤ s.b.length ∧ s.fa ≤ s.b.length
theorem RS.num_ok {s : RS} (h : s.ok) (lo hi above : Int) : (s.num lo hi above).2.ok ∧ (s.num lo hi above).2.b = s.b := by
  unfold RS.num
  by_cases h0 : s.fe ≠ 0
  · rw [if_pos h0]; exact ⟨h, rfl⟩
  rw [if_neg h0]
  have hd : (s.b.drop s.at_).length = s.b.length - s.at_ := List.length_drop ..
  have h1 := h.1
  simp only
  by_cases h2 : (getN s.b s.at_).fe ≠ 0
  · rw [if_pos h2]
    have := getGo_bad s.at_ (s.b.drop s.at_) 0 0 h2
    rw [hd] at this
    exact ⟨⟨h.1, by show (getN s.b s.at_).fa ≤ s.b.length; unfold getN; omega⟩, rfl⟩
  rw [if_neg h2]
  split
  · exact ⟨⟨h.1, h.1⟩, rfl⟩
  split
  · exact ⟨⟨h.1, h.1⟩, rfl⟩
  · have := getGo_next s.at_ (s.b.drop s.at_) 0 0 (by simpa [getN] using h2)
    rw [hd] at this
    exact ⟨⟨by show (getN s.b s.at_).next ≤ s.b.length; unfold getN; omega, h.2⟩, rfl⟩
theorem RS.num_bd (s : RS) (lo hi above : Int) (h : lo ≤ 0) (h' : 0 ≤ hi) : lo ≤ (s.num lo hi above).1 ∧ (s.num lo hi above).1 ≤ hi := by
  unfold RS.num
  by_cases h0 : s.fe ≠ 0
  · rw [if_pos h0]; exact ⟨h, h'⟩
  rw [if_neg h0]
  simp only
  repeat' split
  all_goals simp only
  all_goals omega
theorem RS.num_sticky {s : RS} (h : s.fe ≠ 0) (lo hi above : Int) : s.num lo hi above = (0, s) := by unfold RS.num; rw [if_pos h]

theorem or_add (r m k : Nat) (h : r < 128 ^ k) : r ||| (m * 128 ^ k) = r + m * 128 ^ k := by
  have e : (128 : Nat) ^ k = 2 ^ (7 * k) := by rw [Nat.pow_mul]
  rw [e] at h ⊢
  rw [Nat.or_comm, ← Nat.shiftLeft_eq, ← Nat.shiftLeft_add_eq_or_of_lt h, Nat.add_comm, Nat.shiftLeft_eq]
theorem rank_lt (r c k : Nat) (h : r < 128 ^ k) (hk : k ≤ 8) : r + c % 128 * 128 ^ k < 128 ^ (k + 1) := by
  have hp : 0 < 128 ^ k := Nat.pow_pos (by decide)
  have : c % 128 * 128 ^ k ≤ 127 * 128 ^ k := Nat.mul_le_mul_right _ (by omega)
  rw [Nat.pow_succ]
  omega
theorem pow_le8 (k : Nat) (hk : k ≤ 8) : 128 ^ (k + 1) ≤ 9223372036854775808 := by
  have := Nat.pow_le_pow_right (show 0 < 128 by decide) (show k + 1 ≤ 9 by omega)
  simpa using this
theorem rank_o (r c k : Nat) (h : r < 128 ^ k) (hc : c < 256) (hk : k ≤ 8) :
    bits BinOp.or IntKind.u64 (r : Int) (IntKind.u64.wrap (IntKind.u64.wrap (bits BinOp.andNot IntKind.u8 (c : Int) 128) * 2 ^ (7 * k))) = ((r + c % 128 * 128 ^ k : Nat) : Int) := by
  have h1 := rank_lt r c k h hk
  have h2 := pow_le8 k hk
  have e1 : bits BinOp.andNot IntKind.u8 (c : Int) 128 = ((c % 128 : Nat) : Int) := by
    rw [u8_andNot _ _ (by omega) (by omega) (by omega) (by omega)]
    have hh : ∀ x : Fin 256, x.val &&& (255 - 128) = x.val % 128 := by decide +kernel
    have := hh ⟨c, hc⟩
    simp only at this
    rw [Int.toNat_natCast, show ((128 : Int)).toNat = 128 by rfl, this]
  rw [e1]
  have e2 : IntKind.u64.wrap ((c % 128 : Nat) : Int) = ((c % 128 : Nat) : Int) := by rw [IntKind.wrap_u64]; omega
  rw [e2]
  have e3 : ((c % 128 : Nat) : Int) * 2 ^ (7 * k) = ((c % 128 * 128 ^ k : Nat) : Int) := by
    rw [show (128 : Nat) ^ k = 2 ^ (7 * k) by rw [Nat.pow_mul]]
    simp
  rw [e3]
  have e4 : IntKind.u64.wrap ((c % 128 * 128 ^ k : Nat) : Int) = ((c % 128 * 128 ^ k : Nat) : Int) := by rw [IntKind.wrap_u64]; omega
  rw [e4, u64_or_nat _ _ (by omega) (by omega), or_add _ _ _ h]

theorem xor_i64 (a : Nat) (ha : a < 9223372036854775808) (z : Int) (hz : z = 0 ∨ z = -1) : bits BinOp.xor IntKind.i64 (a : Int) z = if z = 0 then (a : Int) else -(a : Int) - 1 := by
  show IntKind.i64.wrap ((BitVec.ofInt 64 (a : Int) ^^^ BitVec.ofInt 64 z).toNat : Int) = _
  have h1 : (BitVec.ofInt 64 (a : Int)).toNat = a := by rw [BitVec.ofInt_natCast, BitVec.toNat_ofNat]; exact Nat.mod_eq_of_lt (by omega)
  rcases hz with rfl | rfl
  · rw [if_pos rfl, show BitVec.ofInt 64 0 = 0#64 from rfl, BitVec.xor_zero, h1, IntKind.wrap_i64]; omega
  · rw [if_neg (by decide), show BitVec.ofInt 64 (-1) = BitVec.allOnes 64 from rfl, BitVec.xor_allOnes, BitVec.toNat_not, h1, IntKind.wrap_i64]; omega
theorem unz_o (X : Int) (R : Nat) (hX : X = (R : Int)) (hR : R < 18446744073709551616) :
    bits BinOp.xor IntKind.i64 (RowKit.wrap64 (X / 2)) (RowKit.wrap64 (-RowKit.wrap64 (bits BinOp.and IntKind.u64 X 1))) = unzig R := by
  subst hX
  have e0 : bits BinOp.and IntKind.u64 (R : Int) 1 = (R : Int) % 2 := by
    have := u64_and_nat R 1 hR (by decide)
    rw [Nat.and_one_is_mod] at this
    simpa using this
  rw [e0]
  have e1 : RowKit.wrap64 ((R : Int) / 2) = ((R / 2 : Nat) : Int) := by unfold RowKit.wrap64; omega
  have e2 : RowKit.wrap64 (-RowKit.wrap64 ((R : Int) % 2)) = -((R : Int) % 2) := by unfold RowKit.wrap64; omega
  rw [e1, e2, xor_i64 _ (by omega) _ (by omega)]
  unfold unzig
  split <;> split <;> omega
theorem rank_9 (r c : Nat) (h : r < 128 ^ 9) (hc : c ≤ 1) :
    bits BinOp.or IntKind.u64 (r : Int) (IntKind.u64.wrap (IntKind.u64.wrap (bits BinOp.andNot IntKind.u8 (c : Int) 128) * 9223372036854775808)) = ((r + c % 128 * 128 ^ 9 : Nat) : Int) := by
  have e1 : bits BinOp.andNot IntKind.u8 (c : Int) 128 = (c : Int) := by
    have hh : ∀ x : Fin 2, bits BinOp.andNot IntKind.u8 ((x.val : Nat) : Int) 128 = (x.val : Int) := by decide +kernel
    exact hh ⟨c, by omega⟩
  have e3 : IntKind.u64.wrap (c : Int) = c := by rw [IntKind.wrap_u64]; omega
  rw [e1, e3, IntKind.wrap_u64]
  have e2 : (c : Int) * 9223372036854775808 % 18446744073709551616 = ((c * 128 ^ 9 : Nat) : Int) := by
    have : (128 : Nat) ^ 9 = 9223372036854775808 := by decide
    rw [this]; omega
  have h9 : (128 : Nat) ^ 9 = 9223372036854775808 := by decide
  rw [e2, u64_or_nat _ _ (by omega) (by rw [h9]; omega), or_add _ _ _ h, show c % 128 = c by omega]
theorem rank_lt9 (r c : Nat) (h : r < 128 ^ 9) (hc : c ≤ 1) : r + c % 128 * 128 ^ 9 < 18446744073709551616 := by
  have h9 : (128 : Nat) ^ 9 = 9223372036854775808 := by decide
  rw [h9] at h ⊢; omega
theorem rank_lt8 (r c k : Nat) (h : r < 128 ^ k) (hk : k ≤ 8) : r + c % 128 * 128 ^ k < 18446744073709551616 := by
  have := rank_lt r c k h hk
  have := pow_le8 k hk
  omega

theorem rank_r (r c k : Nat) (h : r < 128 ^ k) (hk : k ≤ 8) :
    bits BinOp.or IntKind.u64 (r : Int) (IntKind.u64.wrap ((c : Int) % 128 * 2 ^ (7 * k))) = ((r + c % 128 * 128 ^ k : Nat) : Int) := by
  have h1 := rank_lt r c k h hk
  have h2 := pow_le8 k hk
  have e3 : (c : Int) % 128 * 2 ^ (7 * k) = ((c % 128 * 128 ^ k : Nat) : Int) := by
    rw [show (128 : Nat) ^ k = 2 ^ (7 * k) by rw [Nat.pow_mul]]
    simp
  rw [e3]
  have e4 : IntKind.u64.wrap ((c % 128 * 128 ^ k : Nat) : Int) = ((c % 128 * 128 ^ k : Nat) : Int) := by rw [IntKind.wrap_u64]; omega
  rw [e4, u64_or_nat _ _ (by omega) (by omega), or_add _ _ _ h]
theorem rank_r9 (r c : Nat) (h : r < 128 ^ 9) (hc : c ≤ 1) :
    bits BinOp.or IntKind.u64 (r : Int) ((c : Int) % 128 * 9223372036854775808) = ((r + c % 128 * 128 ^ 9 : Nat) : Int) := by
  have h9 : (128 : Nat) ^ 9 = 9223372036854775808 := by decide
  have e2 : (c : Int) % 128 * 9223372036854775808 = ((c % 128 * 128 ^ 9 : Nat) : Int) := by rw [h9]; omega
  rw [e2, u64_or_nat _ _ (by omega) (by rw [h9]; omega), or_add _ _ _ h]
theorem unz_even (X : Int) (R : Nat) (hX : X = (R : Int)) (hR : R < 18446744073709551616) (h : (X.tmod 2 == 1) = false) : RowKit.wrap64 (X / 2) = unzig R := by
  subst hX
  rw [beq_eq_false_iff_ne, Int.tmod_eq_emod_of_nonneg (by omega)] at h
  unfold unzig RowKit.wrap64
  split <;> omega
theorem unz_odd (X : Int) (R : Nat) (hX : X = (R : Int)) (hR : R < 18446744073709551616) (h : (X.tmod 2 == 1) = true) : bits BinOp.xor IntKind.i64 (-1) (RowKit.wrap64 (X / 2)) = unzig R := by
  subst hX
  rw [beq_iff_eq, Int.tmod_eq_emod_of_nonneg (by omega)] at h
  have e1 : RowKit.wrap64 ((R : Int) / 2) = ((R / 2 : Nat) : Int) := by unfold RowKit.wrap64; omega
  have hc : bits BinOp.xor IntKind.i64 (-1) ((R / 2 : Nat) : Int) = bits BinOp.xor IntKind.i64 ((R / 2 : Nat) : Int) (-1) := by
    show IntKind.i64.wrap ((BitVec.ofInt 64 _ ^^^ BitVec.ofInt 64 _).toNat : Int) = IntKind.i64.wrap ((BitVec.ofInt 64 _ ^^^ BitVec.ofInt 64 _).toNat : Int)
    rw [BitVec.xor_comm]
  rw [e1, hc, xor_i64 _ (by omega) _ (.inr rfl)]
  unfold unzig
  split <;> split <;> omega
end Go.Proofs.YtokakpbpenndlaaGreatDoor
