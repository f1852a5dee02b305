/-
  The plain side of reading: a number out of bytes; a reader.
-/
import Derived.Test.YtokakpbpenndlaaGreatDoorRn02
import Derived.Test.YtokakpbpenndlaaGreatDoorProg
import Derived.Test.YtokakpbpenndlaaGreatDoorRn01
set_option linter.unusedVariables false
namespace Go.Proofs.YtokakpbpenndlaaGreatDoor

/-- The number of a rank. -/
def unzig (r : Nat) : Int := if r % 2 = 0 then ((r / 2 : Nat) : Int) else -((r / 2 : Nat) : Int) - 1
theorem unzig_zig (n : Int) : unzig (zig n) = n := by
  unfold unzig zig
  split <;> split <;> omega
theorem zig_unzig (r : Nat) : zig (unzig r) = r := by
  unfold unzig zig
  split <;> split <;> omega

/-- What a reading gives: the number, the place behind it, the fault, its place. -/
structure Got where
  n : Int
  next : Nat
  fe : Int
  fa : Nat
deriving DecidableEq

/-- P5.2, from the i-th byte on: the bytes that are left, the rank so far. -/
def getGo (at_ : Nat) : List UInt8 → Nat → Nat → Got
  | [], i, _ => ⟨0, 0, 4, at_ + i⟩
  | c :: r, i, rank =>
    if i = 9 ∧ 1 < c.toNat then ⟨0, 0, 5, at_ + i⟩
    else if 0 < i ∧ c.toNat = 0 then ⟨0, 0, 4, at_ + i⟩
    else if c.toNat < 128 then ⟨unzig (rank + c.toNat % 128 * 128 ^ i), at_ + i + 1, 0, 0⟩
    else getGo at_ r (i + 1) (rank + c.toNat % 128 * 128 ^ i)
def getN (b : List UInt8) (at_ : Nat) : Got := getGo at_ (b.drop at_) 0 0

theorem getGo_cons (at_ : Nat) (c : UInt8) (l : List UInt8) (i r : Nat) :
    ((i = 9 ∧ 1 < c.toNat) ∧ getGo at_ (c :: l) i r = ⟨0, 0, 5, at_ + i⟩) ∨
    (¬ (i = 9 ∧ 1 < c.toNat) ∧ (0 < i ∧ c.toNat = 0) ∧ getGo at_ (c :: l) i r = ⟨0, 0, 4, at_ + i⟩) ∨
    (¬ (i = 9 ∧ 1 < c.toNat) ∧ ¬ (0 < i ∧ c.toNat = 0) ∧ c.toNat < 128 ∧ getGo at_ (c :: l) i r = ⟨unzig (r + c.toNat % 128 * 128 ^ i), at_ + i + 1, 0, 0⟩) ∨
    (¬ (i = 9 ∧ 1 < c.toNat) ∧ ¬ (0 < i ∧ c.toNat = 0) ∧ 128 ≤ c.toNat ∧ getGo at_ (c :: l) i r = getGo at_ l (i + 1) (r + c.toNat % 128 * 128 ^ i)) := by
  by_cases h1 : i = 9 ∧ 1 < c.toNat
  · exact .inl ⟨h1, by rw [getGo, if_pos h1]⟩
  by_cases h2 : 0 < i ∧ c.toNat = 0
  · exact .inr (.inl ⟨h1, h2, by rw [getGo, if_neg h1, if_pos h2]⟩)
  by_cases h3 : c.toNat < 128
  · exact .inr (.inr (.inl ⟨h1, h2, h3, by rw [getGo, if_neg h1, if_neg h2, if_pos h3]⟩))
  · exact .inr (.inr (.inr ⟨h1, h2, by omega, by rw [getGo, if_neg h1, if_neg h2, if_neg h3]⟩))
theorem getGo_fe (at_ : Nat) (l : List UInt8) : ∀ i rank, (getGo at_ l i rank).fe = 0 ∨ (getGo at_ l i rank).fe = 4 ∨ (getGo at_ l i rank).fe = 5 := by
  induction l with
  | nil => intro i r; simp [getGo]
  | cons c l ih =>
    intro i r
    rcases getGo_cons at_ c l i r with ⟨_, e⟩ | ⟨_, _, e⟩ | ⟨_, _, _, e⟩ | ⟨_, _, _, e⟩ <;> rw [e]
    · simp
    · simp
    · simp
    · exact ih _ _
theorem getGo_next (at_ : Nat) (l : List UInt8) : ∀ i rank, (getGo at_ l i rank).fe = 0 → at_ + i < (getGo at_ l i rank).next ∧ (getGo at_ l i rank).next ≤ at_ + i + l.length := by
  induction l with
  | nil => intro i r h; simp [getGo] at h
  | cons c l ih =>
    intro i r h
    rcases getGo_cons at_ c l i r with ⟨_, e⟩ | ⟨_, _, e⟩ | ⟨_, _, _, e⟩ | ⟨_, _, _, e⟩ <;> rw [e] at h ⊢
    · simp at h
    · simp at h
    · simp
    · have := ih _ _ h
      simp only [List.length_cons]; omega
theorem getGo_bad (at_ : Nat) (l : List UInt8) : ∀ i rank, (getGo at_ l i rank).fe ≠ 0 → (getGo at_ l i rank).n = 0 ∧ (getGo at_ l i rank).next = 0 ∧ (getGo at_ l i rank).fa ≤ at_ + i + l.length := by
  induction l with
  | nil => intro i r h; simp [getGo]
  | cons c l ih =>
    intro i r h
    rcases getGo_cons at_ c l i r with ⟨_, e⟩ | ⟨_, _, e⟩ | ⟨_, _, _, e⟩ | ⟨_, _, _, e⟩ <;> rw [e] at h ⊢
    · simp
    · simp
    · simp at h
    · have := ih _ _ h
      simp only [List.length_cons]; omega
theorem getGo_ok (at_ : Nat) (l : List UInt8) : ∀ i rank, (getGo at_ l i rank).fe = 0 → (getGo at_ l i rank).fa = 0 := by
  induction l with
  | nil => intro i r h; simp [getGo] at h
  | cons c l ih =>
    intro i r h
    rcases getGo_cons at_ c l i r with ⟨_, e⟩ | ⟨_, _, e⟩ | ⟨_, _, _, e⟩ | ⟨_, _, _, e⟩ <;> rw [e] at h ⊢
    · simp at h
    · simp at h
    · exact ih _ _ h

/-- A reader: its bytes, its place, its fault. -/
structure RS where
  b : List UInt8
  at_ : Nat
  fe : Int
  fa : Nat
deriving DecidableEq
def RS.start (b : List UInt8) : RS := ⟨b, 0, 0, 0⟩
/-- P5.4: a number from low to high; above: the error, if it is above. -/
def RS.num (s : RS) (lo hi above : Int) : Int × RS :=
  if s.fe ≠ 0 then (0, s) else
    let g := getN s.b s.at_
    if g.fe ≠ 0 then (0, { s with fe := g.fe, fa := g.fa })
    else if hi < g.n then (0, { s with fe := above, fa := s.at_ })
    else if g.n < lo then (0, { s with fe := 5, fa := s.at_ })
    else (g.n, { s with at_ := g.next })
def RS.int (s : RS) (lo hi : Int) : Int × RS := s.num lo hi 5
def RS.count (s : RS) (most : Int) : Int × RS := s.num 0 most 3
/-- The fault at the end: its number, its place. -/
def RS.fin (s : RS) : Int × Nat := if s.fe = 0 ∧ s.at_ < s.b.length then (4, s.at_) else (s.fe, s.fa)
/-- A reader that stands within its bytes. -/
def RS.ok (s : RS) : Prop := s.at_ ≤ s.b.length ∧ s.fa ≤ s.b.length
theorem RS.num_ok {s : RS} (h : s.ok) (lo hi above : Int) : (s.num lo hi above).2.ok ∧ (s.num lo hi above).2.b = s.b := by
  unfold RS.num
  by_cases h0 : s.fe ≠ 0
  · rw [if_pos h0]; exact ⟨h, rfl⟩
  rw [if_neg h0]
  have hd : (s.b.drop s.at_).length = s.b.length - s.at_ := List.length_drop ..
  have h1 := h.1
  simp only
  by_cases h2 : (getN s.b s.at_).fe ≠ 0
  · rw [if_pos h2]
    have := getGo_bad s.at_ (s.b.drop s.at_) 0 0 h2
    rw [hd] at this
    exact ⟨⟨h.1, by show (getN s.b s.at_).fa ≤ s.b.length; unfold getN; omega⟩, rfl⟩
  rw [if_neg h2]
  split
  · exact ⟨⟨h.1, h.1⟩, rfl⟩
  split
  · exact ⟨⟨h.1, h.1⟩, rfl⟩
  · have := getGo_next s.at_ (s.b.drop s.at_) 0 0 (by simpa [getN] using h2)
    rw [hd] at this
    exact ⟨⟨by show (getN s.b s.at_).next ≤ s.b.length; unfold getN; omega, h.2⟩, rfl⟩
theorem RS.num_bd (s : RS) (lo hi above : Int) (h : lo ≤ 0) (h' : 0 ≤ hi) : lo ≤ (s.num lo hi above).1 ∧ (s.num lo hi above).1 ≤ hi := by
  unfold RS.num
  by_cases h0 : s.fe ≠ 0
  · rw [if_pos h0]; exact ⟨h, h'⟩
  rw [if_neg h0]
  simp only
  repeat' split
  all_goals simp only
  all_goals omega
theorem RS.num_sticky {s : RS} (h : s.fe ≠ 0) (lo hi above : Int) : s.num lo hi above = (0, s) := by unfold RS.num; rw [if_pos h]

theorem or_add (r m k : Nat) (h : r < 128 ^ k) : r ||| (m * 128 ^ k) = r + m * 128 ^ k := by
  have e : (128 : Nat) ^ k = 2 ^ (7 * k) := by rw [Nat.pow_mul]
  rw [e] at h ⊢
  rw [Nat.or_comm, ← Nat.shiftLeft_eq, ← Nat.shiftLeft_add_eq_or_of_lt h, Nat.add_comm, Nat.shiftLeft_eq]
theorem rank_lt (r c k : Nat) (h : r < 128 ^ k) (hk : k ≤ 8) : r + c % 128 * 128 ^ k < 128 ^ (k + 1) := by
  have hp : 0 < 128 ^ k := Nat.pow_pos (by decide)
  have : c % 128 * 128 ^ k ≤ 127 * 128 ^ k := Nat.mul_le_mul_right _ (by omega)
  rw [Nat.pow_succ]
  omega
theorem pow_le8 (k : Nat) (hk : k ≤ 8) : 128 ^ (k + 1) ≤ 9223372036854775808 := by
  have := Nat.pow_le_pow_right (show 0 < 128 by decide) (show k + 1 ≤ 9 by omega)
  simpa using this
theorem rank_o (r c k : Nat) (h : r < 128 ^ k) (hc : c < 256) (hk : k ≤ 8) :
    bits BinOp.or IntKind.u64 (r : Int) (IntKind.u64.wrap (IntKind.u64.wrap (bits BinOp.andNot IntKind.u8 (c : Int) 128) * 2 ^ (7 * k))) = ((r + c % 128 * 128 ^ k : Nat) : Int) := by
  have h1 := rank_lt r c k h hk
  have h2 := pow_le8 k hk
  have e1 : bits BinOp.andNot IntKind.u8 (c : Int) 128 = ((c % 128 : Nat) : Int) := by
    rw [u8_andNot _ _ (by omega) (by omega) (by omega) (by omega)]
    have hh : ∀ x : Fin 256, x.val &&& (255 - 128) = x.val % 128 := by decide +kernel
    have := hh ⟨c, hc⟩
    simp only at this
    rw [Int.toNat_natCast, show ((128 : Int)).toNat = 128 by rfl, this]
  rw [e1]
  have e2 : IntKind.u64.wrap ((c % 128 : Nat) : Int) = ((c % 128 : Nat) : Int) := by rw [IntKind.wrap_u64]; omega
  rw [e2]
  have e3 : ((c % 128 : Nat) : Int) * 2 ^ (7 * k) = ((c % 128 * 128 ^ k : Nat) : Int) := by
    rw [show (128 : Nat) ^ k = 2 ^ (7 * k) by rw [Nat.pow_mul]]
    simp
  rw [e3]
  have e4 : IntKind.u64.wrap ((c % 128 * 128 ^ k : Nat) : Int) = ((c % 128 * 128 ^ k : Nat) : Int) := by rw [IntKind.wrap_u64]; omega
  rw [e4, u64_or_nat _ _ (by omega) (by omega), or_add _ _ _ h]

theorem xor_i64 (a : Nat) (ha : a < 9223372036854775808) (z : Int) (hz : z = 0 ∨ z = -1) : bits BinOp.xor IntKind.i64 (a : Int) z = if z = 0 then (a : Int) else -(a : Int) - 1 := by
  show IntKind.i64.wrap ((BitVec.ofInt 64 (a : Int) ^^^ BitVec.ofInt 64 z).toNat : Int) = _
  have h1 : (BitVec.ofInt 64 (a : Int)).toNat = a := by rw [BitVec.ofInt_natCast, BitVec.toNat_ofNat]; exact Nat.mod_eq_of_lt (by omega)
  rcases hz with rfl | rfl
  · rw [if_pos rfl, show BitVec.ofInt 64 0 = 0#64 from rfl, BitVec.xor_zero, h1, IntKind.wrap_i64]; omega
  · rw [if_neg (by decide), show BitVec.ofInt 64 (-1) = BitVec.allOnes 64 from rfl, BitVec.xor_allOnes, BitVec.toNat_not, h1, IntKind.wrap_i64]; omega
theorem unz_o (X : Int) (R : Nat) (hX : X = (R : Int)) (hR : R < 18446744073709551616) :
    bits BinOp.xor IntKind.i64 (RowKit.wrap64 (X / 2)) (RowKit.wrap64 (-RowKit.wrap64 (bits BinOp.and IntKind.u64 X 1))) = unzig R := by
  subst hX
  have e0 : bits BinOp.and IntKind.u64 (R : Int) 1 = (R : Int) % 2 := by
    have := u64_and_nat R 1 hR (by decide)
    rw [Nat.and_one_is_mod] at this
    simpa using this
  rw [e0]
  have e1 : RowKit.wrap64 ((R : Int) / 2) = ((R / 2 : Nat) : Int) := by unfold RowKit.wrap64; omega
  have e2 : RowKit.wrap64 (-RowKit.wrap64 ((R : Int) % 2)) = -((R : Int) % 2) := by unfold RowKit.wrap64; omega
  rw [e1, e2, xor_i64 _ (by omega) _ (by omega)]
  unfold unzig
  split <;> split <;> omega
theorem rank_9 (r c : Nat) (h : r < 128 ^ 9) (hc : c ≤ 1) :
    bits BinOp.or IntKind.u64 (r : Int) (IntKind.u64.wrap (IntKind.u64.wrap (bits BinOp.andNot IntKind.u8 (c : Int) 128) * 9223372036854775808)) = ((r + c % 128 * 128 ^ 9 : Nat) : Int) := by
  have e1 : bits BinOp.andNot IntKind.u8 (c : Int) 128 = (c : Int) := by
    have hh : ∀ x : Fin 2, bits BinOp.andNot IntKind.u8 ((x.val : Nat) : Int) 128 = (x.val : Int) := by decide +kernel
    exact hh ⟨c, by omega⟩
  have e3 : IntKind.u64.wrap (c : Int) = c := by rw [IntKind.wrap_u64]; omega
  rw [e1, e3, IntKind.wrap_u64]
  have e2 : (c : Int) * 9223372036854775808 % 18446744073709551616 = ((c * 128 ^ 9 : Nat) : Int) := by
    have : (128 : Nat) ^ 9 = 9223372036854775808 := by decide
    rw [this]; omega
  have h9 : (128 : Nat) ^ 9 = 9223372036854775808 := by decide
  rw [e2, u64_or_nat _ _ (by omega) (by rw [h9]; omega), or_add _ _ _ h, show c % 128 = c by omega]
theorem rank_lt9 (r c : Nat) (h : r < 128 ^ 9) (hc : c ≤ 1) : r + c % 128 * 128 ^ 9 < 18446744073709551616 := by
  have h9 : (128 : Nat) ^ 9 = 9223372036854775808 := by decide
  rw [h9] at h ⊢; omega
theorem rank_lt8 (r c k : Nat) (h : r < 128 ^ k) (hk : k ≤ 8) : r + c % 128 * 128 ^ k < 18446744073709551616 := by
  have := rank_lt r c k h hk
  have := pow_le8 k hk
  omega

theorem rank_r (r c k : Nat) (h : r < 128 ^ k) (hk : k ≤ 8) :
    bits BinOp.or IntKind.u64 (r : Int) (IntKind.u64.wrap ((c : Int) % 128 * 2 ^ (7 * k))) = ((r + c % 128 * 128 ^ k : Nat) : Int) := by
  have h1 := rank_lt r c k h hk
  have h2 := pow_le8 k hk
  have e3 : (c : Int) % 128 * 2 ^ (7 * k) = ((c % 128 * 128 ^ k : Nat) : Int) := by
    rw [show (128 : Nat) ^ k = 2 ^ (7 * k) by rw [Nat.pow_mul]]
    simp
  rw [e3]
  have e4 : IntKind.u64.wrap ((c % 128 * 128 ^ k : Nat) : Int) = ((c % 128 * 128 ^ k : Nat) : Int) := by rw [IntKind.wrap_u64]; omega
  rw [e4, u64_or_nat _ _ (by omega) (by omega), or_add _ _ _ h]
theorem rank_r9 (r c : Nat) (h : r < 128 ^ 9) (hc : c ≤ 1) :
    bits BinOp.or IntKind.u64 (r : Int) ((c : Int) % 128 * 9223372036854775808) = ((r + c % 128 * 128 ^ 9 : Nat) : Int) := by
  have h9 : (128 : Nat) ^ 9 = 9223372036854775808 := by decide
  have e2 : (c : Int) % 128 * 9223372036854775808 = ((c % 128 * 128 ^ 9 : Nat) : Int) := by rw [h9]; omega
  rw [e2, u64_or_nat _ _ (by omega) (by rw [h9]; omega), or_add _ _ _ h]
theorem unz_even (X : Int) (R : Nat) (hX : X = (R : Int)) (hR : R < 18446744073709551616) (h : (X.tmod 2 == 1) = false) : RowKit.wrap64 (X / 2) = unzig R := by
  subst hX
  rw [beq_eq_false_iff_ne, Int.tmod_eq_emod_of_nonneg (by omega)] at h
  unfold unzig RowKit.wrap64
  split <;> omega
theorem unz_odd (X : Int) (R : Nat) (hX : X = (R : Int)) (hR : R < 18446744073709551616) (h : (X.tmod 2 == 1) = true) : bits BinOp.xor IntKind.i64 (-1) (RowKit.wrap64 (X / 2)) = unzig R := by
  subst hX
  rw [beq_iff_eq, Int.tmod_eq_emod_of_nonneg (by omega)] at h
  have e1 : RowKit.wrap64 ((R : Int) / 2) = ((R / 2 : Nat) : Int) := by unfold RowKit.wrap64; omega
  have hc : bits BinOp.xor IntKind.i64 (-1) ((R / 2 : Nat) : Int) = bits BinOp.xor IntKind.i64 ((R / 2 : Nat) : Int) (-1) := by
    show IntKind.i64.wrap ((BitVec.ofInt 64 _ ^^^ BitVec.ofInt 64 _).toNat : Int) = IntKind.i64.wrap ((BitVec.ofInt 64 _ ^^^ BitVec.ofInt 64 _).toNat : Int)
    rw [BitVec.xor_comm]
  rw [e1, hc, xor_i64 _ (by omega) _ (.inr rfl)]
  unfold unzig
  split <;> split <;> omega
end Go.Proofs.YtokakpbpenndlaaGreatDoor

set_option linter.unusedVariables false
namespace Go.Proofs.YtokakpbpenndlaaGreatDoor

def win (n lo hi : Int) : Bool := decide (lo ≤ n) && decide (n ≤ hi)
theorem win_bd {n lo hi : Int} (h : win n lo hi = true) : lo ≤ n ∧ n ≤ hi := by simpa [win] using h
theorem win_mk {n lo hi : Int} (h : lo ≤ n) (h' : n ≤ hi) : win n lo hi = true := by simp [win, h, h']

def mAmt : Int := 1099511627775
structure Ln where
  c : Int
  a : Int
deriving DecidableEq
structure Ord where
  cu : Int
  day : Int
  px : Int
  py : Int
  ls : List Ln
deriving DecidableEq

def Ln.ok (l : Ln) : Bool := win l.c 1 1099511627775 && win l.a 0 1099511627775
/-- The place of the first line that may not be. -/
def badLn : List Ln → Nat → Option Nat
  | [], _ => none
  | l :: r, k => if l.ok then badLn r (k + 1) else some k
theorem badLn_take (ls : List Ln) : ∀ (s k : Nat) (hk : k < ls.length), badLn (ls.take k) s = none → (ls[k]).ok = true → badLn (ls.take (k + 1)) s = none := by
  induction ls with
  | nil => intro s k hk; simp at hk
  | cons l r ih =>
    intro s k hk h h'
    cases k with
    | zero => simp_all [badLn]
    | succ k =>
      simp only [List.take_succ_cons, badLn] at h ⊢
      split at h
      · rename_i hl; rw [if_pos hl]; exact ih _ k (by simpa using hk) h (by simpa using h')
      · cases h
theorem badLn_hit (ls : List Ln) : ∀ (s k : Nat) (hk : k < ls.length), badLn (ls.take k) s = none → (ls[k]).ok = false → badLn ls s = some (s + k) := by
  induction ls with
  | nil => intro s k hk; simp at hk
  | cons l r ih =>
    intro s k hk h h'
    cases k with
    | zero => simp_all [badLn]
    | succ k =>
      simp only [List.take_succ_cons, badLn] at h ⊢
      split at h
      · rename_i hl; rw [if_pos hl, ih (s + 1) k (by simpa using hk) h (by simpa using h')]; congr 1; omega
      · cases h
def Ord.head (o : Ord) : Bool := win o.cu 0 1099511627775 && win o.day 0 3652058 && win o.px (-1099511627775) 1099511627775 && win o.py (-1099511627775) 1099511627775
/-- P25.1: the error, and at which line. -/
def Ord.check (o : Ord) : Int × Int :=
  if o.head = false then (5, 0) else if o.ls.length = 0 then (2, 0) else if 100 < o.ls.length then (3, 0) else
    match badLn o.ls 0 with
    | some k => (5, k)
    | none => (0, 0)

theorem badLn_all (ls : List Ln) : ∀ s, badLn ls s = none → ∀ x ∈ ls, x.ok = true := by
  induction ls with
  | nil => intro s _ x hx; cases hx
  | cons l r ih =>
    intro s h x hx
    unfold badLn at h
    split at h
    · rename_i hl
      rcases List.mem_cons.1 hx with rfl | hx
      · exact hl
      · exact ih _ h x hx
    · cases h
/-- What a checked order is. -/
theorem Ord.check_ok {o : Ord} (h : o.check.1 = 0) : o.head = true ∧ 1 ≤ o.ls.length ∧ o.ls.length ≤ 100 ∧ ∀ x ∈ o.ls, x.ok = true := by
  unfold Ord.check at h
  by_cases h0 : o.head = false
  · rw [if_pos h0] at h; cases h
  rw [if_neg h0] at h
  by_cases h1 : o.ls.length = 0
  · rw [if_pos h1] at h; cases h
  rw [if_neg h1] at h
  by_cases h2 : 100 < o.ls.length
  · rw [if_pos h2] at h; cases h
  rw [if_neg h2] at h
  refine ⟨by simpa using h0, by omega, by omega, ?_⟩
  split at h
  · cases h
  · rename_i hb; exact badLn_all _ _ hb
theorem Ord.check_2 {o : Ord} (h : o.check.1 = 0) : o.check.2 = 0 := by
  unfold Ord.check at h ⊢
  by_cases h0 : o.head = false
  · rw [if_pos h0] at h; cases h
  rw [if_neg h0] at h ⊢
  by_cases h1 : o.ls.length = 0
  · rw [if_pos h1] at h; cases h
  rw [if_neg h1] at h ⊢
  by_cases h2 : 100 < o.ls.length
  · rw [if_pos h2] at h; cases h
  rw [if_neg h2] at h ⊢
  split at h
  · cases h
  · rename_i hb; simp
def lnInts (ls : List Ln) : List Int := ls.flatMap fun l => [l.c, l.a]
theorem lnInts_snoc (ls : List Ln) (k : Nat) (h : k < ls.length) : lnInts (ls.take (k + 1)) = lnInts (ls.take k) ++ [ls[k].c, ls[k].a] := by
  rw [List.take_succ_eq_append_getElem h]; unfold lnInts; rw [List.flatMap_append, List.flatMap_cons, List.flatMap_nil, List.append_nil]
theorem lnInts_len (ls : List Ln) : (lnInts ls).length = 2 * ls.length := by
  induction ls with
  | nil => rfl
  | cons a l ih => simp only [lnInts, List.flatMap_cons, List.length_append, List.length_cons] at *; rw [ih]; simp; omega
def Ord.hd (o : Ord) : List Int := [o.cu, o.day, o.px, o.py, o.ls.length]
end Go.Proofs.YtokakpbpenndlaaGreatDoor

set_option linter.unusedVariables false
namespace Go.Proofs.YtokakpbpenndlaaGreatDoor

/-- n lines read one behind the other; none behind a fault. -/
def linesO : Nat → RS → List Ln × RS
  | 0, s => ([], s)
  | n + 1, s => if s.fe = 0 then (⟨(s.num 1 1099511627775 5).1, ((s.num 1 1099511627775 5).2.num 0 1099511627775 5).1⟩ :: (linesO n ((s.num 1 1099511627775 5).2.num 0 1099511627775 5).2).1, (linesO n ((s.num 1 1099511627775 5).2.num 0 1099511627775 5).2).2) else linesO n s
/-- The reference's: it goes on behind a fault. -/
def linesR : Nat → RS → List Ln × RS
  | 0, s => ([], s)
  | n + 1, s => (⟨(s.num 1 1099511627775 5).1, ((s.num 1 1099511627775 5).2.num 0 1099511627775 5).1⟩ :: (linesR n ((s.num 1 1099511627775 5).2.num 0 1099511627775 5).2).1, (linesR n ((s.num 1 1099511627775 5).2.num 0 1099511627775 5).2).2)
theorem linesR_bad (n : Nat) : ∀ s : RS, s.fe ≠ 0 → (linesR n s).2 = s := by
  induction n with
  | zero => intro s _; rfl
  | succ n ih =>
    intro s h
    simp only [linesR, RS.num_sticky h]
    exact ih s h
theorem linesO_bad (n : Nat) : ∀ s : RS, s.fe ≠ 0 → linesO n s = ([], s) := by
  induction n with
  | zero => intro s _; rfl
  | succ n ih =>
    intro s h
    simp only [linesO, if_neg h]
    exact ih s h
theorem linesOR (n : Nat) : ∀ s : RS, (linesO n s).2 = (linesR n s).2 ∧ ((linesR n s).2.fe = 0 → (linesO n s).1 = (linesR n s).1) := by
  induction n with
  | zero => intro s; exact ⟨rfl, fun _ => rfl⟩
  | succ n ih =>
    intro s
    by_cases h : s.fe = 0
    · simp only [linesO, linesR, if_pos h]
      have := ih ((s.num 1 1099511627775 5).2.num 0 1099511627775 5).2
      exact ⟨this.1, fun h1 => by rw [this.2 h1]⟩
    · have e := linesR_bad (n + 1) s h
      rw [linesO_bad (n + 1) s h]
      exact ⟨e.symm, fun h1 => absurd (by rw [e] at h1; exact h1) h⟩
theorem linesO_len (n : Nat) : ∀ s : RS, (linesO n s).1.length ≤ n := by
  induction n with
  | zero => intro s; simp [linesO]
  | succ n ih =>
    intro s
    unfold linesO
    split
    · simp only [List.length_cons]
      have := ih ((s.num 1 1099511627775 5).2.num 0 1099511627775 5).2
      omega
    · have := ih s; omega
theorem linesR_len (n : Nat) : ∀ s : RS, (linesR n s).1.length = n := by
  induction n with
  | zero => intro s; rfl
  | succ n ih => intro s; simp [linesR, ih]

/-- The head of an order that is read: currency, day, place, count; the place at which the count stands. -/
structure Head where
  cu : Int
  day : Int
  px : Int
  py : Int
  at_ : Nat
  n : Int
  s : RS
def headP (b : List UInt8) : Head :=
  let s0 := RS.start b
  let s1 := s0.num 0 1099511627775 5
  let s2 := s1.2.num 0 3652058 5
  let s3 := s2.2.num (-1099511627775) 1099511627775 5
  let s4 := s3.2.num (-1099511627775) 1099511627775 5
  let s5 := s4.2.num 0 100 3
  ⟨s1.1, s2.1, s3.1, s4.1, s4.2.at_, s5.1, s5.2⟩
/-- What reading an order gives: the order, the fault, its place. -/
def readP (b : List UInt8) : Ord × Int × Nat :=
  let h := headP b
  if h.s.fe = 0 ∧ h.n = 0 then (⟨0, 0, 0, 0, []⟩, 2, h.at_)
  else if (linesO h.n.toNat h.s).2.fin.1 ≠ 0 then (⟨0, 0, 0, 0, []⟩, (linesO h.n.toNat h.s).2.fin.1, (linesO h.n.toNat h.s).2.fin.2)
  else (⟨h.cu, h.day, h.px, h.py, (linesO h.n.toNat h.s).1⟩, 0, 0)
theorem head_n (b : List UInt8) : 0 ≤ (headP b).n ∧ (headP b).n ≤ 100 := RS.num_bd _ 0 100 3 (by decide) (by decide)
theorem fin_fe (s : RS) (h : s.fin.1 = 0) : s.fe = 0 := by
  unfold RS.fin at h
  split at h
  · simp at h
  · exact h
/-- The reference's reading comes to the same. -/
theorem readR (b : List UInt8) : readP b = 
    (let h := headP b
     if h.s.fe = 0 ∧ h.n = 0 then ((⟨0, 0, 0, 0, []⟩ : Ord), (2 : Int), h.at_)
     else if (linesR h.n.toNat h.s).2.fin.1 ≠ 0 then (⟨0, 0, 0, 0, []⟩, (linesR h.n.toNat h.s).2.fin.1, (linesR h.n.toNat h.s).2.fin.2)
     else (⟨h.cu, h.day, h.px, h.py, (linesR h.n.toNat h.s).1⟩, 0, 0)) := by
  unfold readP
  simp only
  obtain ⟨e1, e2⟩ := linesOR (headP b).n.toNat (headP b).s
  by_cases h0 : (headP b).s.fe = 0 ∧ (headP b).n = 0
  · rw [if_pos h0, if_pos h0]
  rw [if_neg h0, if_neg h0, e1]
  by_cases h1 : (linesR (headP b).n.toNat (headP b).s).2.fin.1 ≠ 0
  · rw [if_pos h1, if_pos h1]
  rw [if_neg h1, if_neg h1, e2 (fin_fe _ (by simpa using h1))]
/-- No fault has no place. -/
def RS.clean (s : RS) : Prop := s.fe = 0 → s.fa = 0
theorem RS.num_clean {s : RS} (h : s.clean) (lo hi above : Int) (ha : above ≠ 0) : (s.num lo hi above).2.clean := by
  unfold RS.num
  by_cases h0 : s.fe ≠ 0
  · rw [if_pos h0]; exact h
  rw [if_neg h0]
  simp only
  by_cases h1 : (getN s.b s.at_).fe ≠ 0
  · rw [if_pos h1]; exact fun h2 => absurd h2 h1
  rw [if_neg h1]
  by_cases h2 : hi < (getN s.b s.at_).n
  · rw [if_pos h2]; exact fun h3 => absurd h3 ha
  rw [if_neg h2]
  by_cases h3 : (getN s.b s.at_).n < lo
  · rw [if_pos h3]; exact fun h4 => absurd h4 (by show ¬ (5 : Int) = 0; decide)
  rw [if_neg h3]
  exact h
theorem linesR_clean (n : Nat) : ∀ s : RS, s.clean → (linesR n s).2.clean := by
  induction n with
  | zero => intro s h; exact h
  | succ n ih => intro s h; exact ih _ (RS.num_clean (RS.num_clean h _ _ _ (by decide)) _ _ _ (by decide))
theorem head_clean (b : List UInt8) : (headP b).s.clean :=
  RS.num_clean (RS.num_clean (RS.num_clean (RS.num_clean (RS.num_clean (s := RS.start b) (fun _ => rfl) _ _ _ (by decide)) _ _ _ (by decide)) _ _ _ (by decide)) _ _ _ (by decide)) _ _ _ (by decide)
theorem fin_clean {s : RS} (h : s.clean) (h0 : s.fin.1 = 0) : s.fin.2 = 0 := by
  unfold RS.fin at h0 ⊢
  split at h0
  · simp at h0
  · rename_i hc
    rw [if_neg hc]
    exact h h0
end Go.Proofs.YtokakpbpenndlaaGreatDoor

set_option linter.unusedVariables false
namespace Go.Proofs.YtokakpbpenndlaaGreatDoor
open Go.RowKit

theorem within_any (n lo hi : Int) (w : World) :
    Calls Tryz.prog 169 #[.int .i64 n, .int .i64 lo, .int .i64 hi] w fun e w' => e = .returned (.bool (win n lo hi)) ∧ w = w' := by
  unfold win
  by_cases h1 : lo ≤ n <;> by_cases h2 : n ≤ hi
  all_goals
    go_enter Tryz.func169, Tryz.ntmps169
    go_wp2
    go_ret
    exact ⟨ret_bool (by simp [h1, h2]), rfl⟩
def Ln.cells (l : Ln) : List Value := [.int .i64 l.c, .int .i64 l.a]
def lnCells (ls : List Ln) : List Value := ls.flatMap Ln.cells
theorem lnCells_at (ls : List Ln) : ∀ (k : Nat) (h : k < ls.length), (lnCells ls)[k * 2]? = some (.int .i64 ls[k].c) ∧ (lnCells ls)[k * 2 + 1]? = some (.int .i64 ls[k].a) := by
  induction ls with
  | nil => intro k h; simp at h
  | cons l r ih =>
    intro k h
    cases k with
    | zero => simp [lnCells, Ln.cells]
    | succ k =>
      have := ih k (by simpa using h)
      simpa [lnCells, Ln.cells, Nat.add_mul, Nat.add_assoc] using this

end Go.Proofs.YtokakpbpenndlaaGreatDoor
