/-
  A book filled with entries.
-/
import Derived.Test.YtokakpbpenndlaaGreatDoorRs22
import Derived.Test.YtokakpbpenndlaaGreatDoorRs12
import Derived.Test.YtokakpbpenndlaaGreatDoorRs02
set_option linter.unusedVariables false
namespace Go.Proofs.YtokakpbpenndlaaGreatDoor
open Go.RowKit Go.Maps

theorem put_mem_e {B : Bk} {e : Ent} : ∀ p ∈ (B.put e).1, p.e = e ∨ ∃ q ∈ B, q.e = p.e := by
  have hsn : ∀ (B' : Bk) (x : Kp), x.e = e → (∀ p ∈ B', ∃ q ∈ B, q.e = p.e) → ∀ p ∈ B' ++ [x], p.e = e ∨ ∃ q ∈ B, q.e = p.e := by
    intro B' x hx hB p hp
    rcases List.mem_append.1 hp with hp | hp
    · exact .inr (hB p hp)
    · rw [List.mem_singleton.1 hp]; exact .inl hx
  have hupd : ∀ (i : Int) (f : Kp → Kp), (∀ x, (f x).e = x.e) → ∀ p ∈ Bk.upd B i f, ∃ q ∈ B, q.e = p.e := by
    intro i f hf p hp
    unfold Bk.upd at hp
    obtain ⟨y, hy, rfl⟩ := List.mem_map.1 hp
    refine ⟨y, hy, ?_⟩
    split
    · rw [hf]
    · rfl
  unfold Bk.put
  by_cases h1 : e.k = 1
  · rw [if_pos h1]; exact hsn _ _ rfl fun p hp => ⟨p, hp, rfl⟩
  rw [if_neg h1]
  by_cases h2 : e.k = 2
  · rw [if_pos h2]
    cases B.sale e.of_ with
    | none => exact hsn _ _ rfl fun p hp => ⟨p, hp, rfl⟩
    | some s => exact hsn _ _ rfl (hupd _ _ fun _ => rfl)
  rw [if_neg h2]
  by_cases h3 : e.k = 3
  · rw [if_pos h3]; exact hsn _ _ rfl (hupd _ _ fun _ => rfl)
  rw [if_neg h3]; exact hsn _ _ rfl fun p hp => ⟨p, hp, rfl⟩
theorem add_mem_e {B : Bk} {e : Ent} : ∀ p ∈ (B.add e).1, p.e = e ∨ ∃ q ∈ B, q.e = p.e := by
  by_cases hm : B.may e = 0
  · have : (B.add e).1 = (B.put e).1 := by unfold Bk.add; rw [if_pos hm]
    rw [this]; exact put_mem_e
  · rw [add_no hm]; exact fun p hp => .inr ⟨p, hp, rfl⟩
theorem add_len_le (B : Bk) (e : Ent) : (B.add e).1.length ≤ B.length + 1 := by
  by_cases hm : B.may e = 0
  · obtain ⟨_, _, h⟩ := add_yes hm; omega
  · rw [add_no hm]; omega
theorem evCells_six' {w W : World} {A : Option Addr} {l : List EV} {k : Nat} (hr : Reads w w.heap.size 6 A l.length (evCells l)) (hk : k < l.length) : ∃ g off, A = some ⟨g, off, none⟩ ∧ g < w.heap.size ∧ ∀ W, Ext w W → W.cell? ⟨g, off + k * 6, none⟩ = some (.int .i64 l[k].e.k) ∧ W.cell? ⟨g, off + k * 6 + 1, none⟩ = some (.int .i64 l[k].e.id) ∧ W.cell? ⟨g, off + k * 6 + 2, none⟩ = some (.int .i64 l[k].e.of_) ∧
    W.cell? ⟨g, off + k * 6 + 3, none⟩ = some (.int .i64 l[k].e.day) ∧ W.cell? ⟨g, off + k * 6 + 4, none⟩ = some (.slice l[k].A l[k].e.am.length l[k].c) ∧ W.cell? ⟨g, off + k * 6 + 5, none⟩ = some (.slice l[k].A' l[k].e.tax.length l[k].c') := by
  obtain ⟨g, off, rfl, hg, hc⟩ := hr.cellAt hk
  obtain ⟨e1, e2, e3, e4, e5, e6⟩ := evCells_at l k hk
  refine ⟨g, off, rfl, hg, fun W hx => ?_⟩
  have hr' := hr.extB (Nat.le_refl _) hx
  obtain ⟨g', off', e, _, hc'⟩ := hr'.cellAt hk
  injection e with e
  injection e with ea eb _
  subst ea eb
  exact ⟨hc' _ _ e1, hc' _ _ e2, hc' _ _ e3, hc' _ _ e4, hc' _ _ e5, hc' _ _ e6⟩
/-- Where the filling stands. -/
def FilRel (w : World) (bb mb : Nat) (l : List EV) (v5 i : Value) (wr : World) : Prop :=
  ∃ (k : Nat) (v : Value) (M : BkM) (n : Int), k ≤ l.length ∧ i = .int .i64 (k : Int) ∧ v5 = .int .i64 n ∧ BookAt w wr bb mb v M ∧ Ext w wr ∧ M.b.inv ∧ M.b.small ∧ M.length ≤ k ∧ (∀ p ∈ M.b, p.e ∈ l.map EV.e)
end Go.Proofs.YtokakpbpenndlaaGreatDoor

set_option linter.unusedVariables false
namespace Go.Proofs.YtokakpbpenndlaaGreatDoor

/-- The number of a rank. -/
def unzig (r : Nat) : Int := if r % 2 = 0 then ((r / 2 : Nat) : Int) else -((r / 2 : Nat) : Int) - 1
theorem unzig_zig (n : Int) : unzig (zig n) = n := by
  unfold unzig zig
  split <;> split <;> omega
theorem zig_unzig (r : Nat) : zig (unzig r) = r := by
  unfold unzig zig
  split <;> split <;> omega

/-- What a reading gives: the number, the place behind it, the fault, its place. -/
structure Got where
  n : Int
  next : Nat
  fe : Int
  fa : Nat
deriving DecidableEq

/-- P5.2, from the i-th byte on: the bytes that are left, the rank so far. -/
def getGo (at_ : Nat) : List UInt8 → Nat → Nat → Got
  | [], i, _ => ⟨0, 0, 4, at_ + i⟩
  | c :: r, i, rank =>
    if i = 9 ∧ 1 < c.toNat then ⟨0, 0, 5, at_ + i⟩
    else if 0 < i ∧ c.toNat = 0 then ⟨0, 0, 4, at_ + i⟩
    else if c.toNat < 128 then ⟨unzig (rank + c.toNat % 128 * 128 ^ i), at_ + i + 1, 0, 0⟩
    else getGo at_ r (i + 1) (rank + c.toNat % 128 * 128 ^ i)
def getN (b : List UInt8) (at_ : Nat) : Got := getGo at_ (b.drop at_) 0 0

theorem getGo_cons (at_ : Nat) (c : UInt8) (l : List UInt8) (i r : Nat) :
    ((i = 9 ∧ 1 < c.toNat) ∧ getGo at_ (c :: l) i r = ⟨0, 0, 5, at_ + i⟩) ∨
    (¬ (i = 9 ∧ 1 < c.toNat) ∧ (0 < i ∧ c.toNat = 0) ∧ getGo at_ (c :: l) i r = ⟨0, 0, 4, at_ + i⟩) ∨
    (¬ (i = 9 ∧ 1 < c.toNat) ∧ ¬ (0 < i ∧ c.toNat = 0) ∧ c.toNat < 128 ∧ getGo at_ (c :: l) i r = ⟨unzig (r + c.toNat % 128 * 128 ^ i), at_ + i + 1, 0, 0⟩) ∨
    (¬ (i = 9 ∧ 1 < c.toNat) ∧ ¬ (0 < i ∧ c.toNat = 0) ∧ 128 ≤ c.toNat ∧ getGo at_ (c :: l) i r = getGo at_ l (i + 1) (r + c.toNat % 128 * 128 ^ i)) := by
  by_cases h1 : i = 9 ∧ 1 < c.toNat
  · exact .inl ⟨h1, by rw [getGo, if_pos h1]⟩
  by_cases h2 : 0 < i ∧ c.toNat = 0
  · exact .inr (.inl ⟨h1, h2, by rw [getGo, if_neg h1, if_pos h2]⟩)
  by_cases h3 : c.toNat < 128
  · exact .inr (.inr (.inl ⟨h1, h2, h3, by rw [getGo, if_neg h1, if_neg h2, if_pos h3]⟩))
  · exact .inr (.inr (.inr ⟨h1, h2, by omega, by rw [getGo, if_neg h1, if_neg h2, if_neg h3]⟩))
theorem getGo_fe (at_ : Nat) (l : List UInt8) : ∀ i rank, (getGo at_ l i rank).fe = 0 ∨ (getGo at_ l i rank).fe = 4 ∨ (getGo at_ l i rank).fe = 5 := by
  induction l with
  | nil => intro i r; simp [getGo]
  | cons c l ih =>
    intro i r
    rcases getGo_cons at_ c l i r with ⟨_, e⟩ | ⟨_, _, e⟩ | ⟨_, _, _, e⟩ | ⟨_, _, _, e⟩ <;> rw [e]
    · simp
    · simp
    · simp
    · exact ih _ _
theorem getGo_next (at_ : Nat) (l : List UInt8) : ∀ i rank, (getGo at_ l i rank).fe = 0 → at_ + i < (getGo at_ l i rank).next ∧ (getGo at_ l i rank).next ≤ at_ + i + l.length := by
  induction l with
  | nil => intro i r h; simp [getGo] at h
  | cons c l ih =>
    intro i r h
    rcases getGo_cons at_ c l i r with ⟨_, e⟩ | ⟨_, _, e⟩ | ⟨_, _, _, e⟩ | ⟨_, _, _, e⟩ <;> rw [e] at h ⊢
    · simp at h
    · simp at h
    · simp
    · have := ih _ _ h
      simp only [List.length_cons]; omega
theorem getGo_bad (at_ : Nat) (l : List UInt8) : ∀ i rank, (getGo at_ l i rank).fe ≠ 0 → (getGo at_ l i rank).n = 0 ∧ (getGo at_ l i rank).next = 0 ∧ (getGo at_ l i rank).fa ≤ at_ + i + l.length := by
  induction l with
  | nil => intro i r h; simp [getGo]
  | cons c l ih =>
    intro i r h
    rcases getGo_cons at_ c l i r with ⟨_, e⟩ | ⟨_, _, e⟩ | ⟨_, _, _, e⟩ | ⟨_, _, _, e⟩ <;> rw [e] at h ⊢
    · simp
    · simp
    · simp at h
    · have := ih _ _ h
      simp only [List.length_cons]; omega
theorem getGo_ok (at_ : Nat) (l : List UInt8) : ∀ i rank, (getGo at_ l i rank).fe = 0 → (getGo at_ l i rank).fa = 0 := by
  induction l with
  | nil => intro i r h; simp [getGo] at h
  | cons c l ih =>
    intro i r h
    rcases getGo_cons at_ c l i r with ⟨_, e⟩ | ⟨_, _, e⟩ | ⟨_, _, _, e⟩ | ⟨_, _, _, e⟩ <;> rw [e] at h ⊢
    · simp at h
    · simp at h
    · exact ih _ _ h

/-- A reader: its bytes, its place, its fault. -/
structure RS where
  b : List UInt8
  at_ : Nat
  fe : Int
  fa : Nat
deriving DecidableEq
def RS.start (b : List UInt8) : RS := ⟨b, 0, 0, 0⟩
/-- P5.4: a number from low to high; above: the error, if it is above. -/
def RS.num (s : RS) (lo hi above : Int) : Int × RS :=
  if s.fe ≠ 0 then (0, s) else
    let g := getN s.b s.at_
    if g.fe ≠ 0 then (0, { s with fe := g.fe, fa := g.fa })
    else if hi < g.n then (0, { s with fe := above, fa := s.at_ })
    else if g.n < lo then (0, { s with fe := 5, fa := s.at_ })
    else (g.n, { s with at_ := g.next })
def RS.int (s : RS) (lo hi : Int) : Int × RS := s.num lo hi 5
def RS.count (s : RS) (most : Int) : Int × RS := s.num 0 most 3
/-- The fault at the end: its number, its place. -/
def RS.fin (s : RS) : Int × Nat := if s.fe = 0 ∧ s.at_ < s.b.length then (4, s.at_) else (s.fe, s.fa)
/-- A reader that stands within its bytes. -/
def RS.ok (s : RS) : Prop := s.at_ ≤ s.b.length ∧ s.fa ≤ s.b.length
theorem RS.num_ok {s : RS} (h : s.ok) (lo hi above : Int) : (s.num lo hi above).2.ok ∧ (s.num lo hi above).2.b = s.b := by
  unfold RS.num
  by_cases h0 : s.fe ≠ 0
  · rw [if_pos h0]; exact ⟨h, rfl⟩
  rw [if_neg h0]
  have hd : (s.b.drop s.at_).length = s.b.length - s.at_ := List.length_drop ..
  have h1 := h.1
  simp only
  by_cases h2 : (getN s.b s.at_).fe ≠ 0
  · rw [if_pos h2]
    have := getGo_bad s.at_ (s.b.drop s.at_) 0 0 h2
    rw [hd] at this
    exact ⟨⟨h.1, by show (getN s.b s.at_).fa ≤ s.b.length; unfold getN; omega⟩, rfl⟩
  rw [if_neg h2]
  split
  · exact ⟨⟨h.1, h.1⟩, rfl⟩
  split
  · exact ⟨⟨h.1, h.1⟩, rfl⟩
  · have := getGo_next s.at_ (s.b.drop s.at_) 0 0 (by simpa [getN] using h2)
    rw [hd] at this
    exact ⟨⟨by show (getN s.b s.at_).next ≤ s.b.length; unfold getN; omega, h.2⟩, rfl⟩
theorem RS.num_bd (s : RS) (lo hi above : Int) (h : lo ≤ 0) (h' : 0 ≤ hi) : lo ≤ (s.num lo hi above).1 ∧ (s.num lo hi above).1 ≤ hi := by
  unfold RS.num
  by_cases h0 : s.fe ≠ 0
  · rw [if_pos h0]; exact ⟨h, h'⟩
  rw [if_neg h0]
  simp only
  repeat' split
  all_goals simp only
  all_goals omega
theorem RS.num_sticky {s : RS} (h : s.fe ≠ 0) (lo hi above : Int) : s.num lo hi above = (0, s) := by unfold RS.num; rw [if_pos h]

theorem or_add (r m k : Nat) (h : r < 128 ^ k) : r ||| (m * 128 ^ k) = r + m * 128 ^ k := by
  have e : (128 : Nat) ^ k = 2 ^ (7 * k) := by rw [Nat.pow_mul]
  rw [e] at h ⊢
  rw [Nat.or_comm, ← Nat.shiftLeft_eq, ← Nat.shiftLeft_add_eq_or_of_lt h, Nat.add_comm, Nat.shiftLeft_eq]
theorem rank_lt (r c k : Nat) (h : r < 128 ^ k) (hk : k ≤ 8) : r + c % 128 * 128 ^ k < 128 ^ (k + 1) := by
  have hp : 0 < 128 ^ k := Nat.pow_pos (by decide)
  have : c % 128 * 128 ^ k ≤ 127 * 128 ^ k := Nat.mul_le_mul_right _ (by omega)
  rw [Nat.pow_succ]
  omega
theorem pow_le8 (k : Nat) (hk : k ≤ 8) : 128 ^ (k + 1) ≤ 9223372036854775808 := by
  have := Nat.pow_le_pow_right (show 0 < 128 by decide) (show k + 1 ≤ 9 by omega)
  simpa using this
theorem rank_o (r c k : Nat) (h : r < 128 ^ k) (hc : c < 256) (hk : k ≤ 8) :
    bits BinOp.or IntKind.u64 (r : Int) (IntKind.u64.wrap (IntKind.u64.wrap (bits BinOp.andNot IntKind.u8 (c : Int) 128) * 2 ^ (7 * k))) = ((r + c % 128 * 128 ^ k : Nat) : Int) := by
  have h1 := rank_lt r c k h hk
  have h2 := pow_le8 k hk
  have e1 : bits BinOp.andNot IntKind.u8 (c : Int) 128 = ((c % 128 : Nat) : Int) := by
    rw [u8_andNot _ _ (by omega) (by omega) (by omega) (by omega)]
    have hh : ∀ x : Fin 256, x.val &&& (255 - 128) = x.val % 128 := by decide +kernel
    have := hh ⟨c, hc⟩
    simp only at this
    rw [Int.toNat_natCast, show ((128 : Int)).toNat = 128 by rfl, this]
  rw [e1]
  have e2 : IntKind.u64.wrap ((c % 128 : Nat) : Int) = ((c % 128 : Nat) : Int) := by rw [IntKind.wrap_u64]; omega
  rw [e2]
  have e3 : ((c % 128 : Nat) : Int) * 2 ^ (7 * k) = ((c % 128 * 128 ^ k : Nat) : Int) := by
    rw [show (128 : Nat) ^ k = 2 ^ (7 * k) by rw [Nat.pow_mul]]
    simp
  rw [e3]
  have e4 : IntKind.u64.wrap ((c % 128 * 128 ^ k : Nat) : Int) = ((c % 128 * 128 ^ k : Nat) : Int) := by rw [IntKind.wrap_u64]; omega
  rw [e4, u64_or_nat _ _ (by omega) (by omega), or_add _ _ _ h]

theorem xor_i64 (a : Nat) (ha : a < 9223372036854775808) (z : Int) (hz : z = 0 ∨ z = -1) : bits BinOp.xor IntKind.i64 (a : Int) z = if z = 0 then (a : Int) else -(a : Int) - 1 := by
  show IntKind.i64.wrap ((BitVec.ofInt 64 (a : Int) ^^^ BitVec.ofInt 64 z).toNat : Int) = _
  have h1 : (BitVec.ofInt 64 (a : Int)).toNat = a := by rw [BitVec.ofInt_natCast, BitVec.toNat_ofNat]; exact Nat.mod_eq_of_lt (by omega)
  rcases hz with rfl | rfl
  · rw [if_pos rfl, show BitVec.ofInt 64 0 = 0#64 from rfl, BitVec.xor_zero, h1, IntKind.wrap_i64]; omega
  · rw [if_neg (by decide), show BitVec.ofInt 64 (-1) = BitVec.allOnes 64 from rfl, BitVec.xor_allOnes, BitVec.toNat_not, h1, IntKind.wrap_i64]; omega
theorem unz_o (X : Int) (R : Nat) (hX : X = (R : Int)) (hR : R < 18446744073709551616) :
    bits BinOp.xor IntKind.i64 (RowKit.wrap64 (X / 2)) (RowKit.wrap64 (-RowKit.wrap64 (bits BinOp.and IntKind.u64 X 1))) = unzig R := by
  subst hX
  have e0 : bits BinOp.and IntKind.u64 (R : Int) 1 = (R : Int) % 2 := by
    have := u64_and_nat R 1 hR (by decide)
    rw [Nat.and_one_is_mod] at this
    simpa using this
  rw [e0]
  have e1 : RowKit.wrap64 ((R : Int) / 2) = ((R / 2 : Nat) : Int) := by unfold RowKit.wrap64; omega
  have e2 : RowKit.wrap64 (-RowKit.wrap64 ((R : Int) % 2)) = -((R : Int) % 2) := by unfold RowKit.wrap64; omega
  rw [e1, e2, xor_i64 _ (by omega) _ (by omega)]
  unfold unzig
  split <;> split <;> omega
theorem rank_9 (r c : Nat) (h : r < 128 ^ 9) (hc : c ≤ 1) :
    bits BinOp.or IntKind.u64 (r : Int) (IntKind.u64.wrap (IntKind.u64.wrap (bits BinOp.andNot IntKind.u8 (c : Int) 128) * 9223372036854775808)) = ((r + c % 128 * 128 ^ 9 : Nat) : Int) := by
  have e1 : bits BinOp.andNot IntKind.u8 (c : Int) 128 = (c : Int) := by
    have hh : ∀ x : Fin 2, bits BinOp.andNot IntKind.u8 ((x.val : Nat) : Int) 128 = (x.val : Int) := by decide +kernel
    exact hh ⟨c, by omega⟩
  have e3 : IntKind.u64.wrap (c : Int) = c := by rw [IntKind.wrap_u64]; omega
  rw [e1, e3, IntKind.wrap_u64]
  have e2 : (c : Int) * 9223372036854775808 % 18446744073709551616 = ((c * 128 ^ 9 : Nat) : Int) := by
    have : (128 : Nat) ^ 9 = 9223372036854775808 := by decide
    rw [this]; omega
  have h9 : (128 : Nat) ^ 9 = 9223372036854775808 := by decide
  rw [e2, u64_or_nat _ _ (by omega) (by rw [h9]; omega), or_add _ _ _ h, show c % 128 = c by omega]
theorem rank_lt9 (r c : Nat) (h : r < 128 ^ 9) (hc : c ≤ 1) : r + c % 128 * 128 ^ 9 < 18446744073709551616 := by
  have h9 : (128 : Nat) ^ 9 = 9223372036854775808 := by decide
  rw [h9] at h ⊢; omega
theorem rank_lt8 (r c k : Nat) (h : r < 128 ^ k) (hk : k ≤ 8) : r + c % 128 * 128 ^ k < 18446744073709551616 := by
  have := rank_lt r c k h hk
  have := pow_le8 k hk
  omega

theorem rank_r (r c k : Nat) (h : r < 128 ^ k) (hk : k ≤ 8) :
    bits BinOp.or IntKind.u64 (r : Int) (IntKind.u64.wrap ((c : Int) % 128 * 2 ^ (7 * k))) = ((r + c % 128 * 128 ^ k : Nat) : Int) := by
  have h1 := rank_lt r c k h hk
  have h2 := pow_le8 k hk
  have e3 : (c : Int) % 128 * 2 ^ (7 * k) = ((c % 128 * 128 ^ k : Nat) : Int) := by
    rw [show (128 : Nat) ^ k = 2 ^ (7 * k) by rw [Nat.pow_mul]]
    simp
  rw [e3]
  have e4 : IntKind.u64.wrap ((c % 128 * 128 ^ k : Nat) : Int) = ((c % 128 * 128 ^ k : Nat) : Int) := by rw [IntKind.wrap_u64]; omega
  rw [e4, u64_or_nat _ _ (by omega) (by omega), or_add _ _ _ h]
theorem rank_r9 (r c : Nat) (h : r < 128 ^ 9) (hc : c ≤ 1) :
    bits BinOp.or IntKind.u64 (r : Int) ((c : Int) % 128 * 9223372036854775808) = ((r + c % 128 * 128 ^ 9 : Nat) : Int) := by
  have h9 : (128 : Nat) ^ 9 = 9223372036854775808 := by decide
  have e2 : (c : Int) % 128 * 9223372036854775808 = ((c % 128 * 128 ^ 9 : Nat) : Int) := by rw [h9]; omega
  rw [e2, u64_or_nat _ _ (by omega) (by rw [h9]; omega), or_add _ _ _ h]
theorem unz_even (X : Int) (R : Nat) (hX : X = (R : Int)) (hR : R < 18446744073709551616) (h : (X.tmod 2 == 1) = false) : RowKit.wrap64 (X / 2) = unzig R := by
  subst hX
  rw [beq_eq_false_iff_ne, Int.tmod_eq_emod_of_nonneg (by omega)] at h
  unfold unzig RowKit.wrap64
  split <;> omega
theorem unz_odd (X : Int) (R : Nat) (hX : X = (R : Int)) (hR : R < 18446744073709551616) (h : (X.tmod 2 == 1) = true) : bits BinOp.xor IntKind.i64 (-1) (RowKit.wrap64 (X / 2)) = unzig R := by
  subst hX
  rw [beq_iff_eq, Int.tmod_eq_emod_of_nonneg (by omega)] at h
  have e1 : RowKit.wrap64 ((R : Int) / 2) = ((R / 2 : Nat) : Int) := by unfold RowKit.wrap64; omega
  have hc : bits BinOp.xor IntKind.i64 (-1) ((R / 2 : Nat) : Int) = bits BinOp.xor IntKind.i64 ((R / 2 : Nat) : Int) (-1) := by
    show IntKind.i64.wrap ((BitVec.ofInt 64 _ ^^^ BitVec.ofInt 64 _).toNat : Int) = IntKind.i64.wrap ((BitVec.ofInt 64 _ ^^^ BitVec.ofInt 64 _).toNat : Int)
    rw [BitVec.xor_comm]
  rw [e1, hc, xor_i64 _ (by omega) _ (.inr rfl)]
  unfold unzig
  split <;> split <;> omega
end Go.Proofs.YtokakpbpenndlaaGreatDoor
