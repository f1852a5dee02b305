/-
  Plain: jurisdictions; the first fault of a list.
-/
import Derived.Test.YtokakpbpenndlaaDoorRp02
import Derived.Test.YtokakpbpenndlaaDoorRp01
set_option linter.unusedVariables false
namespace Go.Proofs.YtokakpbpenndlaaDoor

/-- A jurisdiction: its number, its kind, what it is a part of, how often it is filed for. -/
structure Jur where
  id : Int
  k : Int
  par : Int
  f : Int
deriving DecidableEq
def Jur.zero : Jur := ⟨0, 0, 0, 0⟩
/-- The first index at which there is a fault, and the fault. -/
def firstE (f : Nat → Int) : Nat → Nat → Int × Nat
  | 0, _ => (0, 0)
  | n + 1, i => if f i = 0 then firstE f n (i + 1) else (f i, i)
theorem firstE_none {f : Nat → Int} : ∀ n i, (∀ j, i ≤ j → j < i + n → f j = 0) → firstE f n i = (0, 0)
  | 0, _, _ => rfl
  | n + 1, i, h => by
    unfold firstE
    rw [if_pos (h i (by omega) (by omega))]
    exact firstE_none n (i + 1) fun j h1 h2 => h j (by omega) (by omega)
theorem firstE_at {f : Nat → Int} {k : Nat} : ∀ n i, i ≤ k → k < i + n → (∀ j, i ≤ j → j < k → f j = 0) → f k ≠ 0 → firstE f n i = (f k, k)
  | 0, _, h1, h2, _, _ => by omega
  | n + 1, i, h1, h2, h, hk => by
    unfold firstE
    by_cases e : i = k
    · subst e
      rw [if_neg hk]
    · rw [if_pos (h i (by omega) (by omega))]
      exact firstE_at n (i + 1) (by omega) (by omega) (fun j h1 h2 => h j (by omega) h2) hk
theorem firstE_ok {f : Nat → Int} : ∀ n i, (firstE f n i).1 = 0 → firstE f n i = (0, 0) ∧ ∀ j, i ≤ j → j < i + n → f j = 0
  | 0, i, _ => ⟨rfl, fun j h1 h2 => by omega⟩
  | n + 1, i, h => by
    unfold firstE at h ⊢
    by_cases e : f i = 0
    · rw [if_pos e] at h ⊢
      obtain ⟨a, b⟩ := firstE_ok n (i + 1) h
      refine ⟨a, fun j h1 h2 => ?_⟩
      by_cases hj : j = i
      · rw [hj]; exact e
      · exact b j (by omega) (by omega)
    · rw [if_neg e] at h
      exact absurd h e
def four (n : Int) : Bool := decide (1 ≤ n) && decide (n ≤ 4)
/-- The place of a number; -1: it is not there. -/
def placeJ : List Jur → Int → Int
  | [], _ => -1
  | j :: l, id => if j.id = id then 0 else if placeJ l id < 0 then -1 else placeJ l id + 1
def findJ (l : List Jur) (id : Int) : Option Jur := l.find? fun j => decide (j.id = id)
/-- What is wrong with a jurisdiction by itself and the one ahead of it. -/
def jErr1 (l : List Jur) (i : Nat) : Int :=
  if (l.getD i Jur.zero).id < 1 ∨ 1099511627775 < (l.getD i Jur.zero).id then 5
  else if 0 < i ∧ (l.getD i Jur.zero).id ≤ (l.getD (i - 1) Jur.zero).id then 7
  else if four (l.getD i Jur.zero).k = false ∨ four (l.getD i Jur.zero).f = false then 2 else 0
/-- What is wrong with its parent. -/
def parErr (l : List Jur) (j : Jur) : Int :=
  if (j.k = 1 ∧ j.par ≠ 0) ∨ ((j.k = 2 ∨ j.k = 3) ∧ j.par = 0) then 9
  else if j.par = 0 then 0
  else match findJ l j.par with
    | none => 6
    | some p => if j.k ≤ p.k then 9 else 0
def jErr2 (l : List Jur) (i : Nat) : Int := parErr l (l.getD i Jur.zero)
/-- P20.1. -/
def checkJ (l : List Jur) : Int × Nat :=
  if 64 < l.length then (3, 0)
  else if (firstE (jErr1 l) l.length 0).1 = 0 then firstE (jErr2 l) l.length 0 else firstE (jErr1 l) l.length 0
/-- What a list that may be is. -/
theorem checkJ_ok {l : List Jur} (h : (checkJ l).1 = 0) : l.length ≤ 64 ∧ (∀ i, i < l.length → (1 ≤ (l.getD i Jur.zero).id ∧ (l.getD i Jur.zero).id ≤ 1099511627775) ∧ (1 ≤ (l.getD i Jur.zero).f ∧ (l.getD i Jur.zero).f ≤ 4)) ∧ (∀ i, i + 1 < l.length → (l.getD i Jur.zero).id < (l.getD (i + 1) Jur.zero).id) := by
  unfold checkJ at h
  by_cases hl : 64 < l.length
  · rw [if_pos hl] at h; cases h
  rw [if_neg hl] at h
  by_cases h1 : (firstE (jErr1 l) l.length 0).1 = 0
  · obtain ⟨_, hz⟩ := firstE_ok _ _ h1
    have key : ∀ i, i < l.length → ¬ ((l.getD i Jur.zero).id < 1 ∨ 1099511627775 < (l.getD i Jur.zero).id) ∧ ¬ (0 < i ∧ (l.getD i Jur.zero).id ≤ (l.getD (i - 1) Jur.zero).id) ∧ ¬ (four (l.getD i Jur.zero).k = false ∨ four (l.getD i Jur.zero).f = false) := by
      intro i hi
      have := hz i (by omega) (by omega)
      unfold jErr1 at this
      refine ⟨fun c => ?_, fun c => ?_, fun c => ?_⟩
      · rw [if_pos c] at this; cases this
      · by_cases c0 : (l.getD i Jur.zero).id < 1 ∨ 1099511627775 < (l.getD i Jur.zero).id
        · rw [if_pos c0] at this; cases this
        · rw [if_neg c0, if_pos c] at this; cases this
      · by_cases c0 : (l.getD i Jur.zero).id < 1 ∨ 1099511627775 < (l.getD i Jur.zero).id
        · rw [if_pos c0] at this; cases this
        · rw [if_neg c0] at this
          by_cases c1 : 0 < i ∧ (l.getD i Jur.zero).id ≤ (l.getD (i - 1) Jur.zero).id
          · rw [if_pos c1] at this; cases this
          · rw [if_neg c1, if_pos c] at this; cases this
    refine ⟨by omega, fun i hi => ?_, fun i hi => ?_⟩
    · obtain ⟨a, _, c⟩ := key i hi
      have cf : four (l.getD i Jur.zero).f = true := by
        cases hq : four (l.getD i Jur.zero).f
        · exact absurd (.inr hq) c
        · rfl
      unfold four at cf
      simp only [Bool.and_eq_true, decide_eq_true_eq] at cf
      exact ⟨by omega, cf⟩
    · obtain ⟨_, b, _⟩ := key (i + 1) hi
      rw [Nat.add_sub_cancel] at b
      omega
  · rw [if_neg h1] at h
    exact absurd h h1
theorem findJ_mem {l : List Jur} {id : Int} {j : Jur} (h : findJ l id = some j) : j ∈ l ∧ j.id = id := by
  unfold findJ at h
  exact ⟨List.mem_of_find?_eq_some h, by simpa using List.find?_some h⟩
/-- The place, and what is found there. -/
theorem placeJ_none {l : List Jur} {id : Int} (h : ∀ i, i < l.length → (l.getD i Jur.zero).id ≠ id) : placeJ l id = -1 ∧ findJ l id = none := by
  induction l with
  | nil => exact ⟨rfl, rfl⟩
  | cons j l ih =>
    have h0 : j.id ≠ id := h 0 (by simp)
    obtain ⟨a, b⟩ := ih fun i hi => by simpa using h (i + 1) (by simp; omega)
    constructor
    · unfold placeJ
      rw [if_neg h0, a]
      rfl
    · unfold findJ at b ⊢
      rw [List.find?_cons, b]
      simp [h0]
theorem placeJ_at {l : List Jur} {id : Int} {k : Nat} (hk : k < l.length) (h : ∀ i, i < k → (l.getD i Jur.zero).id ≠ id) (hi : (l.getD k Jur.zero).id = id) : placeJ l id = (k : Int) ∧ findJ l id = some (l.getD k Jur.zero) := by
  induction l generalizing k with
  | nil => simp at hk
  | cons j l ih =>
    cases k with
    | zero =>
      have h0 : j.id = id := hi
      constructor
      · unfold placeJ
        rw [if_pos h0]
        rfl
      · unfold findJ
        rw [List.find?_cons]
        simp [h0]
    | succ k =>
      have h0 : j.id ≠ id := h 0 (by omega)
      obtain ⟨a, b⟩ := ih (k := k) (by simpa using hk) (fun i hi => by simpa using h (i + 1) (by omega)) (by simpa using hi)
      constructor
      · unfold placeJ
        rw [if_neg h0, a, if_neg (by omega)]
        omega
      · unfold findJ at b ⊢
        rw [List.find?_cons]
        simp only [h0, decide_false]
        simpa using b
end Go.Proofs.YtokakpbpenndlaaDoor

set_option linter.unusedVariables false
namespace Go.Proofs.YtokakpbpenndlaaDoor

/-- The rank of a number: 0, -1, 1, -2, .. -/
def zig (n : Int) : Nat := if 0 ≤ n then (2 * n).toNat else (-2 * n - 1).toNat
def lebF : Nat → Nat → List UInt8
  | 0, _ => []
  | f + 1, r => if r < 128 then [UInt8.ofNat r] else UInt8.ofNat (r % 128 + 128) :: lebF f (r / 128)
/-- P5.1. -/
def putL (n : Int) : List UInt8 := lebF 10 (zig n)
theorem zig_lt (n : Int) (h1 : -9223372036854775808 ≤ n) (h2 : n ≤ 9223372036854775807) : zig n < 18446744073709551616 := by
  unfold zig; split <;> omega
theorem lebF_len (f : Nat) : ∀ r, (lebF f r).length ≤ f := by
  induction f with
  | zero => intro r; simp [lebF]
  | succ f ih =>
    intro r
    unfold lebF
    split
    · simp
    · simp; exact ih _
theorem putL_len (n : Int) : (putL n).length ≤ 10 := lebF_len 10 _
theorem lebF_small (f r : Nat) (h : r < 128) : lebF (f + 1) r = [UInt8.ofNat r] := by simp [lebF, h]
theorem lebF_big (f r : Nat) (h : 128 ≤ r) : lebF (f + 1) r = UInt8.ofNat (r % 128 + 128) :: lebF f (r / 128) := by
  simp [lebF]; omega

theorem zig_o (n : Int) (h1 : -9223372036854775808 ≤ n) (h2 : n ≤ 9223372036854775807) :
    bits BinOp.xor IntKind.u64 (IntKind.u64.wrap (RowKit.wrap64 (n * 2))) (IntKind.u64.wrap (n / 9223372036854775808)) = (zig n : Int) := by
  have e1 : IntKind.u64.wrap (RowKit.wrap64 (n * 2)) = (n * 2) % 18446744073709551616 := by rw [IntKind.wrap_u64]; unfold RowKit.wrap64; omega
  rw [e1, IntKind.wrap_u64]
  rw [u64_xor _ _ (by omega) (by omega) (by omega) (by omega)]
  unfold zig
  by_cases h : 0 ≤ n
  · rw [if_pos h, show n / 9223372036854775808 = 0 by omega, show ((0 : Int) % 18446744073709551616).toNat = 0 by omega, Nat.xor_zero]; omega
  · rw [if_neg h, show n / 9223372036854775808 = -1 by omega, show ((-1 : Int) % 18446744073709551616).toNat = 18446744073709551615 by omega]
    obtain ⟨m, hm⟩ := Int.eq_ofNat_of_zero_le (show 0 ≤ n * 2 % 18446744073709551616 by omega)
    rw [hm]
    have hlt : m < 2 ^ 64 := by omega
    have hx : m ^^^ (2 ^ 64 - 1) = 2 ^ 64 - 1 - m := by
      have := congrArg BitVec.toNat (BitVec.xor_allOnes (x := BitVec.ofNat 64 m))
      simp only [BitVec.toNat_xor, BitVec.toNat_allOnes, BitVec.toNat_not, BitVec.toNat_ofNat, Nat.mod_eq_of_lt hlt] at this
      exact this
    rw [Int.toNat_natCast, show (18446744073709551615 : Nat) = 2 ^ 64 - 1 by decide, hx]
    omega
theorem zig_r1 (n : Int) (h2 : n ≤ 9223372036854775807) (h : 0 ≤ n) : IntKind.u64.wrap (IntKind.u64.wrap n * 2) = (zig n : Int) := by
  rw [IntKind.wrap_u64, IntKind.wrap_u64]; unfold zig; rw [if_pos h]; omega
theorem zig_r2 (n : Int) (h1 : -9223372036854775808 ≤ n) (h : n < 0) : bits BinOp.xor IntKind.u64 IntKind.u64.max (IntKind.u64.wrap (IntKind.u64.wrap n * 2)) = (zig n : Int) := by
  have e1 : IntKind.u64.wrap (IntKind.u64.wrap n * 2) = (n * 2) % 18446744073709551616 := by rw [IntKind.wrap_u64, IntKind.wrap_u64]; omega
  have e2 : IntKind.u64.max = 18446744073709551615 := by decide
  rw [e1, e2]
  rw [u64_xor _ _ (by omega) (by omega) (by omega) (by omega)]
  unfold zig
  rw [if_neg (by omega), show ((18446744073709551615 : Int)).toNat = 18446744073709551615 by omega]
  obtain ⟨m, hm⟩ := Int.eq_ofNat_of_zero_le (show 0 ≤ n * 2 % 18446744073709551616 by omega)
  rw [hm]
  have hlt : m < 2 ^ 64 := by omega
  have hx : m ^^^ (2 ^ 64 - 1) = 2 ^ 64 - 1 - m := by
    have := congrArg BitVec.toNat (BitVec.xor_allOnes (x := BitVec.ofNat 64 m))
    simp only [BitVec.toNat_xor, BitVec.toNat_allOnes, BitVec.toNat_not, BitVec.toNat_ofNat, Nat.mod_eq_of_lt hlt] at this
    exact this
  rw [Int.toNat_natCast, show (18446744073709551615 : Nat) = 2 ^ 64 - 1 by decide, Nat.xor_comm, hx]
  omega

/-- Bytes as cells. -/
def bV (l : List UInt8) : List Value := l.map fun b => .int .u8 (b.toNat : Int)
theorem bV_len (l : List UInt8) : (bV l).length = l.length := by simp [bV]
theorem bV_app (a b : List UInt8) : bV (a ++ b) = bV a ++ bV b := by simp [bV]
theorem bV_one (l : List UInt8) : ∀ u ∈ bV l, u.oneCell' = true := by
  intro u hu
  simp only [bV, List.mem_map] at hu
  obtain ⟨b, _, rfl⟩ := hu
  rfl
def u8P (u : Value) : Prop := ∃ n : Int, u = .int .u8 n
theorem u8z : ∀ u ∈ (Value.int .u8 0).cells.toList, u8P u := by intro u hu; simp [Value.cells] at hu; exact ⟨0, hu⟩
theorem u8b (l : List UInt8) : ∀ u ∈ bV l, u8P u := by
  intro u hu
  simp only [bV, List.mem_map] at hu
  obtain ⟨b, _, rfl⟩ := hu
  exact ⟨_, rfl⟩
theorem u8bb (a b : List UInt8) : ∀ u ∈ bV a ++ bV b, u8P u := by rw [← bV_app]; exact u8b _
theorem u8b1 (a : List UInt8) (c : Int) : ∀ u ∈ bV a ++ (#[Value.int .u8 c] : Array Value).toList, u8P u := by
  intro u hu
  rcases List.mem_append.1 hu with hu | hu
  · exact u8b a u hu
  · simp at hu; exact ⟨c, hu⟩
theorem byte_lo (r : Nat) (h : r < 128) : IntKind.u8.wrap (r : Int) = ((UInt8.ofNat r).toNat : Int) := by
  rw [IntKind.wrap_u8]; simp
theorem byte_o (r : Nat) : bits BinOp.or IntKind.u8 (IntKind.u8.wrap (r : Int)) 128 = ((UInt8.ofNat (r % 128 + 128)).toNat : Int) := by
  rw [IntKind.wrap_u8, u8_or _ _ (by omega) (by omega) (by omega) (by omega)]
  have h : ∀ x : Fin 256, x.val ||| 128 = x.val % 128 + 128 := by decide +kernel
  have hx := h ⟨((r : Int) % 256).toNat, by omega⟩
  simp only at hx
  rw [show ((128 : Int)).toNat = 128 by rfl, hx]
  simp; omega
theorem byte_o' (r : Nat) : bits BinOp.or IntKind.u8 ((r : Int) % 256) 128 = ((UInt8.ofNat (r % 128 + 128)).toNat : Int) := by rw [← byte_o, IntKind.wrap_u8]
theorem byte_r' (r : Nat) : (r : Int) % 128 + 128 = ((UInt8.ofNat (r % 128 + 128)).toNat : Int) := by simp; omega
theorem u64_div (r : Nat) (h : r < 18446744073709551616) : IntKind.u64.wrap ((r : Int) / 128) = ((r / 128 : Nat) : Int) := by rw [IntKind.wrap_u64]; omega
theorem byte_o2 (r : Nat) : ((r : Int) % 128 + 128) % 256 = ((UInt8.ofNat (r % 128 + 128)).toNat : Int) := by simp
theorem byte_r (r : Nat) : IntKind.u8.wrap (IntKind.u8.wrap ((r : Int) % 128) + 128) = ((UInt8.ofNat (r % 128 + 128)).toNat : Int) := by
  rw [IntKind.wrap_u8, IntKind.wrap_u8]; simp

def putsL (l : List Int) : List UInt8 := l.flatMap putL
theorem putsL_snoc (l : List Int) (k : Nat) (h : k < l.length) : putsL (l.take (k + 1)) = putsL (l.take k) ++ putL l[k] := by
  rw [List.take_succ_eq_append_getElem h]; unfold putsL; rw [List.flatMap_append, List.flatMap_cons, List.flatMap_nil, List.append_nil]
theorem putsL_app (a b : List Int) : putsL (a ++ b) = putsL a ++ putsL b := by simp [putsL]
theorem putsL_len (l : List Int) : (putsL l).length ≤ 10 * l.length := by
  induction l with
  | nil => simp [putsL]
  | cons a l ih => have := putL_len a; simp only [putsL, List.flatMap_cons, List.length_append, List.length_cons] at *; omega
def i64 (n : Int) : Prop := -9223372036854775808 ≤ n ∧ n ≤ 9223372036854775807
end Go.Proofs.YtokakpbpenndlaaDoor
