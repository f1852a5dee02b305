/-
  Plain: the tokens of a line, as the program's states tell them.
-/
import Derived.Test.YtjneghncmgjkeaaGreatDoorKa04
set_option linter.unusedVariables false
namespace Go.Proofs.YtjneghncmgjkeaaGreatDoor

abbrev Bs := List UInt8
/-- The class of a byte: none, space, letter, digit, joint, comma, hash. -/
def clsB (c : UInt8) : Nat :=
  if (65 ≤ c.toNat ∧ c.toNat ≤ 90) ∨ (97 ≤ c.toNat ∧ c.toNat ≤ 122) then 2
  else if 48 ≤ c.toNat ∧ c.toNat ≤ 57 then 3
  else if c.toNat = 45 ∨ c.toNat = 47 ∨ c.toNat = 39 ∨ c.toNat = 46 then 4
  else if c.toNat = 44 then 5
  else if c.toNat = 35 then 6
  else if c.toNat = 9 ∨ (32 ≤ c.toNat ∧ c.toNat ≤ 126) then 1
  else 0
structure Tok where
  k : Int
  t : Bs
deriving DecidableEq
def clsAt (s : Bs) (i : Nat) : Nat := (s[i]?.map clsB).getD 0
def sndAt (s : Bs) (i : Nat) : Bool := clsAt s i == 2 || clsAt s i == 3
def upB (c : UInt8) : UInt8 := if 97 ≤ c.toNat ∧ c.toNat ≤ 122 then c - 32 else c
def upS (s : Bs) : Bs := s.map upB
def digB (c : UInt8) : Bool := decide (48 ≤ c.toNat ∧ c.toNat ≤ 57)
def kindT (t : Bs) : Int := if clsAt t 0 = 2 then 1 else if t.all digB then 2 else 3
/-- Where the cutter stands: where the part begins; is it within one; what was cut. -/
structure CutSt where
  at_ : Nat
  inn : Bool
  out : List Tok
def tComma : Tok := ⟨4, [44]⟩
def tHash : Tok := ⟨5, [35]⟩
def stepA (s : Bs) (out : List Tok) (i : Nat) : CutSt :=
  if clsAt s i = 2 ∨ clsAt s i = 3 then ⟨i, true, out⟩
  else if clsAt s i = 5 then ⟨i, false, out ++ [tComma]⟩
  else if clsAt s i = 6 then ⟨i, false, out ++ [tHash]⟩
  else ⟨i, false, out⟩
def goesOn (s : Bs) (i : Nat) : Bool := sndAt s i || (clsAt s i == 4 && sndAt s (i - 1) && sndAt s (i + 1))
def partT (s : Bs) (a i : Nat) : Bs := upS ((s.take i).drop a)
def wordT (s : Bs) (a i : Nat) : Tok := ⟨kindT (partT s a i), partT s a i⟩
def stepS (s : Bs) (st : CutSt) (i : Nat) : CutSt :=
  if st.inn then (if goesOn s i then st else stepA s (st.out ++ [wordT s st.at_ i]) i) else stepA s st.out i
def runS (s : Bs) : Nat → CutSt
  | 0 => ⟨0, false, []⟩
  | n + 1 => stepS s (runS s n) n
def toksOf (s : Bs) : List Tok := (runS s (s.length + 1)).out
/-- Where the blanks and joints from a place on end. -/
def skipS : Bs → Nat
  | [] => 0
  | c :: s => if clsB c = 1 ∨ clsB c = 4 then skipS s + 1 else 0
def beginS (s : Bs) (at_ : Nat) : List Tok → Nat → Nat
  | _, 0 => at_ + skipS (s.drop at_)
  | [], _ + 1 => at_ + skipS (s.drop at_)
  | t :: l, n + 1 => beginS s (at_ + skipS (s.drop at_) + t.t.length) l n
def badAt (s : Bs) : Option Nat := s.findIdx? fun c => clsB c == 0
def tokensP (s : Bs) : List Tok × Int × Int :=
  if 200 < s.length then ([], 3, 0)
  else match badAt s with
    | some i => ([], 4, (i : Int))
    | none => if 40 < (toksOf s).length then ([], 8, (beginS s 0 (toksOf s) 40 : Int)) else (toksOf s, 0, 0)
/-! ### What stands at each step -/
theorem runS_succ (s : Bs) (n : Nat) : runS s (n + 1) = stepS s (runS s n) n := rfl
theorem clsAt_end {s : Bs} {i : Nat} (h : s.length ≤ i) : clsAt s i = 0 := by
  unfold clsAt
  rw [List.getElem?_eq_none h]
  rfl
theorem clsAt_lt {s : Bs} {i : Nat} (h : i < s.length) : clsAt s i = clsB s[i] := by
  unfold clsAt
  rw [List.getElem?_eq_getElem h]
  rfl
/-- Where a scan of some tokens ends. -/
def advS (s : Bs) : Nat → List Tok → Nat
  | a, [] => a
  | a, t :: l => advS s (a + skipS (s.drop a) + t.t.length) l
theorem advS_app (s : Bs) : ∀ (l m : List Tok) (a : Nat), advS s a (l ++ m) = advS s (advS s a l) m
  | [], _, _ => rfl
  | t :: l, m, a => advS_app s l m _
theorem advS_mono (s : Bs) : ∀ (l : List Tok) (a : Nat), a ≤ advS s a l
  | [], _ => Nat.le_refl _
  | t :: l, a => Nat.le_trans (by omega) (advS_mono s l _)
theorem beginS_adv (s : Bs) : ∀ (l : List Tok) (n a : Nat), n ≤ l.length → beginS s a l n = advS s a (l.take n) + skipS (s.drop (advS s a (l.take n)))
  | [], 0, _, _ => by simp [beginS, advS]
  | t :: l, 0, _, _ => by simp [beginS, advS]
  | [], n + 1, _, h => absurd h (by simp)
  | t :: l, n + 1, a, h => by
    simp only [List.length_cons] at h
    simp only [beginS, List.take_succ_cons, advS]
    exact beginS_adv s l n _ (by omega)
theorem skipS_stop : ∀ (s : Bs) (k : Nat), k < s.length → clsAt s k ≠ 1 → clsAt s k ≠ 4 → skipS s ≤ k
  | [], k, h, _, _ => absurd h (by simp)
  | c :: s, 0, _, h1, h4 => by
    have e : clsAt (c :: s) 0 = clsB c := rfl
    rw [e] at h1 h4
    unfold skipS
    rw [if_neg (by omega)]
    omega
  | c :: s, k + 1, h, h1, h4 => by
    have e : clsAt (c :: s) (k + 1) = clsAt s k := by simp [clsAt]
    rw [e] at h1 h4
    unfold skipS
    split
    · have := skipS_stop s k (by simpa using h) h1 h4; omega
    · omega
theorem skipS_drop {s : Bs} {a k : Nat} (ha : a ≤ k) (hk : k < s.length) (h1 : clsAt s k ≠ 1) (h4 : clsAt s k ≠ 4) : a + skipS (s.drop a) ≤ k := by
  have e : clsAt (s.drop a) (k - a) = clsAt s k := by
    unfold clsAt
    rw [List.getElem?_drop, show a + (k - a) = k by omega]
  have := skipS_stop (s.drop a) (k - a) (by rw [List.length_drop]; omega) (by rw [e]; exact h1) (by rw [e]; exact h4)
  omega
/-- Within a part: it began ahead, with a letter or a digit. A scan of what was cut comes no further. -/
structure CutOk (s : Bs) (n : Nat) (st : CutSt) : Prop where
  lt : st.inn = true → st.at_ < n ∧ n ≤ s.length ∧ sndAt s st.at_ = true
  len : st.out.length + (if st.inn then 1 else 0) ≤ n
  adv : advS s 0 st.out ≤ (if st.inn then st.at_ else n)
  ne : ∀ t ∈ st.out, t.t ≠ [] ∧ upS t.t = t.t
theorem upB_idem (c : UInt8) : upB (upB c) = upB c := by
  unfold upB
  by_cases h : 97 ≤ c.toNat ∧ c.toNat ≤ 122
  · have e : (c - 32).toNat = c.toNat - 32 := by
      rw [UInt8.toNat_sub_of_le]
      · rfl
      · rw [UInt8.le_iff_toNat_le]
        show 32 ≤ c.toNat
        omega
    rw [if_pos h, if_neg (by rw [e]; omega)]
  · rw [if_neg h, if_neg h]
theorem upS_idem (s : Bs) : upS (upS s) = upS s := by
  unfold upS
  rw [List.map_map]
  congr 1
  funext c
  exact upB_idem c
theorem partT_len {s : Bs} {a i : Nat} (hi : i ≤ s.length) : (partT s a i).length = i - a := by
  unfold partT upS
  simp
  omega
theorem partT_ne {s : Bs} {a i : Nat} (h : a < i) (hi : i ≤ s.length) : partT s a i ≠ [] := by
  intro e
  have h1 := congrArg List.length e
  rw [partT_len hi] at h1
  simp at h1
  omega
theorem snd_cls {s : Bs} {i : Nat} (h : sndAt s i = true) : clsAt s i ≠ 1 ∧ clsAt s i ≠ 4 ∧ i < s.length := by
  unfold sndAt at h
  rw [Bool.or_eq_true, beq_iff_eq, beq_iff_eq] at h
  refine ⟨by omega, by omega, ?_⟩
  rcases Nat.lt_or_ge i s.length with h1 | h1
  · exact h1
  · rw [clsAt_end h1] at h; omega
theorem stepA_ok {s : Bs} {n : Nat} {out : List Tok} (hl : out.length ≤ n) (ha : advS s 0 out ≤ n) (hn : ∀ t ∈ out, t.t ≠ [] ∧ upS t.t = t.t) : CutOk s (n + 1) (stepA s out n) := by
  have hcat : ∀ t : Tok, (t.t ≠ [] ∧ upS t.t = t.t) → ∀ u ∈ out ++ [t], u.t ≠ [] ∧ upS u.t = u.t := fun t ht u hu => by
    rcases List.mem_append.1 hu with h | h
    · exact hn u h
    · rw [List.mem_singleton.1 h]; exact ht
  have hlt : clsAt s n ≠ 0 → n < s.length := fun h => by
    rcases Nat.lt_or_ge n s.length with h1 | h1
    · exact h1
    · exact absurd (clsAt_end h1) h
  unfold stepA
  by_cases h1 : clsAt s n = 2 ∨ clsAt s n = 3
  · rw [if_pos h1]
    refine ⟨fun _ => ⟨Nat.lt_succ_self n, hlt (by omega), ?_⟩, (by show out.length + 1 ≤ _; omega), ha, hn⟩
    unfold sndAt
    rcases h1 with h | h <;> rw [h] <;> rfl
  · rw [if_neg h1]
    have hadv : ∀ t : Tok, t.t.length = 1 → clsAt s n ≠ 0 → clsAt s n ≠ 1 → clsAt s n ≠ 4 → advS s 0 (out ++ [t]) ≤ n + 1 := fun t ht h0 h1 h4 => by
      rw [advS_app]
      simp only [advS, ht]
      have := skipS_drop ha (hlt h0) h1 h4
      omega
    by_cases h2 : clsAt s n = 5
    · rw [if_pos h2]
      exact ⟨(fun h => by cases h), (by show (out ++ [tComma]).length + 0 ≤ _; simp; omega), hadv tComma rfl (by omega) (by omega) (by omega), hcat tComma (by decide)⟩
    · rw [if_neg h2]
      by_cases h3 : clsAt s n = 6
      · rw [if_pos h3]
        exact ⟨(fun h => by cases h), (by show (out ++ [tHash]).length + 0 ≤ _; simp; omega), hadv tHash rfl (by omega) (by omega) (by omega), hcat tHash (by decide)⟩
      · rw [if_neg h3]
        exact ⟨(fun h => by cases h), (by show out.length + 0 ≤ _; omega), (by show advS s 0 out ≤ n + 1; omega), hn⟩
theorem runS_ok (s : Bs) : ∀ n, n ≤ s.length + 1 → CutOk s n (runS s n)
  | 0, _ => ⟨(fun h => by cases h), (by simp [runS]), (by simp [runS, advS]), fun t ht => by simp [runS] at ht⟩
  | n + 1, hn => by
    have ih := runS_ok s n (by omega)
    rw [runS_succ]
    unfold stepS
    have hl := ih.len
    have hadv := ih.adv
    by_cases hi : (runS s n).inn = true
    · rw [if_pos hi]
      rw [if_pos hi] at hl hadv
      obtain ⟨h1, h2, h3⟩ := ih.lt hi
      obtain ⟨c1, c4, hal⟩ := snd_cls h3
      by_cases hg : goesOn s n = true
      · rw [if_pos hg]
        refine ⟨fun _ => ⟨by omega, ?_, h3⟩, (by rw [if_pos hi]; omega), (by rw [if_pos hi]; exact hadv), ih.ne⟩
        rcases Nat.lt_or_ge n s.length with h | h
        · exact h
        · unfold goesOn sndAt at hg
          rw [clsAt_end h] at hg
          simp at hg
      · rw [if_neg hg]
        refine stepA_ok (by rw [List.length_append, List.length_singleton]; omega) ?_ fun t ht => ?_
        · rw [advS_app]
          simp only [advS, wordT]
          rw [partT_len h2]
          have := skipS_drop hadv hal c1 c4
          omega
        · rcases List.mem_append.1 ht with h | h
          · exact ih.ne t h
          · rw [List.mem_singleton.1 h]
            exact ⟨partT_ne h1 h2, upS_idem _⟩
    · rw [if_neg hi]
      rw [if_neg hi] at hl hadv
      exact stepA_ok (by omega) hadv ih.ne
/-- Behind the end no part is open. -/
theorem runS_end (s : Bs) : (runS s (s.length + 1)).inn = false := by
  rw [runS_succ]
  have h0 : clsAt s s.length = 0 := clsAt_end (Nat.le_refl _)
  have hA : ∀ out, (stepA s out s.length).inn = false := fun out => by unfold stepA; rw [h0]; simp
  unfold stepS
  by_cases hi : (runS s s.length).inn = true
  · rw [if_pos hi, if_neg (by unfold goesOn sndAt; rw [h0]; simp)]
    exact hA _
  · rw [if_neg hi]
    exact hA _
theorem toksOf_ok (s : Bs) : (toksOf s).length ≤ s.length ∧ advS s 0 (toksOf s) ≤ s.length + 1 ∧ ∀ t ∈ toksOf s, t.t ≠ [] ∧ upS t.t = t.t := by
  have h := runS_ok s (s.length + 1) (Nat.le_refl _)
  have hl := h.len
  have ha := h.adv
  rw [runS_end] at hl ha
  refine ⟨?_, ha, h.ne⟩
  -- the step behind the end adds a word at most, which was open
  have h1 := (runS_ok s s.length (by omega)).len
  have h0 : clsAt s s.length = 0 := clsAt_end (Nat.le_refl _)
  have hA : ∀ out, (stepA s out s.length).out = out := fun out => by unfold stepA; rw [h0]; simp
  unfold toksOf
  rw [runS_succ]
  unfold stepS
  by_cases hi : (runS s s.length).inn = true
  · rw [if_pos hi] at h1
    rw [if_pos hi, if_neg (by unfold goesOn sndAt; rw [h0]; simp), hA, List.length_append, List.length_singleton]
    omega
  · rw [if_neg hi] at h1
    rw [if_neg hi, hA]
    omega
end Go.Proofs.YtjneghncmgjkeaaGreatDoor
