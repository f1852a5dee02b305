/-
  Plain: the tokens of a line, as the program's states tell them.
-/
import Derived.Test.YtjaponmpfdpemaaGreatDoorBb01
import Derived.Lib.ItoaLen
set_option linter.unusedSimpArgs false
set_option linter.unusedVariables false
namespace Go.Proofs.YtjaponmpfdpemaaGreatDoor
abbrev Bs := List UInt8
def clsB (c : UInt8) : Nat :=
 if (65 ≤ c.toNat ∧ c.toNat ≤ 90) ∨ (97 ≤ c.toNat ∧ c.toNat ≤ 122) then 2
 else if 48 ≤ c.toNat ∧ c.toNat ≤ 57 then 3
 else if c.toNat = 45 ∨ c.toNat = 47 ∨ c.toNat = 39 ∨ c.toNat = 46 then 4
 else if c.toNat = 44 then 5
 else if c.toNat = 35 then 6
 else if c.toNat = 9 ∨ (32 ≤ c.toNat ∧ c.toNat ≤ 126) then 1
 else 0
structure Tok where
 k : Int
 t : Bs
deriving DecidableEq
def clsAt (s : Bs) (i : Nat) : Nat := (s[i]?.map clsB).getD 0
def sndAt (s : Bs) (i : Nat) : Bool := clsAt s i == 2 || clsAt s i == 3
def upB (c : UInt8) : UInt8 := if 97 ≤ c.toNat ∧ c.toNat ≤ 122 then c - 32 else c
def upS (s : Bs) : Bs := s.map upB
def digB (c : UInt8) : Bool := decide (48 ≤ c.toNat ∧ c.toNat ≤ 57)
def kindT (t : Bs) : Int := if clsAt t 0 = 2 then 1 else if t.all digB then 2 else 3
structure CutSt where
 at_ : Nat
 inn : Bool
 out : List Tok
def tComma : Tok := ⟨4, [44]⟩
def tHash : Tok := ⟨5, [35]⟩
def stepA (s : Bs) (out : List Tok) (i : Nat) : CutSt :=
 if clsAt s i = 2 ∨ clsAt s i = 3 then ⟨i, true, out⟩
 else if clsAt s i = 5 then ⟨i, false, out ++ [tComma]⟩
 else if clsAt s i = 6 then ⟨i, false, out ++ [tHash]⟩
 else ⟨i, false, out⟩
def goesOn (s : Bs) (i : Nat) : Bool := sndAt s i || (clsAt s i == 4 && sndAt s (i - 1) && sndAt s (i + 1))
def partT (s : Bs) (a i : Nat) : Bs := upS ((s.take i).drop a)
def wordT (s : Bs) (a i : Nat) : Tok := ⟨kindT (partT s a i), partT s a i⟩
def stepS (s : Bs) (st : CutSt) (i : Nat) : CutSt :=
 if st.inn then (if goesOn s i then st else stepA s (st.out ++ [wordT s st.at_ i]) i) else stepA s st.out i
def runS (s : Bs) : Nat → CutSt
 | 0 => ⟨0, false, []⟩
 | n + 1 => stepS s (runS s n) n
def toksOf (s : Bs) : List Tok := (runS s (s.length + 1)).out
def skipS : Bs → Nat
 | [] => 0
 | c :: s => if clsB c = 1 ∨ clsB c = 4 then skipS s + 1 else 0
def beginS (s : Bs) (at_ : Nat) : List Tok → Nat → Nat
 | _, 0 => at_ + skipS (s.drop at_)
 | [], _ + 1 => at_ + skipS (s.drop at_)
 | t :: l, n + 1 => beginS s (at_ + skipS (s.drop at_) + t.t.length) l n
def badAt (s : Bs) : Option Nat := s.findIdx? fun c => clsB c == 0
def tokensP (s : Bs) : List Tok × Int × Int :=
 if 200 < s.length then ([], 3, 0)
 else match badAt s with
  | some i => ([], 4, (i : Int))
  | none => if 40 < (toksOf s).length then ([], 8, (beginS s 0 (toksOf s) 40 : Int)) else (toksOf s, 0, 0)
theorem runS_succ (s : Bs) (n : Nat) : runS s (n + 1) = stepS s (runS s n) n := rfl
theorem clsAt_end {s : Bs} {i : Nat} (h : s.length ≤ i) : clsAt s i = 0 := by
 unfold clsAt
 rw [List.getElem?_eq_none h]
 rfl
theorem clsAt_lt {s : Bs} {i : Nat} (h : i < s.length) : clsAt s i = clsB s[i] := by
 unfold clsAt
 rw [List.getElem?_eq_getElem h]
 rfl
def advS (s : Bs) : Nat → List Tok → Nat
 | a, [] => a
 | a, t :: l => advS s (a + skipS (s.drop a) + t.t.length) l
theorem advS_app (s : Bs) : ∀ (l m : List Tok) (a : Nat), advS s a (l ++ m) = advS s (advS s a l) m
 | [], _, _ => rfl
 | t :: l, m, a => advS_app s l m _
theorem advS_mono (s : Bs) : ∀ (l : List Tok) (a : Nat), a ≤ advS s a l
 | [], _ => Nat.le_refl _
 | t :: l, a => Nat.le_trans (by omega) (advS_mono s l _)
theorem beginS_adv (s : Bs) : ∀ (l : List Tok) (n a : Nat), n ≤ l.length → beginS s a l n = advS s a (l.take n) + skipS (s.drop (advS s a (l.take n)))
 | [], 0, _, _ => by simp [beginS, advS]
 | t :: l, 0, _, _ => by simp [beginS, advS]
 | [], n + 1, _, h => absurd h (by simp)
 | t :: l, n + 1, a, h => by
  simp only [List.length_cons] at h
  simp only [beginS, List.take_succ_cons, advS]
  exact beginS_adv s l n _ (by omega)
theorem skipS_stop : ∀ (s : Bs) (k : Nat), k < s.length → clsAt s k ≠ 1 → clsAt s k ≠ 4 → skipS s ≤ k
 | [], k, h, _, _ => absurd h (by simp)
 | c :: s, 0, _, h1, h4 => by
  have e : clsAt (c :: s) 0 = clsB c := rfl
  rw [e] at h1 h4
  unfold skipS
  rw [if_neg (by omega)]
  omega
 | c :: s, k + 1, h, h1, h4 => by
  have e : clsAt (c :: s) (k + 1) = clsAt s k := by simp [clsAt]
  rw [e] at h1 h4
  unfold skipS
  split
  ·have := skipS_stop s k (by simpa using h) h1 h4; omega
  ·omega
theorem skipS_drop {s : Bs} {a k : Nat} (ha : a ≤ k) (hk : k < s.length) (h1 : clsAt s k ≠ 1) (h4 : clsAt s k ≠ 4) : a + skipS (s.drop a) ≤ k := by
 have e : clsAt (s.drop a) (k - a) = clsAt s k := by
  unfold clsAt
  rw [List.getElem?_drop, show a + (k - a) = k by omega]
 have := skipS_stop (s.drop a) (k - a) (by rw [List.length_drop]; omega) (by rw [e]; exact h1) (by rw [e]; exact h4)
 omega
structure CutOk (s : Bs) (n : Nat) (st : CutSt) : Prop where
 lt : st.inn = true → st.at_ < n ∧ n ≤ s.length ∧ sndAt s st.at_ = true
 len : st.out.length + (if st.inn then 1 else 0) ≤ n
 adv : advS s 0 st.out ≤ (if st.inn then st.at_ else n)
 ne : ∀ t ∈ st.out, t.t ≠ [] ∧ upS t.t = t.t
theorem upB_idem (c : UInt8) : upB (upB c) = upB c := by
 unfold upB
 by_cases h : 97 ≤ c.toNat ∧ c.toNat ≤ 122
 ·have e : (c - 32).toNat = c.toNat - 32 := by
   rw [UInt8.toNat_sub_of_le]
   ·rfl
   ·rw [UInt8.le_iff_toNat_le]
    show 32 ≤ c.toNat
    omega
  rw [if_pos h, if_neg (by rw [e]; omega)]
 ·rw [if_neg h, if_neg h]
theorem upS_idem (s : Bs) : upS (upS s) = upS s := by
 unfold upS
 rw [List.map_map]
 congr 1
 funext c
 exact upB_idem c
theorem partT_len {s : Bs} {a i : Nat} (hi : i ≤ s.length) : (partT s a i).length = i - a := by
 unfold partT upS
 simp
 omega
theorem partT_ne {s : Bs} {a i : Nat} (h : a < i) (hi : i ≤ s.length) : partT s a i ≠ [] := by
 intro e
 have h1 := congrArg List.length e
 rw [partT_len hi] at h1
 simp at h1
 omega
theorem snd_cls {s : Bs} {i : Nat} (h : sndAt s i = true) : clsAt s i ≠ 1 ∧ clsAt s i ≠ 4 ∧ i < s.length := by
 unfold sndAt at h
 rw [Bool.or_eq_true, beq_iff_eq, beq_iff_eq] at h
 refine ⟨by omega, by omega, ?_⟩
 rcases Nat.lt_or_ge i s.length with h1 | h1
 ·exact h1
 ·rw [clsAt_end h1] at h; omega
theorem stepA_ok {s : Bs} {n : Nat} {out : List Tok} (hl : out.length ≤ n) (ha : advS s 0 out ≤ n) (hn : ∀ t ∈ out, t.t ≠ [] ∧ upS t.t = t.t) : CutOk s (n + 1) (stepA s out n) := by
 have hcat : ∀ t : Tok, (t.t ≠ [] ∧ upS t.t = t.t) → ∀ u ∈ out ++ [t], u.t ≠ [] ∧ upS u.t = u.t := fun t ht u hu => by
  rcases List.mem_append.1 hu with h | h
  ·exact hn u h
  ·rw [List.mem_singleton.1 h]; exact ht
 have hlt : clsAt s n ≠ 0 → n < s.length := fun h => by
  rcases Nat.lt_or_ge n s.length with h1 | h1
  ·exact h1
  ·exact absurd (clsAt_end h1) h
 unfold stepA
 by_cases h1 : clsAt s n = 2 ∨ clsAt s n = 3
 ·rw [if_pos h1]
  refine ⟨fun _ => ⟨Nat.lt_succ_self n, hlt (by omega), ?_⟩, (by show out.length + 1 ≤ _; omega), ha, hn⟩
  unfold sndAt
  rcases h1 with h | h <;> rw [h] <;> rfl
 ·rw [if_neg h1]
  have hadv : ∀ t : Tok, t.t.length = 1 → clsAt s n ≠ 0 → clsAt s n ≠ 1 → clsAt s n ≠ 4 → advS s 0 (out ++ [t]) ≤ n + 1 := fun t ht h0 h1 h4 => by
   rw [advS_app]
   simp only [advS, ht]
   have := skipS_drop ha (hlt h0) h1 h4
   omega
  by_cases h2 : clsAt s n = 5
  ·rw [if_pos h2]
   exact ⟨(fun h => by cases h), (by show (out ++ [tComma]).length + 0 ≤ _; simp; omega), hadv tComma rfl (by omega) (by omega) (by omega), hcat tComma (by decide)⟩
  ·rw [if_neg h2]
   by_cases h3 : clsAt s n = 6
   ·rw [if_pos h3]
    exact ⟨(fun h => by cases h), (by show (out ++ [tHash]).length + 0 ≤ _; simp; omega), hadv tHash rfl (by omega) (by omega) (by omega), hcat tHash (by decide)⟩
   ·rw [if_neg h3]
    exact ⟨(fun h => by cases h), (by show out.length + 0 ≤ _; omega), (by show advS s 0 out ≤ n + 1; omega), hn⟩
theorem runS_ok (s : Bs) : ∀ n, n ≤ s.length + 1 → CutOk s n (runS s n)
 | 0, _ => ⟨(fun h => by cases h), (by simp [runS]), (by simp [runS, advS]), fun t ht => by simp [runS] at ht⟩
 | n + 1, hn => by
  have ih := runS_ok s n (by omega)
  rw [runS_succ]
  unfold stepS
  have hl := ih.len
  have hadv := ih.adv
  by_cases hi : (runS s n).inn = true
  ·rw [if_pos hi]
   rw [if_pos hi] at hl hadv
   obtain ⟨h1, h2, h3⟩ := ih.lt hi
   obtain ⟨c1, c4, hal⟩ := snd_cls h3
   by_cases hg : goesOn s n = true
   ·rw [if_pos hg]
    refine ⟨fun _ => ⟨by omega, ?_, h3⟩, (by rw [if_pos hi]; omega), (by rw [if_pos hi]; exact hadv), ih.ne⟩
    rcases Nat.lt_or_ge n s.length with h | h
    ·exact h
    ·unfold goesOn sndAt at hg
     rw [clsAt_end h] at hg
     simp at hg
   ·rw [if_neg hg]
    refine stepA_ok (by rw [List.length_append, List.length_singleton]; omega) ?_ fun t ht => ?_
    ·rw [advS_app]
     simp only [advS, wordT]
     rw [partT_len h2]
     have := skipS_drop hadv hal c1 c4
     omega
    ·rcases List.mem_append.1 ht with h | h
     ·exact ih.ne t h
     ·rw [List.mem_singleton.1 h]
      exact ⟨partT_ne h1 h2, upS_idem _⟩
  ·rw [if_neg hi]
   rw [if_neg hi] at hl hadv
   exact stepA_ok (by omega) hadv ih.ne
theorem runS_end (s : Bs) : (runS s (s.length + 1)).inn = false := by
 rw [runS_succ]
 have h0 : clsAt s s.length = 0 := clsAt_end (Nat.le_refl _)
 have hA : ∀ out, (stepA s out s.length).inn = false := fun out => by unfold stepA; rw [h0]; simp
 unfold stepS
 by_cases hi : (runS s s.length).inn = true
 ·rw [if_pos hi, if_neg (by unfold goesOn sndAt; rw [h0]; simp)]
  exact hA _
 ·rw [if_neg hi]
  exact hA _
theorem toksOf_ok (s : Bs) : (toksOf s).length ≤ s.length ∧ advS s 0 (toksOf s) ≤ s.length + 1 ∧ ∀ t ∈ toksOf s, t.t ≠ [] ∧ upS t.t = t.t := by
 have h := runS_ok s (s.length + 1) (Nat.le_refl _)
 have hl := h.len
 have ha := h.adv
 rw [runS_end] at hl ha
 refine ⟨?_, ha, h.ne⟩
 -- the step behind the end adds a word at most, which was open
 have h1 := (runS_ok s s.length (by omega)).len
 have h0 : clsAt s s.length = 0 := clsAt_end (Nat.le_refl _)
 have hA : ∀ out, (stepA s out s.length).out = out := fun out => by unfold stepA; rw [h0]; simp
 unfold toksOf
 rw [runS_succ]
 unfold stepS
 by_cases hi : (runS s s.length).inn = true
 ·rw [if_pos hi] at h1
  rw [if_pos hi, if_neg (by unfold goesOn sndAt; rw [h0]; simp), hA, List.length_append, List.length_singleton]
  omega
 ·rw [if_neg hi] at h1
  rw [if_neg hi, hA]
  omega
end Go.Proofs.YtjaponmpfdpemaaGreatDoor
set_option linter.unusedSimpArgs false
set_option linter.unusedVariables false
namespace Go.Proofs.YtjaponmpfdpemaaGreatDoor
structure Wp where
 l : Bs
 s : Bs
deriving DecidableEq
def sufText : Bs := [65, 76, 76, 69, 89, 61, 65, 76, 89, 32, 65, 86, 69, 78, 85, 69, 61, 65, 86, 69, 32, 66, 79, 85, 76, 69, 86, 65, 82, 68, 61, 66, 76, 86, 68, 32, 67, 73, 82, 67, 76, 69, 61, 67, 73, 82, 32, 67, 79, 85, 82, 84, 61, 67, 84, 32, 68, 82, 73, 86, 69, 61, 68, 82, 32, 69, 88, 80, 82, 69, 83, 83, 87, 65, 89, 61, 69, 88, 80, 89, 32, 72, 73, 71, 72, 87, 65, 89, 61, 72, 87, 89, 32, 76, 65, 78, 69, 61, 76, 78, 32, 76, 79, 79, 80, 61, 76, 79, 79, 80, 32, 80, 65, 82, 75, 87, 65, 89, 61, 80, 75, 87, 89, 32, 80, 76, 65, 67, 69, 61, 80, 76, 32, 80, 76, 65, 90, 65, 61, 80, 76, 90, 32, 82, 79, 65, 68, 61, 82, 68, 32, 82, 79, 87, 61, 82, 79, 87, 32, 83, 81, 85, 65, 82, 69, 61, 83, 81, 32, 83, 84, 82, 69, 69, 84, 61, 83, 84, 32, 84, 69, 82, 82, 65, 67, 69, 61, 84, 69, 82, 32, 84, 82, 65, 73, 76, 61, 84, 82, 76, 32, 87, 65, 89, 61, 87, 65, 89]
def dirText : Bs := [69, 65, 83, 84, 61, 69, 32, 78, 79, 82, 84, 72, 61, 78, 32, 78, 79, 82, 84, 72, 69, 65, 83, 84, 61, 78, 69, 32, 78, 79, 82, 84, 72, 87, 69, 83, 84, 61, 78, 87, 32, 83, 79, 85, 84, 72, 61, 83, 32, 83, 79, 85, 84, 72, 69, 65, 83, 84, 61, 83, 69, 32, 83, 79, 85, 84, 72, 87, 69, 83, 84, 61, 83, 87, 32, 87, 69, 83, 84, 61, 87]
def staText : Bs := [65, 76, 65, 66, 65, 77, 65, 61, 65, 76, 32, 65, 76, 65, 83, 75, 65, 61, 65, 75, 32, 65, 82, 73, 90, 79, 78, 65, 61, 65, 90, 32, 65, 82, 75, 65, 78, 83, 65, 83, 61, 65, 82, 32, 67, 65, 76, 73, 70, 79, 82, 78, 73, 65, 61, 67, 65, 32, 67, 79, 76, 79, 82, 65, 68, 79, 61, 67, 79, 32, 67, 79, 78, 78, 69, 67, 84, 73, 67, 85, 84, 61, 67, 84, 32, 68, 69, 76, 65, 87, 65, 82, 69, 61, 68, 69, 32, 68, 73, 83, 84, 82, 73, 67, 84, 95, 79, 70, 95, 67, 79, 76, 85, 77, 66, 73, 65, 61, 68, 67, 32, 70, 76, 79, 82, 73, 68, 65, 61, 70, 76, 32, 71, 69, 79, 82, 71, 73, 65, 61, 71, 65, 32, 72, 65, 87, 65, 73, 73, 61, 72, 73, 32, 73, 68, 65, 72, 79, 61, 73, 68, 32, 73, 76, 76, 73, 78, 79, 73, 83, 61, 73, 76, 32, 73, 78, 68, 73, 65, 78, 65, 61, 73, 78, 32, 73, 79, 87, 65, 61, 73, 65, 32, 75, 65, 78, 83, 65, 83, 61, 75, 83, 32, 75, 69, 78, 84, 85, 67, 75, 89, 61, 75, 89, 32, 76, 79, 85, 73, 83, 73, 65, 78, 65, 61, 76, 65, 32, 77, 65, 73, 78, 69, 61, 77, 69, 32, 77, 65, 82, 89, 76, 65, 78, 68, 61, 77, 68, 32, 77, 65, 83, 83, 65, 67, 72, 85, 83, 69, 84, 84, 83, 61, 77, 65, 32, 77, 73, 67, 72, 73, 71, 65, 78, 61, 77, 73, 32, 77, 73, 78, 78, 69, 83, 79, 84, 65, 61, 77, 78, 32, 77, 73, 83, 83, 73, 83, 83, 73, 80, 80, 73, 61, 77, 83, 32, 77, 73, 83, 83, 79, 85, 82, 73, 61, 77, 79, 32, 77, 79, 78, 84, 65, 78, 65, 61, 77, 84, 32, 78, 69, 66, 82, 65, 83, 75, 65, 61, 78, 69, 32, 78, 69, 86, 65, 68, 65, 61, 78, 86, 32, 78, 69, 87, 95, 72, 65, 77, 80, 83, 72, 73, 82, 69, 61, 78, 72, 32, 78, 69, 87, 95, 74, 69, 82, 83, 69, 89, 61, 78, 74, 32, 78, 69, 87, 95, 77, 69, 88, 73, 67, 79, 61, 78, 77, 32, 78, 69, 87, 95, 89, 79, 82, 75, 61, 78, 89, 32, 78, 79, 82, 84, 72, 95, 67, 65, 82, 79, 76, 73, 78, 65, 61, 78, 67, 32, 78, 79, 82, 84, 72, 95, 68, 65, 75, 79, 84, 65, 61, 78, 68, 32, 79, 72, 73, 79, 61, 79, 72, 32, 79, 75, 76, 65, 72, 79, 77, 65, 61, 79, 75, 32, 79, 82, 69, 71, 79, 78, 61, 79, 82, 32, 80, 69, 78, 78, 83, 89, 76, 86, 65, 78, 73, 65, 61, 80, 65, 32, 82, 72, 79, 68, 69, 95, 73, 83, 76, 65, 78, 68, 61, 82, 73, 32, 83, 79, 85, 84, 72, 95, 67, 65, 82, 79, 76, 73, 78, 65, 61, 83, 67, 32, 83, 79, 85, 84, 72, 95, 68, 65, 75, 79, 84, 65, 61, 83, 68, 32, 84, 69, 78, 78, 69, 83, 83, 69, 69, 61, 84, 78, 32, 84, 69, 88, 65, 83, 61, 84, 88, 32, 85, 84, 65, 72, 61, 85, 84, 32, 86, 69, 82, 77, 79, 78, 84, 61, 86, 84, 32, 86, 73, 82, 71, 73, 78, 73, 65, 61, 86, 65, 32, 87, 65, 83, 72, 73, 78, 71, 84, 79, 78, 61, 87, 65, 32, 87, 69, 83, 84, 95, 86, 73, 82, 71, 73, 78, 73, 65, 61, 87, 86, 32, 87, 73, 83, 67, 79, 78, 83, 73, 78, 61, 87, 73, 32, 87, 89, 79, 77, 73, 78, 71, 61, 87, 89]
def uniText : Bs := [65, 80, 65, 82, 84, 77, 69, 78, 84, 61, 65, 80, 84, 32, 66, 85, 73, 76, 68, 73, 78, 71, 61, 66, 76, 68, 71, 32, 70, 76, 79, 79, 82, 61, 70, 76, 32, 82, 79, 79, 77, 61, 82, 77, 32, 83, 85, 73, 84, 69, 61, 83, 84, 69, 32, 85, 78, 73, 84, 61, 85, 78, 73, 84]
def sufW : List Wp := [⟨[65, 76, 76, 69, 89], [65, 76, 89]⟩, ⟨[65, 86, 69, 78, 85, 69], [65, 86, 69]⟩, ⟨[66, 79, 85, 76, 69, 86, 65, 82, 68], [66, 76, 86, 68]⟩, ⟨[67, 73, 82, 67, 76, 69], [67, 73, 82]⟩, ⟨[67, 79, 85, 82, 84], [67, 84]⟩, ⟨[68, 82, 73, 86, 69], [68, 82]⟩, ⟨[69, 88, 80, 82, 69, 83, 83, 87, 65, 89], [69, 88, 80, 89]⟩, ⟨[72, 73, 71, 72, 87, 65, 89], [72, 87, 89]⟩, ⟨[76, 65, 78, 69], [76, 78]⟩, ⟨[76, 79, 79, 80], [76, 79, 79, 80]⟩, ⟨[80, 65, 82, 75, 87, 65, 89], [80, 75, 87, 89]⟩, ⟨[80, 76, 65, 67, 69], [80, 76]⟩, ⟨[80, 76, 65, 90, 65], [80, 76, 90]⟩, ⟨[82, 79, 65, 68], [82, 68]⟩, ⟨[82, 79, 87], [82, 79, 87]⟩, ⟨[83, 81, 85, 65, 82, 69], [83, 81]⟩, ⟨[83, 84, 82, 69, 69, 84], [83, 84]⟩, ⟨[84, 69, 82, 82, 65, 67, 69], [84, 69, 82]⟩, ⟨[84, 82, 65, 73, 76], [84, 82, 76]⟩, ⟨[87, 65, 89], [87, 65, 89]⟩]
def dirW : List Wp := [⟨[69, 65, 83, 84], [69]⟩, ⟨[78, 79, 82, 84, 72], [78]⟩, ⟨[78, 79, 82, 84, 72, 69, 65, 83, 84], [78, 69]⟩, ⟨[78, 79, 82, 84, 72, 87, 69, 83, 84], [78, 87]⟩, ⟨[83, 79, 85, 84, 72], [83]⟩, ⟨[83, 79, 85, 84, 72, 69, 65, 83, 84], [83, 69]⟩, ⟨[83, 79, 85, 84, 72, 87, 69, 83, 84], [83, 87]⟩, ⟨[87, 69, 83, 84], [87]⟩]
def staW : List Wp := [⟨[65, 76, 65, 66, 65, 77, 65], [65, 76]⟩, ⟨[65, 76, 65, 83, 75, 65], [65, 75]⟩, ⟨[65, 82, 73, 90, 79, 78, 65], [65, 90]⟩, ⟨[65, 82, 75, 65, 78, 83, 65, 83], [65, 82]⟩, ⟨[67, 65, 76, 73, 70, 79, 82, 78, 73, 65], [67, 65]⟩, ⟨[67, 79, 76, 79, 82, 65, 68, 79], [67, 79]⟩, ⟨[67, 79, 78, 78, 69, 67, 84, 73, 67, 85, 84], [67, 84]⟩, ⟨[68, 69, 76, 65, 87, 65, 82, 69], [68, 69]⟩, ⟨[68, 73, 83, 84, 82, 73, 67, 84, 32, 79, 70, 32, 67, 79, 76, 85, 77, 66, 73, 65], [68, 67]⟩, ⟨[70, 76, 79, 82, 73, 68, 65], [70, 76]⟩, ⟨[71, 69, 79, 82, 71, 73, 65], [71, 65]⟩, ⟨[72, 65, 87, 65, 73, 73], [72, 73]⟩, ⟨[73, 68, 65, 72, 79], [73, 68]⟩, ⟨[73, 76, 76, 73, 78, 79, 73, 83], [73, 76]⟩, ⟨[73, 78, 68, 73, 65, 78, 65], [73, 78]⟩, ⟨[73, 79, 87, 65], [73, 65]⟩, ⟨[75, 65, 78, 83, 65, 83], [75, 83]⟩, ⟨[75, 69, 78, 84, 85, 67, 75, 89], [75, 89]⟩, ⟨[76, 79, 85, 73, 83, 73, 65, 78, 65], [76, 65]⟩, ⟨[77, 65, 73, 78, 69], [77, 69]⟩, ⟨[77, 65, 82, 89, 76, 65, 78, 68], [77, 68]⟩, ⟨[77, 65, 83, 83, 65, 67, 72, 85, 83, 69, 84, 84, 83], [77, 65]⟩, ⟨[77, 73, 67, 72, 73, 71, 65, 78], [77, 73]⟩, ⟨[77, 73, 78, 78, 69, 83, 79, 84, 65], [77, 78]⟩, ⟨[77, 73, 83, 83, 73, 83, 83, 73, 80, 80, 73], [77, 83]⟩, ⟨[77, 73, 83, 83, 79, 85, 82, 73], [77, 79]⟩, ⟨[77, 79, 78, 84, 65, 78, 65], [77, 84]⟩, ⟨[78, 69, 66, 82, 65, 83, 75, 65], [78, 69]⟩, ⟨[78, 69, 86, 65, 68, 65], [78, 86]⟩, ⟨[78, 69, 87, 32, 72, 65, 77, 80, 83, 72, 73, 82, 69], [78, 72]⟩, ⟨[78, 69, 87, 32, 74, 69, 82, 83, 69, 89], [78, 74]⟩, ⟨[78, 69, 87, 32, 77, 69, 88, 73, 67, 79], [78, 77]⟩, ⟨[78, 69, 87, 32, 89, 79, 82, 75], [78, 89]⟩, ⟨[78, 79, 82, 84, 72, 32, 67, 65, 82, 79, 76, 73, 78, 65], [78, 67]⟩, ⟨[78, 79, 82, 84, 72, 32, 68, 65, 75, 79, 84, 65], [78, 68]⟩, ⟨[79, 72, 73, 79], [79, 72]⟩, ⟨[79, 75, 76, 65, 72, 79, 77, 65], [79, 75]⟩, ⟨[79, 82, 69, 71, 79, 78], [79, 82]⟩, ⟨[80, 69, 78, 78, 83, 89, 76, 86, 65, 78, 73, 65], [80, 65]⟩, ⟨[82, 72, 79, 68, 69, 32, 73, 83, 76, 65, 78, 68], [82, 73]⟩, ⟨[83, 79, 85, 84, 72, 32, 67, 65, 82, 79, 76, 73, 78, 65], [83, 67]⟩, ⟨[83, 79, 85, 84, 72, 32, 68, 65, 75, 79, 84, 65], [83, 68]⟩, ⟨[84, 69, 78, 78, 69, 83, 83, 69, 69], [84, 78]⟩, ⟨[84, 69, 88, 65, 83], [84, 88]⟩, ⟨[85, 84, 65, 72], [85, 84]⟩, ⟨[86, 69, 82, 77, 79, 78, 84], [86, 84]⟩, ⟨[86, 73, 82, 71, 73, 78, 73, 65], [86, 65]⟩, ⟨[87, 65, 83, 72, 73, 78, 71, 84, 79, 78], [87, 65]⟩, ⟨[87, 69, 83, 84, 32, 86, 73, 82, 71, 73, 78, 73, 65], [87, 86]⟩, ⟨[87, 73, 83, 67, 79, 78, 83, 73, 78], [87, 73]⟩, ⟨[87, 89, 79, 77, 73, 78, 71], [87, 89]⟩]
def uniW : List Wp := [⟨[65, 80, 65, 82, 84, 77, 69, 78, 84], [65, 80, 84]⟩, ⟨[66, 85, 73, 76, 68, 73, 78, 71], [66, 76, 68, 71]⟩, ⟨[70, 76, 79, 79, 82], [70, 76]⟩, ⟨[82, 79, 79, 77], [82, 77]⟩, ⟨[83, 85, 73, 84, 69], [83, 84, 69]⟩, ⟨[85, 78, 73, 84], [85, 78, 73, 84]⟩]
def wordsP (kind : Int) : List Wp := if kind = 1 then sufW else if kind = 2 then dirW else if kind = 3 then staW else if kind = 4 then uniW else []
def shortP (kind : Int) (w : Bs) : Bs × Bool := match (wordsP kind).reverse.find? fun p => p.l == w || p.s == w with | some p => (p.s, true) | none => ([], false)
def shortT (t : Tok) (kind : Int) : Bs := (shortP kind t.t).1
def textsP : List Tok → Bs
 | [] => []
 | [t] => t.t
 | t :: u :: l => t.t ++ 32 :: textsP (u :: l)
def unitP (l : List Tok) : Bs × Bool :=
 match l with
 | [a, b] => if b.k = 5 ∨ b.k = 4 then ([], false) else if a.k = 5 then (35 :: b.t, true) else (shortT a 4 ++ 32 :: b.t, shortT a 4 != [])
 | _ => ([], false)
def backP (l : List Tok) (kind : Int) : List Tok × Bs :=
 if 2 ≤ l.length ∧ shortT (l.getLastD ⟨0, []⟩) kind ≠ [] then (l.dropLast, shortT (l.getLastD ⟨0, []⟩) kind) else (l, [])
def frontP (l : List Tok) (kind : Int) : List Tok × Bs :=
 if 2 ≤ l.length ∧ shortT (l.headD ⟨0, []⟩) kind ≠ [] then (l.tail, shortT (l.headD ⟨0, []⟩) kind) else (l, [])
structure Ad where
 n : Int
 half : Bool
 pre : Bs
 name : Bs
 suf : Bs
 post : Bs
 unit : Bs
 city : Bs
 state : Bs
 zip : Bs
 more : Bs
deriving DecidableEq
def Ad.zero : Ad := ⟨0, false, [], [], [], [], [], [], [], [], []⟩
def halfT : Tok := ⟨3, [49, 47, 50]⟩
def streetP (l0 : List Tok) (inner : Bool) : Ad × List Tok × Option (List Tok) :=
 let half := l0.head? == some halfT
 let l1 := if half then l0.tail else l0
 let n := l1.length - 2
 let isU := inner && decide (2 < l1.length) && (unitP (l1.drop n)).2
 let l2 := if isU then l1.take n else l1
 let b1 := backP l2 2
 let b2 := backP b1.1 1
 let b3 := frontP b2.1 2
 (⟨0, half, b3.2, textsP b3.1, b2.2, b1.2, if isU then (unitP (l1.drop n)).1 else [], [], [], [], []⟩, b3.1, if isU then some (l1.drop n) else none)
def digitsP (s : Bs) (lo hi : Nat) : Bool := decide (lo ≤ s.length ∧ s.length ≤ hi) && s.all digB
def numP (s : Bs) : Int := s.foldl (fun n c => 10 * n + (c.toNat - 48 : Int)) 0
def partsP : List Tok → List (List Tok)
 | [] => [[]]
 | t :: l => if t.k = 4 then [] :: partsP l else match partsP l with | [] => [[t]] | p :: r => (t :: p) :: r
def cutDash : Bs → Bs × Bs × Bool
 | [] => ([], [], false)
 | c :: s => if c = 45 then ([], s, true) else let r := cutDash s; (c :: r.1, r.2.1, r.2.2)
def kindOf (l : List Tok) (ks : List Int) : Bool := l.all fun t => ks.contains t.k
def errA (e at_ : Int) : Ad × Int × Int := (Ad.zero, e, at_)
def parsePts (p : List (List Tok)) (last : Nat) : Ad × Int × Int :=
 if ¬ (last = 2 ∨ last = 3) ∨ p.any (fun x => x.isEmpty) then errA 270 0 else
 let p0 := p.getD 0 []
 let num := (p0.headD ⟨0, []⟩).t
 if ¬ (digitsP num 1 6 = true ∧ 0 < numP num) then errA 271 0 else
 let st := streetP p0.tail (decide (last = 2))
 let p1 := p.getD 1 []
 if last = 3 ∧ (unitP p1).2 = false then errA 272 1 else
 let inT := if last = 3 then some p1 else st.2.2
 if inT.any (fun l => decide (10 < ((l.getD 1 ⟨0, []⟩).t).length)) then errA 272 (last - 2) else
 let name := st.2.1
 if ¬ (0 < name.length ∧ name.length ≤ 8 ∧ kindOf name [1, 2, 3] = true ∧ st.1.name.length ≤ 40) then errA 273 0 else
 let city := p.getD (last - 1) []
 if ¬ (kindOf city [1] = true ∧ city.length ≤ 8 ∧ (textsP city).length ≤ 40) then errA 274 (last - 1) else
 let place := p.getD last []
 let z := cutDash (place.getLastD ⟨0, []⟩).t
 if ¬ (digitsP z.1 5 5 = true ∧ (z.2.2 = false ∨ digitsP z.2.1 4 4 = true)) then errA 276 last else
 let sh := shortP 3 (textsP place.dropLast)
 if sh.2 = false then errA 275 last else
 (⟨numP num, st.1.half, st.1.pre, st.1.name, st.1.suf, st.1.post, if last = 3 then (unitP p1).1 else st.1.unit, textsP city, sh.1, z.1, z.2.1⟩, 0, 0)
def parseP (s : Bs) : Ad × Int × Int :=
 let r := tokensP s
 if r.2.1 ≠ 0 then (Ad.zero, r.2) else parsePts (partsP r.1) ((partsP r.1).length - 1)
def aheadP (s : Bs) : Bs := if s = [] then [] else 32 :: s
def lineP (a : Ad) : Bs := (if a.half then [32, 49, 47, 50] else []) ++ aheadP a.pre ++ aheadP a.name ++ aheadP a.suf ++ aheadP a.post
def ownP (kind : Int) (s : Bs) : Bool := (shortP kind s).1 == s
def namedP (s : Bs) (ks : List Int) : Bool :=
 let r := tokensP s
 r.2.1 == 0 && decide (0 < r.1.length) && decide (r.1.length ≤ 8) && kindOf r.1 ks && textsP r.1 == s && decide (s.length ≤ 40)
def housedP (s : Bs) : Bool :=
 s == [] || (let l := (tokensP s).1; (unitP l).2 && (unitP l).1 == s && decide ((l.getD 1 ⟨0, []⟩).t.length ≤ 10))
def Ad.street (a : Ad) : Ad := ⟨0, a.half, a.pre, a.name, a.suf, a.post, [], [], [], [], []⟩
def checkP (a : Ad) : Int :=
 let f1 := decide (1 ≤ a.n) && decide (a.n ≤ 999999) && namedP a.name [1, 2, 3] && namedP a.city [1]
 let f2 := f1 && ownP 2 a.pre && ownP 2 a.post && ownP 1 a.suf && a.state != [] && ownP 3 a.state
 let f3 := f2 && housedP a.unit && digitsP a.zip 5 5 && (a.more == [] || digitsP a.more 4 4)
 if f3 = false then 2 else
 let r := tokensP (lineP a)
 if r.2.1 ≠ 0 ∨ (streetP r.1 (a.unit == [])).1 ≠ a.street then 2 else 0
end Go.Proofs.YtjaponmpfdpemaaGreatDoor
set_option linter.unusedSimpArgs false
set_option linter.unusedVariables false
namespace Go.Proofs.YtjaponmpfdpemaaGreatDoor
structure Sr where
 state : Bs
 city : Bs
 pre : Bs
 name : Bs
 suf : Bs
 post : Bs
 fr : Int
 to_ : Int
 side : Int
 ax : Int
 ay : Int
 bx : Int
 by_ : Int
deriving DecidableEq
def Sr.ad (s : Sr) : Ad := ⟨1, false, s.pre, s.name, s.suf, s.post, [], s.city, s.state, [48, 48, 48, 48, 48], []⟩
def Sr.key (s : Sr) : List Bs := [s.state, s.city, s.pre, s.name, s.suf, s.post]
def Ad.key (a : Ad) : List Bs := [a.state, a.city, a.pre, a.name, a.suf, a.post]
def Sr.hasQ (s : Sr) (p : Int) : Bool := s.side == 3 || ((s.side == 1) == (p == 1))
def Sr.low (s : Sr) (p : Int) : Int := if s.fr.tmod 2 = p then s.fr else s.fr + 1
def Sr.high (s : Sr) (p : Int) : Int := if s.to_.tmod 2 = p then s.to_ else s.to_ - 1
def Sr.isQ (s : Sr) (p : Int) : Bool := s.hasQ p && decide (s.low p ≤ s.high p)
def Sr.hasR (s : Sr) (n : Int) : Bool := !(decide (n < s.fr) || decide (s.to_ < n)) && ((s.side == 3 || (s.side == 1 && n.tmod 2 == 1)) || (s.side == 2 && n.tmod 2 == 0))
def fitP (n : Int) : Bool := decide (-1099511627775 ≤ n) && decide (n ≤ 1099511627775)
def ptP (x y : Int) : Bool := fitP x && fitP y
def Sr.fine (s : Sr) : Bool := decide (checkP s.ad = 0) && decide (1 ≤ s.fr) && decide (s.fr ≤ s.to_) && decide (s.to_ ≤ 999999) && decide (1 ≤ s.side) && decide (s.side ≤ 3)
def Sr.check (s : Sr) : Int := if (!s.fine || !ptP s.ax s.ay || !ptP s.bx s.by_) = true then 2 else if (!s.isQ 1 && !s.isQ 0) = true then 2 else 0
def Sr.checkR (s : Sr) : Int := if (!s.fine || !ptP s.ax s.ay || !ptP s.bx s.by_ || (!s.hasR s.fr && !s.hasR (s.fr + 1))) = true then 2 else 0
structure Sr.Num (s : Sr) : Prop where
 f1 : 1 ≤ s.fr
 ft : s.fr ≤ s.to_
 t9 : s.to_ ≤ 999999
 s1 : 1 ≤ s.side
 s3 : s.side ≤ 3
theorem Sr.fine_num {s : Sr} (h : s.fine = true) : s.Num := by
 unfold Sr.fine at h
 simp only [Bool.and_eq_true, decide_eq_true_eq] at h
 exact ⟨h.1.1.1.1.2, h.1.1.1.2, h.1.1.2, h.1.2, h.2⟩
theorem tmod2 {n : Int} (h : 0 ≤ n) : n.tmod 2 = n % 2 := Int.tmod_eq_emod_of_nonneg h
theorem Sr.low_eq {s : Sr} (h : s.Num) (p : Int) (hp : p = 0 ∨ p = 1) : s.fr ≤ s.low p ∧ s.low p ≤ s.fr + 1 ∧ s.low p % 2 = p := by
 have h1 := h.f1
 unfold Sr.low
 rw [tmod2 (by omega)]
 split <;> omega
theorem Sr.high_eq {s : Sr} (h : s.Num) (p : Int) (hp : p = 0 ∨ p = 1) : s.to_ - 1 ≤ s.high p ∧ s.high p ≤ s.to_ ∧ s.high p % 2 = p := by
 have h1 := h.f1
 have h2 := h.ft
 unfold Sr.high
 rw [tmod2 (by omega)]
 split <;> omega
theorem Sr.Num.side_ways {s : Sr} (h : s.Num) : s.side = 1 ∨ s.side = 2 ∨ s.side = 3 := by
 have := h.s1
 have := h.s3
 omega
theorem Sr.hasR_iff {s : Sr} (h : s.Num) (n : Int) : s.hasR n = true ↔ s.fr ≤ n ∧ n ≤ s.to_ ∧ (s.side = 3 ∨ (s.side = 1 ∧ n % 2 = 1) ∨ (s.side = 2 ∧ n % 2 = 0)) := by
 have h1 := h.f1
 unfold Sr.hasR
 simp only [Bool.and_eq_true, Bool.not_eq_true', Bool.or_eq_false_iff, decide_eq_false_iff_not, Bool.or_eq_true, beq_iff_eq]
 constructor
 ·rintro ⟨⟨a, b⟩, c⟩
  rw [tmod2 (by omega)] at c
  refine ⟨by omega, by omega, ?_⟩
  rcases c with (c | c) | c
  ·exact .inl c
  ·exact .inr (.inl c)
  ·exact .inr (.inr c)
 ·rintro ⟨a, b, c⟩
  rw [tmod2 (by omega)]
  refine ⟨⟨by omega, by omega⟩, ?_⟩
  rcases c with c | c | c
  ·exact .inl (.inl c)
  ·exact .inl (.inr c)
  ·exact .inr c
theorem Sr.hasQ_iff {s : Sr} (h : s.Num) (p : Int) (hp : p = 0 ∨ p = 1) : s.hasQ p = true ↔ s.side = 3 ∨ (s.side = 1 ∧ p = 1) ∨ (s.side = 2 ∧ p = 0) := by
 unfold Sr.hasQ
 rcases h.side_ways with e | e | e <;> rcases hp with rfl | rfl <;> rw [e] <;> simp
theorem Sr.isQ_iff {s : Sr} (h : s.Num) (p : Int) (hp : p = 0 ∨ p = 1) : s.isQ p = true ↔ (s.side = 3 ∨ (s.side = 1 ∧ p = 1) ∨ (s.side = 2 ∧ p = 0)) ∧ s.low p ≤ s.high p := by
 unfold Sr.isQ
 rw [Bool.and_eq_true, decide_eq_true_eq, s.hasQ_iff h p hp]
theorem Sr.has_iff {s : Sr} (h : s.Num) (n : Int) : s.hasR n = true ↔ s.isQ (n % 2) = true ∧ s.low (n % 2) ≤ n ∧ n ≤ s.high (n % 2) := by
 have hp : n % 2 = 0 ∨ n % 2 = 1 := by omega
 rw [s.hasR_iff h n, s.isQ_iff h _ hp]
 obtain ⟨a1, a2, a3⟩ := s.low_eq h _ hp
 obtain ⟨b1, b2, b3⟩ := s.high_eq h _ hp
 constructor
 ·rintro ⟨c1, c2, c3⟩
  exact ⟨⟨c3, by omega⟩, by omega, by omega⟩
 ·rintro ⟨⟨c3, _⟩, c1, c2⟩
  exact ⟨by omega, by omega, c3⟩
theorem Sr.some_iff {s : Sr} (h : s.Num) : (s.hasR s.fr = true ∨ s.hasR (s.fr + 1) = true) ↔ (s.isQ 1 = true ∨ s.isQ 0 = true) := by
 have h2 := h.ft
 rw [s.hasR_iff h, s.hasR_iff h, s.isQ_iff h 1 (.inr rfl), s.isQ_iff h 0 (.inl rfl)]
 obtain ⟨a1, a2, a3⟩ := s.low_eq h 1 (.inr rfl)
 obtain ⟨b1, b2, b3⟩ := s.high_eq h 1 (.inr rfl)
 obtain ⟨c1, c2, c3⟩ := s.low_eq h 0 (.inl rfl)
 obtain ⟨d1, d2, d3⟩ := s.high_eq h 0 (.inl rfl)
 rcases h.side_ways with e | e | e <;> rw [e] <;> simp <;> omega
theorem Sr.check_eq (s : Sr) : s.checkR = s.check := by
 unfold Sr.checkR Sr.check
 by_cases hf : s.fine = true
 ·have h := s.some_iff (Sr.fine_num hf)
  have e : (!s.hasR s.fr && !s.hasR (s.fr + 1)) = (!s.isQ 1 && !s.isQ 0) := by
   cases h1 : s.hasR s.fr <;> cases h2 : s.hasR (s.fr + 1) <;> cases h3 : s.isQ 1 <;> cases h4 : s.isQ 0 <;> simp [h1, h2, h3, h4] at h ⊢
  rw [e]
  cases (!s.fine || !ptP s.ax s.ay || !ptP s.bx s.by_) <;> cases (!s.isQ 1 && !s.isQ 0) <;> rfl
 ·have e : (!s.fine) = true := by simpa using hf
  rw [e]
  rfl
structure Sr.Ok (s : Sr) : Prop where
 num : s.Num
 ad : checkP s.ad = 0
 a : ptP s.ax s.ay = true
 b : ptP s.bx s.by_ = true
 q : s.isQ 1 = true ∨ s.isQ 0 = true
theorem Sr.check_ok {s : Sr} (h : s.check = 0) : s.Ok := by
 unfold Sr.check at h
 split at h
 ·cases h
 ·rename_i h1
  split at h
  ·cases h
  ·rename_i h2
   simp only [Bool.or_eq_true, Bool.not_eq_true', not_or, Bool.not_eq_false] at h1
   simp only [Bool.and_eq_true, Bool.not_eq_true'] at h2
   obtain ⟨⟨a1, a2⟩, a3⟩ := h1
   have a4 := a1
   unfold Sr.fine at a4
   simp only [Bool.and_eq_true, decide_eq_true_eq] at a4
   refine ⟨Sr.fine_num a1, a4.1.1.1.1.1, a2, a3, ?_⟩
   cases h3 : s.isQ 1 with
   | true => exact .inl rfl
   | false =>
    cases h4 : s.isQ 0 with
    | true => exact .inr rfl
    | false => exact absurd ⟨h3, h4⟩ h2
def Sr.place (s : Sr) (n : Int) : Int × Int := if s.fr = s.to_ then (s.ax, s.ay) else (s.ax + (s.bx - s.ax) * (n - s.fr) / (s.to_ - s.fr), s.ay + (s.by_ - s.ay) * (n - s.fr) / (s.to_ - s.fr))
def Sr.at_ (s : Sr) (n : Int) : (Int × Int) × Bool := if s.check = 0 ∧ s.hasR n = true then (s.place n, true) else ((0, 0), false)
theorem Sr.at_prog {s : Sr} (h : s.check = 0) (n : Int) (h1 : s.fr ≤ n) (h2 : n ≤ s.to_) : s.hasR n = s.hasQ (n.tmod 2) := by
 have hn := (Sr.check_ok h).num
 have := hn.f1
 rw [tmod2 (by omega)]
 have hp : n % 2 = 0 ∨ n % 2 = 1 := by omega
 rw [Bool.eq_iff_iff, s.hasR_iff hn, s.hasQ_iff hn _ hp]
 constructor
 ·rintro ⟨_, _, c⟩; exact c
 ·intro c; exact ⟨h1, h2, c⟩
end Go.Proofs.YtjaponmpfdpemaaGreatDoor
set_option linter.unusedSimpArgs false
set_option linter.unusedVariables false
namespace Go.Proofs.YtjaponmpfdpemaaGreatDoor
def srL (s : Sr) : List Value := [.string ⟨s.state.toArray⟩, .string ⟨s.city.toArray⟩, .string ⟨s.pre.toArray⟩, .string ⟨s.name.toArray⟩, .string ⟨s.suf.toArray⟩, .string ⟨s.post.toArray⟩, .int .i64 s.fr, .int .i64 s.to_, .int .i64 s.side, .int .i64 s.ax, .int .i64 s.ay, .int .i64 s.bx, .int .i64 s.by_]
def srCells (l : List Sr) : List Value := l.flatMap srL
def SrMono (l : List Sr) (p n : Int) : Prop := ∀ i j (_ : i < j) (hj : j < l.length), (l[j]).high p < n → (l[i]'(by omega)).high p < n
def plK (l : List Sr) (p n : Int) : Nat := l.findIdx (fun s => decide (n ≤ s.high p))
def plF (l : List Sr) (p n : Int) : Bool := match l[plK l p n]? with
 | some s => decide (s.low p ≤ n)
 | none => false
theorem plK_is {l : List Sr} {p n : Int} {k : Nat} (hk : k ≤ l.length) (h1 : ∀ i (h : i < l.length), i < k → (l[i]).high p < n) (h2 : ∀ h : k < l.length, ¬ (l[k]).high p < n) : plK l p n = k := by
 unfold plK
 rcases Nat.lt_or_ge k l.length with h | h
 ·rw [List.findIdx_eq h]
  refine ⟨?_, fun j hj => ?_⟩
  ·have := h2 h
   rw [decide_eq_true_eq]; omega
  ·have := h1 j (by omega) hj
   rw [decide_eq_false_iff_not]; omega
 ·have e : k = l.length := by omega
  subst e
  rw [List.findIdx_eq_length]
  intro x hx
  obtain ⟨j, hj, rfl⟩ := List.mem_iff_getElem.1 hx
  have := h1 j hj hj
  rw [decide_eq_false_iff_not]; omega
def srBad (l : List Sr) : Int := match l.findIdx? (fun s => decide (s.check ≠ 0)) with
 | some k => (k : Int)
 | none => -1
theorem srBad_at {l : List Sr} {k : Nat} (hk : k < l.length) (h1 : ∀ i (h : i < l.length), i < k → (l[i]).check = 0) (h2 : (l[k]).check ≠ 0) : srBad l = (k : Int) := by
 have e : l.findIdx? (fun s => decide (s.check ≠ 0)) = some k := by
  rw [List.findIdx?_eq_some_iff_getElem]
  exact ⟨hk, by simpa using h2, fun j hj => by simpa using h1 j (by omega) hj⟩
 unfold srBad
 rw [e]
theorem srBad_none {l : List Sr} (h1 : ∀ i (h : i < l.length), (l[i]).check = 0) : srBad l = -1 := by
 have e : l.findIdx? (fun s => decide (s.check ≠ 0)) = none := by
  rw [List.findIdx?_eq_none_iff]
  intro x hx
  obtain ⟨i, hi, rfl⟩ := List.mem_iff_getElem.1 hx
  simpa using h1 i hi
 unfold srBad
 rw [e]
def setT (T : List Bs → List Sr × List Sr) (k : List Bs) (p : List Sr × List Sr) : List Bs → List Sr × List Sr := fun k' => if k' = k then p else T k'
end Go.Proofs.YtjaponmpfdpemaaGreatDoor
set_option linter.unusedSimpArgs false
set_option linter.unusedVariables false
namespace Go.Proofs.YtjaponmpfdpemaaGreatDoor
structure Row (p : Int) (l : List Sr) : Prop where
 mem : ∀ s ∈ l, s.Num ∧ s.low p ≤ s.high p
 ord : l.Pairwise (fun a b => a.high p < b.low p)
theorem Row.nil (p : Int) : Row p [] := ⟨by simp, .nil⟩
theorem Row.lt {p : Int} {l : List Sr} (h : Row p l) {i j : Nat} (hij : i < j) (hj : j < l.length) : (l[i]'(by omega)).high p < (l[j]).low p := List.pairwise_iff_getElem.1 h.ord i j (by omega) hj hij
theorem Row.mono {p : Int} {l : List Sr} (h : Row p l) (n : Int) : SrMono l p n := fun i j hij hj hn => by
 have h1 := h.lt hij hj
 have h2 := (h.mem _ (List.getElem_mem hj)).2
 omega
theorem Row.at_ {p n : Int} {l : List Sr} (h : Row p l) : plK l p n ≤ l.length ∧ (∀ i (hi : i < l.length), i < plK l p n → (l[i]).high p < n) ∧ (∀ i (hi : i < l.length), plK l p n ≤ i → n ≤ (l[i]).high p) := by
 have hk : plK l p n ≤ l.length := List.findIdx_le_length
 refine ⟨hk, fun i hi hik => ?_, fun i hi hik => ?_⟩
 ·have := List.not_of_lt_findIdx hik
  simpa using this
 ·have hkl : plK l p n < l.length := by omega
  have h1 : n ≤ (l[plK l p n]).high p := by
   have := List.findIdx_getElem (p := fun s : Sr => decide (n ≤ s.high p)) (xs := l) (w := hkl)
   exact of_decide_eq_true this
  by_cases e : plK l p n = i
  ·subst e; exact h1
  ·have h2 := h.lt (i := plK l p n) (j := i) (by omega) hi
   have h3 := (h.mem _ (List.getElem_mem hi)).2
   omega
theorem Row.found {p n : Int} {l : List Sr} (h : Row p l) : plF l p n = l.any (fun s => decide (s.low p ≤ n) && decide (n ≤ s.high p)) := by
 obtain ⟨hk, h1, h2⟩ := h.at_ (n := n)
 rw [Bool.eq_iff_iff, List.any_eq_true]
 unfold plF
 constructor
 ·intro hf
  split at hf
  ·rename_i s hs
   obtain ⟨hl, rfl⟩ := List.getElem?_eq_some_iff.1 hs
   exact ⟨_, List.getElem_mem hl, by simpa using ⟨of_decide_eq_true hf, h2 _ hl (Nat.le_refl _)⟩⟩
  ·cases hf
 ·rintro ⟨s, hs, hc⟩
  obtain ⟨i, hi, rfl⟩ := List.mem_iff_getElem.1 hs
  simp only [Bool.and_eq_true, decide_eq_true_eq] at hc
  have hki : plK l p n ≤ i := by
   rcases Nat.lt_or_ge i (plK l p n) with h3 | h3
   ·have := h1 i hi h3; omega
   ·exact h3
  have e : plK l p n = i := by
   rcases Nat.lt_or_ge (plK l p n) i with h3 | h3
   ·have h4 := h.lt h3 hi
    have h5 := h2 _ (by omega) (Nat.le_refl (plK l p n))
    omega
   ·omega
  rw [e, List.getElem?_eq_getElem hi]
  simpa using hc.1
def clashQ (l : List Sr) (s : Sr) (p : Int) : Bool := plF l p (s.low p) || (match l[plK l p (s.low p)]? with
 | some t => decide (t.low p ≤ s.high p)
 | none => false)
def sideP (l : List Sr) (s : Sr) (p : Int) : Option (List Sr) :=
 if s.isQ p = false then some l else if clashQ l s p = true then none else some (l.take (plK l p (s.low p)) ++ s :: l.drop (plK l p (s.low p)))
def Sr.over (s t : Sr) (p : Int) : Bool := decide (s.low p ≤ t.high p) && decide (t.low p ≤ s.high p)
theorem Row.clash {p : Int} {l : List Sr} (h : Row p l) (s : Sr) (hs : s.low p ≤ s.high p) : clashQ l s p = l.any (fun t => s.over t p) := by
 obtain ⟨hk, h1, h2⟩ := h.at_ (n := s.low p)
 unfold clashQ
 rw [h.found, Bool.eq_iff_iff, Bool.or_eq_true, List.any_eq_true, List.any_eq_true]
 constructor
 ·rintro (⟨t, ht, hc⟩ | hc)
  ·simp only [Bool.and_eq_true, decide_eq_true_eq] at hc
   exact ⟨t, ht, by simp only [Sr.over, Bool.and_eq_true, decide_eq_true_eq]; omega⟩
  ·split at hc
   ·rename_i t ht
    obtain ⟨hl, rfl⟩ := List.getElem?_eq_some_iff.1 ht
    have := h2 _ hl (Nat.le_refl _)
    have hc := of_decide_eq_true hc
    exact ⟨_, List.getElem_mem hl, by simp only [Sr.over, Bool.and_eq_true, decide_eq_true_eq]; omega⟩
   ·cases hc
 ·rintro ⟨t, ht, hc⟩
  obtain ⟨i, hi, rfl⟩ := List.mem_iff_getElem.1 ht
  simp only [Sr.over, Bool.and_eq_true, decide_eq_true_eq] at hc
  right
  have hki : plK l p (s.low p) ≤ i := by
   rcases Nat.lt_or_ge i (plK l p (s.low p)) with h3 | h3
   ·have := h1 i hi h3; omega
   ·exact h3
  rw [List.getElem?_eq_getElem (by omega)]
  simp only [decide_eq_true_eq]
  rcases Nat.lt_or_ge (plK l p (s.low p)) i with h3 | h3
  ·have h4 := h.lt h3 hi
   have h5 := (h.mem _ (List.getElem_mem (show plK l p (s.low p) < l.length by omega))).2
   omega
  ·have e : plK l p (s.low p) = i := by omega
   subst e
   exact hc.2
theorem Sr.isQ_low {s : Sr} {p : Int} (h : s.isQ p = true) : s.low p ≤ s.high p := by
 unfold Sr.isQ at h
 simp only [Bool.and_eq_true, decide_eq_true_eq] at h
 exact h.2
theorem Row.ins {p : Int} {l m : List Sr} (h : Row p l) {s : Sr} (hs : s.Num) (e : sideP l s p = some m) : Row p m := by
 unfold sideP at e
 by_cases hq : s.isQ p = false
 ·rw [if_pos hq] at e
  injection e with e; subst e; exact h
 ·rw [if_neg hq] at e
  have hq : s.isQ p = true := by simpa using hq
  have hl := s.isQ_low hq
  rw [h.clash s hl] at e
  by_cases hc : l.any (fun t => s.over t p) = true
  ·rw [if_pos hc] at e; cases e
  ·rw [if_neg hc] at e
   injection e with e; subst e
   obtain ⟨hk, h1, h2⟩ := h.at_ (n := s.low p)
   have hno : ∀ t ∈ l, ¬ (s.low p ≤ t.high p ∧ t.low p ≤ s.high p) := fun t ht hh => hc (List.any_eq_true.2 ⟨t, ht, by simpa [Sr.over] using hh⟩)
   refine ⟨fun t ht => ?_, ?_⟩
   ·rcases List.mem_append.1 ht with ht | ht
    ·exact h.mem t (List.mem_of_mem_take ht)
    ·rcases List.mem_cons.1 ht with rfl | ht
     ·exact ⟨hs, hl⟩
     ·exact h.mem t (List.mem_of_mem_drop ht)
   ·rw [List.pairwise_append, List.pairwise_cons]
    refine ⟨h.ord.sublist (List.take_sublist _ _), ⟨fun t ht => ?_, h.ord.sublist (List.drop_sublist _ _)⟩, fun a ha b hb => ?_⟩
    ·obtain ⟨i, hi, rfl⟩ := List.mem_iff_getElem.1 ht
     rw [List.length_drop] at hi
     rw [List.getElem_drop]
     have h3 := h2 (plK l p (s.low p) + i) (by omega) (by omega)
     have := hno _ (List.getElem_mem (show plK l p (s.low p) + i < l.length by omega))
     omega
    ·obtain ⟨i, hi, rfl⟩ := List.mem_iff_getElem.1 ha
     rw [List.length_take] at hi
     rw [List.getElem_take]
     rcases List.mem_cons.1 hb with rfl | hb
     ·exact h1 i (by omega) (by omega)
     ·obtain ⟨j, hj, rfl⟩ := List.mem_iff_getElem.1 hb
      rw [List.length_drop] at hj
      rw [List.getElem_drop]
      exact h.lt (by omega) (by omega)
end Go.Proofs.YtjaponmpfdpemaaGreatDoor
