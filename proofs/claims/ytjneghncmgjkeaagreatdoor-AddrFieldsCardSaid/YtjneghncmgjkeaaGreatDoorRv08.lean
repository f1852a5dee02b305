/-
  Plain: the tokens of a line as of a stream; lines put together.
-/
import Derived.Test.YtjneghncmgjkeaaGreatDoorRv07
set_option linter.unusedVariables false
namespace Go.Proofs.YtjneghncmgjkeaaGreatDoor

def sndB (c : UInt8) : Bool := clsB c == 2 || clsB c == 3
def nextSnd (s : Bs) : Bool := (s.head?.map sndB).getD false
def tokW (w : Bs) : Tok := ⟨kindT (upS w), upS w⟩
def sepT (c : UInt8) : List Tok := if clsB c = 5 then [tComma] else if clsB c = 6 then [tHash] else []
/-- The tokens from here on: was the last byte sound; the part that is open. -/
def cutL : Bool → Option Bs → Bs → List Tok
  | _, none, [] => []
  | _, some w, [] => [tokW w]
  | _, none, c :: s => if sndB c then cutL true (some [c]) s else sepT c ++ cutL false none s
  | p, some w, c :: s =>
    if sndB c || (clsB c == 4 && p && nextSnd s) then cutL (sndB c) (some (w ++ [c])) s
    else tokW w :: (if sndB c then cutL true (some [c]) s else sepT c ++ cutL false none s)
theorem cutL_n (p : Bool) (c : UInt8) (s : Bs) : cutL p none (c :: s) = if sndB c then cutL true (some [c]) s else sepT c ++ cutL false none s := by rw [cutL]
theorem cutL_s (p : Bool) (w : Bs) (c : UInt8) (s : Bs) : cutL p (some w) (c :: s) = if sndB c || (clsB c == 4 && p && nextSnd s) then cutL (sndB c) (some (w ++ [c])) s else tokW w :: (if sndB c then cutL true (some [c]) s else sepT c ++ cutL false none s) := by rw [cutL]
theorem cutL_n0 (p : Bool) : cutL p none [] = [] := by rw [cutL]
theorem cutL_s0 (p : Bool) (w : Bs) : cutL p (some w) [] = [tokW w] := by rw [cutL]
theorem sndAt_lt {s : Bs} {i : Nat} (h : i < s.length) : sndAt s i = sndB s[i] := by
  unfold sndAt sndB
  rw [clsAt_lt h]
theorem sndAt_end {s : Bs} {i : Nat} (h : s.length ≤ i) : sndAt s i = false := by
  unfold sndAt
  rw [clsAt_end h]
  rfl
theorem nextSnd_drop (s : Bs) (n : Nat) : nextSnd (s.drop n) = sndAt s n := by
  unfold nextSnd
  rw [List.head?_drop]
  rcases Nat.lt_or_ge n s.length with h | h
  · rw [List.getElem?_eq_getElem h, sndAt_lt h]; rfl
  · rw [List.getElem?_eq_none h, sndAt_end h]; rfl
/-- The part that is open. -/
def openP (s : Bs) (st : CutSt) (n : Nat) : Option Bs := if st.inn then some ((s.take n).drop st.at_) else none
theorem part_snoc {s : Bs} {a n : Nat} (ha : a ≤ n) (hn : n < s.length) : (s.take (n + 1)).drop a = (s.take n).drop a ++ [s[n]] := by
  rw [List.take_succ_eq_append_getElem hn, List.drop_append_of_le_length (by rw [List.length_take]; omega)]
theorem part_one {s : Bs} {n : Nat} (hn : n < s.length) : (s.take (n + 1)).drop n = [s[n]] := by
  rw [part_snoc (Nat.le_refl _) hn, List.drop_eq_nil_of_le (by rw [List.length_take]; omega)]
  rfl
theorem stepA_cut {s : Bs} {n : Nat} {out : List Tok} (hn : n < s.length) :
    (stepA s out n).out ++ cutL (sndAt s n) (openP s (stepA s out n) (n + 1)) (s.drop (n + 1)) = out ++ (if sndB s[n] then cutL true (some [s[n]]) (s.drop (n + 1)) else sepT s[n] ++ cutL false none (s.drop (n + 1))) := by
  have hs := sndAt_lt hn
  unfold stepA
  rw [clsAt_lt hn]
  by_cases h : clsB s[n] = 2 ∨ clsB s[n] = 3
  · have hb : sndB s[n] = true := by unfold sndB; rw [Bool.or_eq_true, beq_iff_eq, beq_iff_eq]; exact h
    rw [if_pos h, if_pos hb, hs, hb]
    unfold openP
    simp only [if_true]
    rw [part_one hn]
  · have hb : sndB s[n] = false := by
      cases he : sndB s[n] with
      | false => rfl
      | true => unfold sndB at he; rw [Bool.or_eq_true, beq_iff_eq, beq_iff_eq] at he; exact absurd he h
    rw [if_neg h, hs, hb]
    simp only [Bool.false_eq_true, if_false]
    unfold sepT
    by_cases h5 : clsB s[n] = 5
    · rw [if_pos h5, if_pos h5]
      unfold openP
      simp
    · rw [if_neg h5, if_neg h5]
      by_cases h6 : clsB s[n] = 6
      · rw [if_pos h6, if_pos h6]
        unfold openP
        simp
      · rw [if_neg h6, if_neg h6]
        unfold openP
        simp
theorem run_cut (s : Bs) : ∀ k n, n + k = s.length → toksOf s = (runS s n).out ++ cutL (decide (0 < n) && sndAt s (n - 1)) (openP s (runS s n) n) (s.drop n)
  | 0, n, h => by
    have hn : n = s.length := by omega
    subst hn
    rw [List.drop_length]
    have h0 : clsAt s s.length = 0 := clsAt_end (Nat.le_refl _)
    have hA : ∀ out, (stepA s out s.length).out = out := fun out => by unfold stepA; rw [h0]; simp
    unfold toksOf openP
    rw [runS_succ]
    unfold stepS
    by_cases hi : (runS s s.length).inn = true
    · rw [if_pos hi, if_pos hi, if_neg (by unfold goesOn sndAt; rw [h0]; simp), hA]
      rfl
    · rw [if_neg hi, if_neg hi, hA]
      simp [cutL]
  | k + 1, n, h => by
    have hn : n < s.length := by omega
    rw [run_cut s k (n + 1) (by omega), show n + 1 - 1 = n by omega, runS_succ, show decide (0 < n + 1) = true from decide_eq_true (by omega), Bool.true_and]
    have hd : s.drop n = s[n] :: s.drop (n + 1) := List.drop_eq_getElem_cons hn
    rw [hd]
    have hok := runS_ok s n (by omega)
    unfold stepS
    by_cases hi : (runS s n).inn = true
    · obtain ⟨l1, l2, l3⟩ := hok.lt hi
      have e0 : decide (0 < n) = true := decide_eq_true (by omega)
      have eo : openP s (runS s n) n = some ((s.take n).drop (runS s n).at_) := by unfold openP; rw [if_pos hi]
      have eg : goesOn s n = (sndB s[n] || (clsB s[n] == 4 && sndAt s (n - 1) && nextSnd (s.drop (n + 1)))) := by
        unfold goesOn
        rw [sndAt_lt hn, clsAt_lt hn, nextSnd_drop]
      rw [if_pos hi, eo, e0, Bool.true_and, cutL_s, ← eg]
      by_cases hg : goesOn s n = true
      · rw [if_pos hg, if_pos hg]
        unfold openP
        rw [if_pos hi, part_snoc (by omega) hn, sndAt_lt hn]
      · rw [if_neg hg, if_neg hg, stepA_cut hn]
        simp [wordT, partT, tokW]
    · have eo : openP s (runS s n) n = none := by unfold openP; rw [if_neg hi]
      rw [if_neg hi, eo, cutL_n]
      exact stepA_cut hn
theorem toksOf_cut (s : Bs) : toksOf s = cutL false none s := by
  have := run_cut s s.length 0 (by omega)
  simpa [runS, openP] using this
/-- A byte that parts: a blank, a comma, a #. -/
def parts1 (c : UInt8) : Prop := clsB c = 1 ∨ clsB c = 5 ∨ clsB c = 6
theorem parts1_snd {c : UInt8} (h : parts1 c) : sndB c = false ∧ (clsB c == 4) = false := by
  unfold parts1 at h
  unfold sndB
  rcases h with h | h | h <;> rw [h] <;> exact ⟨rfl, rfl⟩
theorem cutL_app {c : UInt8} (hc : parts1 c) (y : Bs) : ∀ (x : Bs) (p : Bool) (cur : Option Bs), cutL p cur (x ++ c :: y) = cutL p cur x ++ (sepT c ++ cutL false none y)
  | [], p, none => by
    rw [cutL_n0, List.nil_append, cutL_n, (parts1_snd hc).1]
    simp
  | [], p, some w => by
    rw [cutL_s0, List.nil_append, cutL_s, (parts1_snd hc).1, (parts1_snd hc).2]
    simp
  | d :: x, p, none => by
    rw [List.cons_append, cutL_n, cutL_n]
    split
    · exact cutL_app hc y x true (some [d])
    · rw [cutL_app hc y x false none, List.append_assoc]
  | d :: x, p, some w => by
    have en : nextSnd (x ++ c :: y) = nextSnd x := by
      cases x with
      | nil => unfold nextSnd; simp [(parts1_snd hc).1]
      | cons z x => rfl
    rw [List.cons_append, cutL_s, cutL_s, en]
    split
    · exact cutL_app hc y x _ _
    · split
      · rw [cutL_app hc y x true (some [d])]; rfl
      · rw [cutL_app hc y x false none]; simp
/-- The tokens of two lines with a blank, a comma or a # between. -/
theorem toks_app {c : UInt8} (hc : parts1 c) (x y : Bs) : toksOf (x ++ c :: y) = toksOf x ++ (sepT c ++ toksOf y) := by
  rw [toksOf_cut, toksOf_cut, toksOf_cut, cutL_app hc]
theorem cutL_sound : ∀ (x : Bs) (p : Bool) (w : Bs), x.all sndB = true → cutL p (some w) x = [tokW (w ++ x)]
  | [], p, w, _ => by simp [cutL]
  | c :: x, p, w, h => by
    simp only [List.all_cons, Bool.and_eq_true] at h
    rw [cutL_s, if_pos (by rw [h.1]; rfl), cutL_sound x _ _ h.2]
    simp
/-- A word of letters and digits is one token. -/
theorem toks_sound {x : Bs} (h0 : x ≠ []) (h : x.all sndB = true) : toksOf x = [tokW x] := by
  rw [toksOf_cut]
  cases x with
  | nil => exact absurd rfl h0
  | cons c x =>
    simp only [List.all_cons, Bool.and_eq_true] at h
    rw [cutL_n, if_pos h.1, cutL_sound x _ _ h.2]
    rfl
end Go.Proofs.YtjneghncmgjkeaaGreatDoor
