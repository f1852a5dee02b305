/-
  Plain: AddrBack's law, whole; normal texts; the chapter's examples.
-/
import Derived.Test.YtjneghncmgjkeaaGreatDoorRx28
set_option linter.unusedVariables false
namespace Go.Proofs.YtjneghncmgjkeaaGreatDoor
theorem textA_zero {a : Ad} : (textA a).2 = 0 ↔ checkP a = 0 := by
  unfold textA
  by_cases h : checkP a ≠ 0
  · rw [if_pos h]
  · rw [if_neg h]
    simp only [true_iff]
    exact Classical.byContradiction h
end Go.Proofs.YtjneghncmgjkeaaGreatDoor

set_option linter.unusedVariables false
namespace Go.Proofs.YtjneghncmgjkeaaGreatDoor

/-- A text's pieces between commas. -/
def splitC : Bs → List Bs
  | [] => [[]]
  | c :: s => if c = 44 then [] :: splitC s else match splitC s with | [] => [[c]] | p :: r => (c :: p) :: r
def joinB : List Bs → Bs
  | [] => []
  | [x] => x
  | x :: y :: l => x ++ 44 :: joinB (y :: l)
theorem splitC_ne (s : Bs) : splitC s ≠ [] := by
  cases s with
  | nil => simp [splitC]
  | cons c s =>
    rw [splitC]
    split
    · simp
    · cases splitC s <;> simp
theorem splitC_join (s : Bs) : joinB (splitC s) = s := by
  induction s with
  | nil => rfl
  | cons c s ih =>
    rw [splitC]
    by_cases h : c = 44
    · rw [if_pos h, h]
      cases hs : splitC s with
      | nil => exact absurd hs (splitC_ne s)
      | cons p r => rw [hs] at ih; rw [joinB, ih]; rfl
    · rw [if_neg h]
      cases hs : splitC s with
      | nil => exact absurd hs (splitC_ne s)
      | cons p r =>
        rw [hs] at ih
        simp only
        cases r with
        | nil => rw [joinB] at ih ⊢; rw [ih]
        | cons q r => rw [joinB] at ih ⊢; rw [List.cons_append, ih]
def noC (x : Bs) : Prop := ∀ c ∈ x, c ≠ (44 : UInt8)
theorem splitC_noC (s : Bs) : ∀ x ∈ splitC s, noC x := by
  induction s with
  | nil => intro x hx c hc; simp [splitC] at hx; subst hx; cases hc
  | cons d s ih =>
    intro x hx c hc
    rw [splitC] at hx
    by_cases h : d = 44
    · rw [if_pos h] at hx
      rcases List.mem_cons.1 hx with rfl | hx
      · cases hc
      · exact ih x hx c hc
    · rw [if_neg h] at hx
      cases hs : splitC s with
      | nil => exact absurd hs (splitC_ne s)
      | cons p r =>
        rw [hs] at hx ih
        simp only at hx
        rcases List.mem_cons.1 hx with rfl | hx
        · rcases List.mem_cons.1 hc with rfl | hc
          · exact h
          · exact ih p (by simp) c hc
        · exact ih x (by simp [hx]) c hc
theorem splitC_app {x : Bs} (hx : noC x) (y : Bs) : splitC (x ++ 44 :: y) = x :: splitC y := by
  induction x with
  | nil => rw [List.nil_append, splitC, if_pos rfl]
  | cons c x ih =>
    rw [List.cons_append, splitC, if_neg (hx c (by simp)), ih fun d hd => hx d (by simp [hd])]
theorem splitC_one {x : Bs} (hx : noC x) : splitC x = [x] := by
  induction x with
  | nil => rfl
  | cons c x ih => rw [splitC, if_neg (hx c (by simp)), ih fun d hd => hx d (by simp [hd])]
theorem splitC_joinB : ∀ {l : List Bs}, l ≠ [] → (∀ x ∈ l, noC x) → splitC (joinB l) = l
  | [], h, _ => absurd rfl h
  | [x], _, h => by rw [joinB]; exact splitC_one (h x (by simp))
  | x :: y :: l, _, h => by rw [joinB, splitC_app (h x (by simp)), splitC_joinB (by simp) fun z hz => h z (by simp [hz])]
theorem cls5 {c : UInt8} (h : clsB c = 5) : c = 44 := by
  by_cases h5 : c.toNat = 44
  · exact UInt8.toNat_inj.1 h5
  · exfalso
    unfold clsB at h
    rw [if_neg h5] at h
    repeat' split at h
    all_goals omega
theorem sepT_noC {c : UInt8} (h : c ≠ 44) : ∀ t ∈ sepT c, t.k ≠ 4 := by
  intro t ht
  unfold sepT at ht
  by_cases h5 : clsB c = 5
  · exact absurd (cls5 h5) h
  · rw [if_neg h5] at ht
    split at ht
    · rw [List.mem_singleton.1 ht]; decide
    · cases ht
theorem tokW_k (w : Bs) : (tokW w).k ≠ 4 := by have := kindT_bd (upS w); show kindT (upS w) ≠ 4; omega
theorem cutL_noC : ∀ (x : Bs) (p : Bool) (cur : Option Bs), noC x → ∀ t ∈ cutL p cur x, t.k ≠ 4
  | [], p, none, _, t, ht => by rw [cutL_n0] at ht; cases ht
  | [], p, some w, _, t, ht => by rw [cutL_s0] at ht; rw [List.mem_singleton.1 ht]; exact tokW_k w
  | c :: x, p, none, h, t, ht => by
    have hx : noC x := fun d hd => h d (by simp [hd])
    rw [cutL_n] at ht
    split at ht
    · exact cutL_noC x _ _ hx t ht
    · rcases List.mem_append.1 ht with ht | ht
      · exact sepT_noC (h c (by simp)) t ht
      · exact cutL_noC x _ _ hx t ht
  | c :: x, p, some w, h, t, ht => by
    have hx : noC x := fun d hd => h d (by simp [hd])
    rw [cutL_s] at ht
    split at ht
    · exact cutL_noC x _ _ hx t ht
    · rcases List.mem_cons.1 ht with rfl | ht
      · exact tokW_k w
      · split at ht
        · exact cutL_noC x _ _ hx t ht
        · rcases List.mem_append.1 ht with ht | ht
          · exact sepT_noC (h c (by simp)) t ht
          · exact cutL_noC x _ _ hx t ht
theorem toks_noC {x : Bs} (h : noC x) : ∀ t ∈ toksOf x, t.k ≠ 4 := by
  rw [toksOf_cut]
  exact cutL_noC x _ _ h
/-- The parts of a text are the tokens of its pieces. -/
theorem parts_join : ∀ {l : List Bs}, l ≠ [] → (∀ x ∈ l, noC x) → partsP (toksOf (joinB l)) = l.map toksOf
  | [], h, _ => absurd rfl h
  | [x], _, h => by rw [joinB, partsP_one (toks_noC (h x (by simp)))]; rfl
  | x :: y :: l, _, h => by
    rw [joinB, toks_co, partsP_cut (toks_noC (h x (by simp))), parts_join (by simp) fun z hz => h z (by simp [hz])]
    rfl
theorem parts_split (s : Bs) : partsP (toksOf s) = (splitC s).map toksOf := by
  have := parts_join (splitC_ne s) (splitC_noC s)
  rwa [splitC_join] at this
/-- An empty piece is an empty part. -/
theorem parse_empty {s : Bs} (h1 : okBs s) (h2 : s.length ≤ 200) (h3 : (toksOf s).length ≤ 40) (h4 : [] ∈ splitC s) : parseP s = (Ad.zero, 270, 0) := by
  unfold parseP
  dsimp only
  rw [tokensP_of h1 h2 h3]
  dsimp only
  rw [if_neg (by simp)]
  unfold parsePts
  rw [if_pos]
  · rfl
  · right
    rw [parts_split, List.any_eq_true]
    exact ⟨toksOf [], List.mem_map_of_mem h4, by rw [toks_nil]; rfl⟩
theorem parts_total : ∀ l : List Tok, ((partsP l).map List.length).sum + (partsP l).length = l.length + 1
  | [] => by simp [partsP]
  | t :: l => by
    have ih := parts_total l
    unfold partsP
    split
    · simp only [List.map_cons, List.sum_cons, List.length_nil, List.length_cons]; omega
    · cases hp : partsP l with
      | nil => rw [hp] at ih; simp at ih
      | cons p r => rw [hp] at ih; simp only [List.map_cons, List.sum_cons, List.length_cons] at ih ⊢; omega
end Go.Proofs.YtjneghncmgjkeaaGreatDoor
