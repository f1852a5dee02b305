/-
  Plain: the text of tokens has just these tokens.
-/
import Derived.Test.YtjneghncmgjkeaaGreatDoorRv08
set_option linter.unusedVariables false
namespace Go.Proofs.YtjneghncmgjkeaaGreatDoor

/-- A word: sound at both ends, each joint between sounds. -/
def wordB : Bool → Bs → Bool
  | p, [] => p
  | p, c :: s => if sndB c then wordB true s else clsB c == 4 && p && nextSnd s && wordB false s
theorem cutL_word : ∀ (x : Bs) (p : Bool) (w : Bs), wordB p x = true → cutL p (some w) x = [tokW (w ++ x)]
  | [], p, w, _ => by rw [cutL_s0, List.append_nil]
  | c :: x, p, w, h => by
    rw [wordB] at h
    rw [cutL_s]
    by_cases hc : sndB c = true
    · rw [if_pos hc] at h
      rw [if_pos (by rw [hc]; rfl), hc, cutL_word x _ _ h]
      simp
    · rw [if_neg hc] at h
      rw [Bool.and_eq_true] at h
      have hc' : sndB c = false := by simpa using hc
      rw [if_pos (by rw [h.1, Bool.or_true]), hc', cutL_word x _ _ h.2]
      simp
theorem toks_word {x : Bs} (h : wordB false x = true) : toksOf x = [tokW x] := by
  rw [toksOf_cut]
  cases x with
  | nil => rw [wordB] at h; cases h
  | cons c x =>
    rw [wordB] at h
    by_cases hc : sndB c = true
    · rw [if_pos hc] at h
      rw [cutL_n, if_pos hc, cutL_word x _ _ h]
      rfl
    · rw [if_neg hc] at h
      simp at h
theorem nextSnd_app {v y : Bs} (h : nextSnd v = true) : nextSnd (v ++ y) = true := by
  cases v with
  | nil => unfold nextSnd at h; simp at h
  | cons d v => exact h
theorem wordB_snd {c : UInt8} (hc : sndB c = true) : ∀ (v : Bs) (q : Bool), wordB q v = true → wordB q (v ++ [c]) = true
  | [], q, _ => by simp [wordB, hc]
  | d :: v, q, h => by
    rw [List.cons_append, wordB]
    rw [wordB] at h
    by_cases hd : sndB d = true
    · rw [if_pos hd] at h ⊢
      exact wordB_snd hc v true h
    · rw [if_neg hd] at h ⊢
      simp only [Bool.and_eq_true] at h ⊢
      exact ⟨⟨h.1.1, nextSnd_app h.1.2⟩, wordB_snd hc v false h.2⟩
theorem wordB_joint {j c : UInt8} (hj : clsB j = 4) (hc : sndB c = true) : ∀ (v : Bs) (q : Bool), wordB q v = true → wordB q (v ++ [j, c]) = true
  | [], q, h => by
    have hj' : sndB j = false := by unfold sndB; rw [hj]; rfl
    rw [wordB] at h
    subst h
    simp [wordB, hj', hj, nextSnd, hc]
  | d :: v, q, h => by
    rw [List.cons_append, wordB]
    rw [wordB] at h
    by_cases hd : sndB d = true
    · rw [if_pos hd] at h ⊢
      exact wordB_joint hj hc v true h
    · rw [if_neg hd] at h ⊢
      simp only [Bool.and_eq_true] at h ⊢
      exact ⟨⟨h.1.1, nextSnd_app h.1.2⟩, wordB_joint hj hc v false h.2⟩
/-- A token that a line may have. -/
def TokIs (t : Tok) : Prop := t = tComma ∨ t = tHash ∨ ∃ w, wordB false w = true ∧ t = tokW w
def OpenOk (p : Bool) (s : Bs) (w : Bs) : Prop := (p = true → wordB false w = true) ∧ (p = false → ∃ v j, w = v ++ [j] ∧ wordB false v = true ∧ clsB j = 4 ∧ nextSnd s = true)
theorem sepT_is {c : UInt8} : ∀ t ∈ sepT c, TokIs t := by
  intro t ht
  unfold sepT at ht
  split at ht
  · exact .inl (List.mem_singleton.1 ht)
  · split at ht
    · exact .inr (.inl (List.mem_singleton.1 ht))
    · cases ht
theorem word_one {c : UInt8} (hc : sndB c = true) : wordB false [c] = true := by simp [wordB, hc]
theorem cutL_is : ∀ (s : Bs) (p : Bool) (cur : Option Bs), (∀ w, cur = some w → OpenOk p s w) → ∀ t ∈ cutL p cur s, TokIs t
  | [], p, none, _, t, ht => by rw [cutL_n0] at ht; cases ht
  | [], p, some w, h, t, ht => by
    rw [cutL_s0] at ht
    rw [List.mem_singleton.1 ht]
    obtain ⟨a, b⟩ := h w rfl
    cases p with
    | true => exact .inr (.inr ⟨w, a rfl, rfl⟩)
    | false =>
      obtain ⟨_, _, _, _, _, hn⟩ := b rfl
      unfold nextSnd at hn
      simp at hn
  | c :: s, p, none, h, t, ht => by
    rw [cutL_n] at ht
    by_cases hc : sndB c = true
    · rw [if_pos hc] at ht
      exact cutL_is s true (some [c]) (fun w hw => by injection hw with hw; subst hw; exact ⟨fun _ => word_one hc, fun e => by cases e⟩) t ht
    · rw [if_neg hc] at ht
      rcases List.mem_append.1 ht with ht | ht
      · exact sepT_is t ht
      · exact cutL_is s false none (fun w hw => by cases hw) t ht
  | c :: s, p, some w, h, t, ht => by
    rw [cutL_s] at ht
    obtain ⟨a, b⟩ := h w rfl
    by_cases hg : (sndB c || clsB c == 4 && p && nextSnd s) = true
    · rw [if_pos hg] at ht
      refine cutL_is s (sndB c) (some (w ++ [c])) (fun w' hw => ?_) t ht
      injection hw with hw
      subst hw
      by_cases hc : sndB c = true
      · rw [hc]
        refine ⟨fun _ => ?_, fun e => by cases e⟩
        cases p with
        | true => exact wordB_snd hc w false (a rfl)
        | false =>
          obtain ⟨v, j, rfl, hv, hj, _⟩ := b rfl
          rw [List.append_assoc]
          exact wordB_joint hj hc v false hv
      · have hc' : sndB c = false := by simpa using hc
        rw [hc', Bool.false_or] at hg
        simp only [Bool.and_eq_true, beq_iff_eq] at hg
        rw [hc']
        exact ⟨(fun e => by cases e), fun _ => ⟨w, c, rfl, a hg.1.2, hg.1.1, hg.2⟩⟩
    · rw [if_neg hg] at ht
      have hp : p = true := by
        cases p with
        | true => rfl
        | false =>
          obtain ⟨_, _, _, _, _, hn⟩ := b rfl
          have : sndB c = true := hn
          rw [this] at hg
          exact absurd rfl hg
      rcases List.mem_cons.1 ht with rfl | ht
      · exact .inr (.inr ⟨w, a hp, rfl⟩)
      · by_cases hc : sndB c = true
        · rw [if_pos hc] at ht
          exact cutL_is s true (some [c]) (fun w hw => by injection hw with hw; subst hw; exact ⟨fun _ => word_one hc, fun e => by cases e⟩) t ht
        · rw [if_neg hc] at ht
          rcases List.mem_append.1 ht with ht | ht
          · exact sepT_is t ht
          · exact cutL_is s false none (fun w hw => by cases hw) t ht
theorem toksOf_is {s : Bs} : ∀ t ∈ toksOf s, TokIs t := by
  rw [toksOf_cut]
  exact cutL_is s false none fun w hw => by cases hw
theorem clsB_up (c : UInt8) : clsB (upB c) = clsB c := by
  unfold upB
  by_cases h : 97 ≤ c.toNat ∧ c.toNat ≤ 122
  · have e : (c - 32).toNat = c.toNat - 32 := by
      rw [UInt8.toNat_sub_of_le]
      · rfl
      · rw [UInt8.le_iff_toNat_le]
        show 32 ≤ c.toNat
        omega
    rw [if_pos h]
    unfold clsB
    rw [e, if_pos (by omega), if_pos (by omega)]
  · rw [if_neg h]
theorem sndB_up (c : UInt8) : sndB (upB c) = sndB c := by unfold sndB; rw [clsB_up]
theorem nextSnd_up (s : Bs) : nextSnd (upS s) = nextSnd s := by
  cases s with
  | nil => rfl
  | cons c s => exact sndB_up c
theorem wordB_up : ∀ (s : Bs) (p : Bool), wordB p (upS s) = wordB p s
  | [], p => rfl
  | c :: s, p => by
    show wordB p (upB c :: upS s) = _
    rw [wordB, wordB, sndB_up, clsB_up, nextSnd_up, wordB_up s true, wordB_up s false]
theorem tokW_up (w : Bs) : tokW (upS w) = tokW w := by unfold tokW; rw [upS_idem]
/-- A token's text has just this token. -/
theorem toks_self {t : Tok} (h : TokIs t) : toksOf t.t = [t] := by
  rcases h with rfl | rfl | ⟨w, hw, rfl⟩
  · decide +kernel
  · decide +kernel
  · show toksOf (upS w) = [tokW w]
    rw [toks_word (by rw [wordB_up]; exact hw), tokW_up]
theorem kindT_bd (t : Bs) : kindT t = 1 ∨ kindT t = 2 ∨ kindT t = 3 := by
  unfold kindT
  split
  · exact .inl rfl
  · split
    · exact .inr (.inl rfl)
    · exact .inr (.inr rfl)
theorem TokIs.comma {t : Tok} (h : TokIs t) (hk : t.k = 4) : t = tComma := by
  rcases h with rfl | rfl | ⟨w, _, rfl⟩
  · rfl
  · cases hk
  · have := kindT_bd (upS w)
    have e : (tokW w).k = kindT (upS w) := rfl
    omega
theorem TokIs.hash {t : Tok} (h : TokIs t) (hk : t.k = 5) : t = tHash := by
  rcases h with rfl | rfl | ⟨w, _, rfl⟩
  · cases hk
  · rfl
  · have := kindT_bd (upS w)
    have e : (tokW w).k = kindT (upS w) := rfl
    omega
theorem parts_sp : parts1 32 := .inl (by decide)
theorem toks_sp (x y : Bs) : toksOf (x ++ 32 :: y) = toksOf x ++ toksOf y := by
  rw [toks_app parts_sp, show sepT 32 = [] by decide, List.nil_append]
/-- The texts of tokens with a blank between each two have just these tokens. -/
theorem toks_texts : ∀ {l : List Tok}, (∀ t ∈ l, TokIs t) → toksOf (textsP l) = l
  | [], _ => by decide +kernel
  | [t], h => toks_self (h t (by simp))
  | t :: u :: l, h => by
    have e : textsP (t :: u :: l) = t.t ++ 32 :: textsP (u :: l) := rfl
    rw [e, toks_sp, toks_self (h t (by simp)), toks_texts fun x hx => h x (by simp [hx])]
    rfl
end Go.Proofs.YtjneghncmgjkeaaGreatDoor
