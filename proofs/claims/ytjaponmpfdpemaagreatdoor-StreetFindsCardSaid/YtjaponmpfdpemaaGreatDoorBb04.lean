/-
  Plain: the text of tokens has just these tokens.
-/
import Derived.Test.YtjaponmpfdpemaaGreatDoorBb03
set_option linter.unusedSimpArgs false
set_option linter.unusedVariables false
namespace Go.Proofs.YtjaponmpfdpemaaGreatDoor
def wordB : Bool → Bs → Bool
 | p, [] => p
 | p, c :: s => if sndB c then wordB true s else clsB c == 4 && p && nextSnd s && wordB false s
theorem cutL_word : ∀ (x : Bs) (p : Bool) (w : Bs), wordB p x = true → cutL p (some w) x = [tokW (w ++ x)]
 | [], p, w, _ => by rw [cutL_s0, List.append_nil]
 | c :: x, p, w, h => by
  rw [wordB] at h
  rw [cutL_s]
  by_cases hc : sndB c = true
  ·rw [if_pos hc] at h
   rw [if_pos (by rw [hc]; rfl), hc, cutL_word x _ _ h]
   simp
  ·rw [if_neg hc] at h
   rw [Bool.and_eq_true] at h
   have hc' : sndB c = false := by simpa using hc
   rw [if_pos (by rw [h.1, Bool.or_true]), hc', cutL_word x _ _ h.2]
   simp
theorem toks_word {x : Bs} (h : wordB false x = true) : toksOf x = [tokW x] := by
 rw [toksOf_cut]
 cases x with
 | nil => rw [wordB] at h; cases h
 | cons c x =>
  rw [wordB] at h
  by_cases hc : sndB c = true
  ·rw [if_pos hc] at h
   rw [cutL_n, if_pos hc, cutL_word x _ _ h]
   rfl
  ·rw [if_neg hc] at h
   simp at h
theorem nextSnd_app {v y : Bs} (h : nextSnd v = true) : nextSnd (v ++ y) = true := by
 cases v with
 | nil => unfold nextSnd at h; simp at h
 | cons d v => exact h
theorem wordB_snd {c : UInt8} (hc : sndB c = true) : ∀ (v : Bs) (q : Bool), wordB q v = true → wordB q (v ++ [c]) = true
 | [], q, _ => by simp [wordB, hc]
 | d :: v, q, h => by
  rw [List.cons_append, wordB]
  rw [wordB] at h
  by_cases hd : sndB d = true
  ·rw [if_pos hd] at h ⊢
   exact wordB_snd hc v true h
  ·rw [if_neg hd] at h ⊢
   simp only [Bool.and_eq_true] at h ⊢
   exact ⟨⟨h.1.1, nextSnd_app h.1.2⟩, wordB_snd hc v false h.2⟩
theorem wordB_joint {j c : UInt8} (hj : clsB j = 4) (hc : sndB c = true) : ∀ (v : Bs) (q : Bool), wordB q v = true → wordB q (v ++ [j, c]) = true
 | [], q, h => by
  have hj' : sndB j = false := by unfold sndB; rw [hj]; rfl
  rw [wordB] at h
  subst h
  simp [wordB, hj', hj, nextSnd, hc]
 | d :: v, q, h => by
  rw [List.cons_append, wordB]
  rw [wordB] at h
  by_cases hd : sndB d = true
  ·rw [if_pos hd] at h ⊢
   exact wordB_joint hj hc v true h
  ·rw [if_neg hd] at h ⊢
   simp only [Bool.and_eq_true] at h ⊢
   exact ⟨⟨h.1.1, nextSnd_app h.1.2⟩, wordB_joint hj hc v false h.2⟩
def TokIs (t : Tok) : Prop := t = tComma ∨ t = tHash ∨ ∃ w, wordB false w = true ∧ t = tokW w
def OpenOk (p : Bool) (s : Bs) (w : Bs) : Prop := (p = true → wordB false w = true) ∧ (p = false → ∃ v j, w = v ++ [j] ∧ wordB false v = true ∧ clsB j = 4 ∧ nextSnd s = true)
theorem sepT_is {c : UInt8} : ∀ t ∈ sepT c, TokIs t := by
 intro t ht
 unfold sepT at ht
 split at ht
 ·exact .inl (List.mem_singleton.1 ht)
 ·split at ht
  ·exact .inr (.inl (List.mem_singleton.1 ht))
  ·cases ht
theorem word_one {c : UInt8} (hc : sndB c = true) : wordB false [c] = true := by simp [wordB, hc]
theorem cutL_is : ∀ (s : Bs) (p : Bool) (cur : Option Bs), (∀ w, cur = some w → OpenOk p s w) → ∀ t ∈ cutL p cur s, TokIs t
 | [], p, none, _, t, ht => by rw [cutL_n0] at ht; cases ht
 | [], p, some w, h, t, ht => by
  rw [cutL_s0] at ht
  rw [List.mem_singleton.1 ht]
  obtain ⟨a, b⟩ := h w rfl
  cases p with
  | true => exact .inr (.inr ⟨w, a rfl, rfl⟩)
  | false =>
   obtain ⟨_, _, _, _, _, hn⟩ := b rfl
   unfold nextSnd at hn
   simp at hn
 | c :: s, p, none, h, t, ht => by
  rw [cutL_n] at ht
  by_cases hc : sndB c = true
  ·rw [if_pos hc] at ht
   exact cutL_is s true (some [c]) (fun w hw => by injection hw with hw; subst hw; exact ⟨fun _ => word_one hc, fun e => by cases e⟩) t ht
  ·rw [if_neg hc] at ht
   rcases List.mem_append.1 ht with ht | ht
   ·exact sepT_is t ht
   ·exact cutL_is s false none (fun w hw => by cases hw) t ht
 | c :: s, p, some w, h, t, ht => by
  rw [cutL_s] at ht
  obtain ⟨a, b⟩ := h w rfl
  by_cases hg : (sndB c || clsB c == 4 && p && nextSnd s) = true
  ·rw [if_pos hg] at ht
   refine cutL_is s (sndB c) (some (w ++ [c])) (fun w' hw => ?_) t ht
   injection hw with hw
   subst hw
   by_cases hc : sndB c = true
   ·rw [hc]
    refine ⟨fun _ => ?_, fun e => by cases e⟩
    cases p with
    | true => exact wordB_snd hc w false (a rfl)
    | false =>
     obtain ⟨v, j, rfl, hv, hj, _⟩ := b rfl
     rw [List.append_assoc]
     exact wordB_joint hj hc v false hv
   ·have hc' : sndB c = false := by simpa using hc
    rw [hc', Bool.false_or] at hg
    simp only [Bool.and_eq_true, beq_iff_eq] at hg
    rw [hc']
    exact ⟨(fun e => by cases e), fun _ => ⟨w, c, rfl, a hg.1.2, hg.1.1, hg.2⟩⟩
  ·rw [if_neg hg] at ht
   have hp : p = true := by
    cases p with
    | true => rfl
    | false =>
     obtain ⟨_, _, _, _, _, hn⟩ := b rfl
     have : sndB c = true := hn
     rw [this] at hg
     exact absurd rfl hg
   rcases List.mem_cons.1 ht with rfl | ht
   ·exact .inr (.inr ⟨w, a hp, rfl⟩)
   ·by_cases hc : sndB c = true
    ·rw [if_pos hc] at ht
     exact cutL_is s true (some [c]) (fun w hw => by injection hw with hw; subst hw; exact ⟨fun _ => word_one hc, fun e => by cases e⟩) t ht
    ·rw [if_neg hc] at ht
     rcases List.mem_append.1 ht with ht | ht
     ·exact sepT_is t ht
     ·exact cutL_is s false none (fun w hw => by cases hw) t ht
theorem toksOf_is {s : Bs} : ∀ t ∈ toksOf s, TokIs t := by
 rw [toksOf_cut]
 exact cutL_is s false none fun w hw => by cases hw
theorem clsB_up (c : UInt8) : clsB (upB c) = clsB c := by
 unfold upB
 by_cases h : 97 ≤ c.toNat ∧ c.toNat ≤ 122
 ·have e : (c - 32).toNat = c.toNat - 32 := by
   rw [UInt8.toNat_sub_of_le]
   ·rfl
   ·rw [UInt8.le_iff_toNat_le]
    show 32 ≤ c.toNat
    omega
  rw [if_pos h]
  unfold clsB
  rw [e, if_pos (by omega), if_pos (by omega)]
 ·rw [if_neg h]
theorem sndB_up (c : UInt8) : sndB (upB c) = sndB c := by unfold sndB; rw [clsB_up]
theorem nextSnd_up (s : Bs) : nextSnd (upS s) = nextSnd s := by
 cases s with
 | nil => rfl
 | cons c s => exact sndB_up c
theorem wordB_up : ∀ (s : Bs) (p : Bool), wordB p (upS s) = wordB p s
 | [], p => rfl
 | c :: s, p => by
  show wordB p (upB c :: upS s) = _
  rw [wordB, wordB, sndB_up, clsB_up, nextSnd_up, wordB_up s true, wordB_up s false]
theorem tokW_up (w : Bs) : tokW (upS w) = tokW w := by unfold tokW; rw [upS_idem]
theorem toks_self {t : Tok} (h : TokIs t) : toksOf t.t = [t] := by
 rcases h with rfl | rfl | ⟨w, hw, rfl⟩
 ·decide +kernel
 ·decide +kernel
 ·show toksOf (upS w) = [tokW w]
  rw [toks_word (by rw [wordB_up]; exact hw), tokW_up]
theorem kindT_bd (t : Bs) : kindT t = 1 ∨ kindT t = 2 ∨ kindT t = 3 := by
 unfold kindT
 split
 ·exact .inl rfl
 ·split
  ·exact .inr (.inl rfl)
  ·exact .inr (.inr rfl)
theorem TokIs.comma {t : Tok} (h : TokIs t) (hk : t.k = 4) : t = tComma := by
 rcases h with rfl | rfl | ⟨w, _, rfl⟩
 ·rfl
 ·cases hk
 ·have := kindT_bd (upS w)
  have e : (tokW w).k = kindT (upS w) := rfl
  omega
theorem TokIs.hash {t : Tok} (h : TokIs t) (hk : t.k = 5) : t = tHash := by
 rcases h with rfl | rfl | ⟨w, _, rfl⟩
 ·cases hk
 ·rfl
 ·have := kindT_bd (upS w)
  have e : (tokW w).k = kindT (upS w) := rfl
  omega
theorem parts_sp : parts1 32 := .inl (by decide)
theorem toks_sp (x y : Bs) : toksOf (x ++ 32 :: y) = toksOf x ++ toksOf y := by
 rw [toks_app parts_sp, show sepT 32 = [] by decide, List.nil_append]
theorem toks_texts : ∀ {l : List Tok}, (∀ t ∈ l, TokIs t) → toksOf (textsP l) = l
 | [], _ => by decide +kernel
 | [t], h => toks_self (h t (by simp))
 | t :: u :: l, h => by
  have e : textsP (t :: u :: l) = t.t ++ 32 :: textsP (u :: l) := rfl
  rw [e, toks_sp, toks_self (h t (by simp)), toks_texts fun x hx => h x (by simp [hx])]
  rfl
end Go.Proofs.YtjaponmpfdpemaaGreatDoor
set_option linter.unusedSimpArgs false
set_option linter.unusedVariables false
namespace Go.Proofs.YtjaponmpfdpemaaGreatDoor
theorem partsP_len : ∀ l : List Tok, 1 ≤ (partsP l).length ∧ (partsP l).length ≤ l.length + 1
 | [] => ⟨by simp [partsP], by simp [partsP]⟩
 | t :: l => by
  have ih := partsP_len l
  unfold partsP
  split
  ·simp only [List.length_cons]; omega
  ·cases hp : partsP l with
   | nil => rw [hp] at ih; simp at ih
   | cons p r => rw [hp] at ih; simp only [List.length_cons] at ih ⊢; omega
structure FieldOk (x : Bs) : Prop where
 up : upS x = x
 len : x.length ≤ 40
theorem ShortOk.field {k : Int} {n : Nat} {x : Bs} (h : ShortOk k n x) (hn : n ≤ 40) : FieldOk x := ⟨h.up, by have := h.len; omega⟩
theorem backP_mem {l : List Tok} {k : Int} : ∀ t ∈ (backP l k).1, t ∈ l := by
 unfold backP
 split
 ·intro t ht; exact List.dropLast_subset l ht
 ·intro t ht; exact ht
theorem frontP_mem {l : List Tok} {k : Int} : ∀ t ∈ (frontP l k).1, t ∈ l := by
 unfold frontP
 split
 ·intro t ht; exact List.mem_of_mem_tail ht
 ·intro t ht; exact ht
theorem backP_ok {l : List Tok} {k : Int} {n : Nat} (hf : wordsFine k n = true) (h0 : (shortP k []).1 = []) : ShortOk k n (backP l k).2 := by
 unfold backP
 split
 ·exact shortP_ok hf h0 _
 ·exact ⟨rfl, by simp, h0⟩
theorem frontP_ok {l : List Tok} {k : Int} {n : Nat} (hf : wordsFine k n = true) (h0 : (shortP k []).1 = []) : ShortOk k n (frontP l k).2 := by
 unfold frontP
 split
 ·exact shortP_ok hf h0 _
 ·exact ⟨rfl, by simp, h0⟩
theorem unitP_ok {l : List Tok} (hu : (unitP l).2 = true) (hl : ∀ t ∈ l, upS t.t = t.t) (h10 : (l.getD 1 ⟨0, []⟩).t.length ≤ 10) : FieldOk (unitP l).1 := by
 unfold unitP at hu ⊢
 match l, hu, hl, h10 with
 | [a, b], hu, hl, h10 =>
  have hb : upS b.t = b.t := hl b (by simp)
  have hb10 : b.t.length ≤ 10 := h10
  by_cases h1 : b.k = 5 ∨ b.k = 4
  ·simp only [if_pos h1] at hu; cases hu
  ·simp only [if_neg h1] at hu ⊢
   by_cases h2 : a.k = 5
   ·simp only [if_pos h2]
    refine ⟨?_, by simp only [List.length_cons]; omega⟩
    unfold upS at hb ⊢
    rw [List.map_cons, hb]
    rfl
   ·simp only [if_neg h2]
    have hs := shortP_ok words_fine.2.2.2 short0.2.2.2 a.t
    refine ⟨?_, ?_⟩
    ·have h3 := hs.up
     unfold upS at hb h3 ⊢
     unfold shortT
     rw [List.map_append, List.map_cons, hb, h3]
     rfl
    ·have := hs.len
     unfold shortT
     simp only [List.length_append, List.length_cons]
     omega
structure StreetOk (l : List Tok) (r : Ad × List Tok × Option (List Tok)) : Prop where
 pre : ShortOk 2 2 r.1.pre
 suf : ShortOk 1 4 r.1.suf
 post : ShortOk 2 2 r.1.post
 name : r.1.name = textsP r.2.1
 mem : ∀ t ∈ r.2.1, t ∈ l
 unit : ∀ u, r.2.2 = some u → (unitP u).2 = true ∧ r.1.unit = (unitP u).1 ∧ ∀ t ∈ u, t ∈ l
 none : r.2.2 = none → r.1.unit = []
theorem streetP_ok (l : List Tok) (inner : Bool) : StreetOk l (streetP l inner) := by
 unfold streetP
 dsimp only
 have h1 : ∀ t, t ∈ (if (l.head? == some halfT) = true then l.tail else l) → t ∈ l := by
  intro t ht
  split at ht
  ·exact List.mem_of_mem_tail ht
  ·exact ht
 generalize (if (l.head? == some halfT) = true then l.tail else l) = l1 at *
 obtain ⟨b, hb⟩ : ∃ b, (inner && decide (2 < l1.length) && (unitP (l1.drop (l1.length - 2))).2) = b := ⟨_, rfl⟩
 rw [hb]
 have h2 : ∀ t, t ∈ (if b = true then l1.take (l1.length - 2) else l1) → t ∈ l := by
  intro t ht
  split at ht
  ·exact h1 t (List.mem_of_mem_take ht)
  ·exact h1 t ht
 generalize (if b = true then l1.take (l1.length - 2) else l1) = l2 at *
 refine ⟨frontP_ok words_fine.2.1 short0.2.1, backP_ok words_fine.1 short0.1, backP_ok words_fine.2.1 short0.2.1, rfl, fun t ht => h2 t (backP_mem t (backP_mem t (frontP_mem t ht))), fun u hu => ?_, fun hn => ?_⟩
 ·cases b with
  | false => cases hu
  | true =>
   injection hu with hu
   subst hu
   rw [Bool.and_eq_true] at hb
   exact ⟨hb.2, rfl, fun t ht => h1 t (List.mem_of_mem_drop ht)⟩
 ·cases b with
  | false => rfl
  | true => cases hn
structure FieldsOk (a : Ad) : Prop where
 n : 1 ≤ a.n ∧ a.n ≤ 999999
 name : a.name ≠ []
 city : a.city ≠ []
 state : a.state.length = 2
 zip : a.zip.length = 5
 more : a.more.length = 0 ∨ a.more.length = 4
 all : ∀ x ∈ [a.pre, a.name, a.suf, a.post, a.unit, a.city, a.state], FieldOk x
 own : (shortP 2 a.pre).1 = a.pre ∧ (shortP 2 a.post).1 = a.post ∧ (shortP 1 a.suf).1 = a.suf ∧ (shortP 3 a.state).1 = a.state
theorem textsP_ne {l : List Tok} (h : 0 < l.length) (hn : ∀ t ∈ l, t.t ≠ []) : textsP l ≠ [] := by
 match l, h, hn with
 | [t], _, hn => exact hn t (by simp)
 | t :: u :: l, _, _ =>
  intro e
  have := congrArg List.length e
  simp [textsP] at this
theorem cutDash_no : ∀ {s : Bs}, (cutDash s).2.2 = false → (cutDash s).2.1 = []
 | [], _ => rfl
 | c :: s, h => by
  unfold cutDash at h ⊢
  split at h
  ·cases h
  ·rename_i hc
   rw [if_neg hc]
   exact cutDash_no (s := s) h
theorem partsP_at {l : List Tok} {k : Nat} {t : Tok} (h : t ∈ (partsP l).getD k []) : t ∈ l ∧ t.k ≠ 4 := by
 rcases Nat.lt_or_ge k (partsP l).length with h1 | h1
 ·rw [List.getD_eq_getElem?_getD, List.getElem?_eq_getElem h1] at h
  exact partsP_mem (List.getElem_mem h1) h
 ·rw [List.getD_eq_getElem?_getD, List.getElem?_eq_none h1] at h
  cases h
theorem parseP_fields (s : Bs) (h : (parseP s).2.1 = 0) : FieldsOk (parseP s).1 := by
 have hT := tokensP_ok s
 unfold parseP at h ⊢
 dsimp only at h ⊢
 generalize tokensP s = r at *
 have hup : ∀ t ∈ r.1, upS t.t = t.t := fun t ht => (hT.up t ht).2
 have hne : ∀ t ∈ r.1, t.t ≠ [] := fun t ht => (hT.up t ht).1
 by_cases h1 : r.2.1 ≠ 0
 ·rw [if_pos h1] at h; exact absurd h h1
 rw [if_neg h1] at h ⊢
 unfold parsePts at h ⊢
 dsimp only at h ⊢
 by_cases h2 : ¬((partsP r.1).length - 1 = 2 ∨ (partsP r.1).length - 1 = 3) ∨ ((partsP r.1).any fun x => x.isEmpty) = true
 ·rw [if_pos h2] at h; exact absurd h (fun e => by cases e)
 rw [if_neg h2] at h ⊢
 have hmem : ∀ k t, t ∈ (partsP r.1).getD k [] → t ∈ r.1 := fun k t ht => (partsP_at ht).1
 have hemp : ∀ k, k < (partsP r.1).length → 0 < ((partsP r.1).getD k []).length := fun k hk => by
  rw [List.getD_eq_getElem?_getD, List.getElem?_eq_getElem hk]
  simp only [Option.getD_some]
  have h3 : ((partsP r.1).any fun x => x.isEmpty) = false := by
   cases he : ((partsP r.1).any fun x => x.isEmpty) with
   | false => rfl
   | true => exact absurd (.inr he) h2
  rw [List.any_eq_false] at h3
  have := h3 _ (List.getElem_mem hk)
  cases hl : (partsP r.1)[k] with
  | nil => rw [hl] at this; simp at this
  | cons x y => simp
 have hlast : (partsP r.1).length - 1 = 2 ∨ (partsP r.1).length - 1 = 3 := by
  by_cases h3 : (partsP r.1).length - 1 = 2 ∨ (partsP r.1).length - 1 = 3
  ·exact h3
  ·exact absurd (.inl h3) h2
 clear h2
 generalize hp : partsP r.1 = p at *
 by_cases h3 : ¬(digitsP ((p.getD 0 []).headD ⟨0, []⟩).t 1 6 = true ∧ 0 < numP ((p.getD 0 []).headD ⟨0, []⟩).t)
 ·rw [if_pos h3] at h; exact absurd h (fun e => by cases e)
 rw [if_neg h3] at h ⊢
 have hnum := Classical.not_not.1 h3
 clear h3
 have hS := streetP_ok (p.getD 0 []).tail (decide (p.length - 1 = 2))
 have hSm : ∀ t ∈ (streetP (p.getD 0 []).tail (decide (p.length - 1 = 2))).2.1, t ∈ r.1 := fun t ht => hmem 0 t (List.mem_of_mem_tail (hS.mem t ht))
 have hSu : ∀ u, (streetP (p.getD 0 []).tail (decide (p.length - 1 = 2))).2.2 = some u → ∀ t ∈ u, t ∈ r.1 := fun u hu t ht => hmem 0 t (List.mem_of_mem_tail ((hS.unit u hu).2.2 t ht))
 generalize streetP (p.getD 0 []).tail (decide (p.length - 1 = 2)) = st at *
 by_cases h4 : p.length - 1 = 3 ∧ (unitP (p.getD 1 [])).2 = false
 ·rw [if_pos h4] at h; exact absurd h (fun e => by cases e)
 rw [if_neg h4] at h ⊢
 by_cases h5 : ((if p.length - 1 = 3 then some (p.getD 1 []) else st.2.2).any fun l => decide (10 < ((l.getD 1 ⟨0, []⟩).t).length)) = true
 ·rw [if_pos h5] at h; exact absurd h (fun e => by cases e)
 rw [if_neg h5] at h ⊢
 by_cases h6 : ¬(0 < st.2.1.length ∧ st.2.1.length ≤ 8 ∧ kindOf st.2.1 [1, 2, 3] = true ∧ st.1.name.length ≤ 40)
 ·rw [if_pos h6] at h; exact absurd h (fun e => by cases e)
 rw [if_neg h6] at h ⊢
 have hnm := Classical.not_not.1 h6
 by_cases h7 : ¬(kindOf (p.getD (p.length - 1 - 1) []) [1] = true ∧ (p.getD (p.length - 1 - 1) []).length ≤ 8 ∧ (textsP (p.getD (p.length - 1 - 1) [])).length ≤ 40)
 ·rw [if_pos h7] at h; exact absurd h (fun e => by cases e)
 rw [if_neg h7] at h ⊢
 have hct := Classical.not_not.1 h7
 by_cases h8 : ¬(digitsP (cutDash ((p.getD (p.length - 1) []).getLastD ⟨0, []⟩).t).1 5 5 = true ∧ ((cutDash ((p.getD (p.length - 1) []).getLastD ⟨0, []⟩).t).2.2 = false ∨ digitsP (cutDash ((p.getD (p.length - 1) []).getLastD ⟨0, []⟩).t).2.1 4 4 = true))
 ·rw [if_pos h8] at h; exact absurd h (fun e => by cases e)
 rw [if_neg h8] at h ⊢
 have hz := Classical.not_not.1 h8
 by_cases h9 : (shortP 3 (textsP (p.getD (p.length - 1) []).dropLast)).2 = false
 ·rw [if_pos h9] at h; exact absurd h (fun e => by cases e)
 rw [if_neg h9]
 have hst : (shortP 3 (textsP (p.getD (p.length - 1) []).dropLast)).2 = true := by
  cases he : (shortP 3 (textsP (p.getD (p.length - 1) []).dropLast)).2 with
  | true => rfl
  | false => exact absurd he h9
 obtain ⟨q, hq, hqs⟩ := shortP_mem hst
 have hsO := shortP_ok words_fine.2.2.1 short0.2.2.1 (textsP (p.getD (p.length - 1) []).dropLast)
 obtain ⟨n1, n2⟩ := numP_le hnum.1
 have hU : FieldOk (if p.length - 1 = 3 then (unitP (p.getD 1 [])).1 else st.1.unit) := by
  by_cases hl : p.length - 1 = 3
  ·rw [if_pos hl]
   rw [if_pos hl] at h5
   have hu : (unitP (p.getD 1 [])).2 = true := by
    cases he : (unitP (p.getD 1 [])).2 with
    | true => rfl
    | false => exact absurd ⟨hl, he⟩ h4
   refine unitP_ok hu (fun t ht => hup t (hmem 1 t ht)) ?_
   simpa using h5
  ·rw [if_neg hl]
   rw [if_neg hl] at h5
   cases hu : st.2.2 with
   | none => rw [hS.none hu]; exact ⟨rfl, by simp⟩
   | some u =>
    obtain ⟨a, b, c⟩ := hS.unit u hu
    rw [b]
    refine unitP_ok a (fun t ht => hup t (hSu u hu t ht)) ?_
    rw [hu] at h5
    simpa using h5
 have hz5 : (cutDash ((p.getD (p.length - 1) []).getLastD ⟨0, []⟩).t).1.length = 5 := by
  have := hz.1
  unfold digitsP at this
  rw [Bool.and_eq_true, decide_eq_true_eq] at this
  omega
 have hz4 : (cutDash ((p.getD (p.length - 1) []).getLastD ⟨0, []⟩).t).2.1.length = 0 ∨ (cutDash ((p.getD (p.length - 1) []).getLastD ⟨0, []⟩).t).2.1.length = 4 := by
  rcases hz.2 with h | h
  ·left; rw [cutDash_no h]; rfl
  ·right
   unfold digitsP at h
   rw [Bool.and_eq_true, decide_eq_true_eq] at h
   omega
 have hc0 := hemp (p.length - 1 - 1) (by omega)
 refine ⟨⟨by have := hnum.2; show 1 ≤ numP _; omega, n2⟩, ?_, ?_, ?_, hz5, hz4, ?_, ⟨hS.pre.own, hS.post.own, hS.suf.own, hsO.own⟩⟩
 ·show st.1.name ≠ []
  rw [hS.name]
  exact textsP_ne hnm.1 fun t ht => hne t (hSm t ht)
 ·exact textsP_ne hc0 fun t ht => hne t (hmem _ t ht)
 ·show (shortP 3 _).1.length = 2
  rw [hqs]
  simpa using List.all_eq_true.1 states_two q hq
 ·intro x hx
  simp only [List.mem_cons, List.not_mem_nil, or_false] at hx
  rcases hx with rfl | rfl | rfl | rfl | rfl | rfl | rfl
  ·exact hS.pre.field (by decide)
  ·refine ⟨?_, hnm.2.2.2⟩
   rw [hS.name]
   exact textsP_up fun t ht => hup t (hSm t ht)
  ·exact hS.suf.field (by decide)
  ·exact hS.post.field (by decide)
  ·exact hU
  ·exact ⟨textsP_up fun t ht => hup t (hmem _ t ht), hct.2.2⟩
  ·exact hsO.field (by decide)
end Go.Proofs.YtjaponmpfdpemaaGreatDoor
