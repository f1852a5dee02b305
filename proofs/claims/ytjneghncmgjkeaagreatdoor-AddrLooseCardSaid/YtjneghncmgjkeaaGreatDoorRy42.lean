/-
  Plain: AddrLoose's law, its letters small, its blanks doubled.
-/
import Derived.Test.YtjneghncmgjkeaaGreatDoorRy33
set_option linter.unusedVariables false
namespace Go.Proofs.YtjneghncmgjkeaaGreatDoor

def lowB (c : UInt8) : UInt8 := if 65 ≤ c.toNat ∧ c.toNat ≤ 90 then c + 32 else c
/-- Its letters small, its blanks doubled. -/
def smallP : Bs → Bs
  | [] => []
  | c :: s => if c = 32 then 32 :: 32 :: smallP s else lowB c :: smallP s
theorem lowB_nat {c : UInt8} (h : 65 ≤ c.toNat ∧ c.toNat ≤ 90) : (c + 32).toNat = c.toNat + 32 := by
  rw [UInt8.toNat_add]
  show (c.toNat + 32) % 256 = _
  omega
theorem lowB_cls (c : UInt8) : clsB (lowB c) = clsB c := by
  unfold lowB
  by_cases h : 65 ≤ c.toNat ∧ c.toNat ≤ 90
  · have e := lowB_nat h
    rw [if_pos h]
    unfold clsB
    rw [e, if_pos (by omega), if_pos (by omega)]
  · rw [if_neg h]
theorem lowB_up (c : UInt8) : upB (lowB c) = upB c := by
  unfold lowB
  by_cases h : 65 ≤ c.toNat ∧ c.toNat ≤ 90
  · have e := lowB_nat h
    rw [if_pos h]
    unfold upB
    rw [e, if_pos (by omega), if_neg (by omega)]
    apply UInt8.toNat_inj.1
    rw [UInt8.toNat_sub_of_le]
    · rw [e]; show c.toNat + 32 - 32 = _; omega
    · rw [UInt8.le_iff_toNat_le, e]; show 32 ≤ _; omega
  · rw [if_neg h]
theorem lowB_snd (c : UInt8) : sndB (lowB c) = sndB c := by unfold sndB; rw [lowB_cls]
theorem lowB_sep (c : UInt8) : sepT (lowB c) = sepT c := by unfold sepT; rw [lowB_cls]
theorem snd_32 : sndB 32 = false ∧ sepT 32 = [] ∧ (clsB 32 == 4) = false := by decide
theorem small_next (s : Bs) : nextSnd (smallP s) = nextSnd s := by
  cases s with
  | nil => rfl
  | cons c s =>
    rw [smallP]
    by_cases h : c = 32
    · rw [if_pos h, h]; rfl
    · rw [if_neg h]; exact lowB_snd c
/-- Two parts that are open alike. -/
def SameUp (a b : Option Bs) : Prop := (a = none ∧ b = none) ∨ ∃ v w, a = some v ∧ b = some w ∧ upS v = upS w
theorem sameUp_one (c : UInt8) : SameUp (some [lowB c]) (some [c]) := .inr ⟨_, _, rfl, rfl, by unfold upS; simp [lowB_up]⟩
theorem tokW_same {v w : Bs} (h : upS v = upS w) : tokW v = tokW w := by unfold tokW; rw [h]
theorem cutL_small : ∀ (s : Bs) (p : Bool) (cur cur' : Option Bs), SameUp cur' cur → cutL p cur' (smallP s) = cutL p cur s
  | [], p, cur, cur', h => by
    rcases h with ⟨rfl, rfl⟩ | ⟨v, w, rfl, rfl, h⟩
    · rfl
    · rw [smallP, cutL_s0, cutL_s0, tokW_same h]
  | c :: s, p, cur, cur', h => by
    have hn := fun q => cutL_small s q none none (.inl ⟨rfl, rfl⟩)
    rw [smallP]
    rcases h with ⟨rfl, rfl⟩ | ⟨v, w, rfl, rfl, h⟩
    · by_cases hc : c = 32
      · rw [if_pos hc, hc, cutL_n, if_neg (by decide), snd_32.2.1, List.nil_append, cutL_n, if_neg (by decide), snd_32.2.1, List.nil_append, cutL_n, if_neg (by decide), snd_32.2.1, List.nil_append]
        exact hn false
      · rw [if_neg hc, cutL_n, cutL_n, lowB_snd, lowB_sep, hn false, cutL_small s true (some [c]) (some [lowB c]) (sameUp_one c)]
    · by_cases hc : c = 32
      · rw [if_pos hc, hc, cutL_s, if_neg (by rw [snd_32.1, snd_32.2.2]; simp), if_neg (by decide), snd_32.2.1, List.nil_append, cutL_n, if_neg (by decide), snd_32.2.1, List.nil_append, hn false]
        rw [cutL_s, if_neg (by rw [snd_32.1, snd_32.2.2]; simp), if_neg (by decide), snd_32.2.1, List.nil_append, tokW_same h]
      · rw [if_neg hc, cutL_s, cutL_s, lowB_snd, lowB_sep, lowB_cls, small_next, hn false, cutL_small s true (some [c]) (some [lowB c]) (sameUp_one c), tokW_same h]
        rw [cutL_small s (sndB c) (some (w ++ [c])) (some (v ++ [lowB c])) (.inr ⟨_, _, rfl, rfl, by unfold upS at h ⊢; rw [List.map_append, List.map_append, h]; simp [lowB_up]⟩)]
theorem toks_small (s : Bs) : toksOf (smallP s) = toksOf s := by
  rw [toksOf_cut, toksOf_cut]
  exact cutL_small s false none none (.inl ⟨rfl, rfl⟩)
theorem okBs_small : ∀ {s : Bs}, okBs s → okBs (smallP s)
  | [], h => h
  | c :: s, h => by
    have ih := okBs_small (s := s) fun d hd => h d (List.mem_cons_of_mem _ hd)
    have h0 := h c (List.mem_cons_self ..)
    intro d hd
    rw [smallP] at hd
    by_cases hc : c = 32
    · rw [if_pos hc] at hd
      rcases List.mem_cons.1 hd with rfl | hd
      · decide
      rcases List.mem_cons.1 hd with rfl | hd
      · decide
      exact ih d hd
    · rw [if_neg hc] at hd
      rcases List.mem_cons.1 hd with rfl | hd
      · rw [lowB_cls]; exact h0
      exact ih d hd
/-- How many blanks. -/
def spN : Bs → Nat
  | [] => 0
  | c :: s => if c = 32 then spN s + 1 else spN s
theorem spN_app : ∀ x y : Bs, spN (x ++ y) = spN x + spN y
  | [], y => by simp [spN]
  | c :: x, y => by
    rw [List.cons_append, spN, spN, spN_app x y]
    split <;> omega
theorem spN_le : ∀ x : Bs, spN x ≤ x.length
  | [] => Nat.le_refl _
  | c :: x => by
    have := spN_le x
    rw [spN, List.length_cons]
    split <;> omega
theorem small_len : ∀ s : Bs, (smallP s).length = s.length + spN s
  | [] => rfl
  | c :: s => by
    have := small_len s
    rw [smallP, spN]
    split <;> simp only [List.length_cons, this] <;> omega
theorem spN_zero : ∀ {x : Bs}, (∀ c ∈ x, clsB c ≠ 1) → spN x = 0
  | [], _ => rfl
  | c :: x, h => by
    have hc : ¬ c = 32 := by
      rintro rfl
      exact h 32 (by simp) (by decide)
    rw [spN, if_neg hc, spN_zero fun d hd => h d (List.mem_cons_of_mem _ hd)]
theorem spN_snd {x : Bs} (h : x.all sndB = true) : spN x = 0 := spN_zero fun c hc => by
  have := List.all_eq_true.1 h c hc
  unfold sndB at this
  rw [Bool.or_eq_true, beq_iff_eq, beq_iff_eq] at this
  omega
theorem spN_word : ∀ {x : Bs} {p : Bool}, wordB p x = true → spN (upS x) = 0
  | [], _, _ => rfl
  | c :: x, p, h => by
    rw [wordB] at h
    have hc : clsB c ≠ 1 := by
      intro e
      have : sndB c = false := by unfold sndB; rw [e]; rfl
      rw [this, e] at h
      simp at h
    have h2 : ∃ q, wordB q x = true := by
      by_cases hs : sndB c = true
      · rw [if_pos hs] at h; exact ⟨_, h⟩
      · rw [if_neg hs, Bool.and_eq_true] at h; exact ⟨_, h.2⟩
    obtain ⟨q, hq⟩ := h2
    have ih := spN_word hq
    have hu : ¬ upB c = 32 := by
      intro e
      have := clsB_up c
      rw [e] at this
      exact hc (this.symm.trans (by decide))
    show spN (upB c :: upS x) = 0
    rw [spN, if_neg hu, ih]
theorem tok_sp {t : Tok} (h : TokIs t) : spN t.t = 0 := by
  rcases h with rfl | rfl | ⟨w, hw, rfl⟩
  · decide
  · decide
  · exact spN_word hw
theorem texts_sp : ∀ {l : List Tok}, (∀ t ∈ l, TokIs t) → spN (textsP l) ≤ l.length
  | [], _ => Nat.le_refl _
  | [t], h => by
    have := tok_sp (h t (by simp))
    show spN t.t ≤ 1
    omega
  | t :: u :: l, h => by
    have e : textsP (t :: u :: l) = t.t ++ 32 :: textsP (u :: l) := rfl
    have h0 := tok_sp (h t (by simp))
    have ih := texts_sp (l := u :: l) fun x hx => h x (List.mem_cons_of_mem _ hx)
    rw [e, spN_app, h0, spN, if_pos rfl, List.length_cons]
    omega
theorem named_sp {s : Bs} {ks : List Int} (h : NamedOk s ks) : spN s ≤ 8 := by
  have h8 := h.l8
  have := texts_sp (l := toksOf s) toksOf_is
  rw [h.texts] at this
  omega
theorem spN_digs {x : Bs} (h : x.all digB = true) : spN x = 0 := spN_snd (digs_all h).1
theorem own_sp {k : Int} {x : Bs} (hw : wordsWord k = true) (ho : ownP k x = true) (hf : ∃ n, wordsFine k n = true) : spN x = 0 := by
  by_cases h0 : x = []
  · rw [h0]; rfl
  · obtain ⟨n, hf⟩ := hf
    unfold ownP at ho
    rw [beq_iff_eq] at ho
    obtain ⟨p, hp, e⟩ := short_of_own ho h0
    have h4 := List.all_eq_true.1 hw p hp
    simp only [Bool.and_eq_true] at h4
    rw [e]
    exact spN_snd h4.1
theorem ahead_sp {x : Bs} : spN (aheadP x) ≤ spN x + 1 := by
  unfold aheadP
  split
  · simp [spN]
  · rw [spN, if_pos rfl]; omega
theorem text_small {a : Ad} (hc : checkP a = 0) : parseP (smallP (textA a).1) = (a, 0, 0) := by
  have h := checkP_ok hc
  have hp := text_parse hc
  obtain ⟨ok, _, _, _⟩ := text_facts hc
  have hT : tokensP (textA a).1 = _ := (text_tokens h).resolve_right (fun e => e hc)
  have hz : (tokensP (textA a).1).2.1 = 0 := by rw [hT]
  obtain ⟨_, e, _⟩ := tokensP_zero hz
  have ht : (textA a).1 = Lib.itoa a.n ++ lineP a ++ (if a.unit = [] then [] else 44 :: 32 :: a.unit) ++ [44, 32] ++ a.city ++ [44, 32] ++ a.state ++ 32 :: a.zip ++ (if a.more = [] then [] else 45 :: a.more) := by
    unfold textA
    rw [if_neg (by simp [hc])]
  -- lengths, blanks
  obtain ⟨k, _, _, _, i3⟩ := itoa_toks h.n1 h.n2
  have i0 := spN_digs (digitsP_all (itoa_ok h.n1 h.n2).1).2.2
  obtain ⟨l1, l2, hzd⟩ := digitsP_all h.zip
  have z0 := spN_digs hzd
  have m0 : spN (if a.more = [] then [] else 45 :: a.more) = 0 ∧ (if a.more = [] then [] else 45 :: a.more : Bs).length ≤ 5 := by
    by_cases hm : a.more = []
    · rw [if_pos hm]; exact ⟨rfl, by simp⟩
    · rw [if_neg hm]
      have h2 := h.more.resolve_left hm
      obtain ⟨_, m2, hmd⟩ := digitsP_all h2
      refine ⟨?_, by rw [List.length_cons]; omega⟩
      rw [spN, if_neg (by decide)]
      exact spN_digs hmd
  have hll := line_len h
  have hcl := h.city.l40
  obtain ⟨_, _, s3, _⟩ := own_word words_fine.2.2.1 words_word.2.2.1 h.state h.st0
  have hU : (if a.unit = [] then [] else 44 :: 32 :: a.unit : Bs).length ≤ 17 := by
    by_cases hu : a.unit = []
    · rw [if_pos hu]; simp
    · rw [if_neg hu]
      obtain ⟨u1, u2, u3, u4⟩ := housed_ok h.unit hu
      have := unit_len u2 u4
      rw [u3] at this
      simp only [List.length_cons]
      omega
  have hUs := spN_le (if a.unit = [] then [] else 44 :: 32 :: a.unit : Bs)
  have hn := named_sp h.name
  have hci := named_sp h.city
  have hst := own_sp words_word.2.2.1 h.state ⟨_, words_fine.2.2.1⟩
  have hpr := own_sp words_word.2.1 h.pre ⟨_, words_fine.2.1⟩
  have hpo := own_sp words_word.2.1 h.post ⟨_, words_fine.2.1⟩
  have hsu := own_sp words_word.1 h.suf ⟨_, words_fine.1⟩
  have hls : spN (lineP a) ≤ 13 := by
    rw [lineP_eq, spN_app, spN_app, spN_app, spN_app]
    have hh : spN (halfS a.half) ≤ 1 := by cases a.half <;> decide
    have a1 := ahead_sp (x := a.pre)
    have a2 := ahead_sp (x := a.name)
    have a3 := ahead_sp (x := a.suf)
    have a4 := ahead_sp (x := a.post)
    omega
  have hlen : (smallP (textA a).1).length ≤ 200 := by
    rw [small_len, ht]
    simp only [spN_app, List.length_append, List.length_cons, List.length_nil]
    have e1 : spN [44, 32] = 1 := by decide
    have e2 : spN (32 :: a.zip) = spN a.zip + 1 := by rw [spN, if_pos rfl]
    rw [e1, e2]
    omega
  have h40 : (toksOf (textA a).1).length ≤ 40 := by
    obtain ⟨_, _, t30, _⟩ := text_facts hc
    omega
  have e2 : tokensP (smallP (textA a).1) = tokensP (textA a).1 := by
    rw [e, tokensP_of (okBs_small ok) hlen (by rw [toks_small]; exact h40), toks_small]
  unfold parseP at hp ⊢
  rw [e2]
  exact hp
end Go.Proofs.YtjneghncmgjkeaaGreatDoor
