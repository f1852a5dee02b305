/-
  Plain: the text of an address that may be is parsed as it (AddrBack's first half).
-/
import Derived.Test.YtjneghncmgjkeaaGreatDoorRv11
set_option linter.unusedVariables false
namespace Go.Proofs.YtjneghncmgjkeaaGreatDoor

structure NamedOk (s : Bs) (ks : List Int) : Prop where
  ok : okBs s
  kinds : kindOf (toksOf s) ks = true
  texts : textsP (toksOf s) = s
  l0 : 0 < (toksOf s).length
  l8 : (toksOf s).length ≤ 8
  l40 : s.length ≤ 40
theorem named_ok {s : Bs} {ks : List Int} (h : namedP s ks = true) : NamedOk s ks := by
  unfold namedP at h
  dsimp only at h
  simp only [Bool.and_eq_true, beq_iff_eq, decide_eq_true_eq] at h
  obtain ⟨⟨⟨⟨⟨h1, h2⟩, h3⟩, h4⟩, h5⟩, h6⟩ := h
  obtain ⟨a, b, _⟩ := tokensP_zero h1
  rw [b] at h2 h3 h4 h5
  exact ⟨a, h4, h5, h2, h3, h6⟩
structure CheckOk (a : Ad) : Prop where
  n1 : 1 ≤ a.n
  n2 : a.n ≤ 999999
  name : NamedOk a.name [1, 2, 3]
  city : NamedOk a.city [1]
  pre : ownP 2 a.pre = true
  post : ownP 2 a.post = true
  suf : ownP 1 a.suf = true
  st0 : a.state ≠ []
  state : ownP 3 a.state = true
  unit : housedP a.unit = true
  zip : digitsP a.zip 5 5 = true
  more : a.more = [] ∨ digitsP a.more 4 4 = true
  line : okBs (lineP a)
  street : (streetP (toksOf (lineP a)) (a.unit == [])).1 = a.street
theorem checkP_ok {a : Ad} (h : checkP a = 0) : CheckOk a := by
  unfold checkP at h
  dsimp only at h
  by_cases h1 : (decide (1 ≤ a.n) && decide (a.n ≤ 999999) && namedP a.name [1, 2, 3] && namedP a.city [1] && ownP 2 a.pre && ownP 2 a.post && ownP 1 a.suf && a.state != [] && ownP 3 a.state && housedP a.unit && digitsP a.zip 5 5 && (a.more == [] || digitsP a.more 4 4)) = false
  · rw [if_pos h1] at h; cases h
  rw [if_neg h1] at h
  rw [Bool.not_eq_false] at h1
  simp only [Bool.and_eq_true, Bool.or_eq_true, beq_iff_eq, bne_iff_ne, decide_eq_true_eq, ne_eq] at h1
  obtain ⟨⟨⟨⟨⟨⟨⟨⟨⟨⟨⟨b1, b2⟩, b3⟩, b4⟩, b5⟩, b6⟩, b7⟩, b8⟩, b9⟩, b10⟩, b11⟩, b12⟩ := h1
  by_cases h2 : (tokensP (lineP a)).2.1 ≠ 0 ∨ (streetP (tokensP (lineP a)).1 (a.unit == [])).1 ≠ a.street
  · rw [if_pos h2] at h; cases h
  have h3 : (tokensP (lineP a)).2.1 = 0 := Classical.byContradiction fun e => h2 (.inl e)
  have h4 : (streetP (tokensP (lineP a)).1 (a.unit == [])).1 = a.street := Classical.byContradiction fun e => h2 (.inr e)
  obtain ⟨c1, c2, _⟩ := tokensP_zero h3
  rw [c2] at h4
  exact ⟨b1, b2, named_ok b3, named_ok b4, b5, b6, b7, b8, b9, b10, b11, b12, c1, h4⟩
theorem kindOf_ne {l : List Tok} {ks : List Int} (h : kindOf l ks = true) {k : Int} (hk : ks.contains k = false) : ∀ t ∈ l, t.k ≠ k := by
  intro t ht e
  have := List.all_eq_true.1 h t ht
  rw [e] at this
  rw [hk] at this
  cases this
theorem own_toks {k : Int} {n : Nat} {x : Bs} (hf : wordsFine k n = true) (hw : wordsWord k = true) (ho : ownP k x = true) : (∀ t ∈ toksOf x, t.k ≠ 4) ∧ (toksOf x).length ≤ 1 ∧ x.length ≤ n := by
  by_cases h0 : x = []
  · rw [h0, toks_nil]; exact ⟨(fun t ht => by cases ht), by simp, by simp⟩
  · obtain ⟨a, _, c, _⟩ := own_word hf hw ho h0
    rw [a]
    exact ⟨fun t ht => by rw [List.mem_singleton.1 ht]; show (1 : Int) ≠ 4; decide, by simp, c⟩
theorem housed_ok {u : Bs} (h : housedP u = true) (h0 : u ≠ []) : okBs u ∧ (unitP (toksOf u)).2 = true ∧ (unitP (toksOf u)).1 = u ∧ ((toksOf u).getD 1 ⟨0, []⟩).t.length ≤ 10 := by
  unfold housedP at h
  dsimp only at h
  simp only [Bool.or_eq_true, beq_iff_eq, Bool.and_eq_true, decide_eq_true_eq] at h
  rcases h with h | ⟨⟨h1, h2⟩, h3⟩
  · exact absurd h h0
  have h4 : (tokensP u).2.1 = 0 := by
    have hz : (tokensP u).1 = [] ∨ (tokensP u).2.1 = 0 := by
      unfold tokensP
      split
      · exact .inl rfl
      · split
        · exact .inl rfl
        · split
          · exact .inl rfl
          · exact .inr rfl
    rcases hz with hz | hz
    · rw [hz] at h1; cases h1
    · exact hz
  obtain ⟨a, b, _⟩ := tokensP_zero h4
  rw [b] at h1 h2 h3
  exact ⟨a, h1, h2, h3⟩
theorem unitP_shape {l : List Tok} (h : (unitP l).2 = true) (hl : ∀ t ∈ l, TokIs t) : (∀ t ∈ l, t.k ≠ 4) ∧ l.length = 2 ∧ (unitP l).1 ≠ [] := by
  unfold unitP at h ⊢
  match l, h, hl with
  | [a, b], h, hl =>
    by_cases h1 : b.k = 5 ∨ b.k = 4
    · simp only [if_pos h1] at h; cases h
    simp only [if_neg h1] at h ⊢
    by_cases h2 : a.k = 5
    · simp only [if_pos h2]
      refine ⟨fun t ht => ?_, rfl, by simp⟩
      simp only [List.mem_cons, List.not_mem_nil, or_false] at ht
      rcases ht with rfl | rfl
      · omega
      · exact fun e => h1 (.inr e)
    · simp only [if_neg h2] at h ⊢
      refine ⟨fun t ht => ?_, rfl, by simp⟩
      simp only [List.mem_cons, List.not_mem_nil, or_false] at ht
      rcases ht with rfl | rfl
      · intro e
        rw [(hl _ (by simp)).comma e] at h
        exact absurd h (by decide +kernel)
      · exact fun e => h1 (.inr e)
theorem ahead_len (s : Bs) : (aheadP s).length ≤ s.length + 1 := by unfold aheadP; split <;> simp
theorem line_len {a : Ad} (h : CheckOk a) : (lineP a).length ≤ 60 := by
  obtain ⟨_, _, p3⟩ := own_toks words_fine.2.1 words_word.2.1 h.pre
  obtain ⟨_, _, s3⟩ := own_toks words_fine.1 words_word.1 h.suf
  obtain ⟨_, _, q3⟩ := own_toks words_fine.2.1 words_word.2.1 h.post
  have n3 := h.name.l40
  rw [lineP_eq]
  simp only [List.length_append]
  have h1 : (halfS a.half).length ≤ 4 := by unfold halfS; split <;> simp
  have h2 := ahead_len a.pre
  have h3 := ahead_len a.name
  have h4 := ahead_len a.suf
  have h5 := ahead_len a.post
  omega
theorem unit_len {l : List Tok} (h : (unitP l).2 = true) (h10 : (l.getD 1 ⟨0, []⟩).t.length ≤ 10) : (unitP l).1.length ≤ 15 := by
  unfold unitP at h ⊢
  match l, h, h10 with
  | [a, b], h, h10 =>
    have hb10 : b.t.length ≤ 10 := h10
    by_cases h1 : b.k = 5 ∨ b.k = 4
    · simp only [if_pos h1] at h; cases h
    simp only [if_neg h1]
    by_cases h2 : a.k = 5
    · simp only [if_pos h2, List.length_cons]; omega
    · simp only [if_neg h2, List.length_append, List.length_cons]
      have := (shortP_ok words_fine.2.2.2 short0.2.2.2 a.t).len
      unfold shortT
      omega
theorem itoa_toks {n : Int} (h1 : 1 ≤ n) (h2 : n ≤ 999999) : ∃ k, toksOf (Lib.itoa n) = [⟨k, Lib.itoa n⟩] ∧ k ≠ 4 ∧ okBs (Lib.itoa n) ∧ (Lib.itoa n).length ≤ 6 := by
  obtain ⟨l1, l2, hd⟩ := digitsP_all (itoa_ok h1 h2).1
  obtain ⟨a, b, c⟩ := digs_all hd
  refine ⟨kindT (Lib.itoa n), ?_, by have := kindT_bd (Lib.itoa n); omega, c, l2⟩
  rw [toks_sound (by intro e; rw [e] at l1; simp at l1) a]
  unfold tokW
  rw [b]
end Go.Proofs.YtjneghncmgjkeaaGreatDoor

set_option linter.unusedVariables false
namespace Go.Proofs.YtjneghncmgjkeaaGreatDoor
end Go.Proofs.YtjneghncmgjkeaaGreatDoor
