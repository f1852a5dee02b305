/-
  Plain: AddrParts' law: with a comma more, or without a part, no text of an address is one.
-/
import Derived.Test.YtjneghncmgjkeaaGreatDoorRx29
set_option linter.unusedVariables false
namespace Go.Proofs.YtjneghncmgjkeaaGreatDoor

theorem text_len {a : Ad} (h : CheckOk a) : (Lib.itoa a.n ++ lineP a ++ (if a.unit = [] then [] else 44 :: 32 :: a.unit) ++ [44, 32] ++ a.city ++ [44, 32] ++ a.state ++ 32 :: a.zip ++ (if a.more = [] then [] else 45 :: a.more)).length ≤ 150 := by
  obtain ⟨k, _, _, _, i3⟩ := itoa_toks h.n1 h.n2
  obtain ⟨_, _, _, z4⟩ := zip_ok h.zip h.more
  obtain ⟨_, _, s3, _⟩ := own_word words_fine.2.2.1 words_word.2.2.1 h.state h.st0
  have hll := line_len h
  have hcl := h.city.l40
  have hU : (if a.unit = [] then [] else 44 :: 32 :: a.unit : Bs).length ≤ 17 := by
    by_cases hu : a.unit = []
    · rw [if_pos hu]; simp
    · rw [if_neg hu]
      obtain ⟨u1, u2, u3, u4⟩ := housed_ok h.unit hu
      have := unit_len u2 u4
      rw [u3] at this
      simp only [List.length_cons]
      omega
  have hzl : (32 :: a.zip ++ (if a.more = [] then [] else 45 :: a.more) : Bs).length ≤ 11 := by
    have : (32 :: a.zip ++ (if a.more = [] then [] else 45 :: a.more) : Bs) = 32 :: zipS a := by unfold zipS; rfl
    rw [this, List.length_cons]
    omega
  simp only [List.length_append, List.length_cons, List.length_nil] at hzl hU ⊢
  omega
/-- What is known of a text. -/
theorem text_facts {a : Ad} (hc : checkP a = 0) : okBs (textA a).1 ∧ (textA a).1.length ≤ 150 ∧ (toksOf (textA a).1).length ≤ 30 ∧ ((splitC (textA a).1).length = 3 ∨ (splitC (textA a).1).length = 4) := by
  have h := checkP_ok hc
  have hT : tokensP (textA a).1 = _ := (text_tokens h).resolve_right (fun e => e hc)
  have hz : (tokensP (textA a).1).2.1 = 0 := by rw [hT]
  obtain ⟨ok, e, _⟩ := tokensP_zero hz
  have ht : (textA a).1 = Lib.itoa a.n ++ lineP a ++ (if a.unit = [] then [] else 44 :: 32 :: a.unit) ++ [44, 32] ++ a.city ++ [44, 32] ++ a.state ++ 32 :: a.zip ++ (if a.more = [] then [] else 45 :: a.more) := by
    unfold textA
    rw [if_neg (by simp [hc])]
  obtain ⟨k, i1, ik, _, _⟩ := itoa_toks h.n1 h.n2
  obtain ⟨⟨kz, z1, zk⟩, _, _, _⟩ := zip_ok h.zip h.more
  obtain ⟨s1, _, _, _⟩ := own_word words_fine.2.2.1 words_word.2.2.1 h.state h.st0
  obtain ⟨l1, l2⟩ := line_toks h
  have c8 := h.city.l8
  have hci : ∀ t ∈ toksOf a.city, t.k ≠ 4 := kindOf_ne h.city.kinds (by decide)
  have hn : ∀ t ∈ toksOf (Lib.itoa a.n) ++ toksOf (lineP a), t.k ≠ 4 := fun t ht => by
    rcases List.mem_append.1 ht with ht | ht
    · rw [i1] at ht; rw [List.mem_singleton.1 ht]; exact ik
    · exact l1 t ht
  have hzz : ∀ t ∈ toksOf a.state ++ toksOf (zipS a), t.k ≠ 4 := fun t ht => by
    rcases List.mem_append.1 ht with ht | ht
    · rw [s1] at ht; rw [List.mem_singleton.1 ht]; show (1 : Int) ≠ 4; decide
    · rw [z1] at ht; rw [List.mem_singleton.1 ht]; exact zk
  have hlen : (splitC (textA a).1).length = (partsP (toksOf (textA a).1)).length := by rw [parts_split]; simp
  refine ⟨ok, by rw [ht]; exact text_len h, ?_, ?_⟩
  · rw [ht, text_toks h]
    have h3 : (if a.unit = [] then [] else tComma :: toksOf a.unit).length ≤ 3 := by
      by_cases hu : a.unit = []
      · rw [if_pos hu]; simp
      · rw [if_neg hu]
        obtain ⟨_, u2, _, _⟩ := housed_ok h.unit hu
        have := (unitP_shape u2 toksOf_is).2.1
        simp only [List.length_cons]
        omega
    simp only [List.length_append, List.length_cons, i1, z1, s1, List.length_nil] at h3 ⊢
    omega
  · rw [hlen, ht, text_toks h]
    by_cases hu : a.unit = []
    · left
      rw [if_pos hu, List.append_nil, partsP_cut hn, partsP_cut hci, partsP_one hzz]
      rfl
    · right
      obtain ⟨_, u2, _, _⟩ := housed_ok h.unit hu
      have hui := (unitP_shape u2 toksOf_is).1
      rw [if_neg hu, List.append_assoc _ (tComma :: toksOf a.unit), List.cons_append, partsP_cut hn, partsP_cut hui, partsP_cut hci, partsP_one hzz]
      rfl
theorem okBs_co : okBs [44] := okBs_bad.1 (by decide)
theorem parse_more {a : Ad} (hc : checkP a = 0) : parseP ((textA a).1 ++ [44]) = (Ad.zero, 270, 0) ∧ parseP (44 :: (textA a).1) = (Ad.zero, 270, 0) := by
  obtain ⟨ok, l150, t30, _⟩ := text_facts hc
  generalize (textA a).1 = t at *
  constructor
  · refine parse_empty (okBs_app ok okBs_co) (by rw [List.length_append, List.length_singleton]; omega) ?_ ?_
    · rw [toks_co, toks_nil, List.length_append, List.length_singleton]; omega
    · have e : t ++ [44] = joinB (splitC t ++ [[]]) := by
        have key : ∀ l : List Bs, l ≠ [] → joinB (l ++ [[]]) = joinB l ++ [44] := by
          intro l
          induction l with
          | nil => intro h; exact absurd rfl h
          | cons x l ih =>
            intro _
            cases l with
            | nil => rfl
            | cons y l =>
              have := ih (by simp)
              rw [List.cons_append, List.cons_append, joinB, joinB]
              rw [List.cons_append] at this
              rw [this]
              simp
        rw [key _ (splitC_ne t), splitC_join]
      rw [e, splitC_joinB (by simp) (fun x hx => by
        rcases List.mem_append.1 hx with hx | hx
        · exact splitC_noC t x hx
        · rw [List.mem_singleton.1 hx]; intro c hc; cases hc)]
      simp
  · refine parse_empty (fun c hc => ?_) (by rw [List.length_cons]; omega) ?_ ?_
    · rcases List.mem_cons.1 hc with rfl | hc
      · decide
      · exact ok c hc
    · have := toks_co [] t
      rw [List.nil_append, toks_nil, List.nil_append] at this
      rw [this, List.length_cons]
      omega
    · rw [splitC, if_pos rfl]
      simp
theorem joinB_len : ∀ {l : List Bs}, l ≠ [] → (joinB l).length + 1 = (l.map List.length).sum + l.length
  | [], h => absurd rfl h
  | [x], _ => by simp [joinB]
  | x :: y :: l, _ => by
    have ih := joinB_len (l := y :: l) (by simp)
    rw [joinB]
    simp only [List.length_append, List.length_cons, List.map_cons, List.sum_cons] at ih ⊢
    omega
theorem sum_set {f : Bs → Nat} (hf : f [] = 0) : ∀ (l : List Bs) (k : Nat), ((l.set k []).map f).sum ≤ (l.map f).sum
  | [], _ => by simp
  | x :: l, 0 => by simp [hf]
  | x :: l, k + 1 => by
    have := sum_set hf l k
    simp only [List.set_cons_succ, List.map_cons, List.sum_cons]
    omega
/-- Without one of its parts. -/
theorem parse_less {a : Ad} (hc : checkP a = 0) {k : Nat} (hk : k < (splitC (textA a).1).length) : parseP (joinB ((splitC (textA a).1).set k [])) = (Ad.zero, 270, 0) := by
  obtain ⟨ok, l150, t30, _⟩ := text_facts hc
  generalize (textA a).1 = t at *
  have hne : (splitC t).set k [] ≠ [] := by
    intro e
    have := congrArg List.length e
    rw [List.length_set] at this
    simp at this
    exact splitC_ne t this
  have hno : ∀ x ∈ (splitC t).set k [], noC x := fun x hx => by
    rcases List.mem_or_eq_of_mem_set hx with h | h
    · exact splitC_noC t x h
    · rw [h]; intro c hc; cases hc
  have hpiece : ∀ x ∈ splitC t, okBs x := by
    have key : ∀ l : List Bs, okBs (joinB l) → ∀ x ∈ l, okBs x := by
      intro l
      induction l with
      | nil => intro _ x hx; cases hx
      | cons y l ih =>
        intro h x hx
        cases l with
        | nil => rw [joinB] at h; rw [List.mem_singleton.1 hx]; exact h
        | cons z l =>
          rw [joinB] at h
          rcases List.mem_cons.1 hx with rfl | hx
          · exact fun c hc => h c (List.mem_append_left _ hc)
          · exact ih (fun c hc => h c (List.mem_append_right _ (List.mem_cons_of_mem _ hc))) x hx
    exact key _ (by rw [splitC_join]; exact ok)
  have hokj : ∀ l : List Bs, (∀ x ∈ l, okBs x) → okBs (joinB l) := by
    intro l
    induction l with
    | nil => intro _ c hc; cases hc
    | cons y l ih =>
      intro h
      cases l with
      | nil => rw [joinB]; exact h y (by simp)
      | cons z l =>
        rw [joinB]
        refine okBs_app (h y (by simp)) fun c hc => ?_
        rcases List.mem_cons.1 hc with rfl | hc
        · decide
        · exact ih (fun x hx => h x (by simp [hx])) c hc
  have j1 := joinB_len (splitC_ne t)
  have j2 := joinB_len hne
  rw [splitC_join] at j1
  have s1 := sum_set (f := List.length) rfl (splitC t) k
  have s2 := sum_set (f := fun x => (toksOf x).length) (by rw [toks_nil]; rfl) (splitC t) k
  rw [List.length_set] at j2
  have p1 := parts_total (toksOf t)
  rw [parts_split, List.map_map] at p1
  have p2 := parts_total (toksOf (joinB ((splitC t).set k [])))
  rw [parts_join hne hno, List.map_map, List.length_map, List.length_set] at p2
  rw [List.length_map] at p1
  have e1 : (List.length ∘ toksOf) = fun x => (toksOf x).length := rfl
  rw [e1] at p1 p2
  refine parse_empty (hokj _ fun x hx => ?_) (by omega) (by omega) ?_
  · rcases List.mem_or_eq_of_mem_set hx with h | h
    · exact hpiece x h
    · rw [h]; intro c hc; cases hc
  · rw [splitC_joinB hne hno]
    exact List.mem_set hk []
end Go.Proofs.YtjneghncmgjkeaaGreatDoor
