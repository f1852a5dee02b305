/-
  Plain: AddrBack's law: the text of an address that may be is parsed as it.
-/
import Derived.Test.YtjneghncmgjkeaaGreatDoorRw27
set_option linter.unusedVariables false
namespace Go.Proofs.YtjneghncmgjkeaaGreatDoor

theorem streetP_units {l : List Tok} {inner : Bool} (h : (streetP l inner).1.unit = []) (hl : ∀ t ∈ l, TokIs t) : (streetP l inner).2.2 = none := by
  have hS := streetP_ok l inner
  cases hu : (streetP l inner).2.2 with
  | none => rfl
  | some u =>
    obtain ⟨a, b, c⟩ := hS.unit u hu
    have := (unitP_shape a fun t ht => hl t (c t ht)).2.2
    rw [← b, h] at this
    exact absurd rfl this
/-- The name's tokens are those of its text. -/
theorem street_name {l : List Tok} {inner : Bool} (hl : ∀ t ∈ l, TokIs t) : toksOf (streetP l inner).1.name = (streetP l inner).2.1 := by
  have hS := streetP_ok l inner
  rw [hS.name]
  exact toks_texts fun t ht => hl t (hS.mem t ht)
/-- What a parse comes to, its parts told. -/
theorem parse_parts {s : Bs} {T line ut ct st zt : List Tok} {num zip : Tok} {a : Ad} (hT : tokensP s = (T, 0, 0))
    (hp : partsP T = (num :: line) :: ((if a.unit = [] then [] else [ut]) ++ [ct, st ++ [zip]])) (hn : digitsP num.t 1 6 = true) (hn2 : numP num.t = a.n) (hn3 : 1 ≤ a.n)
    (hs : (streetP line (a.unit == [])).1 = a.street) (hsu : (streetP line (a.unit == [])).2.2 = none) (hs0 : 0 < (streetP line (a.unit == [])).2.1.length) (hs8 : (streetP line (a.unit == [])).2.1.length ≤ 8) (hsk : kindOf (streetP line (a.unit == [])).2.1 [1, 2, 3] = true) (hs40 : a.name.length ≤ 40)
    (hu : a.unit ≠ [] → ut ≠ [] ∧ (unitP ut).2 = true ∧ (unitP ut).1 = a.unit ∧ (ut.getD 1 ⟨0, []⟩).t.length ≤ 10)
    (hc0 : ct ≠ []) (hck : kindOf ct [1] = true) (hc8 : ct.length ≤ 8) (hct : textsP ct = a.city) (hc40 : a.city.length ≤ 40)
    (hz : cutDash zip.t = (a.zip, a.more, decide (a.more ≠ []))) (hz5 : digitsP a.zip 5 5 = true) (hz4 : a.more = [] ∨ digitsP a.more 4 4 = true)
    (hst : shortP 3 (textsP st) = (a.state, true)) : parseP s = (a, 0, 0) := by
  have hlz : ∀ l : List Tok, (l ++ [zip]).getLastD ⟨0, []⟩ = zip ∧ (l ++ [zip]).dropLast = l := fun l => ⟨by simp [List.getLastD_eq_getLast?], by simp⟩
  obtain ⟨z1, z2⟩ := hlz st
  have hza : digitsP (cutDash zip.t).1 5 5 = true ∧ ((cutDash zip.t).2.2 = false ∨ digitsP (cutDash zip.t).2.1 4 4 = true) := by
    rw [hz]
    refine ⟨hz5, ?_⟩
    rcases hz4 with h | h
    · left; simp [h]
    · right; exact h
  have hnp : 0 < numP num.t := by omega
  have hnm : (streetP line (a.unit == [])).1.name = a.name := by rw [hs]; rfl
  by_cases hue : a.unit = []
  · have hb : (a.unit == []) = true := by rw [hue]; rfl
    rw [hb] at hs hsu hs0 hs8 hsk hnm
    rw [if_pos hue, List.nil_append] at hp
    have e : parseP s = parsePts [num :: line, ct, st ++ [zip]] 2 := by
      unfold parseP
      dsimp only
      rw [hT]
      dsimp only
      rw [if_neg (by simp), hp]
      rfl
    rw [e]
    unfold parsePts
    dsimp only
    rw [if_neg (by simp [List.isEmpty_iff, hc0])]
    simp only [List.getD_cons_zero, List.getD_cons_succ, List.headD_cons, List.tail_cons]
    rw [if_neg (by simp [hn, hnp])]
    try simp only [decide_true]
    rw [if_neg (by simp), if_neg (by simp [hsu]), if_neg (by rw [hnm]; simp [hs0, hs8, hsk, hs40])]
    try simp only [show (2 : Nat) - 1 = 1 from rfl, List.getD_cons_zero, List.getD_cons_succ]
    rw [if_neg (by rw [hct]; simp [hck, hc8, hc40]), z1, z2, if_neg (fun hn => hn hza), hst]
    rw [if_neg (by simp), hz]
    try simp only [show ¬ (2 = 3) by decide, if_false]
    rw [hn2, hct, hs]
    unfold Ad.street
    simp only
    rw [← hue]
  · obtain ⟨u0, u1, u2, u3⟩ := hu hue
    have hb : (a.unit == []) = false := by simpa using hue
    rw [hb] at hs hsu hs0 hs8 hsk hnm
    rw [if_neg hue] at hp
    have e : parseP s = parsePts [num :: line, ut, ct, st ++ [zip]] 3 := by
      unfold parseP
      dsimp only
      rw [hT]
      dsimp only
      rw [if_neg (by simp), hp]
      rfl
    rw [e]
    unfold parsePts
    dsimp only
    rw [if_neg (by simp [List.isEmpty_iff, hc0, u0])]
    simp only [List.getD_cons_zero, List.getD_cons_succ, List.headD_cons, List.tail_cons]
    rw [if_neg (by simp [hn, hnp])]
    have hd : decide ((3 : Nat) = 2) = false := rfl
    try rw [hd]
    try simp only [decide_false]
    rw [if_neg (by simp [u1]), if_neg (by simpa using u3), if_neg (by rw [hnm]; simp [hs0, hs8, hsk, hs40])]
    try simp only [show (3 : Nat) - 1 = 2 from rfl, List.getD_cons_zero, List.getD_cons_succ]
    rw [if_neg (by rw [hct]; simp [hck, hc8, hc40]), z1, z2, if_neg (fun hn => hn hza), hst]
    rw [if_neg (by simp), hz]
    try simp only [if_true]
    rw [hn2, hct, hs, u2]
    unfold Ad.street
    rfl
theorem text_parse {a : Ad} (hc : checkP a = 0) : parseP (textA a).1 = (a, 0, 0) := by
  have h := checkP_ok hc
  have hT : tokensP (textA a).1 = _ := (text_tokens h).resolve_right (fun e => e hc)
  obtain ⟨k, i1, ik, _, _⟩ := itoa_toks h.n1 h.n2
  obtain ⟨⟨kz, z1, zk⟩, z2, _, _⟩ := zip_ok h.zip h.more
  obtain ⟨s1, _, _, s4⟩ := own_word words_fine.2.2.1 words_word.2.2.1 h.state h.st0
  obtain ⟨l1, _⟩ := line_toks h
  have hlis : ∀ t ∈ toksOf (lineP a), TokIs t := toksOf_is
  have hci : ∀ t ∈ toksOf a.city, t.k ≠ 4 := kindOf_ne h.city.kinds (by decide)
  have hstn := h.street
  have hnm := street_name (l := toksOf (lineP a)) (inner := a.unit == []) hlis
  rw [hstn] at hnm
  have hnm' : toksOf a.name = (streetP (toksOf (lineP a)) (a.unit == [])).2.1 := hnm
  refine parse_parts (ut := toksOf a.unit) (ct := toksOf a.city) (st := toksOf a.state) (num := ⟨k, Lib.itoa a.n⟩) (zip := ⟨kz, zipS a⟩) (line := toksOf (lineP a)) hT ?_ (itoa_ok h.n1 h.n2).1 (itoa_ok h.n1 h.n2).2 h.n1 hstn
    (streetP_units (by rw [hstn]; rfl) hlis) (by rw [← hnm']; exact h.name.l0) (by rw [← hnm']; exact h.name.l8) (by rw [← hnm']; exact h.name.kinds) h.name.l40 (fun hu => ?_)
    (by intro e; have := h.city.l0; rw [e] at this; simp at this) h.city.kinds h.city.l8 h.city.texts h.city.l40 z2 h.zip h.more (by rw [s1]; exact s4) (zt := [])
  · have hn : ∀ t ∈ toksOf (Lib.itoa a.n) ++ toksOf (lineP a), t.k ≠ 4 := fun t ht => by
      rcases List.mem_append.1 ht with ht | ht
      · rw [i1] at ht; rw [List.mem_singleton.1 ht]; exact ik
      · exact l1 t ht
    have hz : ∀ t ∈ toksOf a.state ++ toksOf (zipS a), t.k ≠ 4 := fun t ht => by
      rcases List.mem_append.1 ht with ht | ht
      · rw [s1] at ht; rw [List.mem_singleton.1 ht]; show (1 : Int) ≠ 4; decide
      · rw [z1] at ht; rw [List.mem_singleton.1 ht]; exact zk
    by_cases hu : a.unit = []
    · rw [if_pos hu, if_pos hu, List.append_nil, partsP_cut hn, partsP_cut hci, partsP_one hz, i1, z1]
      rfl
    · obtain ⟨u1, u2, u3, u4⟩ := housed_ok h.unit hu
      have hui := (unitP_shape u2 toksOf_is).1
      rw [if_neg hu, if_neg hu, List.append_assoc _ (tComma :: toksOf a.unit), List.cons_append, partsP_cut hn, partsP_cut hui, partsP_cut hci, partsP_one hz, i1, z1]
      rfl
  · obtain ⟨u1, u2, u3, u4⟩ := housed_ok h.unit hu
    refine ⟨?_, u2, u3, u4⟩
    intro e
    rw [e] at u2
    cases u2
end Go.Proofs.YtjneghncmgjkeaaGreatDoor
