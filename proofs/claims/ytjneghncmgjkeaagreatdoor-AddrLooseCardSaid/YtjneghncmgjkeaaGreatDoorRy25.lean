/-
  Plain: the text of an address that may be is parsed as it (AddrBack's first half).
-/
import Derived.Test.YtjneghncmgjkeaaGreatDoorRy10
set_option linter.unusedVariables false
namespace Go.Proofs.YtjneghncmgjkeaaGreatDoor

structure NamedOk (s : Bs) (ks : List Int) : Prop where
  ok : okBs s
  kinds : kindOf (toksOf s) ks = true
  texts : textsP (toksOf s) = s
  l0 : 0 < (toksOf s).length
  l8 : (toksOf s).length ≤ 8
  l40 : s.length ≤ 40
theorem named_ok {s : Bs} {ks : List Int} (h : namedP s ks = true) : NamedOk s ks := by
  unfold namedP at h
  dsimp only at h
  simp only [Bool.and_eq_true, beq_iff_eq, decide_eq_true_eq] at h
  obtain ⟨⟨⟨⟨⟨h1, h2⟩, h3⟩, h4⟩, h5⟩, h6⟩ := h
  obtain ⟨a, b, _⟩ := tokensP_zero h1
  rw [b] at h2 h3 h4 h5
  exact ⟨a, h4, h5, h2, h3, h6⟩
structure CheckOk (a : Ad) : Prop where
  n1 : 1 ≤ a.n
  n2 : a.n ≤ 999999
  name : NamedOk a.name [1, 2, 3]
  city : NamedOk a.city [1]
  pre : ownP 2 a.pre = true
  post : ownP 2 a.post = true
  suf : ownP 1 a.suf = true
  st0 : a.state ≠ []
  state : ownP 3 a.state = true
  unit : housedP a.unit = true
  zip : digitsP a.zip 5 5 = true
  more : a.more = [] ∨ digitsP a.more 4 4 = true
  line : okBs (lineP a)
  street : (streetP (toksOf (lineP a)) (a.unit == [])).1 = a.street
theorem checkP_ok {a : Ad} (h : checkP a = 0) : CheckOk a := by
  unfold checkP at h
  dsimp only at h
  by_cases h1 : (decide (1 ≤ a.n) && decide (a.n ≤ 999999) && namedP a.name [1, 2, 3] && namedP a.city [1] && ownP 2 a.pre && ownP 2 a.post && ownP 1 a.suf && a.state != [] && ownP 3 a.state && housedP a.unit && digitsP a.zip 5 5 && (a.more == [] || digitsP a.more 4 4)) = false
  · rw [if_pos h1] at h; cases h
  rw [if_neg h1] at h
  rw [Bool.not_eq_false] at h1
  simp only [Bool.and_eq_true, Bool.or_eq_true, beq_iff_eq, bne_iff_ne, decide_eq_true_eq, ne_eq] at h1
  obtain ⟨⟨⟨⟨⟨⟨⟨⟨⟨⟨⟨b1, b2⟩, b3⟩, b4⟩, b5⟩, b6⟩, b7⟩, b8⟩, b9⟩, b10⟩, b11⟩, b12⟩ := h1
  by_cases h2 : (tokensP (lineP a)).2.1 ≠ 0 ∨ (streetP (tokensP (lineP a)).1 (a.unit == [])).1 ≠ a.street
  · rw [if_pos h2] at h; cases h
  have h3 : (tokensP (lineP a)).2.1 = 0 := Classical.byContradiction fun e => h2 (.inl e)
  have h4 : (streetP (tokensP (lineP a)).1 (a.unit == [])).1 = a.street := Classical.byContradiction fun e => h2 (.inr e)
  obtain ⟨c1, c2, _⟩ := tokensP_zero h3
  rw [c2] at h4
  exact ⟨b1, b2, named_ok b3, named_ok b4, b5, b6, b7, b8, b9, b10, b11, b12, c1, h4⟩
theorem kindOf_ne {l : List Tok} {ks : List Int} (h : kindOf l ks = true) {k : Int} (hk : ks.contains k = false) : ∀ t ∈ l, t.k ≠ k := by
  intro t ht e
  have := List.all_eq_true.1 h t ht
  rw [e] at this
  rw [hk] at this
  cases this
theorem own_toks {k : Int} {n : Nat} {x : Bs} (hf : wordsFine k n = true) (hw : wordsWord k = true) (ho : ownP k x = true) : (∀ t ∈ toksOf x, t.k ≠ 4) ∧ (toksOf x).length ≤ 1 ∧ x.length ≤ n := by
  by_cases h0 : x = []
  · rw [h0, toks_nil]; exact ⟨(fun t ht => by cases ht), by simp, by simp⟩
  · obtain ⟨a, _, c, _⟩ := own_word hf hw ho h0
    rw [a]
    exact ⟨fun t ht => by rw [List.mem_singleton.1 ht]; show (1 : Int) ≠ 4; decide, by simp, c⟩
theorem housed_ok {u : Bs} (h : housedP u = true) (h0 : u ≠ []) : okBs u ∧ (unitP (toksOf u)).2 = true ∧ (unitP (toksOf u)).1 = u ∧ ((toksOf u).getD 1 ⟨0, []⟩).t.length ≤ 10 := by
  unfold housedP at h
  dsimp only at h
  simp only [Bool.or_eq_true, beq_iff_eq, Bool.and_eq_true, decide_eq_true_eq] at h
  rcases h with h | ⟨⟨h1, h2⟩, h3⟩
  · exact absurd h h0
  have h4 : (tokensP u).2.1 = 0 := by
    have hz : (tokensP u).1 = [] ∨ (tokensP u).2.1 = 0 := by
      unfold tokensP
      split
      · exact .inl rfl
      · split
        · exact .inl rfl
        · split
          · exact .inl rfl
          · exact .inr rfl
    rcases hz with hz | hz
    · rw [hz] at h1; cases h1
    · exact hz
  obtain ⟨a, b, _⟩ := tokensP_zero h4
  rw [b] at h1 h2 h3
  exact ⟨a, h1, h2, h3⟩
theorem unitP_shape {l : List Tok} (h : (unitP l).2 = true) (hl : ∀ t ∈ l, TokIs t) : (∀ t ∈ l, t.k ≠ 4) ∧ l.length = 2 ∧ (unitP l).1 ≠ [] := by
  unfold unitP at h ⊢
  match l, h, hl with
  | [a, b], h, hl =>
    by_cases h1 : b.k = 5 ∨ b.k = 4
    · simp only [if_pos h1] at h; cases h
    simp only [if_neg h1] at h ⊢
    by_cases h2 : a.k = 5
    · simp only [if_pos h2]
      refine ⟨fun t ht => ?_, rfl, by simp⟩
      simp only [List.mem_cons, List.not_mem_nil, or_false] at ht
      rcases ht with rfl | rfl
      · omega
      · exact fun e => h1 (.inr e)
    · simp only [if_neg h2] at h ⊢
      refine ⟨fun t ht => ?_, rfl, by simp⟩
      simp only [List.mem_cons, List.not_mem_nil, or_false] at ht
      rcases ht with rfl | rfl
      · intro e
        rw [(hl _ (by simp)).comma e] at h
        exact absurd h (by decide +kernel)
      · exact fun e => h1 (.inr e)
/-- The text, its parts told. -/
theorem text_toks {a : Ad} (h : CheckOk a) : toksOf (Lib.itoa a.n ++ lineP a ++ (if a.unit = [] then [] else 44 :: 32 :: a.unit) ++ [44, 32] ++ a.city ++ [44, 32] ++ a.state ++ 32 :: a.zip ++ (if a.more = [] then [] else 45 :: a.more)) =
    (toksOf (Lib.itoa a.n) ++ toksOf (lineP a) ++ (if a.unit = [] then [] else tComma :: toksOf a.unit)) ++ tComma :: (toksOf a.city ++ tComma :: (toksOf a.state ++ toksOf (zipS a))) := by
  have e : Lib.itoa a.n ++ lineP a ++ (if a.unit = [] then [] else 44 :: 32 :: a.unit) ++ [44, 32] ++ a.city ++ [44, 32] ++ a.state ++ 32 :: a.zip ++ (if a.more = [] then [] else 45 :: a.more) =
      (Lib.itoa a.n ++ lineP a ++ (if a.unit = [] then [] else 44 :: 32 :: a.unit)) ++ 44 :: 32 :: (a.city ++ 44 :: 32 :: (a.state ++ 32 :: zipS a)) := by
    unfold zipS
    simp [List.append_assoc]
  have eu : toksOf (Lib.itoa a.n ++ lineP a ++ (if a.unit = [] then [] else 44 :: 32 :: a.unit)) = toksOf (Lib.itoa a.n) ++ toksOf (lineP a) ++ (if a.unit = [] then [] else tComma :: toksOf a.unit) := by
    by_cases hu : a.unit = []
    · rw [if_pos hu, if_pos hu, List.append_nil, List.append_nil, toks_line]
    · rw [if_neg hu, if_neg hu, toks_co, toks_sp1, toks_line]
  rw [e, toks_co, toks_sp1, toks_co, toks_sp1, toks_sp, eu]
theorem line_toks {a : Ad} (h : CheckOk a) : (∀ t ∈ toksOf (lineP a), t.k ≠ 4) ∧ (toksOf (lineP a)).length ≤ 12 := by
  obtain ⟨p1, p2, _⟩ := own_toks words_fine.2.1 words_word.2.1 h.pre
  obtain ⟨s1, s2, _⟩ := own_toks words_fine.1 words_word.1 h.suf
  obtain ⟨q1, q2, _⟩ := own_toks words_fine.2.1 words_word.2.1 h.post
  have n1 := kindOf_ne h.name.kinds (k := 4) (by decide)
  have n2 := h.name.l8
  rw [toks_lineP]
  refine ⟨fun t ht => ?_, ?_⟩
  · simp only [List.mem_append] at ht
    rcases ht with (((ht | ht) | ht) | ht) | ht
    · split at ht
      · rw [List.mem_singleton.1 ht]; decide
      · cases ht
    · exact p1 t ht
    · exact n1 t ht
    · exact s1 t ht
    · exact q1 t ht
  · simp only [List.length_append]
    have : (if a.half = true then [halfT] else []).length ≤ 1 := by split <;> simp
    omega
theorem ahead_len (s : Bs) : (aheadP s).length ≤ s.length + 1 := by unfold aheadP; split <;> simp
theorem line_len {a : Ad} (h : CheckOk a) : (lineP a).length ≤ 60 := by
  obtain ⟨_, _, p3⟩ := own_toks words_fine.2.1 words_word.2.1 h.pre
  obtain ⟨_, _, s3⟩ := own_toks words_fine.1 words_word.1 h.suf
  obtain ⟨_, _, q3⟩ := own_toks words_fine.2.1 words_word.2.1 h.post
  have n3 := h.name.l40
  rw [lineP_eq]
  simp only [List.length_append]
  have h1 : (halfS a.half).length ≤ 4 := by unfold halfS; split <;> simp
  have h2 := ahead_len a.pre
  have h3 := ahead_len a.name
  have h4 := ahead_len a.suf
  have h5 := ahead_len a.post
  omega
theorem unit_len {l : List Tok} (h : (unitP l).2 = true) (h10 : (l.getD 1 ⟨0, []⟩).t.length ≤ 10) : (unitP l).1.length ≤ 15 := by
  unfold unitP at h ⊢
  match l, h, h10 with
  | [a, b], h, h10 =>
    have hb10 : b.t.length ≤ 10 := h10
    by_cases h1 : b.k = 5 ∨ b.k = 4
    · simp only [if_pos h1] at h; cases h
    simp only [if_neg h1]
    by_cases h2 : a.k = 5
    · simp only [if_pos h2, List.length_cons]; omega
    · simp only [if_neg h2, List.length_append, List.length_cons]
      have := (shortP_ok words_fine.2.2.2 short0.2.2.2 a.t).len
      unfold shortT
      omega
theorem itoa_toks {n : Int} (h1 : 1 ≤ n) (h2 : n ≤ 999999) : ∃ k, toksOf (Lib.itoa n) = [⟨k, Lib.itoa n⟩] ∧ k ≠ 4 ∧ okBs (Lib.itoa n) ∧ (Lib.itoa n).length ≤ 6 := by
  obtain ⟨l1, l2, hd⟩ := digitsP_all (itoa_ok h1 h2).1
  obtain ⟨a, b, c⟩ := digs_all hd
  refine ⟨kindT (Lib.itoa n), ?_, by have := kindT_bd (Lib.itoa n); omega, c, l2⟩
  rw [toks_sound (by intro e; rw [e] at l1; simp at l1) a]
  unfold tokW
  rw [b]
theorem text_tokens {a : Ad} (h : CheckOk a) : tokensP (textA a).1 = ((toksOf (Lib.itoa a.n) ++ toksOf (lineP a) ++ (if a.unit = [] then [] else tComma :: toksOf a.unit)) ++ tComma :: (toksOf a.city ++ tComma :: (toksOf a.state ++ toksOf (zipS a))), 0, 0) ∨ checkP a ≠ 0 := by
  by_cases hc : checkP a = 0
  · left
    have ht : (textA a).1 = Lib.itoa a.n ++ lineP a ++ (if a.unit = [] then [] else 44 :: 32 :: a.unit) ++ [44, 32] ++ a.city ++ [44, 32] ++ a.state ++ 32 :: a.zip ++ (if a.more = [] then [] else 45 :: a.more) := by
      unfold textA
      rw [if_neg (by simp [hc])]
    obtain ⟨k, i1, _, i2, i3⟩ := itoa_toks h.n1 h.n2
    obtain ⟨⟨kz, z1, _⟩, _, z3, z4⟩ := zip_ok h.zip h.more
    obtain ⟨s1, s2, s3, _⟩ := own_word words_fine.2.2.1 words_word.2.2.1 h.state h.st0
    have hll := line_len h
    have hlt := (line_toks h).2
    have hcl := h.city.l40
    have hct := h.city.l8
    have hsp : okBs [44, 32] := okBs_bad.1 (by decide)
    have hU : okBs (if a.unit = [] then [] else 44 :: 32 :: a.unit) ∧ (if a.unit = [] then [] else 44 :: 32 :: a.unit : Bs).length ≤ 17 ∧ (if a.unit = [] then [] else tComma :: toksOf a.unit).length ≤ 3 := by
      by_cases hu : a.unit = []
      · rw [if_pos hu, if_pos hu]; exact ⟨(fun c hc => by cases hc), by simp, by simp⟩
      · rw [if_neg hu, if_neg hu]
        obtain ⟨u1, u2, u3, u4⟩ := housed_ok h.unit hu
        refine ⟨okBs_app hsp u1, ?_, ?_⟩
        · have := unit_len u2 u4
          rw [u3] at this
          simp only [List.length_cons]
          omega
        · have := (unitP_shape u2 toksOf_is).2.1
          simp only [List.length_cons]
          omega
    have hzs : a.state ++ 32 :: a.zip ++ (if a.more = [] then [] else 45 :: a.more) = a.state ++ (32 :: zipS a) := by unfold zipS; simp [List.append_assoc]
    rw [ht, ← text_toks h]
    refine tokensP_of ?_ ?_ ?_
    · have e : Lib.itoa a.n ++ lineP a ++ (if a.unit = [] then [] else 44 :: 32 :: a.unit) ++ [44, 32] ++ a.city ++ [44, 32] ++ a.state ++ 32 :: a.zip ++ (if a.more = [] then [] else 45 :: a.more) =
          Lib.itoa a.n ++ lineP a ++ (if a.unit = [] then [] else 44 :: 32 :: a.unit) ++ [44, 32] ++ a.city ++ [44, 32] ++ (a.state ++ (32 :: zipS a)) := by rw [← hzs]; simp [List.append_assoc]
      rw [e]
      have hz32 : okBs (32 :: zipS a) := fun c hc => by
        rcases List.mem_cons.1 hc with rfl | hc
        · decide
        · exact z3 c hc
      exact okBs_app (okBs_app (okBs_app (okBs_app (okBs_app (okBs_app i2 h.line) hU.1) hsp) h.city.ok) hsp) (okBs_app s2 hz32)
    · have hzl : (32 :: a.zip ++ (if a.more = [] then [] else 45 :: a.more) : Bs).length ≤ 11 := by
        have : (32 :: a.zip ++ (if a.more = [] then [] else 45 :: a.more) : Bs) = 32 :: zipS a := by unfold zipS; rfl
        rw [this, List.length_cons]
        omega
      have h3 := hU.2.1
      simp only [List.length_append, List.length_cons, List.length_nil] at hzl h3 ⊢
      omega
    · rw [text_toks h]
      have h3 := hU.2.2
      simp only [List.length_append, List.length_cons, i1, z1, s1, List.length_nil] at h3 ⊢
      omega
  · exact .inr hc
end Go.Proofs.YtjneghncmgjkeaaGreatDoor

set_option linter.unusedVariables false
namespace Go.Proofs.YtjneghncmgjkeaaGreatDoor

theorem streetP_units {l : List Tok} {inner : Bool} (h : (streetP l inner).1.unit = []) (hl : ∀ t ∈ l, TokIs t) : (streetP l inner).2.2 = none := by
  have hS := streetP_ok l inner
  cases hu : (streetP l inner).2.2 with
  | none => rfl
  | some u =>
    obtain ⟨a, b, c⟩ := hS.unit u hu
    have := (unitP_shape a fun t ht => hl t (c t ht)).2.2
    rw [← b, h] at this
    exact absurd rfl this
/-- The name's tokens are those of its text. -/
theorem street_name {l : List Tok} {inner : Bool} (hl : ∀ t ∈ l, TokIs t) : toksOf (streetP l inner).1.name = (streetP l inner).2.1 := by
  have hS := streetP_ok l inner
  rw [hS.name]
  exact toks_texts fun t ht => hl t (hS.mem t ht)
/-- What a parse comes to, its parts told. -/
theorem parse_parts {s : Bs} {T line ut ct st zt : List Tok} {num zip : Tok} {a : Ad} (hT : tokensP s = (T, 0, 0))
    (hp : partsP T = (num :: line) :: ((if a.unit = [] then [] else [ut]) ++ [ct, st ++ [zip]])) (hn : digitsP num.t 1 6 = true) (hn2 : numP num.t = a.n) (hn3 : 1 ≤ a.n)
    (hs : (streetP line (a.unit == [])).1 = a.street) (hsu : (streetP line (a.unit == [])).2.2 = none) (hs0 : 0 < (streetP line (a.unit == [])).2.1.length) (hs8 : (streetP line (a.unit == [])).2.1.length ≤ 8) (hsk : kindOf (streetP line (a.unit == [])).2.1 [1, 2, 3] = true) (hs40 : a.name.length ≤ 40)
    (hu : a.unit ≠ [] → ut ≠ [] ∧ (unitP ut).2 = true ∧ (unitP ut).1 = a.unit ∧ (ut.getD 1 ⟨0, []⟩).t.length ≤ 10)
    (hc0 : ct ≠ []) (hck : kindOf ct [1] = true) (hc8 : ct.length ≤ 8) (hct : textsP ct = a.city) (hc40 : a.city.length ≤ 40)
    (hz : cutDash zip.t = (a.zip, a.more, decide (a.more ≠ []))) (hz5 : digitsP a.zip 5 5 = true) (hz4 : a.more = [] ∨ digitsP a.more 4 4 = true)
    (hst : shortP 3 (textsP st) = (a.state, true)) : parseP s = (a, 0, 0) := by
  have hlz : ∀ l : List Tok, (l ++ [zip]).getLastD ⟨0, []⟩ = zip ∧ (l ++ [zip]).dropLast = l := fun l => ⟨by simp [List.getLastD_eq_getLast?], by simp⟩
  obtain ⟨z1, z2⟩ := hlz st
  have hza : digitsP (cutDash zip.t).1 5 5 = true ∧ ((cutDash zip.t).2.2 = false ∨ digitsP (cutDash zip.t).2.1 4 4 = true) := by
    rw [hz]
    refine ⟨hz5, ?_⟩
    rcases hz4 with h | h
    · left; simp [h]
    · right; exact h
  have hnp : 0 < numP num.t := by omega
  have hnm : (streetP line (a.unit == [])).1.name = a.name := by rw [hs]; rfl
  by_cases hue : a.unit = []
  · have hb : (a.unit == []) = true := by rw [hue]; rfl
    rw [hb] at hs hsu hs0 hs8 hsk hnm
    rw [if_pos hue, List.nil_append] at hp
    have e : parseP s = parsePts [num :: line, ct, st ++ [zip]] 2 := by
      unfold parseP
      dsimp only
      rw [hT]
      dsimp only
      rw [if_neg (by simp), hp]
      rfl
    rw [e]
    unfold parsePts
    dsimp only
    rw [if_neg (by simp [List.isEmpty_iff, hc0])]
    simp only [List.getD_cons_zero, List.getD_cons_succ, List.headD_cons, List.tail_cons]
    rw [if_neg (by simp [hn, hnp])]
    try simp only [decide_true]
    rw [if_neg (by simp), if_neg (by simp [hsu]), if_neg (by rw [hnm]; simp [hs0, hs8, hsk, hs40])]
    try simp only [show (2 : Nat) - 1 = 1 from rfl, List.getD_cons_zero, List.getD_cons_succ]
    rw [if_neg (by rw [hct]; simp [hck, hc8, hc40]), z1, z2, if_neg (fun hn => hn hza), hst]
    rw [if_neg (by simp), hz]
    try simp only [show ¬ (2 = 3) by decide, if_false]
    rw [hn2, hct, hs]
    unfold Ad.street
    simp only
    rw [← hue]
  · obtain ⟨u0, u1, u2, u3⟩ := hu hue
    have hb : (a.unit == []) = false := by simpa using hue
    rw [hb] at hs hsu hs0 hs8 hsk hnm
    rw [if_neg hue] at hp
    have e : parseP s = parsePts [num :: line, ut, ct, st ++ [zip]] 3 := by
      unfold parseP
      dsimp only
      rw [hT]
      dsimp only
      rw [if_neg (by simp), hp]
      rfl
    rw [e]
    unfold parsePts
    dsimp only
    rw [if_neg (by simp [List.isEmpty_iff, hc0, u0])]
    simp only [List.getD_cons_zero, List.getD_cons_succ, List.headD_cons, List.tail_cons]
    rw [if_neg (by simp [hn, hnp])]
    have hd : decide ((3 : Nat) = 2) = false := rfl
    try rw [hd]
    try simp only [decide_false]
    rw [if_neg (by simp [u1]), if_neg (by simpa using u3), if_neg (by rw [hnm]; simp [hs0, hs8, hsk, hs40])]
    try simp only [show (3 : Nat) - 1 = 2 from rfl, List.getD_cons_zero, List.getD_cons_succ]
    rw [if_neg (by rw [hct]; simp [hck, hc8, hc40]), z1, z2, if_neg (fun hn => hn hza), hst]
    rw [if_neg (by simp), hz]
    try simp only [if_true]
    rw [hn2, hct, hs, u2]
    unfold Ad.street
    rfl
theorem text_parse {a : Ad} (hc : checkP a = 0) : parseP (textA a).1 = (a, 0, 0) := by
  have h := checkP_ok hc
  have hT : tokensP (textA a).1 = _ := (text_tokens h).resolve_right (fun e => e hc)
  obtain ⟨k, i1, ik, _, _⟩ := itoa_toks h.n1 h.n2
  obtain ⟨⟨kz, z1, zk⟩, z2, _, _⟩ := zip_ok h.zip h.more
  obtain ⟨s1, _, _, s4⟩ := own_word words_fine.2.2.1 words_word.2.2.1 h.state h.st0
  obtain ⟨l1, _⟩ := line_toks h
  have hlis : ∀ t ∈ toksOf (lineP a), TokIs t := toksOf_is
  have hci : ∀ t ∈ toksOf a.city, t.k ≠ 4 := kindOf_ne h.city.kinds (by decide)
  have hstn := h.street
  have hnm := street_name (l := toksOf (lineP a)) (inner := a.unit == []) hlis
  rw [hstn] at hnm
  have hnm' : toksOf a.name = (streetP (toksOf (lineP a)) (a.unit == [])).2.1 := hnm
  refine parse_parts (ut := toksOf a.unit) (ct := toksOf a.city) (st := toksOf a.state) (num := ⟨k, Lib.itoa a.n⟩) (zip := ⟨kz, zipS a⟩) (line := toksOf (lineP a)) hT ?_ (itoa_ok h.n1 h.n2).1 (itoa_ok h.n1 h.n2).2 h.n1 hstn
    (streetP_units (by rw [hstn]; rfl) hlis) (by rw [← hnm']; exact h.name.l0) (by rw [← hnm']; exact h.name.l8) (by rw [← hnm']; exact h.name.kinds) h.name.l40 (fun hu => ?_)
    (by intro e; have := h.city.l0; rw [e] at this; simp at this) h.city.kinds h.city.l8 h.city.texts h.city.l40 z2 h.zip h.more (by rw [s1]; exact s4) (zt := [])
  · have hn : ∀ t ∈ toksOf (Lib.itoa a.n) ++ toksOf (lineP a), t.k ≠ 4 := fun t ht => by
      rcases List.mem_append.1 ht with ht | ht
      · rw [i1] at ht; rw [List.mem_singleton.1 ht]; exact ik
      · exact l1 t ht
    have hz : ∀ t ∈ toksOf a.state ++ toksOf (zipS a), t.k ≠ 4 := fun t ht => by
      rcases List.mem_append.1 ht with ht | ht
      · rw [s1] at ht; rw [List.mem_singleton.1 ht]; show (1 : Int) ≠ 4; decide
      · rw [z1] at ht; rw [List.mem_singleton.1 ht]; exact zk
    by_cases hu : a.unit = []
    · rw [if_pos hu, if_pos hu, List.append_nil, partsP_cut hn, partsP_cut hci, partsP_one hz, i1, z1]
      rfl
    · obtain ⟨u1, u2, u3, u4⟩ := housed_ok h.unit hu
      have hui := (unitP_shape u2 toksOf_is).1
      rw [if_neg hu, if_neg hu, List.append_assoc _ (tComma :: toksOf a.unit), List.cons_append, partsP_cut hn, partsP_cut hui, partsP_cut hci, partsP_one hz, i1, z1]
      rfl
  · obtain ⟨u1, u2, u3, u4⟩ := housed_ok h.unit hu
    refine ⟨?_, u2, u3, u4⟩
    intro e
    rw [e] at u2
    cases u2
end Go.Proofs.YtjneghncmgjkeaaGreatDoor
