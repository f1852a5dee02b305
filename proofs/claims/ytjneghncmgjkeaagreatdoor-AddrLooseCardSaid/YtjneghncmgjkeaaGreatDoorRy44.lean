/-
  Plain: AddrLoose: the texts with long words, and how they are parsed.
-/
import Derived.Test.YtjneghncmgjkeaaGreatDoorRy43
set_option linter.unusedVariables false
namespace Go.Proofs.YtjneghncmgjkeaaGreatDoor

/-- What is ahead of the first such byte, and behind it. -/
def cutB (c : UInt8) : Bs → Bs × Bs × Bool
  | [] => ([], [], false)
  | x :: s => if x = c then ([], s, true) else (x :: (cutB c s).1, (cutB c s).2.1, (cutB c s).2.2)
theorem cutB_at {c : UInt8} {v : Bs} : ∀ {u : Bs}, (∀ x ∈ u, x ≠ c) → cutB c (u ++ c :: v) = (u, v, true)
  | [], _ => by rw [List.nil_append, cutB, if_pos rfl]
  | x :: u, h => by rw [List.cons_append, cutB, if_neg (h x (by simp)), cutB_at fun y hy => h y (List.mem_cons_of_mem _ hy)]
theorem cutB_none {c : UInt8} : ∀ {u : Bs}, (∀ x ∈ u, x ≠ c) → cutB c u = (u, [], false)
  | [], _ => rfl
  | x :: u, h => by rw [cutB, if_neg (h x (by simp)), cutB_none fun y hy => h y (List.mem_cons_of_mem _ hy)]
theorem spN_no : ∀ {x : Bs}, spN x = 0 → ∀ c ∈ x, c ≠ 32
  | [], _, c, hc => by cases hc
  | d :: x, h, c, hc => by
    rw [spN] at h
    by_cases hd : d = 32
    · rw [if_pos hd] at h; omega
    · rw [if_neg hd] at h
      rcases List.mem_cons.1 hc with rfl | hc
      · exact hd
      · exact spN_no h c hc
noncomputable def unitL (u : Bs) : Bs := if (cutB 32 u).2.2 then (longP 4 (cutB 32 u).1).1 ++ 32 :: (cutB 32 u).2.1 else u
noncomputable def headL (a : Ad) : Bs := (cutB 32 (textA a).1).1 ++ (if a.half then [32, 49, 47, 50, 32] else [])
noncomputable def wordsL (a : Ad) : Bs := (longP 2 a.pre).1 ++ 32 :: (a.name ++ 32 :: ((longP 1 a.suf).1 ++ 32 :: (longP 2 a.post).1))
noncomputable def placeL (a : Ad) : Bs := 44 :: 32 :: (a.city ++ 44 :: 32 :: ((longP 3 a.state).1 ++ 32 :: zipS a))
noncomputable def oneP (a : Ad) : Bs := headL a ++ 32 :: (wordsL a ++ ((if unitL a.unit = [] then [] else 44 :: 32 :: unitL a.unit) ++ placeL a))
noncomputable def twoP (a : Ad) : Bs := headL a ++ 32 :: (wordsL a ++ 32 :: (unitL a.unit ++ placeL a))
/-- A unit, its word long. -/
structure UnitLong (u : Bs) : Prop where
  ex : ∃ x y, toksOf (unitL u) = [x, y] ∧ unitP [x, y] = (u, true) ∧ y.t.length ≤ 10 ∧ x.k ≠ 4 ∧ y.k ≠ 4
  ok : okBs (unitL u)
  ne : unitL u ≠ []
theorem unit_long {u : Bs} (h : housedP u = true) (h0 : u ≠ []) : UnitLong u := by
  obtain ⟨u1, u2, u3, u4⟩ := housed_ok h h0
  have hl : ∀ t ∈ toksOf u, TokIs t := toksOf_is
  obtain ⟨s1, s2, _⟩ := unitP_shape u2 hl
  match hT : toksOf u, s2 with
  | [x, y], _ =>
    rw [hT] at u2 u3 u4 s1 hl
    have hy := hl y (by simp)
    have hx := hl x (by simp)
    have ysp := tok_sp hy
    have y10 : y.t.length ≤ 10 := u4
    unfold unitP at u2 u3
    by_cases h1 : y.k = 5 ∨ y.k = 4
    · simp only [if_pos h1] at u2; cases u2
    simp only [if_neg h1] at u2 u3
    by_cases h2 : x.k = 5
    · simp only [if_pos h2] at u2 u3
      have hc : cutB 32 u = (u, [], false) := cutB_none fun c hc => by
        rw [← u3] at hc
        rcases List.mem_cons.1 hc with rfl | hc
        · decide
        · exact spN_no ysp c hc
      have e : unitL u = u := by unfold unitL; rw [hc]; rfl
      refine ⟨⟨x, y, by rw [e, hT], ?_, y10, s1 x (by simp), s1 y (by simp)⟩, by rw [e]; exact u1, by rw [e]; exact h0⟩
      unfold unitP
      simp only [if_neg h1, if_pos h2]
      rw [u3]
    · simp only [if_neg h2] at u2 u3
      have hs0 : shortT x 4 ≠ [] := by simpa using u2
      have hown := (shortP_ok words_fine.2.2.2 short0.2.2.2 x.t).own
      change (shortP 4 (shortT x 4)).1 = shortT x 4 at hown
      obtain ⟨p, hp, e1, e2⟩ := longP_mem words_fine.2.2.2 hown hs0
      have hw := List.all_eq_true.1 words_word.2.2.2 p hp
      have hll := List.all_eq_true.1 words_long.2.2 p hp
      simp only [Bool.and_eq_true, beq_iff_eq] at hw hll
      obtain ⟨⟨⟨⟨a1, a2⟩, a3⟩, a4⟩, a5⟩ := hll
      have hc : cutB 32 u = (shortT x 4, y.t, true) := by
        rw [← u3]
        refine cutB_at fun c hc => ?_
        rw [← e1] at hc
        exact spN_no (spN_snd hw.1) c hc
      have e : unitL u = p.l ++ 32 :: y.t := by unfold unitL; rw [hc]; simp only [if_true]; rw [e2]
      have hsh : shortT ⟨1, p.l⟩ 4 = shortT x 4 := by show (shortP 4 p.l).1 = _; rw [a4, e1]; exact hown
      refine ⟨⟨⟨1, p.l⟩, y, ?_, ?_, y10, (show (1 : Int) ≠ 4 by decide), s1 y (by simp)⟩, ?_, by rw [e]; simp⟩
      · rw [e, toks_sp, a1, toks_self hy]; rfl
      · unfold unitP
        simp only [if_neg h1, if_neg (show ¬ (1 : Int) = 5 by decide), hsh, u3]
        rw [show (shortT x 4 != []) = true by simpa using hs0]
      · rw [e]
        refine okBs_app (fun c hc => ?_) fun c hc => ?_
        · simpa using List.all_eq_true.1 a5 c hc
        · rcases List.mem_cons.1 hc with rfl | hc
          · decide
          · exact hy.ok c hc
theorem unitL_nil : unitL [] = [] := rfl
theorem line_head {a : Ad} (h : a.name ≠ []) : ∃ r, lineP a = 32 :: r := by
  rw [lineP_eq]
  unfold halfS aheadP
  by_cases hh : a.half = true
  · rw [hh]; exact ⟨_, rfl⟩
  · rw [Bool.not_eq_true] at hh
    rw [hh]
    by_cases hp : a.pre = []
    · rw [if_pos hp, if_neg h]; exact ⟨_, rfl⟩
    · rw [if_neg hp]; exact ⟨_, rfl⟩
theorem head_long {a : Ad} (hc : checkP a = 0) : headL a = Lib.itoa a.n ++ (if a.half then [32, 49, 47, 50, 32] else []) := by
  have h := checkP_ok hc
  have hn : a.name ≠ [] := by intro e; have := h.name.l0; rw [e, toks_nil] at this; simp at this
  obtain ⟨r, hr⟩ := line_head hn
  have i0 := spN_digs (digitsP_all (itoa_ok h.n1 h.n2).1).2.2
  have ht : ∃ v, (textA a).1 = Lib.itoa a.n ++ 32 :: v := by
    unfold textA
    rw [if_neg (by simp [hc]), hr]
    simp only [List.append_assoc, List.cons_append]
    exact ⟨_, rfl⟩
  obtain ⟨v, hv⟩ := ht
  unfold headL
  rw [hv, cutB_at fun c hc => spN_no i0 c hc]
structure StateLong (x : Bs) : Prop where
  texts : textsP (toksOf (longP 3 x).1) = (longP 3 x).1
  short : shortP 3 (longP 3 x).1 = (x, true)
  kinds : ∀ t ∈ toksOf (longP 3 x).1, t.k ≠ 4
  len : (toksOf (longP 3 x).1).length ≤ 4
  ok : okBs (longP 3 x).1
theorem state_long {x : Bs} (ho : ownP 3 x = true) (h0 : x ≠ []) : StateLong x := by
  unfold ownP at ho
  rw [beq_iff_eq] at ho
  obtain ⟨p, hp, e1, e2⟩ := longP_mem words_fine.2.2.1 ho h0
  have h3 := List.all_eq_true.1 states_long p hp
  simp only [Bool.and_eq_true, beq_iff_eq, decide_eq_true_eq] at h3
  obtain ⟨⟨⟨⟨a1, a2⟩, a3⟩, a4⟩, a5⟩ := h3
  rw [← e1] at e2 ⊢
  refine ⟨by rw [e2]; exact a1, by rw [e2]; exact a2, ?_, by rw [e2]; exact a4, ?_⟩
  · rw [e2]; intro t ht; simpa using List.all_eq_true.1 a3 t ht
  · rw [e2]; intro c hc; simpa using List.all_eq_true.1 a5 c hc
/-- What the long words' line comes to. -/
structure LineLong (a : Ad) : Prop where
  toks : toksOf (headL a ++ 32 :: wordsL a) = toksOf (Lib.itoa a.n) ++ (halfL a.half ++ snds (linePairs a (toksOf a.name)))
  ok : okBs (headL a ++ 32 :: wordsL a)
  kinds : ∀ t ∈ halfL a.half ++ snds (linePairs a (toksOf a.name)), t.k ≠ 4
  len : (halfL a.half ++ snds (linePairs a (toksOf a.name))).length ≤ 12
  alike : ∀ p ∈ linePairs a (toksOf a.name), Alike p
  fst : toksOf (lineP a) = halfL a.half ++ fsts (linePairs a (toksOf a.name))
theorem line_long {a : Ad} (hc : checkP a = 0) : LineLong a := by
  have h := checkP_ok hc
  have hp := h.pre
  have hs := h.suf
  have hq := h.post
  unfold ownP at hp hs hq
  rw [beq_iff_eq] at hp hs hq
  have P := long_ok words_fine.2.1 words_long.2.1 hp
  have S := long_ok words_fine.1 words_long.1 hs
  have Q := long_ok words_fine.2.1 words_long.2.1 hq
  obtain ⟨k, i1, ik, i2, i3⟩ := itoa_toks h.n1 h.n2
  have w1 := (own_wd words_fine.2.1 words_word.2.1 hp).1
  have w2 := (own_wd words_fine.1 words_word.1 hs).1
  have w3 := (own_wd words_fine.2.1 words_word.2.1 hq).1
  have nk := kindOf_ne h.name.kinds (k := 4) (by decide)
  have hal : ∀ p ∈ linePairs a (toksOf a.name), Alike p := by
    intro p hp
    unfold linePairs at hp
    simp only [List.mem_append] at hp
    rcases hp with ((hp | hp) | hp) | hp
    · exact P.alike p hp
    · obtain ⟨t, _, rfl⟩ := List.mem_map.1 hp
      exact alike_self t
    · exact S.alike p hp
    · exact Q.alike p hp
  have hsn : snds (linePairs a (toksOf a.name)) = toksOf (longP 2 a.pre).1 ++ (toksOf a.name ++ (toksOf (longP 1 a.suf).1 ++ toksOf (longP 2 a.post).1)) := by
    unfold linePairs
    rw [← P.snd, ← S.snd, ← Q.snd]
    have e := (pairs_two (toksOf a.name)).1
    simp only [snds, List.map_append, List.append_assoc] at e ⊢
    rw [e]
  have hfs : fsts (linePairs a (toksOf a.name)) = toksOf a.pre ++ toksOf a.name ++ toksOf a.suf ++ toksOf a.post := by
    unfold linePairs
    rw [w1, w2, w3, ← P.fst, ← S.fst, ← Q.fst]
    have e := (pairs_two (toksOf a.name)).2
    simp only [fsts, List.map_append] at e ⊢
    rw [e]
  have hfst : toksOf (lineP a) = halfL a.half ++ fsts (linePairs a (toksOf a.name)) := by
    rw [hfs, toks_lineP]
    unfold halfL
    simp only [List.append_assoc]
  refine ⟨?_, ?_, ?_, ?_, hal, hfst⟩
  · have hh : toksOf (headL a) = toksOf (Lib.itoa a.n) ++ halfL a.half := by
      rw [head_long hc]
      cases a.half with
      | false => simp [halfL]
      | true =>
        simp only [if_true, halfL]
        rw [toks_sp]
        exact congrArg (toksOf (Lib.itoa a.n) ++ ·) (show toksOf [49, 47, 50, 32] = [halfT] by decide +kernel)
    rw [toks_sp, hh, hsn]
    unfold wordsL
    rw [toks_sp, toks_sp, toks_sp, List.append_assoc]
  · rw [head_long hc]
    refine okBs_app (okBs_app i2 ?_) fun c hc => ?_
    · cases a.half with
      | false => intro c hc; cases hc
      | true => exact okBs_bad.1 (by decide)
    · rcases List.mem_cons.1 hc with rfl | hc
      · decide
      · unfold wordsL at hc
        have sp : ∀ {x y : Bs}, okBs x → okBs y → okBs (x ++ 32 :: y) := fun hx hy => okBs_app hx fun c hc => by
          rcases List.mem_cons.1 hc with rfl | hc
          · decide
          · exact hy c hc
        exact sp P.ok (sp h.name.ok (sp S.ok Q.ok)) c hc
  · intro t ht
    rcases List.mem_append.1 ht with ht | ht
    · unfold halfL at ht
      split at ht
      · rw [List.mem_singleton.1 ht]; decide
      · cases ht
    · obtain ⟨p, hp, rfl⟩ := List.mem_map.1 ht
      rw [(hal p hp).1]
      have : p.1 ∈ toksOf (lineP a) := by rw [hfst]; exact List.mem_append.2 (.inr (List.mem_map.2 ⟨p, hp, rfl⟩))
      exact (line_toks h).1 _ this
  · have := (line_toks h).2
    rw [hfst] at this
    simpa using this
theorem toks_cosp (x y : Bs) : toksOf (x ++ 44 :: 32 :: y) = toksOf x ++ (tComma :: toksOf y) := by rw [toks_co, toks_sp1]
theorem place_toks (a : Ad) (x : Bs) : toksOf (x ++ placeL a) = toksOf x ++ tComma :: (toksOf a.city ++ tComma :: (toksOf (longP 3 a.state).1 ++ toksOf (zipS a))) := by
  unfold placeL
  rw [toks_cosp, toks_cosp, toks_sp]
theorem okBs_cosp {x y : Bs} (hx : okBs x) (hy : okBs y) : okBs (x ++ 44 :: 32 :: y) := okBs_app hx fun c hc => by
  rcases List.mem_cons.1 hc with rfl | hc
  · decide
  · rcases List.mem_cons.1 hc with rfl | hc
    · decide
    · exact hy c hc
theorem okBs_sp {x y : Bs} (hx : okBs x) (hy : okBs y) : okBs (x ++ 32 :: y) := okBs_app hx fun c hc => by
  rcases List.mem_cons.1 hc with rfl | hc
  · decide
  · exact hy c hc
/-- With the unit's word long, apart. -/
theorem loose_one {a : Ad} (hc : checkP a = 0) (h200 : (oneP a).length ≤ 200) : parseP (oneP a) = (a, 0, 0) := by
  have h := checkP_ok hc
  have L := line_long hc
  have SL := state_long h.state h.st0
  obtain ⟨k, i1, ik, _, _⟩ := itoa_toks h.n1 h.n2
  obtain ⟨⟨kz, z1, zk⟩, z2, z3, _⟩ := zip_ok h.zip h.more
  have hci : ∀ t ∈ toksOf a.city, t.k ≠ 4 := kindOf_ne h.city.kinds (by decide)
  have hN : toksOf a.name ≠ [] := by intro e; have := h.name.l0; rw [e] at this; simp at this
  have hlis : ∀ t ∈ toksOf (lineP a), TokIs t := toksOf_is
  have hst := h.street
  have hsu := streetP_units (l := toksOf (lineP a)) (inner := a.unit == []) (by rw [hst]; rfl) hlis
  rw [L.fst] at hst hsu
  obtain ⟨hs, _⟩ := street_long L.alike hN hst hsu
  have hU : (∀ t ∈ (if a.unit = [] then [] else tComma :: toksOf (unitL a.unit) : List Tok), True) ∧ (if a.unit = [] then [] else tComma :: toksOf (unitL a.unit) : List Tok).length ≤ 3 := by
    refine ⟨fun _ _ => trivial, ?_⟩
    by_cases hu : a.unit = []
    · rw [if_pos hu]; simp
    · rw [if_neg hu]
      obtain ⟨x, y, e, _⟩ := (unit_long h.unit hu).ex
      rw [e]; simp
  have hT0 : toksOf (oneP a) = (toksOf (Lib.itoa a.n) ++ (halfL a.half ++ snds (linePairs a (toksOf a.name))) ++ (if a.unit = [] then [] else tComma :: toksOf (unitL a.unit))) ++ tComma :: (toksOf a.city ++ tComma :: (toksOf (longP 3 a.state).1 ++ toksOf (zipS a))) := by
    unfold oneP
    by_cases hu : a.unit = []
    · rw [hu, unitL_nil, if_pos rfl, if_pos rfl, List.nil_append, List.append_nil, ← L.toks, ← place_toks]
      simp only [List.append_assoc, List.cons_append]
    · rw [if_neg (unit_long h.unit hu).ne, if_neg hu, ← L.toks, ← toks_cosp, ← place_toks]
      simp only [List.append_assoc, List.cons_append]
  have hok : okBs (oneP a) := by
    have hpl : okBs (placeL a) := okBs_cosp (x := []) (fun c hc => by cases hc) (okBs_cosp h.city.ok (okBs_sp SL.ok z3))
    have e : oneP a = (headL a ++ 32 :: wordsL a) ++ ((if unitL a.unit = [] then [] else 44 :: 32 :: unitL a.unit) ++ placeL a) := by unfold oneP; simp only [List.append_assoc, List.cons_append]
    rw [e]
    refine okBs_app L.ok (okBs_app ?_ hpl)
    by_cases hu : a.unit = []
    · rw [hu, unitL_nil, if_pos rfl]; intro c hc; cases hc
    · rw [if_neg (unit_long h.unit hu).ne]
      exact okBs_cosp (x := []) (fun c hc => by cases hc) (unit_long h.unit hu).ok
  have hT : tokensP (oneP a) = _ := tokensP_of hok h200 (by
    rw [hT0]
    have l1 := L.len
    have l2 := hU.2
    have l3 := h.city.l8
    have l4 := SL.len
    simp only [List.length_append, List.length_cons, i1, z1, List.length_nil] at l1 l2 ⊢
    omega)
  rw [hT0] at hT
  refine parse_parts (ut := toksOf (unitL a.unit)) (ct := toksOf a.city) (st := toksOf (longP 3 a.state).1) (num := ⟨k, Lib.itoa a.n⟩) (zip := ⟨kz, zipS a⟩) (line := halfL a.half ++ snds (linePairs a (toksOf a.name))) hT ?_ (itoa_ok h.n1 h.n2).1 (itoa_ok h.n1 h.n2).2 h.n1 (by rw [hs])
    (by rw [hs]) (by rw [hs]; exact h.name.l0) (by rw [hs]; exact h.name.l8) (by rw [hs]; exact h.name.kinds) h.name.l40 (fun hu => ?_)
    (by intro e; have := h.city.l0; rw [e] at this; simp at this) h.city.kinds h.city.l8 h.city.texts h.city.l40 z2 h.zip h.more (by rw [SL.texts]; exact SL.short) (zt := [])
  · have hn : ∀ t ∈ toksOf (Lib.itoa a.n) ++ (halfL a.half ++ snds (linePairs a (toksOf a.name))), t.k ≠ 4 := fun t ht => by
      rcases List.mem_append.1 ht with ht | ht
      · rw [i1] at ht; rw [List.mem_singleton.1 ht]; exact ik
      · exact L.kinds t ht
    have hz : ∀ t ∈ toksOf (longP 3 a.state).1 ++ toksOf (zipS a), t.k ≠ 4 := fun t ht => by
      rcases List.mem_append.1 ht with ht | ht
      · exact SL.kinds t ht
      · rw [z1] at ht; rw [List.mem_singleton.1 ht]; exact zk
    by_cases hu : a.unit = []
    · rw [if_pos hu, if_pos hu, List.append_nil, partsP_cut hn, partsP_cut hci, partsP_one hz, i1, z1]
      rfl
    · obtain ⟨x, y, e, _, _, xk, yk⟩ := (unit_long h.unit hu).ex
      have hui : ∀ t ∈ toksOf (unitL a.unit), t.k ≠ 4 := fun t ht => by
        rw [e] at ht
        simp only [List.mem_cons, List.not_mem_nil, or_false] at ht
        rcases ht with rfl | rfl
        · exact xk
        · exact yk
      rw [if_neg hu, if_neg hu, List.append_assoc _ (tComma :: toksOf (unitL a.unit)), List.cons_append, partsP_cut hn, partsP_cut hui, partsP_cut hci, partsP_one hz, i1, z1]
      rfl
  · obtain ⟨x, y, e, e1, e2, _, _⟩ := (unit_long h.unit hu).ex
    rw [e]
    exact ⟨by simp, by rw [e1], by rw [e1], e2⟩
/-- What a parse comes to where the unit stands in the street. -/
theorem parse_inner {s : Bs} {T line ct st N : List Tok} {num zip x y : Tok} {a : Ad} (hT : tokensP s = (T, 0, 0))
    (hp : partsP T = [num :: line, ct, st ++ [zip]]) (hn : digitsP num.t 1 6 = true) (hn2 : numP num.t = a.n) (hn3 : 1 ≤ a.n)
    (hs : streetP line true = (⟨0, a.half, a.pre, a.name, a.suf, a.post, a.unit, [], [], [], []⟩, N, some [x, y])) (hy : y.t.length ≤ 10)
    (hs0 : 0 < N.length) (hs8 : N.length ≤ 8) (hsk : kindOf N [1, 2, 3] = true) (hs40 : a.name.length ≤ 40)
    (hc0 : ct ≠ []) (hck : kindOf ct [1] = true) (hc8 : ct.length ≤ 8) (hct : textsP ct = a.city) (hc40 : a.city.length ≤ 40)
    (hz : cutDash zip.t = (a.zip, a.more, decide (a.more ≠ []))) (hz5 : digitsP a.zip 5 5 = true) (hz4 : a.more = [] ∨ digitsP a.more 4 4 = true)
    (hst : shortP 3 (textsP st) = (a.state, true)) : parseP s = (a, 0, 0) := by
  obtain ⟨z1, z2⟩ := last_snoc st zip
  have hza : digitsP (cutDash zip.t).1 5 5 = true ∧ ((cutDash zip.t).2.2 = false ∨ digitsP (cutDash zip.t).2.1 4 4 = true) := by
    rw [hz]
    refine ⟨hz5, ?_⟩
    rcases hz4 with h | h
    · left; simp [h]
    · right; exact h
  have hnp : 0 < numP num.t := by omega
  have e : parseP s = parsePts [num :: line, ct, st ++ [zip]] 2 := by
    unfold parseP
    dsimp only
    rw [hT]
    dsimp only
    rw [if_neg (by simp), hp]
    rfl
  rw [e]
  unfold parsePts
  dsimp only
  rw [if_neg (by simp [List.isEmpty_iff, hc0])]
  simp only [List.getD_cons_zero, List.getD_cons_succ, List.headD_cons, List.tail_cons]
  rw [if_neg (by simp [hn, hnp])]
  try simp only [decide_true]
  rw [if_neg (by simp), hs]
  dsimp only
  rw [if_neg (by simp; omega), if_neg (by simp [hs0, hs8, hsk, hs40])]
  try simp only [show (2 : Nat) - 1 = 1 from rfl, List.getD_cons_zero, List.getD_cons_succ]
  rw [if_neg (by rw [hct]; simp [hck, hc8, hc40]), z1, z2, if_neg (fun hn => hn hza), hst]
  rw [if_neg (by simp), hz]
  try simp only [show ¬ (2 = 3) by decide, if_false]
  rw [hn2, hct]
/-- With the unit in the street. -/
theorem loose_two {a : Ad} (hc : checkP a = 0) (h200 : (twoP a).length ≤ 200) : parseP (twoP a) = (a, 0, 0) := by
  have h := checkP_ok hc
  have L := line_long hc
  have SL := state_long h.state h.st0
  obtain ⟨k, i1, ik, _, _⟩ := itoa_toks h.n1 h.n2
  obtain ⟨⟨kz, z1, zk⟩, z2, z3, _⟩ := zip_ok h.zip h.more
  have hci : ∀ t ∈ toksOf a.city, t.k ≠ 4 := kindOf_ne h.city.kinds (by decide)
  have hN : toksOf a.name ≠ [] := by intro e; have := h.name.l0; rw [e] at this; simp at this
  have hlis : ∀ t ∈ toksOf (lineP a), TokIs t := toksOf_is
  have hst := h.street
  have hsu := streetP_units (l := toksOf (lineP a)) (inner := a.unit == []) (by rw [hst]; rfl) hlis
  rw [L.fst] at hst hsu
  obtain ⟨hs, hs2⟩ := street_long L.alike hN hst hsu
  have hul : toksOf (unitL a.unit) = [] ∧ a.unit = [] ∨ ∃ x y, toksOf (unitL a.unit) = [x, y] ∧ unitP [x, y] = (a.unit, true) ∧ y.t.length ≤ 10 ∧ x.k ≠ 4 ∧ y.k ≠ 4 := by
    by_cases hu : a.unit = []
    · left; exact ⟨by rw [hu, unitL_nil, toks_nil], hu⟩
    · exact .inr (unit_long h.unit hu).ex
  have hT0 : toksOf (twoP a) = (toksOf (Lib.itoa a.n) ++ ((halfL a.half ++ snds (linePairs a (toksOf a.name))) ++ toksOf (unitL a.unit))) ++ tComma :: (toksOf a.city ++ tComma :: (toksOf (longP 3 a.state).1 ++ toksOf (zipS a))) := by
    unfold twoP
    rw [← List.append_assoc (toksOf (Lib.itoa a.n)), ← L.toks, ← toks_sp, ← place_toks]
    simp only [List.append_assoc, List.cons_append]
  have hok : okBs (twoP a) := by
    have hpl : okBs (placeL a) := okBs_cosp (x := []) (fun c hc => by cases hc) (okBs_cosp h.city.ok (okBs_sp SL.ok z3))
    have e : twoP a = (headL a ++ 32 :: wordsL a) ++ 32 :: (unitL a.unit ++ placeL a) := by unfold twoP; simp only [List.append_assoc, List.cons_append]
    rw [e]
    refine okBs_sp L.ok (okBs_app ?_ hpl)
    by_cases hu : a.unit = []
    · rw [hu, unitL_nil]; intro c hc; cases hc
    · exact (unit_long h.unit hu).ok
  have hT : tokensP (twoP a) = _ := tokensP_of hok h200 (by
    rw [hT0]
    have l1 := L.len
    have l2 : (toksOf (unitL a.unit)).length ≤ 2 := by
      rcases hul with ⟨e, _⟩ | ⟨x, y, e, _⟩ <;> rw [e] <;> simp
    have l3 := h.city.l8
    have l4 := SL.len
    simp only [List.length_append, List.length_cons, i1, z1, List.length_nil] at l1 l2 ⊢
    omega)
  rw [hT0] at hT
  have hz : ∀ t ∈ toksOf (longP 3 a.state).1 ++ toksOf (zipS a), t.k ≠ 4 := fun t ht => by
    rcases List.mem_append.1 ht with ht | ht
    · exact SL.kinds t ht
    · rw [z1] at ht; rw [List.mem_singleton.1 ht]; exact zk
  have hn : ∀ t ∈ toksOf (Lib.itoa a.n) ++ ((halfL a.half ++ snds (linePairs a (toksOf a.name))) ++ toksOf (unitL a.unit)), t.k ≠ 4 := fun t ht => by
    rcases List.mem_append.1 ht with ht | ht
    · rw [i1] at ht; rw [List.mem_singleton.1 ht]; exact ik
    · rcases List.mem_append.1 ht with ht | ht
      · exact L.kinds t ht
      · rcases hul with ⟨e, _⟩ | ⟨x, y, e, _, _, xk, yk⟩
        · rw [e] at ht; cases ht
        · rw [e] at ht
          simp only [List.mem_cons, List.not_mem_nil, or_false] at ht
          rcases ht with rfl | rfl
          · exact xk
          · exact yk
  have hpt : partsP ((toksOf (Lib.itoa a.n) ++ ((halfL a.half ++ snds (linePairs a (toksOf a.name))) ++ toksOf (unitL a.unit))) ++ tComma :: (toksOf a.city ++ tComma :: (toksOf (longP 3 a.state).1 ++ toksOf (zipS a)))) =
      [⟨k, Lib.itoa a.n⟩ :: ((halfL a.half ++ snds (linePairs a (toksOf a.name))) ++ toksOf (unitL a.unit)), toksOf a.city, toksOf (longP 3 a.state).1 ++ [⟨kz, zipS a⟩]] := by
    rw [partsP_cut hn, partsP_cut hci, partsP_one hz, i1, z1]
    rfl
  have hc0 : toksOf a.city ≠ [] := by intro e; have := h.city.l0; rw [e] at this; simp at this
  rcases hul with ⟨e, hu⟩ | ⟨x, y, e, e1, e2, _, _⟩
  · rw [e, List.append_nil] at hpt
    rw [e, List.append_nil] at hT
    refine parse_parts (ut := []) (ct := toksOf a.city) (st := toksOf (longP 3 a.state).1) (num := ⟨k, Lib.itoa a.n⟩) (zip := ⟨kz, zipS a⟩) (line := halfL a.half ++ snds (linePairs a (toksOf a.name))) hT ?_ (itoa_ok h.n1 h.n2).1 (itoa_ok h.n1 h.n2).2 h.n1 (by rw [hs])
      (by rw [hs]) (by rw [hs]; exact h.name.l0) (by rw [hs]; exact h.name.l8) (by rw [hs]; exact h.name.kinds) h.name.l40 (fun hx => absurd hu hx)
      hc0 h.city.kinds h.city.l8 h.city.texts h.city.l40 z2 h.zip h.more (by rw [SL.texts]; exact SL.short) (zt := [])
    rw [hpt, if_pos hu]
    rfl
  · have hsx := hs2 x y (by rw [e1])
    rw [e1, ← List.append_assoc] at hsx
    rw [e] at hpt hT
    exact parse_inner hT hpt (itoa_ok h.n1 h.n2).1 (itoa_ok h.n1 h.n2).2 h.n1 hsx e2 h.name.l0 h.name.l8 h.name.kinds h.name.l40 hc0 h.city.kinds h.city.l8 h.city.texts h.city.l40 z2 h.zip h.more (by rw [SL.texts]; exact SL.short)
end Go.Proofs.YtjneghncmgjkeaaGreatDoor
