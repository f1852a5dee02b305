/-
  Plain: AddrBack's hard spot: what is read is read the same from its short forms, with the unit apart.
-/
import Derived.Test.YtjneghncmgjkeaaGreatDoorKa19
set_option linter.unusedVariables false
namespace Go.Proofs.YtjneghncmgjkeaaGreatDoor

theorem last_snoc (l : List Tok) (t : Tok) : (l ++ [t]).getLastD ⟨0, []⟩ = t ∧ (l ++ [t]).dropLast = l := ⟨by simp [List.getLastD_eq_getLast?], by simp⟩
theorem backP_snoc {m : List Tok} {t : Tok} {k : Int} (hm : 1 ≤ m.length) (ht : shortT t k ≠ []) : backP (m ++ [t]) k = (m, shortT t k) := by
  obtain ⟨a, b⟩ := last_snoc m t
  unfold backP
  rw [a, b, if_pos ⟨by rw [List.length_append, List.length_singleton]; omega, ht⟩]
def keepC (l : List Tok) (k : Int) : Prop := l.length < 2 ∨ shortT (l.getLastD ⟨0, []⟩) k = []
theorem backP_keep {l : List Tok} {k : Int} (h : keepC l k) : backP l k = (l, []) := by
  unfold backP
  rw [if_neg]
  rintro ⟨a, b⟩
  rcases h with h | h
  · omega
  · exact b h
theorem backP_form (l : List Tok) (k : Int) : ((backP l k).2 = [] ∧ (backP l k).1 = l ∧ keepC l k) ∨ ((backP l k).2 ≠ [] ∧ ∃ t, l = (backP l k).1 ++ [t] ∧ shortT t k = (backP l k).2 ∧ t ∈ l) := by
  by_cases h : 2 ≤ l.length ∧ shortT (l.getLastD ⟨0, []⟩) k ≠ []
  · right
    have hl : l ≠ [] := by intro e; rw [e] at h; simp at h
    have e : backP l k = (l.dropLast, shortT (l.getLastD ⟨0, []⟩) k) := by unfold backP; rw [if_pos h]
    have hg : l.getLastD ⟨0, []⟩ = l.getLast hl := by rw [List.getLastD_eq_getLast?, List.getLast?_eq_some_getLast hl]; rfl
    rw [e]
    refine ⟨h.2, l.getLastD ⟨0, []⟩, ?_, rfl, ?_⟩
    · rw [hg]; exact (List.dropLast_concat_getLast hl).symm
    · rw [hg]; exact List.getLast_mem hl
  · left
    have hk : keepC l k := by
      by_cases h1 : l.length < 2
      · exact .inl h1
      · right
        exact Classical.byContradiction fun e => h ⟨by omega, e⟩
    rw [backP_keep hk]
    exact ⟨rfl, rfl, hk⟩
theorem frontP_cons {m : List Tok} {t : Tok} {k : Int} (hm : 1 ≤ m.length) (ht : shortT t k ≠ []) : frontP (t :: m) k = (m, shortT t k) := by
  unfold frontP
  rw [if_pos ⟨by rw [List.length_cons]; omega, ht⟩]
  rfl
theorem frontP_form (l : List Tok) (k : Int) : ((frontP l k).2 = [] ∧ (frontP l k).1 = l ∧ frontP l k = (l, [])) ∨ ((frontP l k).2 ≠ [] ∧ ∃ t, l = t :: (frontP l k).1 ∧ shortT t k = (frontP l k).2) := by
  by_cases h : 2 ≤ l.length ∧ shortT (l.headD ⟨0, []⟩) k ≠ []
  · right
    have e : frontP l k = (l.tail, shortT (l.headD ⟨0, []⟩) k) := by unfold frontP; rw [if_pos h]
    rw [e]
    refine ⟨h.2, l.headD ⟨0, []⟩, ?_, rfl⟩
    cases l with
    | nil => simp at h
    | cons t l => rfl
  · left
    have e : frontP l k = (l, []) := by unfold frontP; rw [if_neg h]
    rw [e]
    exact ⟨rfl, rfl, rfl⟩
/-- A short form as a token. -/
def wd (x : Bs) : List Tok := if x = [] then [] else [⟨1, x⟩]
theorem suf_no : (wordsP 1).all (fun p => (shortP 2 p.s).1 == [] && (shortP 4 p.s).1 == []) = true ∧ (wordsP 2).all (fun p => (shortP 4 p.s).1 == []) = true := by decide +kernel
theorem short_of_own {k : Int} {x : Bs} (ho : (shortP k x).1 = x) (h0 : x ≠ []) : ∃ p ∈ wordsP k, x = p.s := by
  have h2 : (shortP k x).2 = true := by
    cases he : (shortP k x).2 with
    | true => rfl
    | false => rw [shortP_none he] at ho; exact absurd ho.symm h0
  obtain ⟨p, hp, e⟩ := shortP_mem h2
  exact ⟨p, hp, by rw [← ho, e]⟩
theorem suf_not {x : Bs} (ho : (shortP 1 x).1 = x) (h0 : x ≠ []) : (shortP 2 x).1 = [] ∧ (shortP 4 x).1 = [] := by
  obtain ⟨p, hp, rfl⟩ := short_of_own ho h0
  have := List.all_eq_true.1 suf_no.1 p hp
  simpa using this
theorem lastD_app {a b : List Tok} (hb : b ≠ []) : (a ++ b).getLastD ⟨0, []⟩ = b.getLastD ⟨0, []⟩ := by
  rw [List.getLastD_eq_getLast?, List.getLastD_eq_getLast?, List.getLast?_append, List.getLast?_eq_some_getLast hb]
  rfl
theorem unit_two {l : List Tok} {x y : Tok} : (l ++ [x, y]).drop ((l ++ [x, y]).length - 2) = [x, y] := by
  rw [show (l ++ [x, y]).length - 2 = l.length by simp]
  exact List.drop_left
theorem unitP_no {x y : Tok} (h5 : x.k ≠ 5) (h : shortT x 4 = []) : (unitP [x, y]).2 = false := by
  unfold unitP
  by_cases h1 : y.k = 5 ∨ y.k = 4
  · simp only [if_pos h1]
  · simp only [if_neg h1, if_neg h5, h]
    rfl
theorem unitP_was {x y : Tok} (h : (unitP [x, y]).2 = false) (hy : y.k ≠ 5 ∧ y.k ≠ 4) : shortT x 4 = [] := by
  unfold unitP at h
  simp only [if_neg (show ¬(y.k = 5 ∨ y.k = 4) by omega)] at h
  by_cases h5 : x.k = 5
  · simp only [if_pos h5] at h; cases h
  · simp only [if_neg h5] at h
    simpa using h
theorem hash_short : shortT tHash 1 = [] ∧ shortT tHash 2 = [] ∧ shortT tComma 1 = [] ∧ shortT tComma 2 = [] := by decide +kernel
/-- Behind its half. -/
theorem street_body {l1 N : List Tok} {pre suf post : Bs} {inner' : Bool} (hl : ∀ t ∈ l1, TokIs t) (l2 : List Tok) (hl2 : ∀ t ∈ l2, t ∈ l1)
    (hpost : (backP l2 2).2 = post) (hsuf : (backP (backP l2 2).1 1).2 = suf) (hpre : (frontP (backP (backP l2 2).1 1).1 2).2 = pre) (hN : (frontP (backP (backP l2 2).1 1).1 2).1 = N)
    (hN0 : N ≠ []) (hNk : kindOf N [1, 2, 3] = true) (o1 : (shortP 2 pre).1 = pre) (o2 : (shortP 1 suf).1 = suf) (o3 : (shortP 2 post).1 = post)
    (hin : inner' = true → l2 = l1 ∧ (2 < l1.length → (unitP (l1.drop (l1.length - 2))).2 = false)) :
    (inner' && decide (2 < (wd pre ++ N ++ wd suf ++ wd post).length) && (unitP ((wd pre ++ N ++ wd suf ++ wd post).drop ((wd pre ++ N ++ wd suf ++ wd post).length - 2))).2) = false ∧
    backP (wd pre ++ N ++ wd suf ++ wd post) 2 = (wd pre ++ N ++ wd suf, post) ∧ backP (wd pre ++ N ++ wd suf) 1 = (wd pre ++ N, suf) ∧ frontP (wd pre ++ N) 2 = (N, pre) := by
  have hNl : 1 ≤ N.length := by cases N with | nil => exact absurd rfl hN0 | cons _ _ => simp
  have hpn : ∀ x : Bs, wd x = [] ↔ x = [] := fun x => by unfold wd; by_cases h : x = [] <;> simp [h]
  have hws : ∀ x : Bs, x ≠ [] → wd x = [⟨1, x⟩] := fun x h => by unfold wd; rw [if_neg h]
  have hw0 : wd [] = [] := rfl
  have hNlast : ∀ P : List Tok, (P ++ N).getLastD ⟨0, []⟩ = N.getLastD ⟨0, []⟩ := fun P => lastD_app hN0
  -- what the first reading was
  have hF := frontP_form (backP (backP l2 2).1 1).1 2
  have hS := backP_form (backP l2 2).1 1
  have hP := backP_form l2 2
  rw [hpre, hN] at hF
  rw [hsuf] at hS
  rw [hpost] at hP
  generalize hm2 : (backP (backP l2 2).1 1).1 = m2 at *
  generalize hm1 : (backP l2 2).1 = m1 at *
  have hF' : ∃ P0 : List Tok, m2 = P0 ++ N ∧ P0.length = (wd pre).length ∧ (pre = [] → P0 = [] ∧ frontP N 2 = (N, [])) := by
    rcases hF with ⟨a, b, c⟩ | ⟨a, t, b, _⟩
    · refine ⟨[], by rw [List.nil_append]; exact b.symm, by rw [a]; rfl, fun _ => ⟨rfl, ?_⟩⟩
      rw [b]; exact c
    · exact ⟨[t], b, by rw [hws _ a]; rfl, fun e => absurd e a⟩
  obtain ⟨P0, eP, lP, kP⟩ := hF'
  have hm2l : m2.length = (wd pre ++ N).length := by rw [eP, List.length_append, List.length_append, lP]
  have hm2last : m2.getLastD ⟨0, []⟩ = (wd pre ++ N).getLastD ⟨0, []⟩ := by rw [eP, hNlast, hNlast]
  refine ⟨?_, ?_, ?_, ?_⟩
  · cases hi : inner' with
    | false => rfl
    | true =>
      obtain ⟨e12, hU⟩ := hin hi
      subst e12
      rw [Bool.true_and]
      by_cases h2 : 2 < (wd pre ++ N ++ wd suf ++ wd post).length
      rotate_left
      · rw [decide_eq_false h2, Bool.false_and]
      rw [decide_eq_true h2, Bool.true_and]
      -- the last of the name
      obtain ⟨N0, x, eN⟩ : ∃ N0 x, N = N0 ++ [x] := ⟨N.dropLast, N.getLast hN0, (List.dropLast_concat_getLast hN0).symm⟩
      have hxk : x.k ≠ 5 := kindOf_ne hNk (k := 5) (by decide) x (by rw [eN]; simp)
      by_cases hs0 : suf = []
      · rw [hs0, hw0, List.append_nil] at h2 ⊢
        rcases hS with ⟨_, e1, _⟩ | ⟨a, _⟩
        rotate_left
        · exact absurd hs0 a
        by_cases hp0 : post = []
        · rw [hp0, hw0, List.append_nil] at h2 ⊢
          rcases hP with ⟨_, e2, _⟩ | ⟨a, _⟩
          rotate_left
          · exact absurd hp0 a
          have hll : l2 = P0 ++ N := by rw [← e2, ← e1, eP]
          have hN2 : N0 ≠ [] := by
            intro e
            rw [e, List.nil_append] at eN
            rw [eN] at h2
            have : (wd pre).length ≤ 1 := by unfold wd; split <;> simp
            simp at h2
            omega
          obtain ⟨N1, z, eN0⟩ : ∃ N1 z, N0 = N1 ++ [z] := ⟨N0.dropLast, N0.getLast hN2, (List.dropLast_concat_getLast hN2).symm⟩
          have eW : wd pre ++ N = (wd pre ++ N1) ++ [z, x] := by rw [eN, eN0]; simp
          have eL : l2 = (P0 ++ N1) ++ [z, x] := by rw [hll, eN, eN0]; simp
          have h3 := hU (by rw [hll, List.length_append, lP, ← List.length_append]; exact h2)
          rw [eL, unit_two] at h3
          rw [eW, unit_two]
          exact h3
        · rcases hP with ⟨a, _⟩ | ⟨_, y, e2, hy, hym⟩
          · exact absurd a hp0
          have hll : l2 = (P0 ++ N) ++ [y] := by rw [e2, ← e1, eP]
          have eL : l2 = (P0 ++ N0) ++ [x, y] := by rw [hll, eN]; simp
          have eW : wd pre ++ N ++ wd post = (wd pre ++ N0) ++ [x, ⟨1, post⟩] := by rw [hws _ hp0, eN]; simp
          have h3 := hU (by
            rw [hws _ hp0] at h2
            simp only [List.length_append, List.length_singleton] at h2
            rw [hll]
            simp only [List.length_append, List.length_singleton, lP]
            exact h2)
          rw [eL, unit_two] at h3
          rw [eW, unit_two]
          refine unitP_no hxk (unitP_was h3 ⟨fun e => ?_, fun e => ?_⟩)
          · have := (hl y hym).hash e
            rw [this, hash_short.2.1] at hy
            exact hp0 hy.symm
          · have := (hl y hym).comma e
            rw [this, hash_short.2.2.2] at hy
            exact hp0 hy.symm
      · rcases hS with ⟨a, _⟩ | ⟨_, y, e1, hy, hym⟩
        · exact absurd a hs0
        by_cases hp0 : post = []
        · rw [hp0, hw0, List.append_nil] at h2 ⊢
          rcases hP with ⟨_, e2, _⟩ | ⟨a, _⟩
          rotate_left
          · exact absurd hp0 a
          have hll : l2 = (P0 ++ N) ++ [y] := by rw [← e2, e1, eP]
          have eL : l2 = (P0 ++ N0) ++ [x, y] := by rw [hll, eN]; simp
          have eW : wd pre ++ N ++ wd suf = (wd pre ++ N0) ++ [x, ⟨1, suf⟩] := by rw [hws _ hs0, eN]; simp
          have h3 := hU (by
            rw [hws _ hs0] at h2
            simp only [List.length_append, List.length_singleton] at h2
            rw [hll]
            simp only [List.length_append, List.length_singleton, lP]
            exact h2)
          rw [eL, unit_two] at h3
          rw [eW, unit_two]
          have hym' : y ∈ l2 := by rw [← e2]; exact hym
          refine unitP_no hxk (unitP_was h3 ⟨fun e => ?_, fun e => ?_⟩)
          · have := (hl y hym').hash e
            rw [this, hash_short.1] at hy
            exact hs0 hy.symm
          · have := (hl y hym').comma e
            rw [this, hash_short.2.2.1] at hy
            exact hs0 hy.symm
        · have eW : wd pre ++ N ++ wd suf ++ wd post = (wd pre ++ N) ++ [⟨1, suf⟩, ⟨1, post⟩] := by rw [hws _ hs0, hws _ hp0]; simp
          rw [eW, unit_two]
          exact unitP_no (by show (1 : Int) ≠ 5; decide) (suf_not o2 hs0).2
  · by_cases hp0 : post = []
    · rw [hp0, hw0, List.append_nil]
      refine backP_keep ?_
      by_cases hs0 : suf = []
      · rw [hs0, hw0, List.append_nil]
        rcases hP with ⟨_, e2, hk⟩ | ⟨a, _⟩
        rotate_left
        · exact absurd hp0 a
        rcases hS with ⟨_, e1, _⟩ | ⟨a, _⟩
        rotate_left
        · exact absurd hs0 a
        unfold keepC at hk ⊢
        rw [← hm2l, ← hm2last, e1, e2]
        exact hk
      · right
        rw [hws _ hs0, (last_snoc _ _).1]
        exact (suf_not o2 hs0).1
    · rw [hws _ hp0]
      have := backP_snoc (m := wd pre ++ N ++ wd suf) (t := ⟨1, post⟩) (k := 2) (by simp only [List.length_append]; omega) (by show (shortP 2 post).1 ≠ []; rw [o3]; exact hp0)
      rw [this]
      show (_, (shortP 2 post).1) = _
      rw [o3]
  · by_cases hs0 : suf = []
    · rw [hs0, hw0, List.append_nil]
      rcases hS with ⟨_, e1, hk⟩ | ⟨a, _⟩
      rotate_left
      · exact absurd hs0 a
      refine backP_keep ?_
      unfold keepC at hk ⊢
      rw [← hm2l, ← hm2last, e1]
      exact hk
    · rw [hws _ hs0]
      have := backP_snoc (m := wd pre ++ N) (t := ⟨1, suf⟩) (k := 1) (by simp only [List.length_append]; omega) (by show (shortP 1 suf).1 ≠ []; rw [o2]; exact hs0)
      rw [this]
      show (_, (shortP 1 suf).1) = _
      rw [o2]
  · by_cases hp0 : pre = []
    · rw [hp0, hw0, List.nil_append]
      exact (kP hp0).2
    · rw [hws _ hp0]
      have := frontP_cons (m := N) (t := ⟨1, pre⟩) (k := 2) hNl (by show (shortP 2 pre).1 ≠ []; rw [o1]; exact hp0)
      rw [List.singleton_append, this]
      show (_, (shortP 2 pre).1) = _
      rw [o1]
end Go.Proofs.YtjneghncmgjkeaaGreatDoor
