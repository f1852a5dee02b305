/-
  Plain: AddrLoose: an address is the same with its words long, and with the unit in the street.
-/
import Derived.Test.YtjneghncmgjkeaaGreatDoorRy42
set_option linter.unusedVariables false
namespace Go.Proofs.YtjneghncmgjkeaaGreatDoor

/-! ### Long words -/
def wordsLong (k : Int) : Bool := (wordsP k).all fun p => toksOf p.l == [⟨1, p.l⟩] && shortP 1 p.l == shortP 1 p.s && shortP 2 p.l == shortP 2 p.s && shortP 4 p.l == shortP 4 p.s && p.l.all (fun c => clsB c != 0)
theorem words_long : wordsLong 1 = true ∧ wordsLong 2 = true ∧ wordsLong 4 = true := by decide +kernel
def statesLong : Bool := (wordsP 3).all fun p => textsP (toksOf p.l) == p.l && shortP 3 p.l == (p.s, true) && (toksOf p.l).all (fun t => t.k != 4) && decide ((toksOf p.l).length ≤ 4) && p.l.all (fun c => clsB c != 0)
theorem states_long : statesLong = true := by decide +kernel
theorem longP_mem {k : Int} {n : Nat} {x : Bs} (hf : wordsFine k n = true) (ho : (shortP k x).1 = x) (h0 : x ≠ []) : ∃ p ∈ wordsP k, p.s = x ∧ (longP k x).1 = p.l := by
  obtain ⟨p, hp, e⟩ := short_of_own ho h0
  unfold longP
  cases hf : (wordsP k).reverse.find? fun p => p.s == x with
  | none =>
    have := List.find?_eq_none.1 hf p (by simpa using hp)
    rw [e] at this
    simp at this
  | some q =>
    have h1 := List.mem_of_find?_eq_some hf
    have h2 := List.find?_some hf
    exact ⟨q, by simpa using h1, by simpa using h2, rfl⟩
theorem longP_nil {k : Int} {n : Nat} (hf : wordsFine k n = true) : (longP k []).1 = [] := by
  unfold longP
  cases hq : (wordsP k).reverse.find? fun p => p.s == [] with
  | none => rfl
  | some q =>
    have h1 := List.mem_of_find?_eq_some hq
    have h2 := List.find?_some hq
    have h3 := List.all_eq_true.1 hf q (by simpa using h1)
    simp only [Bool.and_eq_true, bne_iff_ne] at h3
    exact absurd (by simpa using h2) h3.2
/-! ### Tokens that are alike -/
def Alike (p : Tok × Tok) : Prop := p.2.k = p.1.k ∧ shortT p.2 1 = shortT p.1 1 ∧ shortT p.2 2 = shortT p.1 2 ∧ shortT p.2 4 = shortT p.1 4 ∧ (p.2 = p.1 ∨ p.2.k = 1)
theorem Alike.short {p : Tok × Tok} (h : Alike p) {k : Int} (hk : k = 1 ∨ k = 2 ∨ k = 4) : shortT p.2 k = shortT p.1 k := by
  rcases hk with rfl | rfl | rfl
  · exact h.2.1
  · exact h.2.2.1
  · exact h.2.2.2.1
theorem alike_self (t : Tok) : Alike (t, t) := ⟨rfl, rfl, rfl, rfl, .inl rfl⟩
abbrev fsts (m : List (Tok × Tok)) : List Tok := m.map (·.1)
abbrev snds (m : List (Tok × Tok)) : List Tok := m.map (·.2)
theorem lastD_map (m : List (Tok × Tok)) (hm : m ≠ []) : (fsts m).getLastD ⟨0, []⟩ = (m.getLast hm).1 ∧ (snds m).getLastD ⟨0, []⟩ = (m.getLast hm).2 := by
  simp [List.getLastD_eq_getLast?, List.getLast?_map, List.getLast?_eq_some_getLast hm]
theorem back_of {l : List Tok} {k : Int} {x : Bs} (hx : (if 2 ≤ l.length ∧ shortT (l.getLastD ⟨0, []⟩) k ≠ [] then shortT (l.getLastD ⟨0, []⟩) k else []) = x) : backP l k = (if x = [] then l else l.dropLast, x) := by
  unfold backP
  by_cases h : 2 ≤ l.length ∧ shortT (l.getLastD ⟨0, []⟩) k ≠ []
  · rw [if_pos h] at hx
    rw [if_pos h, ← hx, if_neg h.2]
  · rw [if_neg h] at hx
    rw [if_neg h, ← hx, if_pos rfl]
theorem back_two (l : List Tok) (k : Int) : (backP l k).2 = (if 2 ≤ l.length ∧ shortT (l.getLastD ⟨0, []⟩) k ≠ [] then shortT (l.getLastD ⟨0, []⟩) k else []) := by
  unfold backP
  by_cases h : 2 ≤ l.length ∧ shortT (l.getLastD ⟨0, []⟩) k ≠ []
  · rw [if_pos h, if_pos h]
  · rw [if_neg h, if_neg h]
theorem front_of {l : List Tok} {k : Int} {x : Bs} (hx : (if 2 ≤ l.length ∧ shortT (l.headD ⟨0, []⟩) k ≠ [] then shortT (l.headD ⟨0, []⟩) k else []) = x) : frontP l k = (if x = [] then l else l.tail, x) := by
  unfold frontP
  by_cases h : 2 ≤ l.length ∧ shortT (l.headD ⟨0, []⟩) k ≠ []
  · rw [if_pos h] at hx
    rw [if_pos h, ← hx, if_neg h.2]
  · rw [if_neg h] at hx
    rw [if_neg h, ← hx, if_pos rfl]
theorem front_two (l : List Tok) (k : Int) : (frontP l k).2 = (if 2 ≤ l.length ∧ shortT (l.headD ⟨0, []⟩) k ≠ [] then shortT (l.headD ⟨0, []⟩) k else []) := by
  unfold frontP
  by_cases h : 2 ≤ l.length ∧ shortT (l.headD ⟨0, []⟩) k ≠ []
  · rw [if_pos h, if_pos h]
  · rw [if_neg h, if_neg h]
theorem map_pick {f : Tok × Tok → Tok} (s : Bs) (m m' : List (Tok × Tok)) : (if s = [] then m else m').map f = if s = [] then m.map f else m'.map f := by split <;> rfl
theorem back_alike {m : List (Tok × Tok)} (h : ∀ p ∈ m, Alike p) {k : Int} (hk : k = 1 ∨ k = 2 ∨ k = 4) {s : Bs} (hs : (backP (fsts m) k).2 = s) :
    backP (fsts m) k = (fsts (if s = [] then m else m.dropLast), s) ∧ backP (snds m) k = (snds (if s = [] then m else m.dropLast), s) := by
  rw [back_two] at hs
  have e : (if 2 ≤ (snds m).length ∧ shortT ((snds m).getLastD ⟨0, []⟩) k ≠ [] then shortT ((snds m).getLastD ⟨0, []⟩) k else []) = s := by
    by_cases hm : m = []
    · subst hm; exact hs
    · obtain ⟨e1, e2⟩ := lastD_map m hm
      have ha := (h _ (List.getLast_mem hm)).short hk
      rw [e1, ← ha] at hs
      rw [e2]
      simp only [fsts, snds, List.length_map] at hs ⊢
      exact hs
  rw [back_of hs, back_of e]
  unfold fsts snds
  rw [map_pick, map_pick, List.map_dropLast, List.map_dropLast]
  exact ⟨rfl, rfl⟩
theorem front_alike {m : List (Tok × Tok)} (h : ∀ p ∈ m, Alike p) {k : Int} (hk : k = 1 ∨ k = 2 ∨ k = 4) {s : Bs} (hs : (frontP (fsts m) k).2 = s) :
    frontP (snds m) k = (snds (if s = [] then m else m.tail), s) := by
  rw [front_two] at hs
  have e : (if 2 ≤ (snds m).length ∧ shortT ((snds m).headD ⟨0, []⟩) k ≠ [] then shortT ((snds m).headD ⟨0, []⟩) k else []) = s := by
    cases m with
    | nil => exact hs
    | cons p m =>
      have ha := (h p (by simp)).short hk
      simp only [fsts, snds, List.map_cons, List.headD_cons, List.length_cons, List.length_map] at hs ⊢
      rw [ha]
      exact hs
  rw [front_of e]
  unfold snds
  rw [map_pick, List.map_tail]
theorem unit_alike {m : List (Tok × Tok)} (h : ∀ p ∈ m, Alike p) : (unitP (snds m)).2 = (unitP (fsts m)).2 := by
  match m, h with
  | [], _ => rfl
  | [_], _ => rfl
  | [p, q], h =>
    have hp := h p (by simp)
    have hq := h q (by simp)
    show (unitP [p.2, q.2]).2 = (unitP [p.1, q.1]).2
    unfold unitP
    simp only [hp.1, hq.1, hp.2.2.2.1]
    split
    · rfl
    · split <;> rfl
  | _ :: _ :: _ :: _, _ => rfl
/-- A short form and its long word, as tokens. -/
def wl (k : Int) (x : Bs) : List (Tok × Tok) := if x = [] then [] else [(⟨1, x⟩, ⟨1, (longP k x).1⟩)]
structure LongOk (k : Int) (x : Bs) : Prop where
  fst : fsts (wl k x) = wd x
  snd : snds (wl k x) = toksOf (longP k x).1
  alike : ∀ p ∈ wl k x, Alike p
  ok : okBs (longP k x).1
  one : (wl k x).length ≤ 1
theorem long_ok {k : Int} {n : Nat} {x : Bs} (hf : wordsFine k n = true) (hl : wordsLong k = true) (ho : (shortP k x).1 = x) : LongOk k x := by
  by_cases h0 : x = []
  · subst h0
    have e := longP_nil hf
    have ew : wl k [] = [] := by unfold wl; rw [if_pos rfl]
    refine ⟨by rw [ew]; rfl, by rw [ew, e, toks_nil]; rfl, ?_, ?_, by rw [ew]; simp⟩
    · rw [ew]; intro p hp; cases hp
    · rw [e]; intro c hc; cases hc
  · obtain ⟨p, hp, e1, e2⟩ := longP_mem hf ho h0
    have h3 := List.all_eq_true.1 hl p hp
    simp only [Bool.and_eq_true, beq_iff_eq] at h3
    obtain ⟨⟨⟨⟨a1, a2⟩, a3⟩, a4⟩, a5⟩ := h3
    have ew : wl k x = [(⟨1, x⟩, ⟨1, p.l⟩)] := by unfold wl; rw [if_neg h0, e2]
    refine ⟨by rw [ew]; unfold wd; rw [if_neg h0]; rfl, by rw [ew, e2, a1]; rfl, ?_, ?_, by rw [ew]; simp⟩
    · rw [ew]
      intro q hq
      rw [List.mem_singleton.1 hq]
      refine ⟨rfl, ?_, ?_, ?_, .inr rfl⟩
      · show (shortP 1 p.l).1 = (shortP 1 x).1; rw [a2, e1]
      · show (shortP 2 p.l).1 = (shortP 2 x).1; rw [a3, e1]
      · show (shortP 4 p.l).1 = (shortP 4 x).1; rw [a4, e1]
    · rw [e2]
      intro c hc
      simpa using List.all_eq_true.1 a5 c hc
theorem wl_drop {k : Int} {x : Bs} (m : List (Tok × Tok)) : (if x = [] then m ++ wl k x else (m ++ wl k x).dropLast) = m := by
  unfold wl
  by_cases h : x = []
  · rw [if_pos h, if_pos h, List.append_nil]
  · rw [if_neg h, if_neg h]; simp
theorem wl_tail {k : Int} {x : Bs} (m : List (Tok × Tok)) : (if x = [] then wl k x ++ m else (wl k x ++ m).tail) = m := by
  unfold wl
  by_cases h : x = []
  · rw [if_pos h, if_pos h, List.nil_append]
  · rw [if_neg h, if_neg h]; rfl
/-- The tokens of a street's line, and those of its long words. -/
def linePairs (a : Ad) (N : List Tok) : List (Tok × Tok) := wl 2 a.pre ++ N.map (fun t => (t, t)) ++ wl 1 a.suf ++ wl 2 a.post
def halfL (b : Bool) : List Tok := if b then [halfT] else []
theorem half_head {b : Bool} {M : List (Tok × Tok)} (hM : ∀ p ∈ M, Alike p) (h : ((halfL b ++ fsts M).head? == some halfT) = b) (X : List Tok) (hX : M ≠ []) :
    ((halfL b ++ (snds M ++ X)).head? == some halfT) = b ∧ (if b then (halfL b ++ (snds M ++ X)).tail else halfL b ++ (snds M ++ X)) = snds M ++ X := by
  cases b with
  | true => exact ⟨rfl, rfl⟩
  | false =>
    refine ⟨?_, rfl⟩
    cases M with
    | nil => exact absurd rfl hX
    | cons p M =>
      simp only [halfL, Bool.false_eq_true, if_false, List.nil_append, List.map_cons, List.cons_append, List.head?_cons, beq_eq_false_iff_ne, ne_eq, Option.some.injEq] at h ⊢
      rcases (hM p (by simp)).2.2.2.2 with e | e
      · rw [e]; exact h
      · intro e2; rw [e2] at e; exact absurd e (by decide)
theorem pairs_two (N : List Tok) : snds (N.map (fun t => (t, t))) = N ∧ fsts (N.map (fun t => (t, t))) = N := by
  induction N with
  | nil => exact ⟨rfl, rfl⟩
  | cons t N ih => exact ⟨congrArg (t :: ·) ih.1, congrArg (t :: ·) ih.2⟩
/-- What the street is read as, from its long words, with a unit behind it or none. -/
theorem street_long {a : Ad} {N : List Tok} {inner : Bool} (hM : ∀ p ∈ linePairs a N, Alike p) (hN : N ≠ [])
    (h : (streetP (halfL a.half ++ fsts (linePairs a N)) inner).1 = a.street) (hu : (streetP (halfL a.half ++ fsts (linePairs a N)) inner).2.2 = none) :
    streetP (halfL a.half ++ snds (linePairs a N)) inner = (a.street, N, none) ∧
    ∀ u v, (unitP [u, v]).2 = true → streetP (halfL a.half ++ (snds (linePairs a N) ++ [u, v])) true = (⟨0, a.half, a.pre, a.name, a.suf, a.post, (unitP [u, v]).1, [], [], [], []⟩, N, some [u, v]) := by
  have hM0 : linePairs a N ≠ [] := by
    unfold linePairs
    intro e
    simp only [List.append_eq_nil_iff, List.map_eq_nil_iff] at e
    exact hN e.1.1.2
  have hfh : (streetP (halfL a.half ++ fsts (linePairs a N)) inner).1.half = a.half := by rw [h]; rfl
  have hhd : ((halfL a.half ++ fsts (linePairs a N)).head? == some halfT) = a.half := by unfold streetP at hfh; exact hfh
  have htl : (if a.half then (halfL a.half ++ fsts (linePairs a N)).tail else halfL a.half ++ fsts (linePairs a N)) = fsts (linePairs a N) := by cases a.half <;> rfl
  have hpost : (streetP (halfL a.half ++ fsts (linePairs a N)) inner).1.post = a.post := by rw [h]; rfl
  have hsuf : (streetP (halfL a.half ++ fsts (linePairs a N)) inner).1.suf = a.suf := by rw [h]; rfl
  have hpre : (streetP (halfL a.half ++ fsts (linePairs a N)) inner).1.pre = a.pre := by rw [h]; rfl
  have hname : (streetP (halfL a.half ++ fsts (linePairs a N)) inner).1.name = a.name := by rw [h]; rfl
  unfold streetP at hu hpost hsuf hpre hname
  dsimp only at hu hpost hsuf hpre hname
  rw [hhd, htl] at hu hpost hsuf hpre hname
  have hU : (inner && decide (2 < (fsts (linePairs a N)).length) && (unitP ((fsts (linePairs a N)).drop ((fsts (linePairs a N)).length - 2))).2) = false := by
    cases e : (inner && decide (2 < (fsts (linePairs a N)).length) && (unitP ((fsts (linePairs a N)).drop ((fsts (linePairs a N)).length - 2))).2) with
    | false => rfl
    | true => rw [e] at hu; cases hu
  rw [hU] at hpost hsuf hpre hname
  simp only [Bool.false_eq_true, if_false] at hpost hsuf hpre hname
  obtain ⟨b1, c1⟩ := back_alike hM (k := 2) (.inr (.inl rfl)) hpost
  have d1 : (if a.post = [] then linePairs a N else (linePairs a N).dropLast) = wl 2 a.pre ++ N.map (fun t => (t, t)) ++ wl 1 a.suf := wl_drop _
  rw [d1] at b1 c1
  rw [b1] at hsuf hpre hname
  dsimp only at hsuf hpre hname
  have hM1 : ∀ p ∈ wl 2 a.pre ++ N.map (fun t => (t, t)) ++ wl 1 a.suf, Alike p := fun p hp => hM p (by unfold linePairs; exact List.mem_append.2 (.inl hp))
  obtain ⟨b2, c2⟩ := back_alike hM1 (k := 1) (.inl rfl) hsuf
  have d2 : (if a.suf = [] then wl 2 a.pre ++ N.map (fun t => (t, t)) ++ wl 1 a.suf else (wl 2 a.pre ++ N.map (fun t => (t, t)) ++ wl 1 a.suf).dropLast) = wl 2 a.pre ++ N.map (fun t => (t, t)) := wl_drop _
  rw [d2] at b2 c2
  rw [b2] at hpre hname
  dsimp only at hpre hname
  have hM2 : ∀ p ∈ wl 2 a.pre ++ N.map (fun t => (t, t)), Alike p := fun p hp => hM1 p (List.mem_append.2 (.inl hp))
  have c3 := front_alike hM2 (k := 2) (.inr (.inl rfl)) hpre
  have d3 : (if a.pre = [] then wl 2 a.pre ++ N.map (fun t => (t, t)) else (wl 2 a.pre ++ N.map (fun t => (t, t))).tail) = N.map (fun t => (t, t)) := wl_tail _
  have eN := (pairs_two N).1
  rw [d3, eN] at c3
  -- the name's text: the first reading's tokens of it are the same
  have b3 : frontP (fsts (wl 2 a.pre ++ N.map (fun t => (t, t)))) 2 = (N, a.pre) := by
    rw [front_two] at hpre
    rw [front_of hpre]
    have e : (if a.pre = [] then fsts (wl 2 a.pre ++ N.map (fun t => (t, t))) else (fsts (wl 2 a.pre ++ N.map (fun t => (t, t)))).tail) = N := by
      have q := map_pick (f := (·.1)) a.pre (wl 2 a.pre ++ N.map (fun t => (t, t))) (wl 2 a.pre ++ N.map (fun t => (t, t))).tail
      rw [d3, List.map_tail] at q
      exact q.symm.trans (pairs_two N).2
    rw [e]
  rw [b3] at hname
  dsimp only at hname
  refine ⟨?_, fun u v huv => ?_⟩
  · have hh := half_head hM hhd [] hM0
    rw [List.append_nil] at hh
    have hU2 : (inner && decide (2 < (snds (linePairs a N)).length) && (unitP ((snds (linePairs a N)).drop ((snds (linePairs a N)).length - 2))).2) = false := by
      have e := unit_alike (m := (linePairs a N).drop ((linePairs a N).length - 2)) fun p hp => hM p (List.mem_of_mem_drop hp)
      simp only [snds, fsts, List.map_drop, List.length_map] at e hU ⊢
      rw [e]
      exact hU
    unfold streetP
    dsimp only
    rw [hh.1, hh.2, hU2]
    simp only [Bool.false_eq_true, if_false]
    rw [c1]
    dsimp only
    rw [c2]
    dsimp only
    rw [c3]
    dsimp only
    rw [hname]
    rfl
  · have hh := half_head hM hhd [u, v] hM0
    have hl : 2 < (snds (linePairs a N) ++ [u, v]).length := by
      have : 0 < (linePairs a N).length := List.length_pos_iff.2 hM0
      simp only [List.length_append, List.length_map, List.length_cons, List.length_nil]
      omega
    have hd : (snds (linePairs a N) ++ [u, v]).drop ((snds (linePairs a N) ++ [u, v]).length - 2) = [u, v] := unit_two
    have ht : (snds (linePairs a N) ++ [u, v]).take ((snds (linePairs a N) ++ [u, v]).length - 2) = snds (linePairs a N) := by
      rw [show (snds (linePairs a N) ++ [u, v]).length - 2 = (snds (linePairs a N)).length by simp]
      exact List.take_left
    unfold streetP
    dsimp only
    rw [hh.1, hh.2, hd, ht, huv, decide_eq_true hl]
    simp only [Bool.true_and, if_true]
    rw [c1]
    dsimp only
    rw [c2]
    dsimp only
    rw [c3]
    dsimp only
    rw [hname]
end Go.Proofs.YtjneghncmgjkeaaGreatDoor
