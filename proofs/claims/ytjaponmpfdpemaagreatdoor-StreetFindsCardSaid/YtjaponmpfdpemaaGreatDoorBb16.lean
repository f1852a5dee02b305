/-
  Plain: what is parsed may be (AddrBack's second half).
-/
import Derived.Test.YtjaponmpfdpemaaGreatDoorBb15
import Derived.Deep.LoopGhost
import Derived.Recover
import Derived.Test.YtjaponmpfdpemaaGreatDoorBb10
import Derived.Defers
set_option linter.unusedSimpArgs false
set_option linter.unusedVariables false
namespace Go.Proofs.YtjaponmpfdpemaaGreatDoor
structure ParsedOk (a : Ad) : Prop where
 n : 1 ≤ a.n ∧ a.n ≤ 999999
 street : ∃ (line : List Tok) (inner : Bool), (∀ t ∈ line, TokIs t) ∧ a.half = (streetP line inner).1.half ∧ a.pre = (streetP line inner).1.pre ∧ a.name = (streetP line inner).1.name ∧ a.suf = (streetP line inner).1.suf ∧ a.post = (streetP line inner).1.post ∧
  0 < (streetP line inner).2.1.length ∧ (streetP line inner).2.1.length ≤ 8 ∧ kindOf (streetP line inner).2.1 [1, 2, 3] = true ∧ a.name.length ≤ 40 ∧
  ((inner = true ∧ a.unit = (streetP line inner).1.unit ∧ ∀ u, (streetP line inner).2.2 = some u → (u.getD 1 ⟨0, []⟩).t.length ≤ 10) ∨ (inner = false ∧ ∃ u, (∀ t ∈ u, TokIs t) ∧ (unitP u).2 = true ∧ a.unit = (unitP u).1 ∧ (u.getD 1 ⟨0, []⟩).t.length ≤ 10))
 city : ∃ ct : List Tok, (∀ t ∈ ct, TokIs t) ∧ a.city = textsP ct ∧ kindOf ct [1] = true ∧ 0 < ct.length ∧ ct.length ≤ 8 ∧ a.city.length ≤ 40
 zip : digitsP a.zip 5 5 = true
 more : a.more = [] ∨ digitsP a.more 4 4 = true
 state : a.state ≠ [] ∧ (shortP 3 a.state).1 = a.state
theorem tokensP_is (s : Bs) : ∀ t ∈ (tokensP s).1, TokIs t := by
 unfold tokensP
 split
 ·intro t ht; cases ht
 ·split
  ·intro t ht; cases ht
  ·split
   ·intro t ht; cases ht
   ·exact toksOf_is
theorem parse_inv {s : Bs} (h : (parseP s).2.1 = 0) : ParsedOk (parseP s).1 := by
 have hF := parseP_fields s h
 have hT := tokensP_is s
 unfold parseP at h hF ⊢
 dsimp only at h hF ⊢
 generalize tokensP s = r at *
 by_cases h1 : r.2.1 ≠ 0
 ·rw [if_pos h1] at h; exact absurd h h1
 rw [if_neg h1] at h hF ⊢
 unfold parsePts at h hF ⊢
 dsimp only at h hF ⊢
 by_cases h2 : ¬((partsP r.1).length - 1 = 2 ∨ (partsP r.1).length - 1 = 3) ∨ ((partsP r.1).any fun x => x.isEmpty) = true
 ·rw [if_pos h2] at h; exact absurd h (fun e => by cases e)
 rw [if_neg h2] at h hF ⊢
 have hmem : ∀ k t, t ∈ (partsP r.1).getD k [] → TokIs t := fun k t ht => hT t (partsP_at ht).1
 have hemp : ∀ k, k < (partsP r.1).length → 0 < ((partsP r.1).getD k []).length := fun k hk => by
  rw [List.getD_eq_getElem?_getD, List.getElem?_eq_getElem hk]
  simp only [Option.getD_some]
  have h3 : ((partsP r.1).any fun x => x.isEmpty) = false := by
   cases he : ((partsP r.1).any fun x => x.isEmpty) with
   | false => rfl
   | true => exact absurd (.inr he) h2
  rw [List.any_eq_false] at h3
  have := h3 _ (List.getElem_mem hk)
  cases hl : (partsP r.1)[k] with
  | nil => rw [hl] at this; simp at this
  | cons x y => simp
 have hlast : (partsP r.1).length - 1 = 2 ∨ (partsP r.1).length - 1 = 3 := by
  by_cases h3 : (partsP r.1).length - 1 = 2 ∨ (partsP r.1).length - 1 = 3
  ·exact h3
  ·exact absurd (.inl h3) h2
 clear h2
 generalize hp : partsP r.1 = p at *
 by_cases h3 : ¬(digitsP ((p.getD 0 []).headD ⟨0, []⟩).t 1 6 = true ∧ 0 < numP ((p.getD 0 []).headD ⟨0, []⟩).t)
 ·rw [if_pos h3] at h; exact absurd h (fun e => by cases e)
 rw [if_neg h3] at h hF ⊢
 clear h3
 have hline : ∀ t ∈ (p.getD 0 []).tail, TokIs t := fun t ht => hmem 0 t (List.mem_of_mem_tail ht)
 generalize (p.getD 0 []).tail = line at *
 by_cases h4 : p.length - 1 = 3 ∧ (unitP (p.getD 1 [])).2 = false
 ·rw [if_pos h4] at h; exact absurd h (fun e => by cases e)
 rw [if_neg h4] at h hF ⊢
 by_cases h5 : ((if p.length - 1 = 3 then some (p.getD 1 []) else (streetP line (decide (p.length - 1 = 2))).2.2).any fun l => decide (10 < ((l.getD 1 ⟨0, []⟩).t).length)) = true
 ·rw [if_pos h5] at h; exact absurd h (fun e => by cases e)
 rw [if_neg h5] at h hF ⊢
 by_cases h6 : ¬(0 < (streetP line (decide (p.length - 1 = 2))).2.1.length ∧ (streetP line (decide (p.length - 1 = 2))).2.1.length ≤ 8 ∧ kindOf (streetP line (decide (p.length - 1 = 2))).2.1 [1, 2, 3] = true ∧ (streetP line (decide (p.length - 1 = 2))).1.name.length ≤ 40)
 ·rw [if_pos h6] at h; exact absurd h (fun e => by cases e)
 rw [if_neg h6] at h hF ⊢
 obtain ⟨n1, n2, n3, n4⟩ := Classical.not_not.1 h6
 by_cases h7 : ¬(kindOf (p.getD (p.length - 1 - 1) []) [1] = true ∧ (p.getD (p.length - 1 - 1) []).length ≤ 8 ∧ (textsP (p.getD (p.length - 1 - 1) [])).length ≤ 40)
 ·rw [if_pos h7] at h; exact absurd h (fun e => by cases e)
 rw [if_neg h7] at h hF ⊢
 obtain ⟨c1, c2, c3⟩ := Classical.not_not.1 h7
 by_cases h8 : ¬(digitsP (cutDash ((p.getD (p.length - 1) []).getLastD ⟨0, []⟩).t).1 5 5 = true ∧ ((cutDash ((p.getD (p.length - 1) []).getLastD ⟨0, []⟩).t).2.2 = false ∨ digitsP (cutDash ((p.getD (p.length - 1) []).getLastD ⟨0, []⟩).t).2.1 4 4 = true))
 ·rw [if_pos h8] at h; exact absurd h (fun e => by cases e)
 rw [if_neg h8] at h hF ⊢
 obtain ⟨z1, z2⟩ := Classical.not_not.1 h8
 by_cases h9 : (shortP 3 (textsP (p.getD (p.length - 1) []).dropLast)).2 = false
 ·rw [if_pos h9] at h; exact absurd h (fun e => by cases e)
 rw [if_neg h9] at hF ⊢
 refine ⟨hF.n, ⟨line, decide (p.length - 1 = 2), hline, rfl, rfl, rfl, rfl, rfl, n1, n2, n3, n4, ?_⟩, ⟨p.getD (p.length - 1 - 1) [], hmem _, rfl, c1, hemp _ (by omega), c2, c3⟩, z1, ?_, ⟨?_, hF.own.2.2.2⟩⟩
 ·by_cases hl : p.length - 1 = 3
  ·right
   rw [if_pos hl] at h5
   refine ⟨decide_eq_false (by omega), p.getD 1 [], hmem 1, ?_, by show (if p.length - 1 = 3 then _ else _) = _; rw [if_pos hl], by simpa using h5⟩
   cases he : (unitP (p.getD 1 [])).2 with
   | true => rfl
   | false => exact absurd ⟨hl, he⟩ h4
  ·left
   rw [if_neg hl] at h5
   refine ⟨decide_eq_true (by omega), by show (if p.length - 1 = 3 then _ else _) = _; rw [if_neg hl], fun u hu => ?_⟩
   rw [hu] at h5
   simpa using h5
 ·rcases z2 with h | h
  ·left; exact cutDash_no h
  ·right; exact h
 ·intro e
  have := hF.state
  rw [e] at this
  cases this
theorem wordB_ok : ∀ (x : Bs) (p : Bool), wordB p x = true → okBs x
 | [], _, _, c, hc => by cases hc
 | d :: x, p, h, c, hc => by
  rw [wordB] at h
  by_cases hd : sndB d = true
  ·rw [if_pos hd] at h
   rcases List.mem_cons.1 hc with rfl | hc
   ·intro e
    unfold sndB at hd
    rw [e] at hd
    cases hd
   ·exact wordB_ok x true h c hc
  ·rw [if_neg hd] at h
   simp only [Bool.and_eq_true, beq_iff_eq] at h
   rcases List.mem_cons.1 hc with rfl | hc
   ·rw [h.1.1.1]; decide
   ·exact wordB_ok x false h.2 c hc
theorem TokIs.ok {t : Tok} (h : TokIs t) : okBs t.t := by
 rcases h with rfl | rfl | ⟨w, hw, rfl⟩
 ·exact okBs_bad.1 (by decide)
 ·exact okBs_bad.1 (by decide)
 ·exact wordB_ok (upS w) false (by rw [wordB_up]; exact hw)
theorem textsP_ok : ∀ {l : List Tok}, (∀ t ∈ l, TokIs t) → okBs (textsP l)
 | [], _ => fun c hc => by cases hc
 | [t], h => (h t (by simp)).ok
 | t :: u :: l, h => by
  have e : textsP (t :: u :: l) = t.t ++ 32 :: textsP (u :: l) := rfl
  rw [e]
  refine okBs_app (h t (by simp)).ok fun c hc => ?_
  rcases List.mem_cons.1 hc with rfl | hc
  ·decide
  ·exact textsP_ok (fun x hx => h x (by simp [hx])) c hc
theorem named_of {l : List Tok} {ks : List Int} (hl : ∀ t ∈ l, TokIs t) (h0 : 0 < l.length) (h8 : l.length ≤ 8) (hk : kindOf l ks = true) (h40 : (textsP l).length ≤ 40) : namedP (textsP l) ks = true := by
 have e := tokensP_of (textsP_ok hl) (by omega) (by rw [toks_texts hl]; omega)
 rw [toks_texts hl] at e
 unfold namedP
 dsimp only
 rw [e]
 simp only [hk, decide_eq_true h0, decide_eq_true h8, decide_eq_true h40]
 simp
theorem housed_of {u : List Tok} (hu : (unitP u).2 = true) (hl : ∀ t ∈ u, TokIs t) (h10 : (u.getD 1 ⟨0, []⟩).t.length ≤ 10) : housedP (unitP u).1 = true := by
 have hlen := unit_len hu h10
 have key : ∀ T : List Tok, toksOf (unitP u).1 = T → T.length ≤ 40 → okBs (unitP u).1 → (unitP T).2 = true → (unitP T).1 = (unitP u).1 → (T.getD 1 ⟨0, []⟩).t.length ≤ 10 → housedP (unitP u).1 = true := by
  intro T hT hTl hok h1 h2 h3
  have e := tokensP_of hok (by omega) (by rw [hT]; exact hTl)
  unfold housedP
  dsimp only
  rw [e, hT, h1, h2, decide_eq_true h3]
  simp
 match u, hu, hl, h10, hlen, key with
 | [x, y], hu, hl, h10, hlen, key =>
  have hb10 : y.t.length ≤ 10 := h10
  have hx := hl x (by simp)
  have hy := hl y (by simp)
  have hys := toks_self hy
  unfold unitP at hu
  by_cases h1 : y.k = 5 ∨ y.k = 4
  ·simp only [if_pos h1] at hu; cases hu
  simp only [if_neg h1] at hu
  by_cases h2 : x.k = 5
  ·have e1 : (unitP [x, y]).1 = 35 :: y.t := by unfold unitP; simp only [if_neg h1, if_pos h2]
   have hh := hx.hash h2
   have e2 : toksOf (35 :: y.t) = [tHash, y] := by
    have := toks_app (c := 35) (.inr (.inr (by decide))) [] y.t
    rw [List.nil_append, toks_nil, List.nil_append, show sepT 35 = [tHash] by decide, hys] at this
    exact this
   rw [e1] at key ⊢
   refine key [tHash, y] e2 (by simp) (fun c hc => ?_) ?_ ?_ hb10
   ·rcases List.mem_cons.1 hc with rfl | hc
    ·decide
    ·exact hy.ok c hc
   ·unfold unitP; simp only [if_neg h1, if_pos (show tHash.k = 5 from rfl)]
   ·unfold unitP; simp only [if_neg h1, if_pos (show tHash.k = 5 from rfl)]
  ·simp only [if_neg h2] at hu
   have hs0 : shortT x 4 ≠ [] := by simpa using hu
   have e1 : (unitP [x, y]).1 = shortT x 4 ++ 32 :: y.t := by unfold unitP; simp only [if_neg h1, if_neg h2]
   have hso := shortP_ok words_fine.2.2.2 short0.2.2.2 x.t
   have ho : ownP 4 (shortT x 4) = true := by unfold ownP; rw [beq_iff_eq]; exact hso.own
   obtain ⟨w1, w2, _, w4⟩ := own_word words_fine.2.2.2 words_word.2.2.2 ho hs0
   have e2 : toksOf (shortT x 4 ++ 32 :: y.t) = [⟨1, shortT x 4⟩, y] := by rw [toks_sp, w1, hys]; rfl
   have e3 : shortT ⟨1, shortT x 4⟩ 4 = shortT x 4 := hso.own
   rw [e1] at key ⊢
   refine key [⟨1, shortT x 4⟩, y] e2 (by simp) (okBs_app w2 fun c hc => ?_) ?_ ?_ hb10
   ·rcases List.mem_cons.1 hc with rfl | hc
    ·decide
    ·exact hy.ok c hc
   ·unfold unitP
    simp only [if_neg h1, if_neg (show ¬ (1 : Int) = 5 by decide), e3]
    simpa using hs0
   ·unfold unitP
    simp only [if_neg h1, if_neg (show ¬ (1 : Int) = 5 by decide), e3]
theorem own_wd {k : Int} {n : Nat} {x : Bs} (hf : wordsFine k n = true) (hw : wordsWord k = true) (ho : (shortP k x).1 = x) : toksOf x = wd x ∧ okBs x ∧ ownP k x = true ∧ x.length ≤ n := by
 have hob : ownP k x = true := by unfold ownP; rw [beq_iff_eq]; exact ho
 by_cases h0 : x = []
 ·rw [h0] at hob ⊢
  exact ⟨toks_nil, (fun c hc => by cases hc), hob, by simp⟩
 ·obtain ⟨a, b, c, _⟩ := own_word hf hw hob h0
  exact ⟨by unfold wd; rw [if_neg h0, a], b, hob, c⟩
theorem okBs_ahead {x : Bs} (h : okBs x) : okBs (aheadP x) := by
 unfold aheadP
 split
 ·intro c hc; cases hc
 ·intro c hc
  rcases List.mem_cons.1 hc with rfl | hc
  ·decide
  ·exact h c hc
theorem backP_pre (l : List Tok) (k : Int) : ∃ r, l = (backP l k).1 ++ r := by
 rcases backP_form l k with ⟨_, e, _⟩ | ⟨_, t, e, _⟩
 ·exact ⟨[], by rw [e, List.append_nil]⟩
 ·exact ⟨[t], e⟩
theorem street_again {line : List Tok} {inner inner' : Bool} (hl : ∀ t ∈ line, TokIs t) (h0 : 0 < (streetP line inner).2.1.length) (hk : kindOf (streetP line inner).2.1 [1, 2, 3] = true)
  (hin : inner' = true → inner = true ∧ (streetP line inner).2.2 = none) :
  (streetP ((if (streetP line inner).1.half then [halfT] else []) ++ (wd (streetP line inner).1.pre ++ (streetP line inner).2.1 ++ wd (streetP line inner).1.suf ++ wd (streetP line inner).1.post)) inner').1 =
   ⟨0, (streetP line inner).1.half, (streetP line inner).1.pre, (streetP line inner).1.name, (streetP line inner).1.suf, (streetP line inner).1.post, [], [], [], [], []⟩ := by
 have hS := streetP_ok line inner
 obtain ⟨o1, o2, o3, o4⟩ : (shortP 2 (streetP line inner).1.pre).1 = (streetP line inner).1.pre ∧ (shortP 1 (streetP line inner).1.suf).1 = (streetP line inner).1.suf ∧ (shortP 2 (streetP line inner).1.post).1 = (streetP line inner).1.post ∧ (streetP line inner).1.name = textsP (streetP line inner).2.1 := ⟨hS.pre.own, hS.suf.own, hS.post.own, hS.name⟩
 rw [o4]
 clear o4 hS
 unfold streetP at h0 hk hin o1 o2 o3
 rw [show streetP line inner = streetP line inner from rfl]
 generalize hst : streetP line inner = st
 unfold streetP at hst
 dsimp only at h0 hk hin o1 o2 o3 hst
 generalize hhalf : (line.head? == some halfT) = half at *
 generalize hl1 : (if half = true then line.tail else line) = l1 at *
 have hl1m : ∀ t ∈ l1, TokIs t := by
  intro t ht
  rw [← hl1] at ht
  split at ht
  ·exact hl t (List.mem_of_mem_tail ht)
  ·exact hl t ht
 generalize hu : (inner && decide (2 < l1.length) && (unitP (l1.drop (l1.length - 2))).2) = isU at *
 generalize hl2 : (if isU = true then l1.take (l1.length - 2) else l1) = l2 at *
 have hl2m : ∀ t ∈ l2, t ∈ l1 := by
  intro t ht
  rw [← hl2] at ht
  split at ht
  ·exact List.mem_of_mem_take ht
  ·exact ht
 have hl2p : ∃ r, l1 = l2 ++ r := by
  rw [← hl2]
  split
  ·exact ⟨_, (List.take_append_drop _ _).symm⟩
  ·exact ⟨[], by rw [List.append_nil]⟩
 have hN0 : (frontP (backP (backP l2 2).1 1).1 2).1 ≠ [] := by intro e; rw [e] at h0; simp at h0
 obtain ⟨b1, b2, b3, b4⟩ := street_body (inner' := inner') hl1m l2 hl2m rfl rfl rfl rfl hN0 hk o1 o2 o3 (fun hi => by
  obtain ⟨a, b⟩ := hin hi
  have hU : isU = false := by
   cases hx : isU with
   | false => rfl
   | true => rw [hx] at b; cases b
  rw [hU] at hl2
  refine ⟨by rw [← hl2]; rfl, fun h2 => ?_⟩
  rw [hU, a, decide_eq_true h2] at hu
  simpa using hu)
 subst hst
 dsimp only
 generalize hpre : (frontP (backP (backP l2 2).1 1).1 2).2 = pre at *
 generalize hNq : (frontP (backP (backP l2 2).1 1).1 2).1 = N at *
 generalize hsuf : (backP (backP l2 2).1 1).2 = suf at *
 generalize hpost : (backP l2 2).2 = post at *
 generalize hB : wd pre ++ N ++ wd suf ++ wd post = B at *
 -- the half
 have hhd : (((if half = true then [halfT] else []) ++ B).head? == some halfT) = half := by
  cases half with
  | true => rfl
  | false =>
   simp only [Bool.false_eq_true, if_false, List.nil_append] at hl1 ⊢
   rw [beq_eq_false_iff_ne]
   rw [beq_eq_false_iff_ne] at hhalf
   rw [← hB]
   by_cases hp : pre = []
   ·-- the name stands first, and did
    have hw : wd pre = [] := by rw [hp]; rfl
    rw [hw, List.nil_append]
    rcases frontP_form (backP (backP l2 2).1 1).1 2 with ⟨_, e, _⟩ | ⟨a, _⟩
    ·rw [hNq] at e
     obtain ⟨r1, e1⟩ := backP_pre (backP l2 2).1 1
     obtain ⟨r2, e2⟩ := backP_pre l2 2
     obtain ⟨r3, e3⟩ := hl2p
     rw [hl1, e3, e2, e1, ← e] at hhalf
     cases hNN : N with
     | nil => exact absurd hNN hN0
     | cons t M =>
      rw [hNN] at hhalf
      simpa using hhalf
    ·rw [hpre] at a; exact absurd hp a
   ·have hw : wd pre = [⟨1, pre⟩] := by unfold wd; rw [if_neg hp]
    rw [hw]
    simp only [List.cons_append, List.head?_cons]
    intro e
    injection e with e
    have : (1 : Int) = 3 := congrArg Tok.k e
    cases this
 have htl : (if half = true then ((if half = true then [halfT] else []) ++ B).tail else ((if half = true then [halfT] else []) ++ B)) = B := by cases half <;> rfl
 unfold streetP
 dsimp only
 rw [hhd, htl, b1]
 simp only [Bool.false_eq_true, if_false]
 rw [b2, b3, b4]
theorem parse_check {s : Bs} (h : (parseP s).2.1 = 0) : checkP (parseP s).1 = 0 := by
 have hP := parse_inv h
 generalize (parseP s).1 = a at *
 obtain ⟨line, inner, hl, e1, e2, e3, e4, e5, n1, n2, n3, n4, hu⟩ := hP.street
 obtain ⟨ct, c0, c1, c2, c3, c4, c5⟩ := hP.city
 have hS := streetP_ok line inner
 have hNis : ∀ t ∈ (streetP line inner).2.1, TokIs t := fun t ht => hl t (hS.mem t ht)
 have hnt : a.name = textsP (streetP line inner).2.1 := by rw [e3, hS.name]
 have hname : namedP a.name [1, 2, 3] = true := by rw [hnt] at n4 ⊢; exact named_of hNis n1 n2 n3 n4
 have hcity : namedP a.city [1] = true := by rw [c1] at c5 ⊢; exact named_of c0 c3 c4 c2 c5
 obtain ⟨p1, p2, p3, p4⟩ := own_wd words_fine.2.1 words_word.2.1 (x := a.pre) (by rw [e2]; exact hS.pre.own)
 obtain ⟨s1, s2, s3, s4⟩ := own_wd words_fine.1 words_word.1 (x := a.suf) (by rw [e4]; exact hS.suf.own)
 obtain ⟨q1, q2, q3, q4⟩ := own_wd words_fine.2.1 words_word.2.1 (x := a.post) (by rw [e5]; exact hS.post.own)
 have hst : ownP 3 a.state = true := by unfold ownP; rw [beq_iff_eq]; exact hP.state.2
 have hunit : housedP a.unit = true ∧ ((a.unit == []) = true → inner = true ∧ (streetP line inner).2.2 = none) := by
  rcases hu with ⟨i1, i2, i3⟩ | ⟨i1, u, u1, u2, u3, u4⟩
  ·cases hx : (streetP line inner).2.2 with
   | none =>
    have hz := hS.none hx
    rw [hz] at i2
    rw [i2]
    exact ⟨rfl, fun _ => ⟨i1, rfl⟩⟩
   | some u =>
    obtain ⟨v1, v2, v3⟩ := hS.unit u hx
    have hui : ∀ t ∈ u, TokIs t := fun t ht => hl t (v3 t ht)
    rw [i2, v2]
    refine ⟨housed_of v1 hui (i3 u hx), fun e => ?_⟩
    rw [beq_iff_eq] at e
    exact absurd e (unitP_shape v1 hui).2.2
  ·rw [u3]
   refine ⟨housed_of u2 u1 u4, fun e => ?_⟩
   rw [beq_iff_eq] at e
   exact absurd e (unitP_shape u2 u1).2.2
 have hNtoks : toksOf a.name = (streetP line inner).2.1 := by rw [hnt]; exact toks_texts hNis
 have hlt : toksOf (lineP a) = (if a.half then [halfT] else []) ++ (wd a.pre ++ (streetP line inner).2.1 ++ wd a.suf ++ wd a.post) := by
  rw [toks_lineP, p1, s1, q1, hNtoks]
  simp [List.append_assoc]
 have hwd : ∀ x : Bs, (wd x).length ≤ 1 := fun x => by unfold wd; split <;> simp
 have hline : tokensP (lineP a) = (toksOf (lineP a), 0, 0) := by
  refine tokensP_of ?_ ?_ ?_
  ·rw [lineP_eq]
   refine okBs_app (okBs_app (okBs_app (okBs_app ?_ (okBs_ahead p2)) (okBs_ahead ?_)) (okBs_ahead s2)) (okBs_ahead q2)
   ·unfold halfS
    split
    ·exact okBs_bad.1 (by decide)
    ·intro c hc; cases hc
   ·rw [hnt]; exact textsP_ok hNis
  ·rw [lineP_eq]
   simp only [List.length_append]
   have h1 : (halfS a.half).length ≤ 4 := by unfold halfS; split <;> simp
   have h2 := ahead_len a.pre
   have h3 := ahead_len a.name
   have h4 := ahead_len a.suf
   have h5 := ahead_len a.post
   omega
  ·rw [hlt]
   simp only [List.length_append]
   have h1 : (if a.half = true then [halfT] else []).length ≤ 1 := by split <;> simp
   have h2 := hwd a.pre
   have h3 := hwd a.suf
   have h4 := hwd a.post
   omega
 have hagain := street_again (inner' := a.unit == []) hl n1 n3 hunit.2
 rw [← e1, ← e2, ← e3, ← e4, ← e5] at hagain
 have hmore : (a.more == [] || digitsP a.more 4 4) = true := by
  rcases hP.more with h | h
  ·rw [h]; rfl
  ·rw [h, Bool.or_true]
 unfold checkP
 dsimp only
 rw [hline]
 dsimp only
 rw [hlt, hagain, hname, hcity, p3, q3, s3, hst, hunit.1, hP.zip, hmore, decide_eq_true hP.n.1, decide_eq_true hP.n.2]
 rw [if_neg (by simp [hP.state.1]), if_neg (by simp [Ad.street])]
end Go.Proofs.YtjaponmpfdpemaaGreatDoor
set_option linter.unusedSimpArgs false
set_option linter.unusedVariables false
namespace Go.Proofs.YtjaponmpfdpemaaGreatDoor
end Go.Proofs.YtjaponmpfdpemaaGreatDoor
set_option linter.unusedSimpArgs false
set_option linter.unusedVariables false
namespace Go.Proofs.YtjaponmpfdpemaaGreatDoor
theorem parts_total : ∀ l : List Tok, ((partsP l).map List.length).sum + (partsP l).length = l.length + 1
 | [] => by simp [partsP]
 | t :: l => by
  have ih := parts_total l
  unfold partsP
  split
  ·simp only [List.map_cons, List.sum_cons, List.length_nil, List.length_cons]; omega
  ·cases hp : partsP l with
   | nil => rw [hp] at ih; simp at ih
   | cons p r => rw [hp] at ih; simp only [List.map_cons, List.sum_cons, List.length_cons] at ih ⊢; omega
end Go.Proofs.YtjaponmpfdpemaaGreatDoor
set_option linter.unusedSimpArgs false
set_option linter.unusedVariables false
namespace Go.Proofs.YtjaponmpfdpemaaGreatDoor
open Go.RowKit
theorem row_prt : RowT Tryz.prog 140 87 1 24 (.slice none 0 0) := rowT_mk Tryz.underlying140 (by kernel_rfl) rfl (by decide)
theorem own_some {w : World} {base size n : Nat} {e : TypeId} {v : Value} {xs : List Value} (h : w.ownsRow base e size v n xs) (h0 : 0 < n) : ∃ g c, v = .slice (some ⟨g, 0, none⟩) n c ∧ n ≤ c ∧ c ≤ maxLen := by
 rcases h.2 with ⟨_, h1⟩ | ⟨g, cap, cur, rfl, _, _, hn, hm, _⟩
 ·omega
 ·exact ⟨g, cap, rfl, hn, hm⟩
theorem le_sum_mem : ∀ {l : List Nat} {x : Nat}, x ∈ l → x ≤ l.sum
 | y :: l, x, h => by
  rw [List.sum_cons]
  rcases List.mem_cons.1 h with rfl | h
  ·omega
  ·have := le_sum_mem h; omega
def PaRel (w0 : World) (l : List Tok) (g : Nat) (v i : Value) (wr : World) : Prop := ∃ (k : Nat) (es : List Value), k + g = l.length ∧ i = .int .i64 (k : Int) ∧ PaAt w0 wr v es (partsP (l.take k))
set_option maxRecDepth 100000 in
theorem parts_any (l : List Tok) (A : Option Addr) (n cap : Nat) (W : World) (h : TokS W A n cap l) :
  Calls Tryz.prog 91 #[.slice A n cap] W fun e w' => ∃ v es, e = .returned v ∧ PaAt W w' v es (partsP l) := by
 obtain rfl := h.len
 have HX := Lib.hid (fun w' (hx : Ext W w') => h.ext hx)
 have h40 := h.l40
 have hmk : ∀ w, (Instr.makeSlice 140 (.int .i64 1) (.int .i64 1)).run Tryz.prog w = .ok (.slice (some ⟨w.heap.size, 0, none⟩) 1 1) (w.alloc (.cells #[.slice none 0 0] 87)) := fun _ => by kernel_rfl
 have H0 : PaAt W (W.alloc (.cells #[.slice none 0 0] 87)) (.slice (some ⟨W.heap.size, 0, none⟩) 1 1) [.slice none 0 0] [[]] :=
  ⟨(Ext.refl W).alloc _, own_lit (Ext.refl W) #[.slice none 0 0] _ 1 1 rfl (by simp [maxLen]) rfl, rfl, fun i hi hi' => by
   obtain rfl : i = 0 := by simpa using hi
   exact World.ownsRow_nil _ _ _ _, fun i j hi hj hne => by
   have h1 : i = 0 := by simpa using hi
   have h2 : j = 0 := by simpa using hj
   omega⟩
 have H1 := Lib.hid (show PaRel W l l.length (.slice (some ⟨W.heap.size, 0, none⟩) 1 1) (.int .i64 ((0 : Nat) : Int)) (W.alloc (.cells #[.slice none 0 0] 87)) from ⟨0, _, by omega, rfl, H0⟩)
 clear h H0
 go_enter Tryz.func91, Tryz.ntmps91
 go_wp2_with fail
 generalize W.alloc (.cells #[.slice none 0 0] 87) = w1 at *
 generalize W.heap.size = g1 at *
 go_loopg [3, 9] l.length (fun g v i wr => PaRel W l g v i wr)
 case atStart => exact H1.out
 case round =>
  clear H1
  obtain ⟨k, es, hk, rfl, HP⟩ := hrel
  obtain ⟨w3, rfl⟩ : ∃ w3, w3 = wr := ⟨_, rfl⟩
  cases gk with
  | succ g2 =>
   have hlt : k < l.length := by omega
   have hd : decide ((k : Int) < (l.length : Int)) = true := by simp; omega
   have kl : (k : Int) < (l.length : Int) := by omega
   have kz : (0 : Int) ≤ (k : Int) := by omega
   obtain ⟨gb, ob, rfl, hgb, t0, t1⟩ := (HX.out _ HP.ext).at_ hlt
   have hpl := (partsP_len (l.take k)).1
   have hpl2 := (partsP_len (l.take k)).2
   rw [List.length_take] at hpl2
   obtain ⟨m, hm⟩ : ∃ m, m + 1 = es.length := ⟨es.length - 1, by have := HP.len; omega⟩
   have hmp : m < (partsP (l.take k)).length := by have := HP.len; omega
   have hM100 : es.length ≤ 200 := by have := HP.len; omega
   obtain ⟨g3, c3, rfl, hc1, hc2⟩ := own_some HP.row (by omega)
   have X4 := HP.ext.alloc (.cells #[.int .i64 l[k].k, .string ⟨l[k].t.toArray⟩] 105)
   have P4 := HP.to ((Ext.refl w3).alloc (.cells #[.int .i64 l[k].k, .string ⟨l[k].t.toArray⟩] 105))
   have B4 := Blk.new w3 105 #[.int .i64 l[k].k, .string ⟨l[k].t.toArray⟩]
   have hts := partsP_snoc l[k] (l.take k)
   rw [← List.take_succ_eq_append_getElem hlt] at hts
   have hpp := Lib.hid hpl2
   clear hpl hpl2 HP
   have hrow := P4.row
   have HP4 := Lib.hid P4
   by_cases h4 : l[k].k = 4
   ·rw [if_pos h4] at hts
    have HB := Lib.hid (fun (v' : Value) (w' : World) (z : Value) (w4 : World) (h : PaAt W w4 (.slice (some ⟨g3, 0, none⟩) es.length c3) es (partsP (l.take k))) (hg : Grew W (w4.alloc (.cells #[.slice none 0 0] 87)) w' 87 1 z (.slice (some ⟨g3, 0, none⟩) es.length c3) v' (es.length + 1) (es ++ #[Value.slice none 0 0].toList)) => (show PaRel W l g2 v' (.int .i64 ((k + 1 : Nat) : Int)) w' from ⟨k + 1, _, by omega, rfl, by rw [hts]; exact h.begin_ hg⟩))
    replace hts := Lib.hid hts
    clear P4 hmp
    generalize l[k].t = tt at *
    generalize l[k].k = tk at *
    subst h4
    replace hm := Lib.hid hm
    generalize hM : es.length = M at *
    replace hM := Lib.hid hM
    go_upto_region 5 with (fail)
    clear t0 t1 hgb
    generalize w3.alloc (.cells #[.int .i64 4, .string ⟨tt.toArray⟩] 105) = w4 at *
    generalize w3.heap.size = g5 at *
    obtain ⟨b0, b1⟩ := B4.cells
    have lb := B4.lt
    go_wp2_with (at_builtin; refine wpl_app1 row_prt W w4 (.tmp 16) (.tmp 17) rfl rfl rfl hrow X4 rfl rfl rfl (by simp [Value.oneCell']) (by omega) (by unfold maxLen; omega) ?_; intro v5 w5 hg5; replace HB := Lib.hid (HB.out _ _ _ _ HP4.out hg5); obtain ⟨A5, c5, rfl, _, _, _⟩ := own_slice hg5.own; clear hg5)
    go_roundg g2
    case rel => exact HB.out
    case measure => omega
   ·rw [if_neg h4] at hts
    have d4 : (l[k].k == 4) = false := by rw [beq_eq_false_iff_ne]; exact h4
    have hmM : m < es.length := by omega
    have HB := Lib.hid (fun (v' : Value) (w' : World) (z : Value) (w4 : World) (h : PaAt W w4 (.slice (some ⟨g3, 0, none⟩) es.length c3) es (partsP (l.take k))) (hg : Grew W (w4.alloc (.cells #[.int .i64 l[k].k, .string ⟨l[k].t.toArray⟩] 105)) w' 105 2 z es[m] v' ((partsP (l.take k))[m].length + 1) (tokCells (partsP (l.take k))[m] ++ #[Value.int .i64 l[k].k, .string ⟨l[k].t.toArray⟩].toList)) =>
     (show PaRel W l g2 (.slice (some ⟨g3, 0, none⟩) es.length c3) (.int .i64 ((k + 1 : Nat) : Int)) (w'.setCell ⟨g3, m, none⟩ v') ∧ w'.cell? ⟨g3, m, none⟩ = some es[m] ∧ w'.frozen? ⟨g3, m, none⟩ = false ∧ g3 < w'.heap.size from by
      obtain ⟨a1, a2, a3, a4⟩ := h.more (t := l[k]) hm hmp hg
      refine ⟨⟨k + 1, es.set m v', by omega, rfl, ?_⟩, a2, a3, a4⟩
      rw [hts]
      exact a1))
    have hel := P4.el m hmM hmp
    have hpm : (partsP (l.take k))[m].length ≤ 200 := by
     have h1 := parts_total (l.take k)
     have h2 : (partsP (l.take k))[m].length ≤ ((partsP (l.take k)).map List.length).sum := by
      have : (partsP (l.take k))[m].length ∈ (partsP (l.take k)).map List.length := List.mem_map.2 ⟨_, List.getElem_mem hmp, rfl⟩
      exact le_sum_mem this
     rw [List.length_take] at h1
     omega
    replace hts := Lib.hid hts
    obtain ⟨k1, k2, k3, k4⟩ := own_cell hrow (k := m) hmM
    clear P4
    generalize (partsP (l.take k))[m] = pm at *
    generalize es[m] = vm at *
    obtain ⟨Am, cm, rfl, hcm1, hcm2, _⟩ := own_slice hel
    generalize l[k].t = tt at *
    generalize l[k].k = tk at *
    have ew : IntKind.i64.wrap ((es.length : Int) - 1) = (m : Int) := by rw [IntKind.wrap_i64]; omega
    have mz : (0 : Int) ≤ (m : Int) := by omega
    have ml : (m : Int) < (es.length : Int) := by omega
    replace hm := Lib.hid hm
    generalize hM : es.length = M at *
    replace hM := Lib.hid hM
    go_upto_region 5 with (fail)
    clear t0 t1 hgb
    generalize w3.alloc (.cells #[.int .i64 tk, .string ⟨tt.toArray⟩] 105) = w4 at *
    generalize w3.heap.size = g5 at *
    obtain ⟨b0, b1⟩ := B4.cells
    have lb := B4.lt
    go_upto_region 7 with (fail)
    go_region_law (refine step_app row_tk W _ (.tmp 28) (.tmp 30) rfl rfl rfl (own_ext hel ((Ext.refl w4).alloc _).drew) (X4.alloc _).drew rfl (reads_new' w4 #[.int .i64 tk, .string ⟨tt.toArray⟩] 105 1 2 rfl rfl) (by simp [Value.oneCell']) (by omega) (by unfold maxLen; omega) ?_; intro v5 w5 hg5; obtain ⟨HE, j1, j2, j3⟩ := HB.out v5 w5 _ w4.drew (HP4.out.to (Ext.refl w4).drew) hg5; obtain ⟨A5, c5, rfl, _, _, _⟩ := own_slice hg5.own; replace HE := Lib.hid HE; clear hg5)
    all_goals
     go_wp2_with fail
     go_roundg g2
     case rel => exact HE.out
     case measure => omega
  | zero =>
   have hd : decide ((k : Int) < (l.length : Int)) = false := by simp; omega
   obtain rfl : k = l.length := by omega
   rw [List.take_length] at HP
   replace HP := Lib.hid HP
   go_wp2_with fail
   try rw [Exit.noGoto_ret]
   go_ret
   exact ⟨_, es, rfl, HP.out⟩
end Go.Proofs.YtjaponmpfdpemaaGreatDoor
set_option linter.unusedSimpArgs false
set_option linter.unusedVariables false
namespace Go.Proofs.YtjaponmpfdpemaaGreatDoor
open Go.RowKit
def wrongV (e at_ : Int) : Value := .iface 184 (.agg #[.int .i64 e, .int .i64 at_])
set_option maxRecDepth 100000 in
set_option maxHeartbeats 1000000 in
theorem caught_panic (bf : Nat) (e at_ : Int) (x y : Value) (older : List PanicEntry) (w : World) (hB : Blk w bf 36 #[x, y]) :
  CallsD Tryz.prog 90 #[.pointer (some ⟨bf, 0, none⟩)] (.panicking ({ v := wrongV e at_, recovered := false } :: older)) w fun r u' w' =>
   r = .returned (.tuple #[]) ∧ u' = .panicking ({ v := wrongV e at_, recovered := true } :: older) ∧ Blk w' bf 36 #[.int .i64 e, .int .i64 at_] ∧ w.grownBy w' (some bf) := by
 obtain ⟨q, q'⟩ := hB.cells
 have lb := hB.lt
 unfold wrongV
 refine callsD_of_wpS Tryz.func90 rfl fun c₀ cs hu => ?_
 apply wpS_seq
 apply wpS_region
 simp [wpOpsS, go_sem, recoverD, hu, Tryz.ntmps90, Exit.thenS]
 have hta : ∀ w, (Instr.typeAssert (.iface 184 (.agg #[.int .i64 e, .int .i64 at_])) 20 184 true).run Tryz.prog w = .ok (.tuple #[.agg #[.int .i64 e, .int .i64 at_], .bool true]) w := fun _ => by kernel_rfl
 have hnl : ∀ w, (binOp .eql 20 (.iface 184 (.agg #[.int .i64 e, .int .i64 at_])) .nilIface).run Tryz.prog w = .ok (.bool false) w := fun _ => by kernel_rfl
 have ht : (#[Value.pointer (some ⟨bf, 0, none⟩)] ++ (Array.replicate 14 undef).setIfInBounds 4 (.iface 184 (.agg #[.int .i64 e, .int .i64 at_])) : Array Value) = #[.pointer (some ⟨bf, 0, none⟩), undef, undef, undef, undef, .iface 184 (.agg #[.int .i64 e, .int .i64 at_]), undef, undef, undef, undef, undef, undef, undef, undef, undef] := by rfl
 rw [ht]
 have HB := Lib.hid hB
 clear hB
 refine wpS_of_wp ?_
 go_wp2_with fail
 have B2 := (fault_set HB.out (.int .i64 e) (.int .i64 at_)).alloc (.cells #[.int .i64 e, .int .i64 at_] 184)
 have G2 : w.grownBy (((w.setCell ⟨bf, 0, none⟩ (.int .i64 e)).setCell ⟨bf, 1, none⟩ (.int .i64 at_)).alloc (.cells #[.int .i64 e, .int .i64 at_] 184)) (some bf) := only_alloc (only_set (only_set (World.grownBy.refl _ _) (p := ⟨bf, 0, none⟩) (.inl rfl) _) (p := ⟨bf, 1, none⟩) (.inl rfl) _) _
 simp [bodyPostS, results, Tryz.results90]
 exact ⟨B2, G2⟩
theorem caught_idle (bf : Nat) (w : World) : CallsD Tryz.prog 90 #[.pointer (some ⟨bf, 0, none⟩)] .returning w fun r u' w' => r = .returned (.tuple #[]) ∧ u' = .returning ∧ w' = w := by
 refine callsD_of_wpS Tryz.func90 rfl fun c₀ cs hu => ?_
 apply wpS_seq
 apply wpS_region
 simp [wpOpsS, go_sem, recoverD, hu, Tryz.ntmps90, Exit.thenS]
 have hnl : ∀ w, (binOp .eql 20 .nilIface .nilIface).run Tryz.prog w = .ok (.bool true) w := fun _ => by kernel_rfl
 have ht : (#[Value.pointer (some ⟨bf, 0, none⟩)] ++ (Array.replicate 14 undef).setIfInBounds 4 .nilIface : Array Value) = #[.pointer (some ⟨bf, 0, none⟩), undef, undef, undef, undef, .nilIface, undef, undef, undef, undef, undef, undef, undef, undef, undef] := by rfl
 rw [ht]
 refine wpS_of_wp ?_
 go_wp2_with fail
 cases c₀
 simp_all [bodyPostS, results, Tryz.results90]
theorem clo_fault (bf ba : Nat) (e at_ : Int) (a : Ad) (u : FrameMode) (w : World) (hF : Blk w bf 36 #[.int .i64 e, .int .i64 at_]) (hA : Blk w ba 45 (adC a)) (he : e ≠ 0) :
  CallsD Tryz.prog 89 #[.pointer (some ⟨bf, 0, none⟩), .pointer (some ⟨ba, 0, none⟩)] u w fun r u' w' => u' = u ∧ (r = .returned (.tuple #[]) ∧ w' = setAd w ba Ad.zero) := by
 obtain ⟨q0, q0'⟩ := hF.cells
 have lf := hF.lt
 have la := hA.lt
 unfold adC at hA
 obtain ⟨q1, q1'⟩ := hA.cells
 have hb : (e != 0) = true := by simpa using he
 go_enter_d Tryz.func89, Tryz.ntmps89
 go_wp2
 go_end0
 exact ⟨rfl, rfl⟩
theorem clo_none (bf ba : Nat) (at_ : Int) (u : FrameMode) (w : World) (hF : Blk w bf 36 #[.int .i64 0, .int .i64 at_]) :
  CallsD Tryz.prog 89 #[.pointer (some ⟨bf, 0, none⟩), .pointer (some ⟨ba, 0, none⟩)] u w fun r u' w' => u' = u ∧ (r = .returned (.tuple #[]) ∧ w' = w) := by
 obtain ⟨q0, q0'⟩ := hF.cells
 have lf := hF.lt
 go_enter_d Tryz.func89, Tryz.ntmps89
 go_wp2
 go_end0
 exact ⟨rfl, rfl⟩
end Go.Proofs.YtjaponmpfdpemaaGreatDoor
