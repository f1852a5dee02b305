/-
  addr: parts: a row of rows of tokens.
-/
import Derived.Deep.LoopGhost
import Derived.Test.YtjneghncmgjkeaaGreatDoorKa18
import Derived.Test.YtjneghncmgjkeaaGreatDoorKa08
set_option linter.unusedVariables false
namespace Go.Proofs.YtjneghncmgjkeaaGreatDoor
open Go.RowKit

theorem own_sep {w : World} {b b' : Nat} {e e' : TypeId} {s s' n n' : Nat} {v v' : Value} {xs xs' : List Value} (h : w.ownsRow b e s v n xs) (h' : w.ownsRow b' e' s' v' n' xs') (hne : e ≠ e') : v.ownBlock = none ∨ v.ownBlock ≠ v'.ownBlock := by
  rcases h.2 with ⟨rfl, _⟩ | ⟨g, cap, cur, rfl, _, hh, _⟩
  · exact .inl rfl
  · refine .inr fun he => ?_
    rcases h'.2 with ⟨rfl, _⟩ | ⟨g', cap', cur', rfl, _, hh', _⟩
    · simp [Value.ownBlock] at he
    · have : g = g' := by simpa [Value.ownBlock] using he
      subst this
      exact Blk.ne_ (t := e) hh (show Blk w g e' cur' from hh') hne rfl
theorem own_put {w : World} {base g n c : Nat} {e : TypeId} {xs : List Value} (h : w.ownsRow base e 1 (.slice (some ⟨g, 0, none⟩) n c) n xs) {k : Nat} (hk : k < n) (u : Value) : (w.setCell ⟨g, k, none⟩ u).ownsRow base e 1 (.slice (some ⟨g, 0, none⟩) n c) n (xs.set k u) := by
  refine ⟨by rw [List.length_set]; exact h.1, ?_⟩
  rcases h.2 with ⟨e0, _⟩ | ⟨g', cap, cur, e1, hb, hh, hn, hm, hs, ht⟩
  · cases e0
  · injection e1 with e1 _ e3
    injection e1 with e1
    injection e1 with e1
    subst e1 e3
    refine .inr ⟨g, c, cur.setIfInBounds k u, rfl, hb, Blk.set_ (t := e) hh k u, hn, hm, by rw [Array.size_setIfInBounds]; exact hs, ?_⟩
    rw [Array.toList_setIfInBounds, List.take_set, ht]
theorem own_cell {w : World} {base g n c : Nat} {e : TypeId} {xs : List Value} (h : w.ownsRow base e 1 (.slice (some ⟨g, 0, none⟩) n c) n xs) {k : Nat} (hk : k < xs.length) : w.cell? ⟨g, k, none⟩ = some xs[k] ∧ w.frozen? ⟨g, k, none⟩ = false ∧ g < w.heap.size ∧ base ≤ g := by
  rcases h.2 with ⟨e0, _⟩ | ⟨g', cap, cur, e1, hb, hh, hn, hm, hs, ht⟩
  · cases e0
  · injection e1 with e1 _ e3
    injection e1 with e1
    injection e1 with e1
    subst e1 e3
    have B : Blk w g e cur := hh
    refine ⟨?_, B.frozen k, B.lt, hb⟩
    have h1 := h.cells (g := g) rfl k xs[k] (List.getElem?_eq_getElem hk)
    rw [add_flat, Nat.zero_add] at h1
    exact h1
/-- Parts, one token more. -/
theorem partsP_snoc (t : Tok) : ∀ l : List Tok, partsP (l ++ [t]) = if t.k = 4 then partsP l ++ [[]] else (partsP l).dropLast ++ [(partsP l).getLastD [] ++ [t]]
  | [] => by
    by_cases h : t.k = 4
    · simp [partsP, h]
    · simp [partsP, h]
  | a :: l => by
    have ih := partsP_snoc t l
    have hne : partsP l ≠ [] := by
      have := (partsP_len l).1
      intro e
      rw [e] at this
      simp at this
    rw [List.cons_append, partsP, partsP, ih]
    by_cases ha : a.k = 4
    · rw [if_pos ha, if_pos ha]
      by_cases h : t.k = 4
      · rw [if_pos h, if_pos h]; rfl
      · rw [if_neg h, if_neg h]
        cases hp : partsP l with
        | nil => exact absurd hp hne
        | cons p r => simp [List.getLastD_eq_getLast?]
    · rw [if_neg ha, if_neg ha]
      cases hp : partsP l with
      | nil => exact absurd hp hne
      | cons p r =>
        by_cases h : t.k = 4
        · rw [if_pos h, if_pos h]; rfl
        · rw [if_neg h, if_neg h]
          cases r with
          | nil => simp
          | cons q r => simp [List.getLastD_eq_getLast?]
/-- Parts in memory. -/
structure PaAt (w0 w : World) (v : Value) (es : List Value) (ps : List (List Tok)) : Prop where
  ext : Ext w0 w
  row : w.ownsRow w0.heap.size 51 1 v es.length es
  len : es.length = ps.length
  el : ∀ i (h : i < es.length) (h' : i < ps.length), w.ownsRow w0.heap.size 58 2 es[i] ps[i].length (tokCells ps[i])
  apart : ∀ i j (h : i < es.length) (h' : j < es.length), i ≠ j → es[i].ownBlock = none ∨ es[i].ownBlock ≠ es[j].ownBlock
theorem PaAt.to {w0 w w' : World} {v : Value} {es : List Value} {ps : List (List Tok)} (h : PaAt w0 w v es ps) (hx : Ext w w') : PaAt w0 w' v es ps :=
  ⟨h.ext.trans hx, own_ext h.row hx, h.len, fun i a b => own_ext (h.el i a b) hx, h.apart⟩
/-- A part that is begun. -/
theorem PaAt.begin_ {w0 w w' : World} {v v' z : Value} {es : List Value} {ps : List (List Tok)} (h : PaAt w0 w v es ps) (hg : Grew w0 (w.alloc (.cells #[.slice none 0 0] 51)) w' 51 1 z v v' (es.length + 1) (es ++ #[Value.slice none 0 0].toList)) : PaAt w0 w' v' (es ++ [.slice none 0 0]) (ps ++ [[]]) := by
  have H := h.to ((Ext.refl w).alloc (.cells #[.slice none 0 0] 51))
  have hlen := h.len
  refine ⟨hg.ext, by rw [List.length_append]; exact hg.own, by simp [hlen], fun i hi hi' => ?_, fun i j hi hj hne => ?_⟩
  · by_cases hil : i < es.length
    · rw [List.getElem_append_left hil, List.getElem_append_left (by omega)]
      exact (H.el i hil (by omega)).kept hg.grown (own_sep (H.el i hil (by omega)) H.row (by decide))
    · have e1 : i = es.length := by rw [List.length_append, List.length_singleton] at hi; omega
      subst e1
      rw [List.getElem_append_right (Nat.le_refl _)]
      simp only [hlen, List.getElem_append_right, Nat.le_refl, Nat.sub_self, List.getElem_singleton]
      exact World.ownsRow_nil _ _ _ _
  · by_cases hil : i < es.length
    · rw [List.getElem_append_left hil]
      by_cases hjl : j < es.length
      · rw [List.getElem_append_left hjl]; exact h.apart i j hil hjl hne
      · have e1 : j = es.length := by rw [List.length_append, List.length_singleton] at hj; omega
        subst e1
        rw [List.getElem_append_right (Nat.le_refl _)]
        simp only [Nat.sub_self, List.getElem_singleton]
        cases he : es[i].ownBlock with
        | none => exact .inl rfl
        | some x => exact .inr (by simp [Value.ownBlock])
    · have e1 : i = es.length := by rw [List.length_append, List.length_singleton] at hi; omega
      subst e1
      rw [List.getElem_append_right (Nat.le_refl _)]
      simp only [Nat.sub_self, List.getElem_singleton]
      exact .inl rfl
/-- A token put behind the last part's. -/
theorem PaAt.more {w0 w w' : World} {g c m : Nat} {v' z : Value} {es : List Value} {ps : List (List Tok)} {t : Tok} (h : PaAt w0 w (.slice (some ⟨g, 0, none⟩) es.length c) es ps) (hm : m + 1 = es.length) (hmp : m < ps.length)
    (hg : Grew w0 (w.alloc (.cells #[.int .i64 t.k, .string ⟨t.t.toArray⟩] 58)) w' 58 2 z es[m] v' (ps[m].length + 1) (tokCells ps[m] ++ #[Value.int .i64 t.k, .string ⟨t.t.toArray⟩].toList)) :
    PaAt w0 (w'.setCell ⟨g, m, none⟩ v') (.slice (some ⟨g, 0, none⟩) es.length c) (es.set m v') (ps.dropLast ++ [ps.getLastD [] ++ [t]]) ∧ w'.cell? ⟨g, m, none⟩ = some es[m] ∧ w'.frozen? ⟨g, m, none⟩ = false ∧ g < w'.heap.size := by
  have H := h.to ((Ext.refl w).alloc (.cells #[.int .i64 t.k, .string ⟨t.t.toArray⟩] 58))
  have hlen := h.len
  have hM := H.el m (by omega) hmp
  have hrow' : w'.ownsRow w0.heap.size 51 1 (.slice (some ⟨g, 0, none⟩) es.length c) es.length es := H.row.kept hg.grown (own_sep H.row hM (by decide))
  have hlast : ps.getLastD [] = ps[m] := by
    rw [List.getLastD_eq_getLast?, List.getLast?_eq_getElem?, show ps.length - 1 = m by omega, List.getElem?_eq_getElem hmp]
    rfl
  have hown : w'.ownsRow w0.heap.size 58 2 v' (ps[m] ++ [t]).length (tokCells (ps[m] ++ [t])) := by
    rw [List.length_append, tokCells_snoc]
    exact hg.own
  obtain ⟨k1, k2, k3, k4⟩ := own_cell hrow' (k := m) (by omega)
  have hvg : v'.ownBlock ≠ some g := by
    rcases own_sep hown hrow' (by decide) with e | e
    · rw [e]; simp
    · exact e
  have helse : ∀ i (hi : i < es.length) (hi' : i < ps.length), i ≠ m → (w'.setCell ⟨g, m, none⟩ v').ownsRow w0.heap.size 58 2 es[i] ps[i].length (tokCells ps[i]) := fun i hi hi' hne => by
    have h1 := (H.el i hi hi').kept hg.grown (h.apart i m hi (by omega) hne)
    refine own_set h1 (a := ⟨g, m, none⟩) ?_ v'
    rcases own_sep h1 hrow' (by decide) with e | e
    · rw [e]; simp
    · exact e
  refine ⟨⟨hg.ext.set (p := ⟨g, m, none⟩) k4 _, ?_, ?_, fun i hi hi' => ?_, fun i j hi hj hne => ?_⟩, k1, k2, k3⟩
  · rw [List.length_set]; exact own_put hrow' (by omega) v'
  · simp; omega
  · rw [List.length_set] at hi
    by_cases him : i = m
    · subst him
      rw [List.getElem_set_self, List.getElem_append_right (by rw [List.length_dropLast]; omega)]
      simp only [List.length_dropLast, show i - (ps.length - 1) = 0 by omega, List.getElem_cons_zero, hlast]
      exact own_set hown (a := ⟨g, i, none⟩) hvg v'
    · rw [List.getElem_set_ne (fun e => him e.symm), List.getElem_append_left (by rw [List.length_dropLast]; omega), List.getElem_dropLast]
      exact helse i hi (by omega) him
  · rw [List.length_set] at hi hj
    have hnew : ∀ i (hi : i < es.length), i ≠ m → (es[i].ownBlock = none ∨ es[i].ownBlock ≠ v'.ownBlock) ∧ (v'.ownBlock = none ∨ v'.ownBlock ≠ es[i].ownBlock) := fun i hi hne => by
      rcases h.apart i m hi (by omega) hne with e | e
      · refine ⟨.inl e, ?_⟩
        rw [e]
        cases hv : v'.ownBlock with
        | none => exact .inl rfl
        | some x => exact .inr (by simp)
      · have hlt : ∀ x, es[i].ownBlock = some x → x < (w.alloc (.cells #[.int .i64 t.k, .string ⟨t.t.toArray⟩] 58)).heap.size := fun x hx => ((H.el i hi (by omega)).lt x hx).2
        have hd : es[i].ownBlock ≠ v'.ownBlock ∨ es[i].ownBlock = none := by
          rcases hg.at_ with e2 | e2
          · left; rw [e2]; exact e
          · cases hx : es[i].ownBlock with
            | none => exact .inr rfl
            | some x =>
              left
              rw [e2]
              intro e3
              have := hlt x hx
              have := Option.some.inj e3
              omega
        rcases hd with hd | hd
        · exact ⟨.inr hd, .inr hd.symm⟩
        · refine ⟨.inl hd, ?_⟩
          rw [hd]
          cases hv : v'.ownBlock with
          | none => exact .inl rfl
          | some x => exact .inr (by simp)
    by_cases him : i = m
    · subst him
      rw [List.getElem_set_self, List.getElem_set_ne hne]
      exact (hnew j (by rw [List.length_set] at hj; exact hj) (fun e => hne e.symm)).2
    · rw [List.getElem_set_ne (fun e => him e.symm)]
      by_cases hjm : j = m
      · subst hjm
        rw [List.getElem_set_self]
        exact (hnew i (by rw [List.length_set] at hi; exact hi) him).1
      · rw [List.getElem_set_ne (fun e => hjm e.symm)]
        exact h.apart i j hi hj hne
end Go.Proofs.YtjneghncmgjkeaaGreatDoor

set_option linter.unusedVariables false
namespace Go.Proofs.YtjneghncmgjkeaaGreatDoor

structure NamedOk (s : Bs) (ks : List Int) : Prop where
  ok : okBs s
  kinds : kindOf (toksOf s) ks = true
  texts : textsP (toksOf s) = s
  l0 : 0 < (toksOf s).length
  l8 : (toksOf s).length ≤ 8
  l40 : s.length ≤ 40
theorem named_ok {s : Bs} {ks : List Int} (h : namedP s ks = true) : NamedOk s ks := by
  unfold namedP at h
  dsimp only at h
  simp only [Bool.and_eq_true, beq_iff_eq, decide_eq_true_eq] at h
  obtain ⟨⟨⟨⟨⟨h1, h2⟩, h3⟩, h4⟩, h5⟩, h6⟩ := h
  obtain ⟨a, b, _⟩ := tokensP_zero h1
  rw [b] at h2 h3 h4 h5
  exact ⟨a, h4, h5, h2, h3, h6⟩
structure CheckOk (a : Ad) : Prop where
  n1 : 1 ≤ a.n
  n2 : a.n ≤ 999999
  name : NamedOk a.name [1, 2, 3]
  city : NamedOk a.city [1]
  pre : ownP 2 a.pre = true
  post : ownP 2 a.post = true
  suf : ownP 1 a.suf = true
  st0 : a.state ≠ []
  state : ownP 3 a.state = true
  unit : housedP a.unit = true
  zip : digitsP a.zip 5 5 = true
  more : a.more = [] ∨ digitsP a.more 4 4 = true
  line : okBs (lineP a)
  street : (streetP (toksOf (lineP a)) (a.unit == [])).1 = a.street
theorem checkP_ok {a : Ad} (h : checkP a = 0) : CheckOk a := by
  unfold checkP at h
  dsimp only at h
  by_cases h1 : (decide (1 ≤ a.n) && decide (a.n ≤ 999999) && namedP a.name [1, 2, 3] && namedP a.city [1] && ownP 2 a.pre && ownP 2 a.post && ownP 1 a.suf && a.state != [] && ownP 3 a.state && housedP a.unit && digitsP a.zip 5 5 && (a.more == [] || digitsP a.more 4 4)) = false
  · rw [if_pos h1] at h; cases h
  rw [if_neg h1] at h
  rw [Bool.not_eq_false] at h1
  simp only [Bool.and_eq_true, Bool.or_eq_true, beq_iff_eq, bne_iff_ne, decide_eq_true_eq, ne_eq] at h1
  obtain ⟨⟨⟨⟨⟨⟨⟨⟨⟨⟨⟨b1, b2⟩, b3⟩, b4⟩, b5⟩, b6⟩, b7⟩, b8⟩, b9⟩, b10⟩, b11⟩, b12⟩ := h1
  by_cases h2 : (tokensP (lineP a)).2.1 ≠ 0 ∨ (streetP (tokensP (lineP a)).1 (a.unit == [])).1 ≠ a.street
  · rw [if_pos h2] at h; cases h
  have h3 : (tokensP (lineP a)).2.1 = 0 := Classical.byContradiction fun e => h2 (.inl e)
  have h4 : (streetP (tokensP (lineP a)).1 (a.unit == [])).1 = a.street := Classical.byContradiction fun e => h2 (.inr e)
  obtain ⟨c1, c2, _⟩ := tokensP_zero h3
  rw [c2] at h4
  exact ⟨b1, b2, named_ok b3, named_ok b4, b5, b6, b7, b8, b9, b10, b11, b12, c1, h4⟩
theorem kindOf_ne {l : List Tok} {ks : List Int} (h : kindOf l ks = true) {k : Int} (hk : ks.contains k = false) : ∀ t ∈ l, t.k ≠ k := by
  intro t ht e
  have := List.all_eq_true.1 h t ht
  rw [e] at this
  rw [hk] at this
  cases this
theorem own_toks {k : Int} {n : Nat} {x : Bs} (hf : wordsFine k n = true) (hw : wordsWord k = true) (ho : ownP k x = true) : (∀ t ∈ toksOf x, t.k ≠ 4) ∧ (toksOf x).length ≤ 1 ∧ x.length ≤ n := by
  by_cases h0 : x = []
  · rw [h0, toks_nil]; exact ⟨(fun t ht => by cases ht), by simp, by simp⟩
  · obtain ⟨a, _, c, _⟩ := own_word hf hw ho h0
    rw [a]
    exact ⟨fun t ht => by rw [List.mem_singleton.1 ht]; show (1 : Int) ≠ 4; decide, by simp, c⟩
theorem housed_ok {u : Bs} (h : housedP u = true) (h0 : u ≠ []) : okBs u ∧ (unitP (toksOf u)).2 = true ∧ (unitP (toksOf u)).1 = u ∧ ((toksOf u).getD 1 ⟨0, []⟩).t.length ≤ 10 := by
  unfold housedP at h
  dsimp only at h
  simp only [Bool.or_eq_true, beq_iff_eq, Bool.and_eq_true, decide_eq_true_eq] at h
  rcases h with h | ⟨⟨h1, h2⟩, h3⟩
  · exact absurd h h0
  have h4 : (tokensP u).2.1 = 0 := by
    have hz : (tokensP u).1 = [] ∨ (tokensP u).2.1 = 0 := by
      unfold tokensP
      split
      · exact .inl rfl
      · split
        · exact .inl rfl
        · split
          · exact .inl rfl
          · exact .inr rfl
    rcases hz with hz | hz
    · rw [hz] at h1; cases h1
    · exact hz
  obtain ⟨a, b, _⟩ := tokensP_zero h4
  rw [b] at h1 h2 h3
  exact ⟨a, h1, h2, h3⟩
theorem unitP_shape {l : List Tok} (h : (unitP l).2 = true) (hl : ∀ t ∈ l, TokIs t) : (∀ t ∈ l, t.k ≠ 4) ∧ l.length = 2 ∧ (unitP l).1 ≠ [] := by
  unfold unitP at h ⊢
  match l, h, hl with
  | [a, b], h, hl =>
    by_cases h1 : b.k = 5 ∨ b.k = 4
    · simp only [if_pos h1] at h; cases h
    simp only [if_neg h1] at h ⊢
    by_cases h2 : a.k = 5
    · simp only [if_pos h2]
      refine ⟨fun t ht => ?_, rfl, by simp⟩
      simp only [List.mem_cons, List.not_mem_nil, or_false] at ht
      rcases ht with rfl | rfl
      · omega
      · exact fun e => h1 (.inr e)
    · simp only [if_neg h2] at h ⊢
      refine ⟨fun t ht => ?_, rfl, by simp⟩
      simp only [List.mem_cons, List.not_mem_nil, or_false] at ht
      rcases ht with rfl | rfl
      · intro e
        rw [(hl _ (by simp)).comma e] at h
        exact absurd h (by decide +kernel)
      · exact fun e => h1 (.inr e)
theorem ahead_len (s : Bs) : (aheadP s).length ≤ s.length + 1 := by unfold aheadP; split <;> simp
theorem line_len {a : Ad} (h : CheckOk a) : (lineP a).length ≤ 60 := by
  obtain ⟨_, _, p3⟩ := own_toks words_fine.2.1 words_word.2.1 h.pre
  obtain ⟨_, _, s3⟩ := own_toks words_fine.1 words_word.1 h.suf
  obtain ⟨_, _, q3⟩ := own_toks words_fine.2.1 words_word.2.1 h.post
  have n3 := h.name.l40
  rw [lineP_eq]
  simp only [List.length_append]
  have h1 : (halfS a.half).length ≤ 4 := by unfold halfS; split <;> simp
  have h2 := ahead_len a.pre
  have h3 := ahead_len a.name
  have h4 := ahead_len a.suf
  have h5 := ahead_len a.post
  omega
theorem unit_len {l : List Tok} (h : (unitP l).2 = true) (h10 : (l.getD 1 ⟨0, []⟩).t.length ≤ 10) : (unitP l).1.length ≤ 15 := by
  unfold unitP at h ⊢
  match l, h, h10 with
  | [a, b], h, h10 =>
    have hb10 : b.t.length ≤ 10 := h10
    by_cases h1 : b.k = 5 ∨ b.k = 4
    · simp only [if_pos h1] at h; cases h
    simp only [if_neg h1]
    by_cases h2 : a.k = 5
    · simp only [if_pos h2, List.length_cons]; omega
    · simp only [if_neg h2, List.length_append, List.length_cons]
      have := (shortP_ok words_fine.2.2.2 short0.2.2.2 a.t).len
      unfold shortT
      omega
theorem itoa_toks {n : Int} (h1 : 1 ≤ n) (h2 : n ≤ 999999) : ∃ k, toksOf (Lib.itoa n) = [⟨k, Lib.itoa n⟩] ∧ k ≠ 4 ∧ okBs (Lib.itoa n) ∧ (Lib.itoa n).length ≤ 6 := by
  obtain ⟨l1, l2, hd⟩ := digitsP_all (itoa_ok h1 h2).1
  obtain ⟨a, b, c⟩ := digs_all hd
  refine ⟨kindT (Lib.itoa n), ?_, by have := kindT_bd (Lib.itoa n); omega, c, l2⟩
  rw [toks_sound (by intro e; rw [e] at l1; simp at l1) a]
  unfold tokW
  rw [b]
end Go.Proofs.YtjneghncmgjkeaaGreatDoor

set_option linter.unusedVariables false
namespace Go.Proofs.YtjneghncmgjkeaaGreatDoor
end Go.Proofs.YtjneghncmgjkeaaGreatDoor
