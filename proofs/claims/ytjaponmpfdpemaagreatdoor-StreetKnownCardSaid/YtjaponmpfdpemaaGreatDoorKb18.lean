/-
  street: has, numbers; apportionref18: has, address; the points.
-/
import Derived.Test.YtjaponmpfdpemaaGreatDoorKb03
import Derived.Test.YtjaponmpfdpemaaGreatDoorKb17
import Derived.Deep.LoopGhost
set_option linter.unusedVariables false
namespace Go.Proofs.YtjaponmpfdpemaaGreatDoor
open Go.RowKit

def srC (s : Sr) : Array Value := #[.string ⟨s.state.toArray⟩, .string ⟨s.city.toArray⟩, .string ⟨s.pre.toArray⟩, .string ⟨s.name.toArray⟩, .string ⟨s.suf.toArray⟩, .string ⟨s.post.toArray⟩, .int .i64 s.fr, .int .i64 s.to_, .int .i64 s.side, .int .i64 s.ax, .int .i64 s.ay, .int .i64 s.bx, .int .i64 s.by_]
def srV (s : Sr) : Value := .agg (srC s)
theorem srV_eq (s : Sr) : srV s = .agg #[.string ⟨s.state.toArray⟩, .string ⟨s.city.toArray⟩, .string ⟨s.pre.toArray⟩, .string ⟨s.name.toArray⟩, .string ⟨s.suf.toArray⟩, .string ⟨s.post.toArray⟩, .int .i64 s.fr, .int .i64 s.to_, .int .i64 s.side, .int .i64 s.ax, .int .i64 s.ay, .int .i64 s.bx, .int .i64 s.by_] := rfl
set_option maxRecDepth 100000 in
theorem srhas_any (s : Sr) (p : Int) (W : World) : Calls Tryz.prog 30 #[srV s, .int .i64 p] W fun e w' => e = .returned (.bool (s.hasQ p)) ∧ Ext W w' := by
  obtain ⟨R, hR⟩ : ∃ R, s.hasQ p = R := ⟨_, rfl⟩
  have hH : R = (s.side == 3 || ((s.side == 1) == (p == 1))) := by rw [← hR]; rfl
  rw [hR]
  clear hR
  rw [srV_eq]
  generalize s.side = sd at *
  obtain ⟨x, hx⟩ : ∃ t, (sd == 3) = t := ⟨_, rfl⟩
  obtain ⟨y, hy⟩ : ∃ t, (sd == 1) = t := ⟨_, rfl⟩
  obtain ⟨z, hz⟩ : ∃ t, (p == 1) = t := ⟨_, rfl⟩
  rw [hx, hy, hz] at hH
  replace hH := Lib.hid hH
  cases x with
  | true =>
    go_enter Tryz.func30, Tryz.ntmps30
    go_wp2_with fail
    go_ret
    exact ⟨by rw [hH.out]; rfl, (Ext.refl W).alloc _⟩
  | false =>
    cases y <;> cases z
    all_goals
      go_enter Tryz.func30, Tryz.ntmps30
      go_wp2_with fail
      go_ret
      exact ⟨by rw [hH.out]; rfl, (Ext.refl W).alloc _⟩
set_option maxRecDepth 100000 in
set_option maxHeartbeats 1000000 in
theorem srnum_any (s : Sr) (hN : s.Num) (p : Int) (W : World) : Calls Tryz.prog 35 #[srV s, .int .i64 p] W fun e w' => e = .returned (.tuple #[.int .i64 (s.low p), .int .i64 (s.high p), .bool (s.isQ p)]) ∧ Ext W w' := by
  have HH := Lib.hid (fun w => srhas_any s p w)
  have h1 := hN.f1
  have h2 := hN.ft
  have h3 := hN.t9
  obtain ⟨L, hL⟩ : ∃ L, s.low p = L := ⟨_, rfl⟩
  obtain ⟨H, hHi⟩ : ∃ H, s.high p = H := ⟨_, rfl⟩
  obtain ⟨Q, hQ⟩ : ∃ Q, s.isQ p = Q := ⟨_, rfl⟩
  have eL : L = if s.fr.tmod 2 = p then s.fr else s.fr + 1 := by rw [← hL]; rfl
  have eH : H = if s.to_.tmod 2 = p then s.to_ else s.to_ - 1 := by rw [← hHi]; rfl
  have eQ : Q = (s.hasQ p && decide (L ≤ H)) := by rw [← hQ, ← hL, ← hHi]; rfl
  rw [hL, hHi, hQ]
  clear hL hHi hQ hN
  rw [srV_eq] at HH ⊢
  generalize s.hasQ p = q at *
  generalize s.fr = fr at *
  generalize s.to_ = to_ at *
  have w1 : IntKind.i64.wrap (fr + 1) = fr + 1 := by rw [IntKind.wrap_i64]; omega
  have w2 : IntKind.i64.wrap (to_ - 1) = to_ - 1 := by rw [IntKind.wrap_i64]; omega
  obtain ⟨x, hx⟩ : ∃ t, (fr.tmod 2 != p) = t := ⟨_, rfl⟩
  obtain ⟨y, hy⟩ : ∃ t, (to_.tmod 2 != p) = t := ⟨_, rfl⟩
  obtain ⟨d, hd⟩ : ∃ t, decide (L ≤ H) = t := ⟨_, rfl⟩
  rw [hd] at eQ
  replace eQ := Lib.hid eQ
  have X0 := Lib.hid ((Ext.refl W).alloc (.cells #[.string ⟨s.state.toArray⟩, .string ⟨s.city.toArray⟩, .string ⟨s.pre.toArray⟩, .string ⟨s.name.toArray⟩, .string ⟨s.suf.toArray⟩, .string ⟨s.post.toArray⟩, .int .i64 fr, .int .i64 to_, .int .i64 s.side, .int .i64 s.ax, .int .i64 s.ay, .int .i64 s.bx, .int .i64 s.by_] 25))
  have eL2 : L = if x = true then fr + 1 else fr := by
    rw [eL, ← hx]
    by_cases h : fr.tmod 2 = p
    · rw [if_pos h, if_neg (by simp [h])]
    · rw [if_neg h, if_pos (by simp [h])]
  have eH2 : H = if y = true then to_ - 1 else to_ := by
    rw [eH, ← hy]
    by_cases h : to_.tmod 2 = p
    · rw [if_pos h, if_neg (by simp [h])]
    · rw [if_neg h, if_pos (by simp [h])]
  clear eL eH h1 h2 h3
  cases x <;> cases y
  all_goals
    simp only [Bool.false_eq_true, if_false, if_true] at eL2 eH2
    subst eL2 eH2
    cases q
    all_goals
      go_enter Tryz.func35, Tryz.ntmps35
      go_upto_region 1 with (fail)
      go_region
      go_wp2_with fail
      refine (HH.out _).mono ?_
      rintro e w1 ⟨rfl, hx1⟩
      go_wp2_with fail
      exact bodyPost_ret (results_tmp3 rfl _ _ _) rfl ⟨by rw [eQ.out]; rfl, (X0.out.drew).trans hx1⟩
end Go.Proofs.YtjaponmpfdpemaaGreatDoor

set_option linter.unusedVariables false
namespace Go.Proofs.YtjaponmpfdpemaaGreatDoor
open Go.RowKit

theorem own_sep {w : World} {b b' : Nat} {e e' : TypeId} {s s' n n' : Nat} {v v' : Value} {xs xs' : List Value} (h : w.ownsRow b e s v n xs) (h' : w.ownsRow b' e' s' v' n' xs') (hne : e ≠ e') : v.ownBlock = none ∨ v.ownBlock ≠ v'.ownBlock := by
  rcases h.2 with ⟨rfl, _⟩ | ⟨g, cap, cur, rfl, _, hh, _⟩
  · exact .inl rfl
  · refine .inr fun he => ?_
    rcases h'.2 with ⟨rfl, _⟩ | ⟨g', cap', cur', rfl, _, hh', _⟩
    · simp [Value.ownBlock] at he
    · have : g = g' := by simpa [Value.ownBlock] using he
      subst this
      exact Blk.ne_ (t := e) hh (show Blk w g e' cur' from hh') hne rfl
theorem own_put {w : World} {base g n c : Nat} {e : TypeId} {xs : List Value} (h : w.ownsRow base e 1 (.slice (some ⟨g, 0, none⟩) n c) n xs) {k : Nat} (hk : k < n) (u : Value) : (w.setCell ⟨g, k, none⟩ u).ownsRow base e 1 (.slice (some ⟨g, 0, none⟩) n c) n (xs.set k u) := by
  refine ⟨by rw [List.length_set]; exact h.1, ?_⟩
  rcases h.2 with ⟨e0, _⟩ | ⟨g', cap, cur, e1, hb, hh, hn, hm, hs, ht⟩
  · cases e0
  · injection e1 with e1 _ e3
    injection e1 with e1
    injection e1 with e1
    subst e1 e3
    refine .inr ⟨g, c, cur.setIfInBounds k u, rfl, hb, Blk.set_ (t := e) hh k u, hn, hm, by rw [Array.size_setIfInBounds]; exact hs, ?_⟩
    rw [Array.toList_setIfInBounds, List.take_set, ht]
theorem own_cell {w : World} {base g n c : Nat} {e : TypeId} {xs : List Value} (h : w.ownsRow base e 1 (.slice (some ⟨g, 0, none⟩) n c) n xs) {k : Nat} (hk : k < xs.length) : w.cell? ⟨g, k, none⟩ = some xs[k] ∧ w.frozen? ⟨g, k, none⟩ = false ∧ g < w.heap.size ∧ base ≤ g := by
  rcases h.2 with ⟨e0, _⟩ | ⟨g', cap, cur, e1, hb, hh, hn, hm, hs, ht⟩
  · cases e0
  · injection e1 with e1 _ e3
    injection e1 with e1
    injection e1 with e1
    subst e1 e3
    have B : Blk w g e cur := hh
    refine ⟨?_, B.frozen k, B.lt, hb⟩
    have h1 := h.cells (g := g) rfl k xs[k] (List.getElem?_eq_getElem hk)
    rw [add_flat, Nat.zero_add] at h1
    exact h1
/-- Parts, one token more. -/
theorem partsP_snoc (t : Tok) : ∀ l : List Tok, partsP (l ++ [t]) = if t.k = 4 then partsP l ++ [[]] else (partsP l).dropLast ++ [(partsP l).getLastD [] ++ [t]]
  | [] => by
    by_cases h : t.k = 4
    · simp [partsP, h]
    · simp [partsP, h]
  | a :: l => by
    have ih := partsP_snoc t l
    have hne : partsP l ≠ [] := by
      have := (partsP_len l).1
      intro e
      rw [e] at this
      simp at this
    rw [List.cons_append, partsP, partsP, ih]
    by_cases ha : a.k = 4
    · rw [if_pos ha, if_pos ha]
      by_cases h : t.k = 4
      · rw [if_pos h, if_pos h]; rfl
      · rw [if_neg h, if_neg h]
        cases hp : partsP l with
        | nil => exact absurd hp hne
        | cons p r => simp [List.getLastD_eq_getLast?]
    · rw [if_neg ha, if_neg ha]
      cases hp : partsP l with
      | nil => exact absurd hp hne
      | cons p r =>
        by_cases h : t.k = 4
        · rw [if_pos h, if_pos h]; rfl
        · rw [if_neg h, if_neg h]
          cases r with
          | nil => simp
          | cons q r => simp [List.getLastD_eq_getLast?]
/-- Parts in memory. -/
structure PaAt (w0 w : World) (v : Value) (es : List Value) (ps : List (List Tok)) : Prop where
  ext : Ext w0 w
  row : w.ownsRow w0.heap.size 87 1 v es.length es
  len : es.length = ps.length
  el : ∀ i (h : i < es.length) (h' : i < ps.length), w.ownsRow w0.heap.size 105 2 es[i] ps[i].length (tokCells ps[i])
  apart : ∀ i j (h : i < es.length) (h' : j < es.length), i ≠ j → es[i].ownBlock = none ∨ es[i].ownBlock ≠ es[j].ownBlock
theorem PaAt.to {w0 w w' : World} {v : Value} {es : List Value} {ps : List (List Tok)} (h : PaAt w0 w v es ps) (hx : Ext w w') : PaAt w0 w' v es ps :=
  ⟨h.ext.trans hx, own_ext h.row hx, h.len, fun i a b => own_ext (h.el i a b) hx, h.apart⟩
/-- A part that is begun. -/
theorem PaAt.begin_ {w0 w w' : World} {v v' z : Value} {es : List Value} {ps : List (List Tok)} (h : PaAt w0 w v es ps) (hg : Grew w0 (w.alloc (.cells #[.slice none 0 0] 87)) w' 87 1 z v v' (es.length + 1) (es ++ #[Value.slice none 0 0].toList)) : PaAt w0 w' v' (es ++ [.slice none 0 0]) (ps ++ [[]]) := by
  have H := h.to ((Ext.refl w).alloc (.cells #[.slice none 0 0] 87))
  have hlen := h.len
  refine ⟨hg.ext, by rw [List.length_append]; exact hg.own, by simp [hlen], fun i hi hi' => ?_, fun i j hi hj hne => ?_⟩
  · by_cases hil : i < es.length
    · rw [List.getElem_append_left hil, List.getElem_append_left (by omega)]
      exact (H.el i hil (by omega)).kept hg.grown (own_sep (H.el i hil (by omega)) H.row (by decide))
    · have e1 : i = es.length := by rw [List.length_append, List.length_singleton] at hi; omega
      subst e1
      rw [List.getElem_append_right (Nat.le_refl _)]
      simp only [hlen, List.getElem_append_right, Nat.le_refl, Nat.sub_self, List.getElem_singleton]
      exact World.ownsRow_nil _ _ _ _
  · by_cases hil : i < es.length
    · rw [List.getElem_append_left hil]
      by_cases hjl : j < es.length
      · rw [List.getElem_append_left hjl]; exact h.apart i j hil hjl hne
      · have e1 : j = es.length := by rw [List.length_append, List.length_singleton] at hj; omega
        subst e1
        rw [List.getElem_append_right (Nat.le_refl _)]
        simp only [Nat.sub_self, List.getElem_singleton]
        cases he : es[i].ownBlock with
        | none => exact .inl rfl
        | some x => exact .inr (by simp [Value.ownBlock])
    · have e1 : i = es.length := by rw [List.length_append, List.length_singleton] at hi; omega
      subst e1
      rw [List.getElem_append_right (Nat.le_refl _)]
      simp only [Nat.sub_self, List.getElem_singleton]
      exact .inl rfl
/-- A token put behind the last part's. -/
theorem PaAt.more {w0 w w' : World} {g c m : Nat} {v' z : Value} {es : List Value} {ps : List (List Tok)} {t : Tok} (h : PaAt w0 w (.slice (some ⟨g, 0, none⟩) es.length c) es ps) (hm : m + 1 = es.length) (hmp : m < ps.length)
    (hg : Grew w0 (w.alloc (.cells #[.int .i64 t.k, .string ⟨t.t.toArray⟩] 105)) w' 105 2 z es[m] v' (ps[m].length + 1) (tokCells ps[m] ++ #[Value.int .i64 t.k, .string ⟨t.t.toArray⟩].toList)) :
    PaAt w0 (w'.setCell ⟨g, m, none⟩ v') (.slice (some ⟨g, 0, none⟩) es.length c) (es.set m v') (ps.dropLast ++ [ps.getLastD [] ++ [t]]) ∧ w'.cell? ⟨g, m, none⟩ = some es[m] ∧ w'.frozen? ⟨g, m, none⟩ = false ∧ g < w'.heap.size := by
  have H := h.to ((Ext.refl w).alloc (.cells #[.int .i64 t.k, .string ⟨t.t.toArray⟩] 105))
  have hlen := h.len
  have hM := H.el m (by omega) hmp
  have hrow' : w'.ownsRow w0.heap.size 87 1 (.slice (some ⟨g, 0, none⟩) es.length c) es.length es := H.row.kept hg.grown (own_sep H.row hM (by decide))
  have hlast : ps.getLastD [] = ps[m] := by
    rw [List.getLastD_eq_getLast?, List.getLast?_eq_getElem?, show ps.length - 1 = m by omega, List.getElem?_eq_getElem hmp]
    rfl
  have hown : w'.ownsRow w0.heap.size 105 2 v' (ps[m] ++ [t]).length (tokCells (ps[m] ++ [t])) := by
    rw [List.length_append, tokCells_snoc]
    exact hg.own
  obtain ⟨k1, k2, k3, k4⟩ := own_cell hrow' (k := m) (by omega)
  have hvg : v'.ownBlock ≠ some g := by
    rcases own_sep hown hrow' (by decide) with e | e
    · rw [e]; simp
    · exact e
  have helse : ∀ i (hi : i < es.length) (hi' : i < ps.length), i ≠ m → (w'.setCell ⟨g, m, none⟩ v').ownsRow w0.heap.size 105 2 es[i] ps[i].length (tokCells ps[i]) := fun i hi hi' hne => by
    have h1 := (H.el i hi hi').kept hg.grown (h.apart i m hi (by omega) hne)
    refine own_set h1 (a := ⟨g, m, none⟩) ?_ v'
    rcases own_sep h1 hrow' (by decide) with e | e
    · rw [e]; simp
    · exact e
  refine ⟨⟨hg.ext.set (p := ⟨g, m, none⟩) k4 _, ?_, ?_, fun i hi hi' => ?_, fun i j hi hj hne => ?_⟩, k1, k2, k3⟩
  · rw [List.length_set]; exact own_put hrow' (by omega) v'
  · simp; omega
  · rw [List.length_set] at hi
    by_cases him : i = m
    · subst him
      rw [List.getElem_set_self, List.getElem_append_right (by rw [List.length_dropLast]; omega)]
      simp only [List.length_dropLast, show i - (ps.length - 1) = 0 by omega, List.getElem_cons_zero, hlast]
      exact own_set hown (a := ⟨g, i, none⟩) hvg v'
    · rw [List.getElem_set_ne (fun e => him e.symm), List.getElem_append_left (by rw [List.length_dropLast]; omega), List.getElem_dropLast]
      exact helse i hi (by omega) him
  · rw [List.length_set] at hi hj
    have hnew : ∀ i (hi : i < es.length), i ≠ m → (es[i].ownBlock = none ∨ es[i].ownBlock ≠ v'.ownBlock) ∧ (v'.ownBlock = none ∨ v'.ownBlock ≠ es[i].ownBlock) := fun i hi hne => by
      rcases h.apart i m hi (by omega) hne with e | e
      · refine ⟨.inl e, ?_⟩
        rw [e]
        cases hv : v'.ownBlock with
        | none => exact .inl rfl
        | some x => exact .inr (by simp)
      · have hlt : ∀ x, es[i].ownBlock = some x → x < (w.alloc (.cells #[.int .i64 t.k, .string ⟨t.t.toArray⟩] 105)).heap.size := fun x hx => ((H.el i hi (by omega)).lt x hx).2
        have hd : es[i].ownBlock ≠ v'.ownBlock ∨ es[i].ownBlock = none := by
          rcases hg.at_ with e2 | e2
          · left; rw [e2]; exact e
          · cases hx : es[i].ownBlock with
            | none => exact .inr rfl
            | some x =>
              left
              rw [e2]
              intro e3
              have := hlt x hx
              have := Option.some.inj e3
              omega
        rcases hd with hd | hd
        · exact ⟨.inr hd, .inr hd.symm⟩
        · refine ⟨.inl hd, ?_⟩
          rw [hd]
          cases hv : v'.ownBlock with
          | none => exact .inl rfl
          | some x => exact .inr (by simp)
    by_cases him : i = m
    · subst him
      rw [List.getElem_set_self, List.getElem_set_ne hne]
      exact (hnew j (by rw [List.length_set] at hj; exact hj) (fun e => hne e.symm)).2
    · rw [List.getElem_set_ne (fun e => him e.symm)]
      by_cases hjm : j = m
      · subst hjm
        rw [List.getElem_set_self]
        exact (hnew i (by rw [List.length_set] at hi; exact hi) him).1
      · rw [List.getElem_set_ne (fun e => hjm e.symm)]
        exact h.apart i j hi hj hne
end Go.Proofs.YtjaponmpfdpemaaGreatDoor
