/-
  street: has, numbers; apportionref18: has, address; the points.
-/
import Derived.Test.YtjaponmpfdpemaaGreatDoorBb02
import Derived.Test.YtjaponmpfdpemaaGreatDoorBb14
import Derived.Deep.LoopGhost
import Derived.Test.YtjaponmpfdpemaaGreatDoorBb05
set_option linter.unusedSimpArgs false
set_option linter.unusedVariables false
namespace Go.Proofs.YtjaponmpfdpemaaGreatDoor
open Go.RowKit
def srC (s : Sr) : Array Value := #[.string ⟨s.state.toArray⟩, .string ⟨s.city.toArray⟩, .string ⟨s.pre.toArray⟩, .string ⟨s.name.toArray⟩, .string ⟨s.suf.toArray⟩, .string ⟨s.post.toArray⟩, .int .i64 s.fr, .int .i64 s.to_, .int .i64 s.side, .int .i64 s.ax, .int .i64 s.ay, .int .i64 s.bx, .int .i64 s.by_]
def srV (s : Sr) : Value := .agg (srC s)
theorem srV_eq (s : Sr) : srV s = .agg #[.string ⟨s.state.toArray⟩, .string ⟨s.city.toArray⟩, .string ⟨s.pre.toArray⟩, .string ⟨s.name.toArray⟩, .string ⟨s.suf.toArray⟩, .string ⟨s.post.toArray⟩, .int .i64 s.fr, .int .i64 s.to_, .int .i64 s.side, .int .i64 s.ax, .int .i64 s.ay, .int .i64 s.bx, .int .i64 s.by_] := rfl
set_option maxRecDepth 100000 in
theorem srhas_any (s : Sr) (p : Int) (W : World) : Calls Tryz.prog 30 #[srV s, .int .i64 p] W fun e w' => e = .returned (.bool (s.hasQ p)) ∧ Ext W w' := by
 obtain ⟨R, hR⟩ : ∃ R, s.hasQ p = R := ⟨_, rfl⟩
 have hH : R = (s.side == 3 || ((s.side == 1) == (p == 1))) := by rw [← hR]; rfl
 rw [hR]
 clear hR
 rw [srV_eq]
 generalize s.side = sd at *
 obtain ⟨x, hx⟩ : ∃ t, (sd == 3) = t := ⟨_, rfl⟩
 obtain ⟨y, hy⟩ : ∃ t, (sd == 1) = t := ⟨_, rfl⟩
 obtain ⟨z, hz⟩ : ∃ t, (p == 1) = t := ⟨_, rfl⟩
 rw [hx, hy, hz] at hH
 replace hH := Lib.hid hH
 cases x with
 | true =>
  go_enter Tryz.func30, Tryz.ntmps30
  go_wp2_with fail
  go_ret
  exact ⟨by rw [hH.out]; rfl, (Ext.refl W).alloc _⟩
 | false =>
  cases y <;> cases z
  all_goals
   go_enter Tryz.func30, Tryz.ntmps30
   go_wp2_with fail
   go_ret
   exact ⟨by rw [hH.out]; rfl, (Ext.refl W).alloc _⟩
set_option maxRecDepth 100000 in
set_option maxHeartbeats 1000000 in
theorem srnum_any (s : Sr) (hN : s.Num) (p : Int) (W : World) : Calls Tryz.prog 35 #[srV s, .int .i64 p] W fun e w' => e = .returned (.tuple #[.int .i64 (s.low p), .int .i64 (s.high p), .bool (s.isQ p)]) ∧ Ext W w' := by
 have HH := Lib.hid (fun w => srhas_any s p w)
 have h1 := hN.f1
 have h2 := hN.ft
 have h3 := hN.t9
 obtain ⟨L, hL⟩ : ∃ L, s.low p = L := ⟨_, rfl⟩
 obtain ⟨H, hHi⟩ : ∃ H, s.high p = H := ⟨_, rfl⟩
 obtain ⟨Q, hQ⟩ : ∃ Q, s.isQ p = Q := ⟨_, rfl⟩
 have eL : L = if s.fr.tmod 2 = p then s.fr else s.fr + 1 := by rw [← hL]; rfl
 have eH : H = if s.to_.tmod 2 = p then s.to_ else s.to_ - 1 := by rw [← hHi]; rfl
 have eQ : Q = (s.hasQ p && decide (L ≤ H)) := by rw [← hQ, ← hL, ← hHi]; rfl
 rw [hL, hHi, hQ]
 clear hL hHi hQ hN
 rw [srV_eq] at HH ⊢
 generalize s.hasQ p = q at *
 generalize s.fr = fr at *
 generalize s.to_ = to_ at *
 have w1 : IntKind.i64.wrap (fr + 1) = fr + 1 := by rw [IntKind.wrap_i64]; omega
 have w2 : IntKind.i64.wrap (to_ - 1) = to_ - 1 := by rw [IntKind.wrap_i64]; omega
 obtain ⟨x, hx⟩ : ∃ t, (fr.tmod 2 != p) = t := ⟨_, rfl⟩
 obtain ⟨y, hy⟩ : ∃ t, (to_.tmod 2 != p) = t := ⟨_, rfl⟩
 obtain ⟨d, hd⟩ : ∃ t, decide (L ≤ H) = t := ⟨_, rfl⟩
 rw [hd] at eQ
 replace eQ := Lib.hid eQ
 have X0 := Lib.hid ((Ext.refl W).alloc (.cells #[.string ⟨s.state.toArray⟩, .string ⟨s.city.toArray⟩, .string ⟨s.pre.toArray⟩, .string ⟨s.name.toArray⟩, .string ⟨s.suf.toArray⟩, .string ⟨s.post.toArray⟩, .int .i64 fr, .int .i64 to_, .int .i64 s.side, .int .i64 s.ax, .int .i64 s.ay, .int .i64 s.bx, .int .i64 s.by_] 25))
 have eL2 : L = if x = true then fr + 1 else fr := by
  rw [eL, ← hx]
  by_cases h : fr.tmod 2 = p
  ·rw [if_pos h, if_neg (by simp [h])]
  ·rw [if_neg h, if_pos (by simp [h])]
 have eH2 : H = if y = true then to_ - 1 else to_ := by
  rw [eH, ← hy]
  by_cases h : to_.tmod 2 = p
  ·rw [if_pos h, if_neg (by simp [h])]
  ·rw [if_neg h, if_pos (by simp [h])]
 clear eL eH h1 h2 h3
 cases x <;> cases y
 all_goals
  simp only [Bool.false_eq_true, if_false, if_true] at eL2 eH2
  subst eL2 eH2
  cases q
  all_goals
   go_enter Tryz.func35, Tryz.ntmps35
   go_upto_region 1 with (fail)
   go_region
   go_wp2_with fail
   refine (HH.out _).mono ?_
   rintro e w1 ⟨rfl, hx1⟩
   go_wp2_with fail
   exact bodyPost_ret (results_tmp3 rfl _ _ _) rfl ⟨by rw [eQ.out]; rfl, (X0.out.drew).trans hx1⟩
end Go.Proofs.YtjaponmpfdpemaaGreatDoor
set_option linter.unusedSimpArgs false
set_option linter.unusedVariables false
namespace Go.Proofs.YtjaponmpfdpemaaGreatDoor
open Go.RowKit
theorem own_sep {w : World} {b b' : Nat} {e e' : TypeId} {s s' n n' : Nat} {v v' : Value} {xs xs' : List Value} (h : w.ownsRow b e s v n xs) (h' : w.ownsRow b' e' s' v' n' xs') (hne : e ≠ e') : v.ownBlock = none ∨ v.ownBlock ≠ v'.ownBlock := by
 rcases h.2 with ⟨rfl, _⟩ | ⟨g, cap, cur, rfl, _, hh, _⟩
 ·exact .inl rfl
 ·refine .inr fun he => ?_
  rcases h'.2 with ⟨rfl, _⟩ | ⟨g', cap', cur', rfl, _, hh', _⟩
  ·simp [Value.ownBlock] at he
  ·have : g = g' := by simpa [Value.ownBlock] using he
   subst this
   exact Blk.ne_ (t := e) hh (show Blk w g e' cur' from hh') hne rfl
theorem own_put {w : World} {base g n c : Nat} {e : TypeId} {xs : List Value} (h : w.ownsRow base e 1 (.slice (some ⟨g, 0, none⟩) n c) n xs) {k : Nat} (hk : k < n) (u : Value) : (w.setCell ⟨g, k, none⟩ u).ownsRow base e 1 (.slice (some ⟨g, 0, none⟩) n c) n (xs.set k u) := by
 refine ⟨by rw [List.length_set]; exact h.1, ?_⟩
 rcases h.2 with ⟨e0, _⟩ | ⟨g', cap, cur, e1, hb, hh, hn, hm, hs, ht⟩
 ·cases e0
 ·injection e1 with e1 _ e3
  injection e1 with e1
  injection e1 with e1
  subst e1 e3
  refine .inr ⟨g, c, cur.setIfInBounds k u, rfl, hb, Blk.set_ (t := e) hh k u, hn, hm, by rw [Array.size_setIfInBounds]; exact hs, ?_⟩
  rw [Array.toList_setIfInBounds, List.take_set, ht]
theorem own_cell {w : World} {base g n c : Nat} {e : TypeId} {xs : List Value} (h : w.ownsRow base e 1 (.slice (some ⟨g, 0, none⟩) n c) n xs) {k : Nat} (hk : k < xs.length) : w.cell? ⟨g, k, none⟩ = some xs[k] ∧ w.frozen? ⟨g, k, none⟩ = false ∧ g < w.heap.size ∧ base ≤ g := by
 rcases h.2 with ⟨e0, _⟩ | ⟨g', cap, cur, e1, hb, hh, hn, hm, hs, ht⟩
 ·cases e0
 ·injection e1 with e1 _ e3
  injection e1 with e1
  injection e1 with e1
  subst e1 e3
  have B : Blk w g e cur := hh
  refine ⟨?_, B.frozen k, B.lt, hb⟩
  have h1 := h.cells (g := g) rfl k xs[k] (List.getElem?_eq_getElem hk)
  rw [add_flat, Nat.zero_add] at h1
  exact h1
theorem partsP_snoc (t : Tok) : ∀ l : List Tok, partsP (l ++ [t]) = if t.k = 4 then partsP l ++ [[]] else (partsP l).dropLast ++ [(partsP l).getLastD [] ++ [t]]
 | [] => by
  by_cases h : t.k = 4
  ·simp [partsP, h]
  ·simp [partsP, h]
 | a :: l => by
  have ih := partsP_snoc t l
  have hne : partsP l ≠ [] := by
   have := (partsP_len l).1
   intro e
   rw [e] at this
   simp at this
  rw [List.cons_append, partsP, partsP, ih]
  by_cases ha : a.k = 4
  ·rw [if_pos ha, if_pos ha]
   by_cases h : t.k = 4
   ·rw [if_pos h, if_pos h]; rfl
   ·rw [if_neg h, if_neg h]
    cases hp : partsP l with
    | nil => exact absurd hp hne
    | cons p r => simp [List.getLastD_eq_getLast?]
  ·rw [if_neg ha, if_neg ha]
   cases hp : partsP l with
   | nil => exact absurd hp hne
   | cons p r =>
    by_cases h : t.k = 4
    ·rw [if_pos h, if_pos h]; rfl
    ·rw [if_neg h, if_neg h]
     cases r with
     | nil => simp
     | cons q r => simp [List.getLastD_eq_getLast?]
structure PaAt (w0 w : World) (v : Value) (es : List Value) (ps : List (List Tok)) : Prop where
 ext : Ext w0 w
 row : w.ownsRow w0.heap.size 87 1 v es.length es
 len : es.length = ps.length
 el : ∀ i (h : i < es.length) (h' : i < ps.length), w.ownsRow w0.heap.size 105 2 es[i] ps[i].length (tokCells ps[i])
 apart : ∀ i j (h : i < es.length) (h' : j < es.length), i ≠ j → es[i].ownBlock = none ∨ es[i].ownBlock ≠ es[j].ownBlock
theorem PaAt.to {w0 w w' : World} {v : Value} {es : List Value} {ps : List (List Tok)} (h : PaAt w0 w v es ps) (hx : Ext w w') : PaAt w0 w' v es ps :=
 ⟨h.ext.trans hx, own_ext h.row hx, h.len, fun i a b => own_ext (h.el i a b) hx, h.apart⟩
theorem PaAt.begin_ {w0 w w' : World} {v v' z : Value} {es : List Value} {ps : List (List Tok)} (h : PaAt w0 w v es ps) (hg : Grew w0 (w.alloc (.cells #[.slice none 0 0] 87)) w' 87 1 z v v' (es.length + 1) (es ++ #[Value.slice none 0 0].toList)) : PaAt w0 w' v' (es ++ [.slice none 0 0]) (ps ++ [[]]) := by
 have H := h.to ((Ext.refl w).alloc (.cells #[.slice none 0 0] 87))
 have hlen := h.len
 refine ⟨hg.ext, by rw [List.length_append]; exact hg.own, by simp [hlen], fun i hi hi' => ?_, fun i j hi hj hne => ?_⟩
 ·by_cases hil : i < es.length
  ·rw [List.getElem_append_left hil, List.getElem_append_left (by omega)]
   exact (H.el i hil (by omega)).kept hg.grown (own_sep (H.el i hil (by omega)) H.row (by decide))
  ·have e1 : i = es.length := by rw [List.length_append, List.length_singleton] at hi; omega
   subst e1
   rw [List.getElem_append_right (Nat.le_refl _)]
   simp only [hlen, List.getElem_append_right, Nat.le_refl, Nat.sub_self, List.getElem_singleton]
   exact World.ownsRow_nil _ _ _ _
 ·by_cases hil : i < es.length
  ·rw [List.getElem_append_left hil]
   by_cases hjl : j < es.length
   ·rw [List.getElem_append_left hjl]; exact h.apart i j hil hjl hne
   ·have e1 : j = es.length := by rw [List.length_append, List.length_singleton] at hj; omega
    subst e1
    rw [List.getElem_append_right (Nat.le_refl _)]
    simp only [Nat.sub_self, List.getElem_singleton]
    cases he : es[i].ownBlock with
    | none => exact .inl rfl
    | some x => exact .inr (by simp [Value.ownBlock])
  ·have e1 : i = es.length := by rw [List.length_append, List.length_singleton] at hi; omega
   subst e1
   rw [List.getElem_append_right (Nat.le_refl _)]
   simp only [Nat.sub_self, List.getElem_singleton]
   exact .inl rfl
theorem PaAt.more {w0 w w' : World} {g c m : Nat} {v' z : Value} {es : List Value} {ps : List (List Tok)} {t : Tok} (h : PaAt w0 w (.slice (some ⟨g, 0, none⟩) es.length c) es ps) (hm : m + 1 = es.length) (hmp : m < ps.length)
  (hg : Grew w0 (w.alloc (.cells #[.int .i64 t.k, .string ⟨t.t.toArray⟩] 105)) w' 105 2 z es[m] v' (ps[m].length + 1) (tokCells ps[m] ++ #[Value.int .i64 t.k, .string ⟨t.t.toArray⟩].toList)) :
  PaAt w0 (w'.setCell ⟨g, m, none⟩ v') (.slice (some ⟨g, 0, none⟩) es.length c) (es.set m v') (ps.dropLast ++ [ps.getLastD [] ++ [t]]) ∧ w'.cell? ⟨g, m, none⟩ = some es[m] ∧ w'.frozen? ⟨g, m, none⟩ = false ∧ g < w'.heap.size := by
 have H := h.to ((Ext.refl w).alloc (.cells #[.int .i64 t.k, .string ⟨t.t.toArray⟩] 105))
 have hlen := h.len
 have hM := H.el m (by omega) hmp
 have hrow' : w'.ownsRow w0.heap.size 87 1 (.slice (some ⟨g, 0, none⟩) es.length c) es.length es := H.row.kept hg.grown (own_sep H.row hM (by decide))
 have hlast : ps.getLastD [] = ps[m] := by
  rw [List.getLastD_eq_getLast?, List.getLast?_eq_getElem?, show ps.length - 1 = m by omega, List.getElem?_eq_getElem hmp]
  rfl
 have hown : w'.ownsRow w0.heap.size 105 2 v' (ps[m] ++ [t]).length (tokCells (ps[m] ++ [t])) := by
  rw [List.length_append, tokCells_snoc]
  exact hg.own
 obtain ⟨k1, k2, k3, k4⟩ := own_cell hrow' (k := m) (by omega)
 have hvg : v'.ownBlock ≠ some g := by
  rcases own_sep hown hrow' (by decide) with e | e
  ·rw [e]; simp
  ·exact e
 have helse : ∀ i (hi : i < es.length) (hi' : i < ps.length), i ≠ m → (w'.setCell ⟨g, m, none⟩ v').ownsRow w0.heap.size 105 2 es[i] ps[i].length (tokCells ps[i]) := fun i hi hi' hne => by
  have h1 := (H.el i hi hi').kept hg.grown (h.apart i m hi (by omega) hne)
  refine own_set h1 (a := ⟨g, m, none⟩) ?_ v'
  rcases own_sep h1 hrow' (by decide) with e | e
  ·rw [e]; simp
  ·exact e
 refine ⟨⟨hg.ext.set (p := ⟨g, m, none⟩) k4 _, ?_, ?_, fun i hi hi' => ?_, fun i j hi hj hne => ?_⟩, k1, k2, k3⟩
 ·rw [List.length_set]; exact own_put hrow' (by omega) v'
 ·simp; omega
 ·rw [List.length_set] at hi
  by_cases him : i = m
  ·subst him
   rw [List.getElem_set_self, List.getElem_append_right (by rw [List.length_dropLast]; omega)]
   simp only [List.length_dropLast, show i - (ps.length - 1) = 0 by omega, List.getElem_cons_zero, hlast]
   exact own_set hown (a := ⟨g, i, none⟩) hvg v'
  ·rw [List.getElem_set_ne (fun e => him e.symm), List.getElem_append_left (by rw [List.length_dropLast]; omega), List.getElem_dropLast]
   exact helse i hi (by omega) him
 ·rw [List.length_set] at hi hj
  have hnew : ∀ i (hi : i < es.length), i ≠ m → (es[i].ownBlock = none ∨ es[i].ownBlock ≠ v'.ownBlock) ∧ (v'.ownBlock = none ∨ v'.ownBlock ≠ es[i].ownBlock) := fun i hi hne => by
   rcases h.apart i m hi (by omega) hne with e | e
   ·refine ⟨.inl e, ?_⟩
    rw [e]
    cases hv : v'.ownBlock with
    | none => exact .inl rfl
    | some x => exact .inr (by simp)
   ·have hlt : ∀ x, es[i].ownBlock = some x → x < (w.alloc (.cells #[.int .i64 t.k, .string ⟨t.t.toArray⟩] 105)).heap.size := fun x hx => ((H.el i hi (by omega)).lt x hx).2
    have hd : es[i].ownBlock ≠ v'.ownBlock ∨ es[i].ownBlock = none := by
     rcases hg.at_ with e2 | e2
     ·left; rw [e2]; exact e
     ·cases hx : es[i].ownBlock with
      | none => exact .inr rfl
      | some x =>
       left
       rw [e2]
       intro e3
       have := hlt x hx
       have := Option.some.inj e3
       omega
    rcases hd with hd | hd
    ·exact ⟨.inr hd, .inr hd.symm⟩
    ·refine ⟨.inl hd, ?_⟩
     rw [hd]
     cases hv : v'.ownBlock with
     | none => exact .inl rfl
     | some x => exact .inr (by simp)
  by_cases him : i = m
  ·subst him
   rw [List.getElem_set_self, List.getElem_set_ne hne]
   exact (hnew j (by rw [List.length_set] at hj; exact hj) (fun e => hne e.symm)).2
  ·rw [List.getElem_set_ne (fun e => him e.symm)]
   by_cases hjm : j = m
   ·subst hjm
    rw [List.getElem_set_self]
    exact (hnew i (by rw [List.length_set] at hi; exact hi) him).1
   ·rw [List.getElem_set_ne (fun e => hjm e.symm)]
    exact h.apart i j hi hj hne
end Go.Proofs.YtjaponmpfdpemaaGreatDoor
set_option linter.unusedSimpArgs false
set_option linter.unusedVariables false
namespace Go.Proofs.YtjaponmpfdpemaaGreatDoor
end Go.Proofs.YtjaponmpfdpemaaGreatDoor
set_option linter.unusedSimpArgs false
set_option linter.unusedVariables false
namespace Go.Proofs.YtjaponmpfdpemaaGreatDoor
theorem last_snoc (l : List Tok) (t : Tok) : (l ++ [t]).getLastD ⟨0, []⟩ = t ∧ (l ++ [t]).dropLast = l := ⟨by simp [List.getLastD_eq_getLast?], by simp⟩
theorem backP_snoc {m : List Tok} {t : Tok} {k : Int} (hm : 1 ≤ m.length) (ht : shortT t k ≠ []) : backP (m ++ [t]) k = (m, shortT t k) := by
 obtain ⟨a, b⟩ := last_snoc m t
 unfold backP
 rw [a, b, if_pos ⟨by rw [List.length_append, List.length_singleton]; omega, ht⟩]
def keepC (l : List Tok) (k : Int) : Prop := l.length < 2 ∨ shortT (l.getLastD ⟨0, []⟩) k = []
theorem backP_keep {l : List Tok} {k : Int} (h : keepC l k) : backP l k = (l, []) := by
 unfold backP
 rw [if_neg]
 rintro ⟨a, b⟩
 rcases h with h | h
 ·omega
 ·exact b h
theorem backP_form (l : List Tok) (k : Int) : ((backP l k).2 = [] ∧ (backP l k).1 = l ∧ keepC l k) ∨ ((backP l k).2 ≠ [] ∧ ∃ t, l = (backP l k).1 ++ [t] ∧ shortT t k = (backP l k).2 ∧ t ∈ l) := by
 by_cases h : 2 ≤ l.length ∧ shortT (l.getLastD ⟨0, []⟩) k ≠ []
 ·right
  have hl : l ≠ [] := by intro e; rw [e] at h; simp at h
  have e : backP l k = (l.dropLast, shortT (l.getLastD ⟨0, []⟩) k) := by unfold backP; rw [if_pos h]
  have hg : l.getLastD ⟨0, []⟩ = l.getLast hl := by rw [List.getLastD_eq_getLast?, List.getLast?_eq_some_getLast hl]; rfl
  rw [e]
  refine ⟨h.2, l.getLastD ⟨0, []⟩, ?_, rfl, ?_⟩
  ·rw [hg]; exact (List.dropLast_concat_getLast hl).symm
  ·rw [hg]; exact List.getLast_mem hl
 ·left
  have hk : keepC l k := by
   by_cases h1 : l.length < 2
   ·exact .inl h1
   ·right
    exact Classical.byContradiction fun e => h ⟨by omega, e⟩
  rw [backP_keep hk]
  exact ⟨rfl, rfl, hk⟩
theorem frontP_cons {m : List Tok} {t : Tok} {k : Int} (hm : 1 ≤ m.length) (ht : shortT t k ≠ []) : frontP (t :: m) k = (m, shortT t k) := by
 unfold frontP
 rw [if_pos ⟨by rw [List.length_cons]; omega, ht⟩]
 rfl
theorem frontP_form (l : List Tok) (k : Int) : ((frontP l k).2 = [] ∧ (frontP l k).1 = l ∧ frontP l k = (l, [])) ∨ ((frontP l k).2 ≠ [] ∧ ∃ t, l = t :: (frontP l k).1 ∧ shortT t k = (frontP l k).2) := by
 by_cases h : 2 ≤ l.length ∧ shortT (l.headD ⟨0, []⟩) k ≠ []
 ·right
  have e : frontP l k = (l.tail, shortT (l.headD ⟨0, []⟩) k) := by unfold frontP; rw [if_pos h]
  rw [e]
  refine ⟨h.2, l.headD ⟨0, []⟩, ?_, rfl⟩
  cases l with
  | nil => simp at h
  | cons t l => rfl
 ·left
  have e : frontP l k = (l, []) := by unfold frontP; rw [if_neg h]
  rw [e]
  exact ⟨rfl, rfl, rfl⟩
def wd (x : Bs) : List Tok := if x = [] then [] else [⟨1, x⟩]
theorem suf_no : (wordsP 1).all (fun p => (shortP 2 p.s).1 == [] && (shortP 4 p.s).1 == []) = true ∧ (wordsP 2).all (fun p => (shortP 4 p.s).1 == []) = true := by decide +kernel
theorem short_of_own {k : Int} {x : Bs} (ho : (shortP k x).1 = x) (h0 : x ≠ []) : ∃ p ∈ wordsP k, x = p.s := by
 have h2 : (shortP k x).2 = true := by
  cases he : (shortP k x).2 with
  | true => rfl
  | false => rw [shortP_none he] at ho; exact absurd ho.symm h0
 obtain ⟨p, hp, e⟩ := shortP_mem h2
 exact ⟨p, hp, by rw [← ho, e]⟩
theorem suf_not {x : Bs} (ho : (shortP 1 x).1 = x) (h0 : x ≠ []) : (shortP 2 x).1 = [] ∧ (shortP 4 x).1 = [] := by
 obtain ⟨p, hp, rfl⟩ := short_of_own ho h0
 have := List.all_eq_true.1 suf_no.1 p hp
 simpa using this
theorem lastD_app {a b : List Tok} (hb : b ≠ []) : (a ++ b).getLastD ⟨0, []⟩ = b.getLastD ⟨0, []⟩ := by
 rw [List.getLastD_eq_getLast?, List.getLastD_eq_getLast?, List.getLast?_append, List.getLast?_eq_some_getLast hb]
 rfl
theorem unit_two {l : List Tok} {x y : Tok} : (l ++ [x, y]).drop ((l ++ [x, y]).length - 2) = [x, y] := by
 rw [show (l ++ [x, y]).length - 2 = l.length by simp]
 exact List.drop_left
theorem unitP_no {x y : Tok} (h5 : x.k ≠ 5) (h : shortT x 4 = []) : (unitP [x, y]).2 = false := by
 unfold unitP
 by_cases h1 : y.k = 5 ∨ y.k = 4
 ·simp only [if_pos h1]
 ·simp only [if_neg h1, if_neg h5, h]
  rfl
theorem unitP_was {x y : Tok} (h : (unitP [x, y]).2 = false) (hy : y.k ≠ 5 ∧ y.k ≠ 4) : shortT x 4 = [] := by
 unfold unitP at h
 simp only [if_neg (show ¬(y.k = 5 ∨ y.k = 4) by omega)] at h
 by_cases h5 : x.k = 5
 ·simp only [if_pos h5] at h; cases h
 ·simp only [if_neg h5] at h
  simpa using h
theorem hash_short : shortT tHash 1 = [] ∧ shortT tHash 2 = [] ∧ shortT tComma 1 = [] ∧ shortT tComma 2 = [] := by decide +kernel
theorem street_body {l1 N : List Tok} {pre suf post : Bs} {inner' : Bool} (hl : ∀ t ∈ l1, TokIs t) (l2 : List Tok) (hl2 : ∀ t ∈ l2, t ∈ l1)
  (hpost : (backP l2 2).2 = post) (hsuf : (backP (backP l2 2).1 1).2 = suf) (hpre : (frontP (backP (backP l2 2).1 1).1 2).2 = pre) (hN : (frontP (backP (backP l2 2).1 1).1 2).1 = N)
  (hN0 : N ≠ []) (hNk : kindOf N [1, 2, 3] = true) (o1 : (shortP 2 pre).1 = pre) (o2 : (shortP 1 suf).1 = suf) (o3 : (shortP 2 post).1 = post)
  (hin : inner' = true → l2 = l1 ∧ (2 < l1.length → (unitP (l1.drop (l1.length - 2))).2 = false)) :
  (inner' && decide (2 < (wd pre ++ N ++ wd suf ++ wd post).length) && (unitP ((wd pre ++ N ++ wd suf ++ wd post).drop ((wd pre ++ N ++ wd suf ++ wd post).length - 2))).2) = false ∧
  backP (wd pre ++ N ++ wd suf ++ wd post) 2 = (wd pre ++ N ++ wd suf, post) ∧ backP (wd pre ++ N ++ wd suf) 1 = (wd pre ++ N, suf) ∧ frontP (wd pre ++ N) 2 = (N, pre) := by
 have hNl : 1 ≤ N.length := by cases N with | nil => exact absurd rfl hN0 | cons _ _ => simp
 have hpn : ∀ x : Bs, wd x = [] ↔ x = [] := fun x => by unfold wd; by_cases h : x = [] <;> simp [h]
 have hws : ∀ x : Bs, x ≠ [] → wd x = [⟨1, x⟩] := fun x h => by unfold wd; rw [if_neg h]
 have hw0 : wd [] = [] := rfl
 have hNlast : ∀ P : List Tok, (P ++ N).getLastD ⟨0, []⟩ = N.getLastD ⟨0, []⟩ := fun P => lastD_app hN0
 -- what the first reading was
 have hF := frontP_form (backP (backP l2 2).1 1).1 2
 have hS := backP_form (backP l2 2).1 1
 have hP := backP_form l2 2
 rw [hpre, hN] at hF
 rw [hsuf] at hS
 rw [hpost] at hP
 generalize hm2 : (backP (backP l2 2).1 1).1 = m2 at *
 generalize hm1 : (backP l2 2).1 = m1 at *
 have hF' : ∃ P0 : List Tok, m2 = P0 ++ N ∧ P0.length = (wd pre).length ∧ (pre = [] → P0 = [] ∧ frontP N 2 = (N, [])) := by
  rcases hF with ⟨a, b, c⟩ | ⟨a, t, b, _⟩
  ·refine ⟨[], by rw [List.nil_append]; exact b.symm, by rw [a]; rfl, fun _ => ⟨rfl, ?_⟩⟩
   rw [b]; exact c
  ·exact ⟨[t], b, by rw [hws _ a]; rfl, fun e => absurd e a⟩
 obtain ⟨P0, eP, lP, kP⟩ := hF'
 have hm2l : m2.length = (wd pre ++ N).length := by rw [eP, List.length_append, List.length_append, lP]
 have hm2last : m2.getLastD ⟨0, []⟩ = (wd pre ++ N).getLastD ⟨0, []⟩ := by rw [eP, hNlast, hNlast]
 refine ⟨?_, ?_, ?_, ?_⟩
 ·cases hi : inner' with
  | false => rfl
  | true =>
   obtain ⟨e12, hU⟩ := hin hi
   subst e12
   rw [Bool.true_and]
   by_cases h2 : 2 < (wd pre ++ N ++ wd suf ++ wd post).length
   rotate_left
   ·rw [decide_eq_false h2, Bool.false_and]
   rw [decide_eq_true h2, Bool.true_and]
   -- the last of the name
   obtain ⟨N0, x, eN⟩ : ∃ N0 x, N = N0 ++ [x] := ⟨N.dropLast, N.getLast hN0, (List.dropLast_concat_getLast hN0).symm⟩
   have hxk : x.k ≠ 5 := kindOf_ne hNk (k := 5) (by decide) x (by rw [eN]; simp)
   by_cases hs0 : suf = []
   ·rw [hs0, hw0, List.append_nil] at h2 ⊢
    rcases hS with ⟨_, e1, _⟩ | ⟨a, _⟩
    rotate_left
    ·exact absurd hs0 a
    by_cases hp0 : post = []
    ·rw [hp0, hw0, List.append_nil] at h2 ⊢
     rcases hP with ⟨_, e2, _⟩ | ⟨a, _⟩
     rotate_left
     ·exact absurd hp0 a
     have hll : l2 = P0 ++ N := by rw [← e2, ← e1, eP]
     have hN2 : N0 ≠ [] := by
      intro e
      rw [e, List.nil_append] at eN
      rw [eN] at h2
      have : (wd pre).length ≤ 1 := by unfold wd; split <;> simp
      simp at h2
      omega
     obtain ⟨N1, z, eN0⟩ : ∃ N1 z, N0 = N1 ++ [z] := ⟨N0.dropLast, N0.getLast hN2, (List.dropLast_concat_getLast hN2).symm⟩
     have eW : wd pre ++ N = (wd pre ++ N1) ++ [z, x] := by rw [eN, eN0]; simp
     have eL : l2 = (P0 ++ N1) ++ [z, x] := by rw [hll, eN, eN0]; simp
     have h3 := hU (by rw [hll, List.length_append, lP, ← List.length_append]; exact h2)
     rw [eL, unit_two] at h3
     rw [eW, unit_two]
     exact h3
    ·rcases hP with ⟨a, _⟩ | ⟨_, y, e2, hy, hym⟩
     ·exact absurd a hp0
     have hll : l2 = (P0 ++ N) ++ [y] := by rw [e2, ← e1, eP]
     have eL : l2 = (P0 ++ N0) ++ [x, y] := by rw [hll, eN]; simp
     have eW : wd pre ++ N ++ wd post = (wd pre ++ N0) ++ [x, ⟨1, post⟩] := by rw [hws _ hp0, eN]; simp
     have h3 := hU (by
      rw [hws _ hp0] at h2
      simp only [List.length_append, List.length_singleton] at h2
      rw [hll]
      simp only [List.length_append, List.length_singleton, lP]
      exact h2)
     rw [eL, unit_two] at h3
     rw [eW, unit_two]
     refine unitP_no hxk (unitP_was h3 ⟨fun e => ?_, fun e => ?_⟩)
     ·have := (hl y hym).hash e
      rw [this, hash_short.2.1] at hy
      exact hp0 hy.symm
     ·have := (hl y hym).comma e
      rw [this, hash_short.2.2.2] at hy
      exact hp0 hy.symm
   ·rcases hS with ⟨a, _⟩ | ⟨_, y, e1, hy, hym⟩
    ·exact absurd a hs0
    by_cases hp0 : post = []
    ·rw [hp0, hw0, List.append_nil] at h2 ⊢
     rcases hP with ⟨_, e2, _⟩ | ⟨a, _⟩
     rotate_left
     ·exact absurd hp0 a
     have hll : l2 = (P0 ++ N) ++ [y] := by rw [← e2, e1, eP]
     have eL : l2 = (P0 ++ N0) ++ [x, y] := by rw [hll, eN]; simp
     have eW : wd pre ++ N ++ wd suf = (wd pre ++ N0) ++ [x, ⟨1, suf⟩] := by rw [hws _ hs0, eN]; simp
     have h3 := hU (by
      rw [hws _ hs0] at h2
      simp only [List.length_append, List.length_singleton] at h2
      rw [hll]
      simp only [List.length_append, List.length_singleton, lP]
      exact h2)
     rw [eL, unit_two] at h3
     rw [eW, unit_two]
     have hym' : y ∈ l2 := by rw [← e2]; exact hym
     refine unitP_no hxk (unitP_was h3 ⟨fun e => ?_, fun e => ?_⟩)
     ·have := (hl y hym').hash e
      rw [this, hash_short.1] at hy
      exact hs0 hy.symm
     ·have := (hl y hym').comma e
      rw [this, hash_short.2.2.1] at hy
      exact hs0 hy.symm
    ·have eW : wd pre ++ N ++ wd suf ++ wd post = (wd pre ++ N) ++ [⟨1, suf⟩, ⟨1, post⟩] := by rw [hws _ hs0, hws _ hp0]; simp
     rw [eW, unit_two]
     exact unitP_no (by show (1 : Int) ≠ 5; decide) (suf_not o2 hs0).2
 ·by_cases hp0 : post = []
  ·rw [hp0, hw0, List.append_nil]
   refine backP_keep ?_
   by_cases hs0 : suf = []
   ·rw [hs0, hw0, List.append_nil]
    rcases hP with ⟨_, e2, hk⟩ | ⟨a, _⟩
    rotate_left
    ·exact absurd hp0 a
    rcases hS with ⟨_, e1, _⟩ | ⟨a, _⟩
    rotate_left
    ·exact absurd hs0 a
    unfold keepC at hk ⊢
    rw [← hm2l, ← hm2last, e1, e2]
    exact hk
   ·right
    rw [hws _ hs0, (last_snoc _ _).1]
    exact (suf_not o2 hs0).1
  ·rw [hws _ hp0]
   have := backP_snoc (m := wd pre ++ N ++ wd suf) (t := ⟨1, post⟩) (k := 2) (by simp only [List.length_append]; omega) (by show (shortP 2 post).1 ≠ []; rw [o3]; exact hp0)
   rw [this]
   show (_, (shortP 2 post).1) = _
   rw [o3]
 ·by_cases hs0 : suf = []
  ·rw [hs0, hw0, List.append_nil]
   rcases hS with ⟨_, e1, hk⟩ | ⟨a, _⟩
   rotate_left
   ·exact absurd hs0 a
   refine backP_keep ?_
   unfold keepC at hk ⊢
   rw [← hm2l, ← hm2last, e1]
   exact hk
  ·rw [hws _ hs0]
   have := backP_snoc (m := wd pre ++ N) (t := ⟨1, suf⟩) (k := 1) (by simp only [List.length_append]; omega) (by show (shortP 1 suf).1 ≠ []; rw [o2]; exact hs0)
   rw [this]
   show (_, (shortP 1 suf).1) = _
   rw [o2]
 ·by_cases hp0 : pre = []
  ·rw [hp0, hw0, List.nil_append]
   exact (kP hp0).2
  ·rw [hws _ hp0]
   have := frontP_cons (m := N) (t := ⟨1, pre⟩) (k := 2) hNl (by show (shortP 2 pre).1 ≠ []; rw [o1]; exact hp0)
   rw [List.singleton_append, this]
   show (_, (shortP 2 pre).1) = _
   rw [o1]
end Go.Proofs.YtjaponmpfdpemaaGreatDoor
