/-
  What stays beside a book that is added to; a map from IDs to tax lines.
-/
import Derived.Test.YtehkmngbknbbaaaEu
import Derived.Test.YtehkmngbknbbaaaEt
set_option linter.unusedVariables false
namespace Go.Proofs.Ytehkmngbknbbaaa
open Go.RowKit Go.Maps

/-- A row that a book does not turn. -/
structure Beside (F : List Nat) (W : World) (base : Nat) (e : TypeId) (size : Nat) (v : Value) (n : Nat) (xs : List Value) : Prop where
  own : W.ownsRow base e size v n xs
  out : ∀ g, v.ownBlock = some g → g ∉ F
theorem Beside.to {F : List Nat} {W W' : World} {base : Nat} {e : TypeId} {size : Nat} {v : Value} {n : Nat} {xs : List Value} (h : Beside F W base e size v n xs) (hx : Ext W W') : Beside F W' base e size v n xs := ⟨own_ext h.own hx, h.out⟩
/-- Added, in short: the book behind it, and what it may turn. -/
structure Step (F F' : List Nat) (W W' : World) : Prop where
  chg : Chg F W W'
  foot : ∀ g ∈ F', g ∈ F ∨ W.heap.size ≤ g
theorem Beside.step {F F' : List Nat} {W W' : World} {base : Nat} {e : TypeId} {size : Nat} {v : Value} {n : Nat} {xs : List Value} (h : Beside F W base e size v n xs) (hs : Step F F' W W') : Beside F' W' base e size v n xs :=
  ⟨hs.chg.own h.own h.out, fun g hg hm => by
    rcases hs.foot g hm with h1 | h1
    · exact h.out g hg h1
    · have := (h.own.lt g hg).2; omega⟩
theorem Step.pre {F F' : List Nat} {W W1 W' : World} (hx : Ext W W1) (h : Step F F' W1 W') : Step F F' W W' :=
  ⟨(Chg.ext hx).trans h.chg, fun g hg => by
    rcases h.foot g hg with h1 | h1
    · exact .inl h1
    · exact .inr (Nat.le_trans hx.size h1)⟩
theorem Step.post {F F' : List Nat} {W W1 W' : World} (h : Step F F' W W1) (hx : Ext W1 W') : Step F F' W W' := ⟨h.chg.then_ext hx, h.foot⟩
theorem Beside.new {F : List Nat} {W W' : World} {base : Nat} {e : TypeId} {size : Nat} {v : Value} {n : Nat} {xs : List Value} (hF : ∀ g ∈ F, g < W.heap.size) (h : W'.ownsRow W.heap.size e size v n xs) (hb : base ≤ W.heap.size) : Beside F W' base e size v n xs :=
  ⟨own_base h hb, fun g hg hm => by have a1 := (h.lt g hg).1; have a2 := hF g hm; omega⟩

/-- How a slice reads. -/
def sliceR : Value → Option (DataW Unit × List MemPlace)
  | .slice none 0 0 => some (.nil, [])
  | .slice (some ⟨g, 0, none⟩) n c => some (.agg [.lit (.int .u64 (g : Int)), .lit (.int .u64 (n : Int)), .lit (.int .u64 (c : Int))], [])
  | _ => none
theorem sliceR_inj {v v' : Value} {d : DataW Unit} {ps ps' : List MemPlace} (h : sliceR v = some (d, ps)) (h' : sliceR v' = some (d, ps')) : v = v' := by
  unfold sliceR at h h'
  split at h
  · simp only [Option.some.injEq, Prod.mk.injEq] at h
    split at h'
    · rfl
    · simp only [Option.some.injEq, Prod.mk.injEq] at h'
      rw [← h.1] at h'
      cases h'.1
    · cases h'
  · simp only [Option.some.injEq, Prod.mk.injEq] at h
    split at h'
    · simp only [Option.some.injEq, Prod.mk.injEq] at h'
      rw [← h.1] at h'
      cases h'.1
    · simp only [Option.some.injEq, Prod.mk.injEq] at h'
      rw [← h.1] at h'
      have := h'.1
      simp only [DataW.agg.injEq, List.cons.injEq, DataW.lit.injEq, Lit.int.injEq, true_and, and_true] at this
      obtain ⟨a, b, c⟩ := this
      rw [Int.ofNat.inj a, Int.ofNat.inj b, Int.ofNat.inj c]
    · cases h'
  · cases h
def sliceD (v : Value) : DataW Unit := match sliceR v with | some (d, _) => d | none => .nil
theorem own_sliceR {w : World} {base : Nat} {e : TypeId} {size n : Nat} {v : Value} {xs : List Value} (h : w.ownsRow base e size v n xs) : sliceR v = some (sliceD v, []) := by
  rcases h.2 with ⟨rfl, _⟩ | ⟨g, cap, cur, rfl, _⟩ <;> rfl
/-- A map filled one behind the other. -/
def putV (m : DataW Unit) (p : Int × DataW Unit) : DataW Unit := m.put (klI p.1) p.2
def mapV (es : List (Int × DataW Unit)) : DataW Unit := es.foldl putV (.map [])
theorem mapV_snoc (es : List (Int × DataW Unit)) (p : Int × DataW Unit) : mapV (es ++ [p]) = (mapV es).put (klI p.1) p.2 := by simp [mapV, List.foldl_append, putV]
theorem foldV_at (id : Int) : ∀ (es : List (Int × DataW Unit)) (m : DataW Unit), IsMap m → (es.map Prod.fst).Nodup →
    (es.foldl putV m).atKey (klI id) .nil = (match es.find? (fun p => decide (p.1 = id)) with | some p => p.2 | none => m.atKey (klI id) .nil)
  | [], m, _, _ => rfl
  | p :: es, m, hm, hn => by
    rw [List.foldl_cons]
    simp only [List.map_cons, List.nodup_cons] at hn
    rw [foldV_at id es (putV m p) (hm.put _ _) hn.2]
    by_cases hp : p.1 = id
    · have hnone : es.find? (fun p => decide (p.1 = id)) = none := by
        rw [List.find?_eq_none]
        intro q hq
        simp only [decide_eq_true_eq]
        intro e
        exact hn.1 (by rw [hp, ← e]; exact List.mem_map_of_mem hq)
      rw [hnone, List.find?_cons_of_pos (by simpa using hp)]
      simp only [putV]
      rw [hp]
      exact atKey_put_same hm (by trivial) _ _
    · rw [List.find?_cons_of_neg (by simpa using hp)]
      cases es.find? (fun p => decide (p.1 = id)) with
      | some q => rfl
      | none =>
        simp only [putV]
        exact atKey_put_other (klI_ne (fun e => hp e.symm)) _ _
theorem mapV_at (es : List (Int × DataW Unit)) (hn : (es.map Prod.fst).Nodup) (id : Int) : (mapV es).atKey (klI id) .nil = (match es.find? (fun p => decide (p.1 = id)) with | some p => p.2 | none => .nil) := by
  unfold mapV
  rw [foldV_at id es _ isMap_empty hn]
  rfl
theorem zeroS (w : World) : (zeroValue 49).run Try.prog w = .ok (.slice none 0 0) w := by kernel_rfl

/-- The tax lines told of each entry, kept in a map by ID. -/
structure Told (F : List Nat) (w0 W : World) (ml : Nat) (B : Bk) (es : List (Int × Value)) : Prop where
  map : W.ownsMap Try.prog 3 sliceR ml es.length (mapV (es.map fun p => (p.1, sliceD p.2)))
  len : es.length = B.length
  row : ∀ i (h : i < es.length) (h' : i < B.length), es[i].1 = B[i].e.id ∧ Beside F W w0.heap.size 46 6 es[i].2 B[i].lines.length (txCells B[i].lines)
  out : ml ∉ F
theorem Told.to {F : List Nat} {w0 W W' : World} {ml : Nat} {B : Bk} {es : List (Int × Value)} (h : Told F w0 W ml B es) (hx : Ext W W') : Told F w0 W' ml B es :=
  ⟨own_map_ext h.map hx, h.len, fun i h1 h2 => ⟨(h.row i h1 h2).1, (h.row i h1 h2).2.to hx⟩, h.out⟩
theorem Told.mlt {F : List Nat} {w0 W : World} {ml : Nat} {B : Bk} {es : List (Int × Value)} (h : Told F w0 W ml B es) : ml < W.heap.size := by
  obtain ⟨es', clock, hb, _⟩ := h.map
  exact (Array.getElem?_eq_some_iff.1 hb).1
theorem Told.step {F F' : List Nat} {w0 W W' : World} {ml : Nat} {B B' : Bk} {es : List (Int × Value)} (h : Told F w0 W ml B es) (hs : Step F F' W W') (hB : B'.map (fun x => (x.e.id, x.lines)) = B.map (fun x => (x.e.id, x.lines))) : Told F' w0 W' ml B' es := by
  have hlen : B'.length = B.length := by have := congrArg List.length hB; simpa using this
  refine ⟨?_, by rw [hlen]; exact h.len, fun i h1 h2 => ?_, fun hm => ?_⟩
  · obtain ⟨es', clock, hb, r⟩ := h.map
    exact ⟨es', clock, by rw [hs.chg.block ml (Array.getElem?_eq_some_iff.1 hb).1 h.out]; exact hb, r⟩
  · have h3 : i < B.length := by omega
    have e1 : (B'.map fun x => (x.e.id, x.lines))[i]? = (B.map fun x => (x.e.id, x.lines))[i]? := by rw [hB]
    rw [List.getElem?_map, List.getElem?_map, List.getElem?_eq_getElem h2, List.getElem?_eq_getElem h3] at e1
    simp only [Option.map_some, Option.some.injEq, Prod.mk.injEq] at e1
    have h4 := h.row i h1 h3
    rw [e1.1, e1.2]
    exact ⟨h4.1, h4.2.step hs⟩
  · rcases hs.foot ml hm with h1 | h1
    · exact h.out h1
    · have := h.mlt; omega
theorem Told.keys {F : List Nat} {w0 W : World} {ml : Nat} {B : Bk} {es : List (Int × Value)} (h : Told F w0 W ml B es) : es.map Prod.fst = B.ids := by
  apply List.ext_getElem
  · simp [Bk.ids, h.len]
  · intro i h1 h2
    have a1 : i < es.length := by simpa using h1
    have a2 : i < B.length := by rw [← h.len]; exact a1
    simp only [List.getElem_map, Bk.ids]
    exact (h.row i a1 a2).1
/-- What the map tells. -/
def lookV (es : List (Int × Value)) (id : Int) : Value := match es.find? (fun p => decide (p.1 = id)) with | some p => p.2 | none => .slice none 0 0
/-- What the map tells of an entry of the book. -/
theorem Told.look {F : List Nat} {w0 W : World} {ml : Nat} {B : Bk} {es : List (Int × Value)} (h : Told F w0 W ml B es) (hn : B.ids.Nodup) (id : Int) (hi : i64 id) (hs : (B.find id).isSome = true) :
    (Instr.lookup 94 (.map (some ml)) (.int .i64 id) false).run Try.prog W = .ok (lookV es id) W ∧ Beside F W w0.heap.size 46 6 (lookV es id) (B.lines id).length (txCells (B.lines id)) := by
  obtain ⟨v, ps, hrun, hv⟩ := h.map.lookup lawI Try.underlying94 (zeroS W) (zd := .nil) (zp := []) rfl (keyI id hi)
  rw [mapV_at _ (by rw [List.map_map]; exact (by have := h.keys; simpa [Function.comp_def] using this ▸ hn))] at hv
  obtain ⟨x, hx⟩ := Option.isSome_iff_exists.1 hs
  have hx1 := find_mem' hx
  obtain ⟨i, hi1, he⟩ := List.mem_iff_getElem.1 hx1.1
  have hi2 : i < es.length := by rw [h.len]; exact hi1
  have hr := h.row i hi2 hi1
  have h3 : es.find? (fun p => decide (p.1 = id)) = some es[i] := by
    have h4 : (es.find? (fun p => decide (p.1 = id))).isSome := by
      rw [List.find?_isSome]
      exact ⟨es[i], List.getElem_mem hi2, by simp [hr.1, he, hx1.2]⟩
    obtain ⟨q, hq⟩ := Option.isSome_iff_exists.1 h4
    have h5 := List.mem_of_find?_eq_some hq
    have h6 := List.find?_some hq
    simp only [decide_eq_true_eq] at h6
    have h7 : q = es[i] := nodup_inj (f := Prod.fst) (by rw [h.keys]; exact hn) h5 (List.getElem_mem hi2) (by rw [h6, hr.1, he, hx1.2])
    rw [hq, h7]
  have hf : (es.map fun p => (p.1, sliceD p.2)).find? (fun p => decide (p.1 = id)) = some (es[i].1, sliceD es[i].2) := by
    rw [List.find?_map]
    have : es.find? ((fun p : Int × DataW Unit => decide (p.1 = id)) ∘ fun p => (p.1, sliceD p.2)) = some es[i] := h3
    rw [this]
    rfl
  rw [hf] at hv
  simp only at hv
  have hvv : v = es[i].2 := sliceR_inj hv (own_sliceR hr.2.own)
  have hlv : lookV es id = es[i].2 := by unfold lookV; rw [h3]
  have hl : B.lines id = B[i].lines := by unfold Bk.lines; rw [hx, he]
  rw [hlv, hl, ← hvv]
  exact ⟨hrun, by rw [hvv]; exact hr.2⟩
end Go.Proofs.Ytehkmngbknbbaaa
