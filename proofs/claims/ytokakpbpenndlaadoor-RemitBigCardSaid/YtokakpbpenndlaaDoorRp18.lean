/-
  A book in memory.
-/
import Derived.Test.YtokakpbpenndlaaDoorRp14
import Derived.Test.YtokakpbpenndlaaDoorRp17
import Derived.Maps.OwnSet
import Derived.Maps.OwnOps
set_option linter.unusedVariables false
namespace Go.Proofs.YtokakpbpenndlaaDoor
open Go.RowKit Go.Maps

/-- How a pointer to an entry reads: by its block. -/
def ptrR : Value → Option (DataW Unit × List MemPlace)
  | .pointer none => some (.nil, [])
  | .pointer (some ⟨g, 0, none⟩) => some (.lit (.int .u64 (g : Int)), [])
  | _ => none
theorem ptrR_nil {v : Value} {ps : List MemPlace} (h : ptrR v = some (.nil, ps)) : v = .pointer none := by
  unfold ptrR at h
  split at h <;> simp_all
theorem ptrR_at {v : Value} {g : Nat} {ps : List MemPlace} (h : ptrR v = some (.lit (.int .u64 (g : Int)), ps)) : v = .pointer (some ⟨g, 0, none⟩) := by
  unfold ptrR at h
  split at h
  · simp at h
  · simp only [Option.some.injEq, Prod.mk.injEq, DataW.lit.injEq, Lit.int.injEq, true_and] at h
    have := h.1
    rw [show _ = g from Int.ofNat.inj this]
  · simp at h
theorem lawI : Keyed Tryd.prog 3 := int_keyed Tryd.underlying3
def klI (n : Int) : Lit := .int .i64 n
theorem keyI (n : Int) (h : i64 n) : keyOf Tryd.prog 3 (.int .i64 n) = some (klI n) := keyOf_int_mk Tryd.underlying3 (i64_wf h)
theorem zeroP (w : World) : (zeroValue 50).run Tryd.prog w = .ok (.pointer none) w := by kernel_rfl
/-- The map of a book: where each entry lies. -/
def mapF (m : DataW Unit) (p : Int × Nat) : DataW Unit := m.put (klI p.1) (.lit (.int .u64 (p.2 : Int)))
def mapD (es : List (Int × Nat)) : DataW Unit := es.foldl mapF (.map [])
theorem mapD_snoc (es : List (Int × Nat)) (p : Int × Nat) : mapD (es ++ [p]) = (mapD es).put (klI p.1) (.lit (.int .u64 (p.2 : Int))) := by simp [mapD, List.foldl_append, mapF]
theorem klI_ne {a b : Int} (h : a ≠ b) : klI a ≠ klI b := fun e => h (by simpa [klI] using e)
theorem fold_at (id : Int) : ∀ (es : List (Int × Nat)) (m : DataW Unit), IsMap m → (es.map Prod.fst).Nodup →
    (es.foldl mapF m).atKey (klI id) .nil = (match es.find? (fun p => decide (p.1 = id)) with | some p => .lit (.int .u64 (p.2 : Int)) | none => m.atKey (klI id) .nil)
  | [], m, _, _ => rfl
  | p :: es, m, hm, hn => by
    rw [List.foldl_cons]
    simp only [List.map_cons, List.nodup_cons] at hn
    rw [fold_at id es (mapF m p) (hm.put _ _) hn.2]
    by_cases hp : p.1 = id
    · have hnone : es.find? (fun p => decide (p.1 = id)) = none := by
        rw [List.find?_eq_none]
        intro q hq
        simp only [decide_eq_true_eq]
        intro e
        exact hn.1 (by rw [hp, ← e]; exact List.mem_map_of_mem hq)
      rw [hnone, List.find?_cons_of_pos (by simpa using hp)]
      simp only [mapF]
      rw [hp]
      exact atKey_put_same hm (by trivial) _ _
    · rw [List.find?_cons_of_neg (by simpa using hp)]
      cases es.find? (fun p => decide (p.1 = id)) with
      | some q => rfl
      | none =>
        simp only [mapF]
        exact atKey_put_other (klI_ne (fun e => hp e.symm)) _ _
theorem mapD_at (es : List (Int × Nat)) (hn : (es.map Prod.fst).Nodup) (id : Int) : (mapD es).atKey (klI id) .nil = (match es.find? (fun p => decide (p.1 = id)) with | some p => .lit (.int .u64 (p.2 : Int)) | none => .nil) := by
  unfold mapD
  rw [fold_at id es _ isMap_empty hn]
  rfl
theorem fold_has (id : Int) : ∀ (es : List (Int × Nat)) (m : DataW Unit), IsMap m → Maps.has (es.foldl mapF m) (klI id) = (Maps.has m (klI id) || es.any (fun p => decide (p.1 = id)))
  | [], m, _ => by simp
  | p :: es, m, hm => by
    rw [List.foldl_cons, fold_has id es (mapF m p) (hm.put _ _), List.any_cons, ← Bool.or_assoc]
    congr 1
    by_cases hp : p.1 = id
    · rw [show Maps.has (mapF m p) (klI id) = true by unfold mapF; rw [hp]; exact has_put_same hm (by trivial) _]
      simp [hp]
    · rw [show Maps.has (mapF m p) (klI id) = Maps.has m (klI id) from has_put_other (klI_ne (fun e => hp e.symm)) _]
      simp [hp]
theorem mapD_has (es : List (Int × Nat)) (id : Int) : Maps.has (mapD es) (klI id) = es.any (fun p => decide (p.1 = id)) := by
  unfold mapD
  rw [fold_has id es _ isMap_empty]
  simp [Maps.has]

/-- Where an entry lies: its block, its four slices. -/
structure Slot where
  g : Nat
  va : Value
  vt : Value
  vl : Value
  vb : Value
structure KpAt (w0 W : World) (m : Slot) (x : Kp) : Prop where
  blk : Blk W m.g 49 #[.int .i64 x.e.k, .int .i64 x.e.id, .int .i64 x.e.of_, .int .i64 x.e.day, m.va, m.vt, m.vl, m.vb, .bool x.voided]
  oa : W.ownsRow w0.heap.size 3 1 m.va x.e.am.length (iV x.e.am)
  ot : W.ownsRow w0.heap.size 27 6 m.vt x.e.tax.length (txCells x.e.tax)
  ol : W.ownsRow w0.heap.size 27 6 m.vl x.lines.length (txCells x.lines)
  ob : W.ownsRow w0.heap.size 3 1 m.vb x.back.length (iV x.back)
  ge : w0.heap.size ≤ m.g
theorem KpAt.ext {w0 W W' : World} {m : Slot} {x : Kp} (h : KpAt w0 W m x) (hx : Ext W W') : KpAt w0 W' m x :=
  ⟨h.blk.ext hx, own_ext h.oa hx, own_ext h.ot hx, own_ext h.ol hx, own_ext h.ob hx, h.ge⟩
abbrev BkM := List (Kp × Slot)
def BkM.b (M : BkM) : Bk := M.map Prod.fst
def BkM.find (M : BkM) (id : Int) : Option (Kp × Slot) := M.find? fun p => decide (p.1.e.id = id)
theorem BkM.find_b (M : BkM) (id : Int) : M.b.find id = (M.find id).map Prod.fst := by
  unfold BkM.b Bk.find BkM.find
  rw [List.find?_map]
  rfl
def BkM.keys (M : BkM) : List (Int × Nat) := M.map fun p => (p.1.e.id, p.2.g)
def BkM.rows (vids : Value) (M : BkM) : List Value := vids :: M.flatMap fun p => [p.2.va, p.2.vb]
/-- A book in memory. -/
structure BookAt (w0 W : World) (bb mb : Nat) (vids : Value) (M : BkM) : Prop where
  blk : Blk W bb 46 #[vids, .map (some mb)]
  map : W.ownsMap Tryd.prog 3 ptrR mb M.length (mapD M.keys)
  ids : W.ownsRow w0.heap.size 3 1 vids M.length (iV M.b.ids)
  all : ∀ p ∈ M, KpAt w0 W p.2 p.1
  nodup : M.b.ids.Nodup
  gnd : (M.map fun p => p.2.g).Nodup
  apart : (BkM.rows vids M).Pairwise Apart
  ok : ∀ p ∈ M, p.1.ok
  geb : w0.heap.size ≤ bb
  gem : w0.heap.size ≤ mb
theorem own_map_ext {w w' : World} {k : TypeId} {R : Value → Option (DataW Unit × List MemPlace)} {b n : Nat} {D : DataW Unit} (h : w.ownsMap Tryd.prog k R b n D) (hx : Ext w w') : w'.ownsMap Tryd.prog k R b n D := by
  obtain ⟨es, clock, hb, r⟩ := h
  exact ⟨es, clock, by rw [hx.block b (Array.getElem?_eq_some_iff.1 hb).1]; exact hb, r⟩
theorem BookAt.ext {w0 W W' : World} {bb mb : Nat} {vids : Value} {M : BkM} (h : BookAt w0 W bb mb vids M) (hx : Ext W W') : BookAt w0 W' bb mb vids M :=
  ⟨h.blk.ext hx, own_map_ext h.map hx, own_ext h.ids hx, fun p hp => (h.all p hp).ext hx, h.nodup, h.gnd, h.apart, h.ok, h.geb, h.gem⟩
/-- The pointer that a look-up gives. -/
def BkM.ptr (M : BkM) (id : Int) : Value := match M.find id with | some p => .pointer (some ⟨p.2.g, 0, none⟩) | none => .pointer none
theorem keys_find (M : BkM) (id : Int) : M.keys.find? (fun p => decide (p.1 = id)) = (M.find id).map fun p => (p.1.e.id, p.2.g) := by
  unfold BkM.keys BkM.find
  rw [List.find?_map]
  rfl
theorem keys_ids (M : BkM) : M.keys.map Prod.fst = M.b.ids := by simp [BkM.keys, BkM.b, Bk.ids, Function.comp_def]
theorem BookAt.look {w0 W : World} {bb mb : Nat} {vids : Value} {M : BkM} (h : BookAt w0 W bb mb vids M) (id : Int) (hi : i64 id) :
    (Instr.lookup 44 (.map (some mb)) (.int .i64 id) false).run Tryd.prog W = .ok (M.ptr id) W := by
  obtain ⟨v, ps, hrun, hv⟩ := h.map.lookup lawI Tryd.underlying44 (zeroP W) (zd := .nil) (zp := []) rfl (keyI id hi)
  rw [hrun]
  rw [mapD_at _ (by rw [keys_ids]; exact h.nodup), keys_find] at hv
  unfold BkM.ptr
  cases hf : M.find id with
  | none => rw [hf] at hv; rw [ptrR_nil hv]
  | some p => rw [hf] at hv; rw [ptrR_at hv]
theorem BookAt.look_ok {w0 W : World} {bb mb : Nat} {vids : Value} {M : BkM} (h : BookAt w0 W bb mb vids M) (id : Int) (hi : i64 id) :
    (Instr.lookup 44 (.map (some mb)) (.int .i64 id) true).run Tryd.prog W = .ok (.tuple #[M.ptr id, .bool (M.find id).isSome]) W := by
  obtain ⟨v, ps, hrun, hv⟩ := h.map.look_ok lawI Tryd.underlying44 (zeroP W) (zd := .nil) (zp := []) rfl (keyI id hi)
  rw [hrun]
  rw [mapD_at _ (by rw [keys_ids]; exact h.nodup), keys_find] at hv
  have hh : Maps.has (mapD M.keys) (klI id) = (M.find id).isSome := by
    rw [mapD_has]
    unfold BkM.keys BkM.find
    rw [List.any_map, Bool.eq_iff_iff, List.any_eq_true, List.find?_isSome]
    rfl
  rw [hh]
  unfold BkM.ptr
  cases hf : M.find id with
  | none => rw [hf] at hv; rw [ptrR_nil hv]
  | some p => rw [hf] at hv; rw [ptrR_at hv]
theorem BkM.find_mem {M : BkM} {id : Int} {p : Kp × Slot} (h : M.find id = some p) : p ∈ M ∧ p.1.e.id = id := by
  unfold BkM.find at h
  exact ⟨List.mem_of_find?_eq_some h, by simpa using List.find?_some h⟩

set_option maxRecDepth 100000 in
set_option maxHeartbeats 1000000 in
theorem none_any {w0 W : World} {bb mb : Nat} {vids : Value} {M : BkM} (h : BookAt w0 W bb mb vids M) :
    Calls Tryd.prog 32 #[.pointer (some ⟨bb, 0, none⟩)] W fun e w' => e = .returned (.bool false) ∧ W = w' := by
  obtain ⟨q, q'⟩ := h.blk.cells
  clear h
  have hm := fun W : World => run_eql_map_nil (P := Tryd.prog) W 44 3 50 (some mb) Tryd.underlying44
  go_enter Tryd.func32, Tryd.ntmps32
  go_wp2_with fail
  go_ret
  exact ⟨rfl, rfl⟩

/-- The pointer to a sale. -/
def BkM.saleM (M : BkM) (id : Int) : Option (Kp × Slot) := (M.find id).filter fun p => decide (p.1.e.k = 1)
def BkM.saleP (M : BkM) (id : Int) : Value := match M.saleM id with | some p => .pointer (some ⟨p.2.g, 0, none⟩) | none => .pointer none
theorem BkM.sale_b (M : BkM) (id : Int) : M.b.sale id = (M.saleM id).map Prod.fst := by
  unfold Bk.sale BkM.saleM
  rw [BkM.find_b]
  cases M.find id with
  | none => rfl
  | some p => simp [Option.filter]
theorem BkM.saleM_mem {M : BkM} {id : Int} {p : Kp × Slot} (h : M.saleM id = some p) : p ∈ M ∧ p.1.e.id = id ∧ p.1.e.k = 1 := by
  unfold BkM.saleM at h
  rw [Option.filter_eq_some_iff] at h
  obtain ⟨h1, h2⟩ := BkM.find_mem h.1
  exact ⟨h1, h2, by simpa using h.2⟩
set_option maxRecDepth 100000 in
set_option maxHeartbeats 1000000 in
theorem sale_any {w0 W : World} {bb mb : Nat} {vids : Value} {M : BkM} (h : BookAt w0 W bb mb vids M) (id : Int) (hi : i64 id) :
    Calls Tryd.prog 18 #[.pointer (some ⟨bb, 0, none⟩), .int .i64 id] W fun e w' => e = .returned (M.saleP id) ∧ W = w' := by
  have hl := h.look_ok id hi
  obtain ⟨q, q'⟩ := h.blk.cells
  have HB := Lib.hid h
  cases hf : M.find id with
  | none =>
    have hP := Lib.hid (show M.saleP id = .pointer none by unfold BkM.saleP BkM.saleM; rw [hf]; rfl)
    have hp0 : M.ptr id = .pointer none := by unfold BkM.ptr; rw [hf]
    rw [hf, hp0] at hl
    simp only [Option.isSome_none] at hl
    clear hf hp0 h
    go_enter Tryd.func18, Tryd.ntmps18
    go_wp2_with (go_at_call 32; refine (none_any HB.out).mono ?_; rintro e w' ⟨rfl, rfl⟩)
    go_ret
    exact ⟨by rw [hP.out]; rfl, rfl⟩
  | some p =>
    have hp0 : M.ptr id = .pointer (some ⟨p.2.g, 0, none⟩) := by unfold BkM.ptr; rw [hf]
    rw [hf, hp0] at hl
    simp only [Option.isSome_some] at hl
    obtain ⟨k, k'⟩ := (h.all p (BkM.find_mem hf).1).blk.cells
    by_cases hk : p.1.e.k = 1
    · have hP := Lib.hid (show M.saleP id = .pointer (some ⟨p.2.g, 0, none⟩) by unfold BkM.saleP BkM.saleM; rw [hf]; simp [Option.filter, hk])
      have hb : (p.1.e.k == 1) = true := by simp [hk]
      replace hk := Lib.hid hk
      clear hf hp0 h
      go_enter Tryd.func18, Tryd.ntmps18
      go_wp2_with (go_at_call 32; refine (none_any HB.out).mono ?_; rintro e w' ⟨rfl, rfl⟩)
      go_ret
      exact ⟨by rw [hP.out]; rfl, rfl⟩
    · have hP := Lib.hid (show M.saleP id = .pointer none by unfold BkM.saleP BkM.saleM; rw [hf]; simp [Option.filter, hk])
      have hb : (p.1.e.k == 1) = false := by simpa using hk
      replace hk := Lib.hid hk
      clear hf hp0 h
      go_enter Tryd.func18, Tryd.ntmps18
      go_wp2_with (go_at_call 32; refine (none_any HB.out).mono ?_; rintro e w' ⟨rfl, rfl⟩)
      go_ret
      exact ⟨by rw [hP.out]; rfl, rfl⟩
end Go.Proofs.YtokakpbpenndlaaDoor
