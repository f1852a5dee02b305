/-
  The reference's Check and Bytes; the chapter's small order.
-/
import Derived.Test.YtokakpbpenndlaaGreatDoorRt06
import Derived.Deep.RegionLaw
import Derived.Test.YtokakpbpenndlaaGreatDoorRt11
import Derived.Test.YtokakpbpenndlaaGreatDoorRt09
import Derived.LaidEql
import Derived.Maps.OwnSet
import Derived.Maps.OwnOps
set_option linter.unusedVariables false
namespace Go.Proofs.YtokakpbpenndlaaGreatDoor
open Go.RowKit

theorem rwithin_any (n lo hi : Int) (w : World) :
    Calls Tryz.prog 192 #[.int .i64 n, .int .i64 lo, .int .i64 hi] w fun e w' => e = .returned (.bool (win n lo hi)) ∧ w = w' := by
  unfold win
  by_cases h1 : lo ≤ n <;> by_cases h2 : n ≤ hi
  all_goals
    go_enter Tryz.func192, Tryz.ntmps192
    go_wp2
    go_ret
    exact ⟨ret_bool (by simp [h1, h2]), rfl⟩
end Go.Proofs.YtokakpbpenndlaaGreatDoor

set_option linter.unusedVariables false
namespace Go.Proofs.YtokakpbpenndlaaGreatDoor
open Go.RowKit
end Go.Proofs.YtokakpbpenndlaaGreatDoor

set_option linter.unusedVariables false
namespace Go.Proofs.YtokakpbpenndlaaGreatDoor
open Go.RowKit Go.ChangeShapes Go.WideShapes Go.Deep

theorem opens_i : Opens Tryz.prog 3 (fun _ cs => ∃ n : Int, cs = [.int .i64 n] ∧ i64 n) :=
  (opens_int Tryz.underlying3).mono fun _ cs ⟨n, h, hw⟩ => ⟨n, h, by
    simp [Lit.wf, IntKind.min, IntKind.max, IntKind.signed, IntKind.bits] at hw
    exact hw⟩
theorem opens_point : Opens Tryz.prog 241 (fun _ cs => ∃ x y : Int, cs = [.int .i64 x, .int .i64 y] ∧ i64 x ∧ i64 y) :=
  (opens_fields Tryz.underlying241 (.cons 1 opens_i (by kernel_rfl) (.cons 1 opens_i (by kernel_rfl) .nil)) (by kernel_rfl)).mono fun w cs h => by
    obtain ⟨_, _, rfl, _, ⟨x, rfl, hx⟩, _, _, rfl, _, ⟨y, rfl, hy⟩, rfl⟩ := h
    exact ⟨x, y, rfl, hx, hy⟩
end Go.Proofs.YtokakpbpenndlaaGreatDoor

namespace Go.Proofs.YtokakpbpenndlaaGreatDoor
open Go.RowKit Go.ChangeShapes Go.WideShapes Go.Deep

theorem iV_flat (l : List Int) : l.flatMap (fun n => [Value.int .i64 n]) = iV l := by
  unfold iV
  induction l with
  | nil => rfl
  | cons a l ih => rw [List.flatMap_cons, ih]; rfl
theorem opens_ints : Opens Tryz.prog 50 (fun w cs => ∃ (A : Option Addr) (cap : Nat) (l : List Int), cs = [.slice A l.length cap] ∧ l.length ≤ cap ∧ cap ≤ maxLen ∧ (∀ n ∈ l, i64 n) ∧ Reads w w.heap.size 1 A l.length (iV l)) :=
  (opens_slice 1 Tryz.underlying50 (by kernel_rfl) (by decide) opens_i).mono fun w cs h => by
    obtain ⟨A, cap, l, h1, h2, h3, hp, h4⟩ := SliceOf.list (code := fun n : Int => [Value.int .i64 n]) (p := i64) h (fun x ⟨b, hb, hi⟩ => ⟨b, hb, hi⟩)
    exact ⟨A, cap, l, h1, h2, h3, hp, by rw [iV_flat] at h4; exact h4⟩
def Tx.i64 (x : Tx) : Prop := Go.Proofs.YtokakpbpenndlaaGreatDoor.i64 x.l ∧ Go.Proofs.YtokakpbpenndlaaGreatDoor.i64 x.j ∧ Go.Proofs.YtokakpbpenndlaaGreatDoor.i64 x.t ∧ Go.Proofs.YtokakpbpenndlaaGreatDoor.i64 x.x ∧ Go.Proofs.YtokakpbpenndlaaGreatDoor.i64 x.r ∧ Go.Proofs.YtokakpbpenndlaaGreatDoor.i64 x.v
theorem opens_tax : Opens Tryz.prog 117 (fun _ cs => ∃ x : Tx, cs = x.cl ∧ x.i64) :=
  (opens_fields Tryz.underlying117 (.cons 1 opens_i (by kernel_rfl) (.cons 1 opens_i (by kernel_rfl) (.cons 1 opens_i (by kernel_rfl) (.cons 1 opens_i (by kernel_rfl) (.cons 1 opens_i (by kernel_rfl) (.cons 1 opens_i (by kernel_rfl) .nil)))))) (by kernel_rfl)).mono fun w cs h => by
    obtain ⟨_, _, rfl, _, ⟨a, rfl, h1⟩, _, _, rfl, _, ⟨b, rfl, h2⟩, _, _, rfl, _, ⟨c, rfl, h3⟩, _, _, rfl, _, ⟨d, rfl, h4⟩, _, _, rfl, _, ⟨e, rfl, h5⟩, _, _, rfl, _, ⟨f, rfl, h6⟩, rfl⟩ := h
    exact ⟨⟨a, b, c, d, e, f⟩, rfl, h1, h2, h3, h4, h5, h6⟩
theorem opens_taxs : Opens Tryz.prog 47 (fun w cs => ∃ (A : Option Addr) (cap : Nat) (l : List Tx), cs = [.slice A l.length cap] ∧ l.length ≤ cap ∧ cap ≤ maxLen ∧ (∀ x ∈ l, x.i64) ∧ Reads w w.heap.size 6 A l.length (txCells l)) :=
  (opens_slice 6 Tryz.underlying47 (by kernel_rfl) (by decide) opens_tax).mono fun w cs h =>
    SliceOf.list (code := Tx.cl) (p := Tx.i64) h (fun x ⟨l, hl, hp⟩ => ⟨l, hl, hp⟩)
end Go.Proofs.YtokakpbpenndlaaGreatDoor

set_option linter.unusedVariables false
namespace Go.Proofs.YtokakpbpenndlaaGreatDoor
open Go.RowKit

theorem row_tx : RowT Tryz.prog 47 117 6 48 (.agg #[.int .i64 0, .int .i64 0, .int .i64 0, .int .i64 0, .int .i64 0, .int .i64 0]) := rowT_mk Tryz.underlying47 (by kernel_rfl) rfl (by decide)
theorem bwithin_any (n lo hi : Int) (w : World) :
    Calls Tryz.prog 140 #[.int .i64 n, .int .i64 lo, .int .i64 hi] w fun e w' => e = .returned (.bool (win n lo hi)) ∧ w = w' := by
  unfold win
  by_cases h1 : lo ≤ n <;> by_cases h2 : n ≤ hi
  all_goals
    go_enter Tryz.func140, Tryz.ntmps140
    go_wp2
    go_ret
    exact ⟨ret_bool (by simp [h1, h2]), rfl⟩
theorem many_any (n : Nat) (A : Option Addr) (cap : Nat) (w : World) (hn : n ≤ 9223372036854775807) :
    Calls Tryz.prog 232 #[.slice A n cap] w fun e w' => e = .returned (.bool (win (n : Int) 1 100)) ∧ w = w' := by
  go_enter Tryz.func232, Tryz.ntmps232
  go_wp2_with (go_at_call 140; refine (bwithin_any _ _ _ _).mono ?_; rintro e w' ⟨rfl, rfl⟩)
  go_ret
  exact ⟨rfl, rfl⟩

/-- Cloned: in memory of its own. -/
theorem cloneInts_any (l : List Int) (n : Nat) (A : Option Addr) (cap : Nat) (w : World) (hn : l.length = n) (hr : Reads w w.heap.size 1 A n (iV l)) (hm : n ≤ 1000000) :
    Calls Tryz.prog 59 #[.slice A n cap] w fun e w' => ∃ A' c', e = .returned (.slice A' n c') ∧ w'.ownsRow w.heap.size 3 1 (.slice A' n c') n (iV l) ∧ Ext w w' := by
  have hk := fun W : World => Lib.run_eql_slice_nil (P := Tryz.prog) W 50 3 A n cap 0 0 Tryz.underlying50
  rcases A with _ | a
  · have h0 : n = 0 := by
      rcases Nat.eq_zero_or_pos n with h0 | h0
      · exact h0
      · obtain ⟨b, off, e, _⟩ := hr.2 h0; cases e
    subst h0
    have hl : l = [] := List.eq_nil_of_length_eq_zero hn
    subst hl
    simp only [Option.isNone_none] at hk
    clear hr hn
    go_enter Tryz.func59, Tryz.ntmps59
    go_wp2
    go_ret
    exact ⟨none, 0, rfl, World.ownsRow_nil _ _ _ _, Ext.refl _⟩
  · simp only [Option.isNone_some] at hk
    have RR := Lib.hid (fun o1 : Obj => hr.ext ((Ext.refl w).alloc o1))
    clear hr
    replace hn := Lib.hid hn
    go_enter Tryz.func59, Tryz.ntmps59
    go_wp2_with (at_builtin; refine wpl_app row_int w _ (.tmp 5) (.tmp 6) rfl rfl rfl (own_lit (Ext.refl w) #[] _ 0 1 rfl (by simp [maxLen]) rfl) ((Ext.refl w).alloc _) rfl (RR.out _) (iV_one _) (by omega) (by unfold maxLen; omega) ?_; intro v1 w1 hg; obtain ⟨A1, c1, rfl, _, _, _⟩ := own_slice hg.own)
    go_ret
    refine ⟨A1, c1, by simp, ?_, hg.ext⟩
    have := hg.own
    simpa using this
theorem cloneTax_any (l : List Tx) (n : Nat) (A : Option Addr) (cap : Nat) (w : World) (hn : l.length = n) (hr : Reads w w.heap.size 6 A n (txCells l)) (hm : n ≤ 1000000) :
    Calls Tryz.prog 60 #[.slice A n cap] w fun e w' => ∃ A' c', e = .returned (.slice A' n c') ∧ w'.ownsRow w.heap.size 117 6 (.slice A' n c') n (txCells l) ∧ Ext w w' := by
  have hk := fun W : World => Lib.run_eql_slice_nil (P := Tryz.prog) W 47 117 A n cap 0 0 Tryz.underlying47
  rcases A with _ | a
  · have h0 : n = 0 := by
      rcases Nat.eq_zero_or_pos n with h0 | h0
      · exact h0
      · obtain ⟨b, off, e, _⟩ := hr.2 h0; cases e
    subst h0
    have hl : l = [] := List.eq_nil_of_length_eq_zero hn
    subst hl
    simp only [Option.isNone_none] at hk
    clear hr hn
    go_enter Tryz.func60, Tryz.ntmps60
    go_wp2
    go_ret
    exact ⟨none, 0, rfl, World.ownsRow_nil _ _ _ _, Ext.refl _⟩
  · simp only [Option.isNone_some] at hk
    have RR := Lib.hid (fun o1 : Obj => hr.ext ((Ext.refl w).alloc o1))
    clear hr
    replace hn := Lib.hid hn
    go_enter Tryz.func60, Tryz.ntmps60
    go_wp2_with (at_builtin; refine wpl_app row_tx w _ (.tmp 5) (.tmp 6) rfl rfl rfl (own_lit (Ext.refl w) #[] _ 0 6 rfl (by simp [maxLen]) rfl) ((Ext.refl w).alloc _) rfl (RR.out _) (txCells_one _) (by omega) (by unfold maxLen; omega) ?_; intro v1 w1 hg; obtain ⟨A1, c1, rfl, _, _, _⟩ := own_slice hg.own)
    go_ret
    refine ⟨A1, c1, by simp, ?_, hg.ext⟩
    have := hg.own
    simpa using this

theorem reads_int {w : World} {B n : Nat} {A : Option Addr} {l : List Int} (h : Reads w B 1 A n (iV l)) {k : Nat} (hk : k < l.length) (hn : n = l.length) : ∃ b off, A = some ⟨b, off, none⟩ ∧ b < B ∧ w.cell? ⟨b, off + k, none⟩ = some (.int .i64 l[k]) := by
  subst hn
  obtain ⟨b, off, u, h1, h2, h3, h4⟩ := h.at_ hk
  refine ⟨b, off, h1, h2, ?_⟩
  rw [h4, ← h3]
  simp [iV, hk]

end Go.Proofs.YtokakpbpenndlaaGreatDoor

set_option linter.unusedVariables false
namespace Go.Proofs.YtokakpbpenndlaaGreatDoor
open Go.RowKit Go.Maps

/-- How a pointer to an entry reads: by its block. -/
def ptrR : Value → Option (DataW Unit × List MemPlace)
  | .pointer none => some (.nil, [])
  | .pointer (some ⟨g, 0, none⟩) => some (.lit (.int .u64 (g : Int)), [])
  | _ => none
theorem ptrR_nil {v : Value} {ps : List MemPlace} (h : ptrR v = some (.nil, ps)) : v = .pointer none := by
  unfold ptrR at h
  split at h <;> simp_all
theorem ptrR_at {v : Value} {g : Nat} {ps : List MemPlace} (h : ptrR v = some (.lit (.int .u64 (g : Int)), ps)) : v = .pointer (some ⟨g, 0, none⟩) := by
  unfold ptrR at h
  split at h
  · simp at h
  · simp only [Option.some.injEq, Prod.mk.injEq, DataW.lit.injEq, Lit.int.injEq, true_and] at h
    have := h.1
    rw [show _ = g from Int.ofNat.inj this]
  · simp at h
theorem lawI : Keyed Tryz.prog 3 := int_keyed Tryz.underlying3
def klI (n : Int) : Lit := .int .i64 n
theorem keyI (n : Int) (h : i64 n) : keyOf Tryz.prog 3 (.int .i64 n) = some (klI n) := keyOf_int_mk Tryz.underlying3 (i64_wf h)
theorem zeroP (w : World) : (zeroValue 112).run Tryz.prog w = .ok (.pointer none) w := by kernel_rfl
/-- The map of a book: where each entry lies. -/
def mapF (m : DataW Unit) (p : Int × Nat) : DataW Unit := m.put (klI p.1) (.lit (.int .u64 (p.2 : Int)))
def mapD (es : List (Int × Nat)) : DataW Unit := es.foldl mapF (.map [])
theorem mapD_snoc (es : List (Int × Nat)) (p : Int × Nat) : mapD (es ++ [p]) = (mapD es).put (klI p.1) (.lit (.int .u64 (p.2 : Int))) := by simp [mapD, List.foldl_append, mapF]
theorem klI_ne {a b : Int} (h : a ≠ b) : klI a ≠ klI b := fun e => h (by simpa [klI] using e)
theorem fold_at (id : Int) : ∀ (es : List (Int × Nat)) (m : DataW Unit), IsMap m → (es.map Prod.fst).Nodup →
    (es.foldl mapF m).atKey (klI id) .nil = (match es.find? (fun p => decide (p.1 = id)) with | some p => .lit (.int .u64 (p.2 : Int)) | none => m.atKey (klI id) .nil)
  | [], m, _, _ => rfl
  | p :: es, m, hm, hn => by
    rw [List.foldl_cons]
    simp only [List.map_cons, List.nodup_cons] at hn
    rw [fold_at id es (mapF m p) (hm.put _ _) hn.2]
    by_cases hp : p.1 = id
    · have hnone : es.find? (fun p => decide (p.1 = id)) = none := by
        rw [List.find?_eq_none]
        intro q hq
        simp only [decide_eq_true_eq]
        intro e
        exact hn.1 (by rw [hp, ← e]; exact List.mem_map_of_mem hq)
      rw [hnone, List.find?_cons_of_pos (by simpa using hp)]
      simp only [mapF]
      rw [hp]
      exact atKey_put_same hm (by trivial) _ _
    · rw [List.find?_cons_of_neg (by simpa using hp)]
      cases es.find? (fun p => decide (p.1 = id)) with
      | some q => rfl
      | none =>
        simp only [mapF]
        exact atKey_put_other (klI_ne (fun e => hp e.symm)) _ _
theorem mapD_at (es : List (Int × Nat)) (hn : (es.map Prod.fst).Nodup) (id : Int) : (mapD es).atKey (klI id) .nil = (match es.find? (fun p => decide (p.1 = id)) with | some p => .lit (.int .u64 (p.2 : Int)) | none => .nil) := by
  unfold mapD
  rw [fold_at id es _ isMap_empty hn]
  rfl
theorem fold_has (id : Int) : ∀ (es : List (Int × Nat)) (m : DataW Unit), IsMap m → Maps.has (es.foldl mapF m) (klI id) = (Maps.has m (klI id) || es.any (fun p => decide (p.1 = id)))
  | [], m, _ => by simp
  | p :: es, m, hm => by
    rw [List.foldl_cons, fold_has id es (mapF m p) (hm.put _ _), List.any_cons, ← Bool.or_assoc]
    congr 1
    by_cases hp : p.1 = id
    · rw [show Maps.has (mapF m p) (klI id) = true by unfold mapF; rw [hp]; exact has_put_same hm (by trivial) _]
      simp [hp]
    · rw [show Maps.has (mapF m p) (klI id) = Maps.has m (klI id) from has_put_other (klI_ne (fun e => hp e.symm)) _]
      simp [hp]
theorem mapD_has (es : List (Int × Nat)) (id : Int) : Maps.has (mapD es) (klI id) = es.any (fun p => decide (p.1 = id)) := by
  unfold mapD
  rw [fold_has id es _ isMap_empty]
  simp [Maps.has]

/-- Where an entry lies: its block, its four slices. -/
structure Slot where
  g : Nat
  va : Value
  vt : Value
  vl : Value
  vb : Value
structure KpAt (w0 W : World) (m : Slot) (x : Kp) : Prop where
  blk : Blk W m.g 111 #[.int .i64 x.e.k, .int .i64 x.e.id, .int .i64 x.e.of_, .int .i64 x.e.day, m.va, m.vt, m.vl, m.vb, .bool x.voided]
  oa : W.ownsRow w0.heap.size 3 1 m.va x.e.am.length (iV x.e.am)
  ot : W.ownsRow w0.heap.size 117 6 m.vt x.e.tax.length (txCells x.e.tax)
  ol : W.ownsRow w0.heap.size 117 6 m.vl x.lines.length (txCells x.lines)
  ob : W.ownsRow w0.heap.size 3 1 m.vb x.back.length (iV x.back)
  ge : w0.heap.size ≤ m.g
theorem KpAt.ext {w0 W W' : World} {m : Slot} {x : Kp} (h : KpAt w0 W m x) (hx : Ext W W') : KpAt w0 W' m x :=
  ⟨h.blk.ext hx, own_ext h.oa hx, own_ext h.ot hx, own_ext h.ol hx, own_ext h.ob hx, h.ge⟩
abbrev BkM := List (Kp × Slot)
def BkM.b (M : BkM) : Bk := M.map Prod.fst
def BkM.find (M : BkM) (id : Int) : Option (Kp × Slot) := M.find? fun p => decide (p.1.e.id = id)
theorem BkM.find_b (M : BkM) (id : Int) : M.b.find id = (M.find id).map Prod.fst := by
  unfold BkM.b Bk.find BkM.find
  rw [List.find?_map]
  rfl
def BkM.keys (M : BkM) : List (Int × Nat) := M.map fun p => (p.1.e.id, p.2.g)
def BkM.rows (vids : Value) (M : BkM) : List Value := vids :: M.flatMap fun p => [p.2.va, p.2.vb]
/-- A book in memory. -/
structure BookAt (w0 W : World) (bb mb : Nat) (vids : Value) (M : BkM) : Prop where
  blk : Blk W bb 66 #[vids, .map (some mb)]
  map : W.ownsMap Tryz.prog 3 ptrR mb M.length (mapD M.keys)
  ids : W.ownsRow w0.heap.size 3 1 vids M.length (iV M.b.ids)
  all : ∀ p ∈ M, KpAt w0 W p.2 p.1
  nodup : M.b.ids.Nodup
  gnd : (M.map fun p => p.2.g).Nodup
  apart : (BkM.rows vids M).Pairwise Apart
  ok : ∀ p ∈ M, p.1.ok
  geb : w0.heap.size ≤ bb
  gem : w0.heap.size ≤ mb
theorem own_map_ext {w w' : World} {k : TypeId} {R : Value → Option (DataW Unit × List MemPlace)} {b n : Nat} {D : DataW Unit} (h : w.ownsMap Tryz.prog k R b n D) (hx : Ext w w') : w'.ownsMap Tryz.prog k R b n D := by
  obtain ⟨es, clock, hb, r⟩ := h
  exact ⟨es, clock, by rw [hx.block b (Array.getElem?_eq_some_iff.1 hb).1]; exact hb, r⟩
theorem BookAt.ext {w0 W W' : World} {bb mb : Nat} {vids : Value} {M : BkM} (h : BookAt w0 W bb mb vids M) (hx : Ext W W') : BookAt w0 W' bb mb vids M :=
  ⟨h.blk.ext hx, own_map_ext h.map hx, own_ext h.ids hx, fun p hp => (h.all p hp).ext hx, h.nodup, h.gnd, h.apart, h.ok, h.geb, h.gem⟩
/-- The pointer that a look-up gives. -/
def BkM.ptr (M : BkM) (id : Int) : Value := match M.find id with | some p => .pointer (some ⟨p.2.g, 0, none⟩) | none => .pointer none
theorem keys_find (M : BkM) (id : Int) : M.keys.find? (fun p => decide (p.1 = id)) = (M.find id).map fun p => (p.1.e.id, p.2.g) := by
  unfold BkM.keys BkM.find
  rw [List.find?_map]
  rfl
theorem keys_ids (M : BkM) : M.keys.map Prod.fst = M.b.ids := by simp [BkM.keys, BkM.b, Bk.ids, Function.comp_def]
theorem BookAt.look {w0 W : World} {bb mb : Nat} {vids : Value} {M : BkM} (h : BookAt w0 W bb mb vids M) (id : Int) (hi : i64 id) :
    (Instr.lookup 64 (.map (some mb)) (.int .i64 id) false).run Tryz.prog W = .ok (M.ptr id) W := by
  obtain ⟨v, ps, hrun, hv⟩ := h.map.lookup lawI Tryz.underlying64 (zeroP W) (zd := .nil) (zp := []) rfl (keyI id hi)
  rw [hrun]
  rw [mapD_at _ (by rw [keys_ids]; exact h.nodup), keys_find] at hv
  unfold BkM.ptr
  cases hf : M.find id with
  | none => rw [hf] at hv; rw [ptrR_nil hv]
  | some p => rw [hf] at hv; rw [ptrR_at hv]
theorem BookAt.look_ok {w0 W : World} {bb mb : Nat} {vids : Value} {M : BkM} (h : BookAt w0 W bb mb vids M) (id : Int) (hi : i64 id) :
    (Instr.lookup 64 (.map (some mb)) (.int .i64 id) true).run Tryz.prog W = .ok (.tuple #[M.ptr id, .bool (M.find id).isSome]) W := by
  obtain ⟨v, ps, hrun, hv⟩ := h.map.look_ok lawI Tryz.underlying64 (zeroP W) (zd := .nil) (zp := []) rfl (keyI id hi)
  rw [hrun]
  rw [mapD_at _ (by rw [keys_ids]; exact h.nodup), keys_find] at hv
  have hh : Maps.has (mapD M.keys) (klI id) = (M.find id).isSome := by
    rw [mapD_has]
    unfold BkM.keys BkM.find
    rw [List.any_map, Bool.eq_iff_iff, List.any_eq_true, List.find?_isSome]
    rfl
  rw [hh]
  unfold BkM.ptr
  cases hf : M.find id with
  | none => rw [hf] at hv; rw [ptrR_nil hv]
  | some p => rw [hf] at hv; rw [ptrR_at hv]
theorem BkM.find_mem {M : BkM} {id : Int} {p : Kp × Slot} (h : M.find id = some p) : p ∈ M ∧ p.1.e.id = id := by
  unfold BkM.find at h
  exact ⟨List.mem_of_find?_eq_some h, by simpa using List.find?_some h⟩

set_option maxRecDepth 100000 in
set_option maxHeartbeats 1000000 in
theorem none_any {w0 W : World} {bb mb : Nat} {vids : Value} {M : BkM} (h : BookAt w0 W bb mb vids M) :
    Calls Tryz.prog 87 #[.pointer (some ⟨bb, 0, none⟩)] W fun e w' => e = .returned (.bool false) ∧ W = w' := by
  obtain ⟨q, q'⟩ := h.blk.cells
  clear h
  have hm := fun W : World => run_eql_map_nil (P := Tryz.prog) W 64 3 112 (some mb) Tryz.underlying64
  go_enter Tryz.func87, Tryz.ntmps87
  go_wp2_with fail
  go_ret
  exact ⟨rfl, rfl⟩

/-- The pointer to a sale. -/
def BkM.saleM (M : BkM) (id : Int) : Option (Kp × Slot) := (M.find id).filter fun p => decide (p.1.e.k = 1)
def BkM.saleP (M : BkM) (id : Int) : Value := match M.saleM id with | some p => .pointer (some ⟨p.2.g, 0, none⟩) | none => .pointer none
theorem BkM.sale_b (M : BkM) (id : Int) : M.b.sale id = (M.saleM id).map Prod.fst := by
  unfold Bk.sale BkM.saleM
  rw [BkM.find_b]
  cases M.find id with
  | none => rfl
  | some p => simp [Option.filter]
theorem BkM.saleM_mem {M : BkM} {id : Int} {p : Kp × Slot} (h : M.saleM id = some p) : p ∈ M ∧ p.1.e.id = id ∧ p.1.e.k = 1 := by
  unfold BkM.saleM at h
  rw [Option.filter_eq_some_iff] at h
  obtain ⟨h1, h2⟩ := BkM.find_mem h.1
  exact ⟨h1, h2, by simpa using h.2⟩
set_option maxRecDepth 100000 in
set_option maxHeartbeats 1000000 in
theorem sale_any {w0 W : World} {bb mb : Nat} {vids : Value} {M : BkM} (h : BookAt w0 W bb mb vids M) (id : Int) (hi : i64 id) :
    Calls Tryz.prog 63 #[.pointer (some ⟨bb, 0, none⟩), .int .i64 id] W fun e w' => e = .returned (M.saleP id) ∧ W = w' := by
  have hl := h.look_ok id hi
  obtain ⟨q, q'⟩ := h.blk.cells
  have HB := Lib.hid h
  cases hf : M.find id with
  | none =>
    have hP := Lib.hid (show M.saleP id = .pointer none by unfold BkM.saleP BkM.saleM; rw [hf]; rfl)
    have hp0 : M.ptr id = .pointer none := by unfold BkM.ptr; rw [hf]
    rw [hf, hp0] at hl
    simp only [Option.isSome_none] at hl
    clear hf hp0 h
    go_enter Tryz.func63, Tryz.ntmps63
    go_wp2_with (go_at_call 87; refine (none_any HB.out).mono ?_; rintro e w' ⟨rfl, rfl⟩)
    go_ret
    exact ⟨by rw [hP.out]; rfl, rfl⟩
  | some p =>
    have hp0 : M.ptr id = .pointer (some ⟨p.2.g, 0, none⟩) := by unfold BkM.ptr; rw [hf]
    rw [hf, hp0] at hl
    simp only [Option.isSome_some] at hl
    obtain ⟨k, k'⟩ := (h.all p (BkM.find_mem hf).1).blk.cells
    by_cases hk : p.1.e.k = 1
    · have hP := Lib.hid (show M.saleP id = .pointer (some ⟨p.2.g, 0, none⟩) by unfold BkM.saleP BkM.saleM; rw [hf]; simp [Option.filter, hk])
      have hb : (p.1.e.k == 1) = true := by simp [hk]
      replace hk := Lib.hid hk
      clear hf hp0 h
      go_enter Tryz.func63, Tryz.ntmps63
      go_wp2_with (go_at_call 87; refine (none_any HB.out).mono ?_; rintro e w' ⟨rfl, rfl⟩)
      go_ret
      exact ⟨by rw [hP.out]; rfl, rfl⟩
    · have hP := Lib.hid (show M.saleP id = .pointer none by unfold BkM.saleP BkM.saleM; rw [hf]; simp [Option.filter, hk])
      have hb : (p.1.e.k == 1) = false := by simpa using hk
      replace hk := Lib.hid hk
      clear hf hp0 h
      go_enter Tryz.func63, Tryz.ntmps63
      go_wp2_with (go_at_call 87; refine (none_any HB.out).mono ?_; rintro e w' ⟨rfl, rfl⟩)
      go_ret
      exact ⟨by rw [hP.out]; rfl, rfl⟩
end Go.Proofs.YtokakpbpenndlaaGreatDoor

set_option linter.unusedVariables false
namespace Go.Proofs.YtokakpbpenndlaaGreatDoor
open Go.RowKit Go.Maps

/-- An entry's slices, opened. -/
structure KpOpen (W : World) (m : Slot) (x : Kp) (Aa At Al Ab : Option Addr) (ca ct cl cb : Nat) : Prop where
  va : m.va = .slice Aa x.e.am.length ca
  vt : m.vt = .slice At x.e.tax.length ct
  vl : m.vl = .slice Al x.lines.length cl
  vb : m.vb = .slice Ab x.back.length cb
  blk : Blk W m.g 111 #[.int .i64 x.e.k, .int .i64 x.e.id, .int .i64 x.e.of_, .int .i64 x.e.day, .slice Aa x.e.am.length ca, .slice At x.e.tax.length ct, .slice Al x.lines.length cl, .slice Ab x.back.length cb, .bool x.voided]
  ra : Reads W W.heap.size 1 Aa x.e.am.length (iV x.e.am)
  rt : Reads W W.heap.size 6 At x.e.tax.length (txCells x.e.tax)
  rl : Reads W W.heap.size 6 Al x.lines.length (txCells x.lines)
  rb : Reads W W.heap.size 1 Ab x.back.length (iV x.back)
  la : x.e.am.length ≤ ca ∧ ca ≤ maxLen
  lt : x.e.tax.length ≤ ct ∧ ct ≤ maxLen
  ll : x.lines.length ≤ cl ∧ cl ≤ maxLen
  lb : x.back.length ≤ cb ∧ cb ≤ maxLen
theorem KpAt.open_ {w0 W : World} {m : Slot} {x : Kp} (h : KpAt w0 W m x) : ∃ Aa At Al Ab ca ct cl cb, KpOpen W m x Aa At Al Ab ca ct cl cb := by
  obtain ⟨Aa, ca, ea, la1, la2, ra⟩ := own_slice h.oa
  obtain ⟨At, ct, et, lt1, lt2, rt⟩ := own_slice h.ot
  obtain ⟨Al, cl, el, ll1, ll2, rl⟩ := own_slice h.ol
  obtain ⟨Ab, cb, eb, lb1, lb2, rb⟩ := own_slice h.ob
  have hb := h.blk
  rw [ea, et, el, eb] at hb
  exact ⟨Aa, At, Al, Ab, ca, ct, cl, cb, ea, et, el, eb, hb, ra, rt, rl, rb, ⟨la1, la2⟩, ⟨lt1, lt2⟩, ⟨ll1, ll2⟩, ⟨lb1, lb2⟩⟩

set_option maxRecDepth 100000 in
set_option maxHeartbeats 1000000 in
theorem lines_any {w0 W : World} {bb mb : Nat} {vids : Value} {M : BkM} (h : BookAt w0 W bb mb vids M) (id : Int) (hi : i64 id) (hm : (M.b.lines id).length ≤ 1000000) :
    Calls Tryz.prog 58 #[.pointer (some ⟨bb, 0, none⟩), .int .i64 id] W fun e w' => ∃ A c, e = .returned (.slice A (M.b.lines id).length c) ∧ w'.ownsRow W.heap.size 117 6 (.slice A (M.b.lines id).length c) (M.b.lines id).length (txCells (M.b.lines id)) ∧ Ext W w' := by
  have HB := Lib.hid h
  have hl := h.look id hi
  have hF := BkM.find_b M id
  obtain ⟨q, q'⟩ := h.blk.cells
  cases hf : M.find id with
  | none =>
    rw [hf] at hF
    have hR := Lib.hid (show M.b.lines id = [] by unfold Bk.lines; rw [hF]; rfl)
    have hp0 : M.ptr id = .pointer none := by unfold BkM.ptr; rw [hf]
    rw [hp0] at hl
    clear hF hf hp0 h
    go_enter Tryz.func58, Tryz.ntmps58
    go_wp2_with fail
    refine (none_any HB.out).mono ?_
    rintro e w' ⟨rfl, rfl⟩
    go_wp2_with fail
    go_ret
    exact ⟨none, 0, by rw [hR.out]; rfl, by rw [hR.out]; exact World.ownsRow_nil _ _ _ _, Ext.refl _⟩
  | some p =>
    rw [hf] at hF
    have hR := Lib.hid (show M.b.lines id = p.1.lines by unfold Bk.lines; rw [hF]; rfl)
    have hp0 : M.ptr id = .pointer (some ⟨p.2.g, 0, none⟩) := by unfold BkM.ptr; rw [hf]
    rw [hp0] at hl
    obtain ⟨Aa, At, Al, Ab, ca, ct, cl, cb, O⟩ := (h.all p (BkM.find_mem hf).1).open_
    obtain ⟨k, k'⟩ := O.blk.cells
    have hrl := Lib.hid O.rl
    have hlm : p.1.lines.length ≤ 1000000 := by rw [← hR.out]; exact hm
    clear hF hf hp0 h O hm
    go_enter Tryz.func58, Tryz.ntmps58
    go_wp2_with fail
    refine (none_any HB.out).mono ?_
    rintro e w' ⟨rfl, rfl⟩
    go_wp2_with fail
    refine (cloneTax_any p.1.lines p.1.lines.length Al cl _ rfl hrl.out hlm).mono ?_
    rintro e w' ⟨A', c', rfl, ho, hx⟩
    go_wp2_with fail
    go_ret
    exact ⟨A', c', by rw [hR.out]; rfl, by rw [hR.out]; exact ho, hx⟩

end Go.Proofs.YtokakpbpenndlaaGreatDoor

set_option linter.unusedVariables false
namespace Go.Proofs.YtokakpbpenndlaaGreatDoor
open Go.RowKit Go.Maps

/-- An entry as a value. -/
abbrev entV (e : Ent) (Aa At : Option Addr) (ca ct : Nat) : Value := .agg #[.int .i64 e.k, .int .i64 e.id, .int .i64 e.of_, .int .i64 e.day, .slice Aa e.am.length ca, .slice At e.tax.length ct]
/-- The memory behind it. -/
structure EntR (W : World) (e : Ent) (Aa At : Option Addr) : Prop where
  ra : Reads W W.heap.size 1 Aa e.am.length (iV e.am)
  rt : Reads W W.heap.size 6 At e.tax.length (txCells e.tax)
  la : e.am.length ≤ maxLen
  lt : e.tax.length ≤ maxLen
theorem EntR.ext {W W' : World} {e : Ent} {Aa At : Option Addr} (h : EntR W e Aa At) (hx : Ext W W') : EntR W' e Aa At := ⟨h.ra.ext hx, h.rt.ext hx, h.la, h.lt⟩

set_option maxRecDepth 100000 in
set_option maxHeartbeats 1000000 in
theorem voidFine_any (e : Ent) (Aa At : Option Addr) (ca ct : Nat) (w : World) (h : EntR w e Aa At) :
    Calls Tryz.prog 235 #[entV e Aa At ca ct] w fun r w' => r = .returned (.bool e.voidFine) ∧ Ext w w' := by
  have la := h.la
  have lt := h.lt
  unfold maxLen at la lt
  have hs : (RowKit.wrap64 ((e.am.length : Int) + (e.tax.length : Int)) = 0) = (e.am.length + e.tax.length = 0) := by unfold RowKit.wrap64; apply propext; omega
  obtain ⟨r0, hr0⟩ : ∃ r0, e.voidFine = r0 := ⟨_, rfl⟩
  rw [hr0]
  unfold Ent.voidFine at hr0
  clear h
  by_cases d1 : e.of_ = 0 <;> by_cases d2 : e.day = 0 <;> by_cases d3 : e.am.length + e.tax.length = 0
  all_goals
    simp only [ne_eq, d1, d2, d3, not_true, not_false_eq_true, decide_true, decide_false, Bool.and_true, Bool.and_false] at hr0
    subst hr0
    go_enter Tryz.func235, Tryz.ntmps235
    go_wp2
    try go_ret
    first | exact ⟨rfl, (Ext.refl _).alloc _⟩ | exact ⟨ret_bool (by rw [Bool.eq_iff_iff]; simp only [Bool.and_eq_true, bne_iff_ne, ne_eq, beq_iff_eq, hs, Bool.false_eq_true, eq_self, iff_true, iff_false, not_and]; omega), (Ext.refl _).alloc _⟩

/-- Where the search for an amount stands. -/
def AnyRel (w : World) (l : List Int) (i b : Value) (wr : World) : Prop := ∃ k : Nat, k ≤ l.length ∧ i = .int .i64 (k : Int) ∧ b = .bool ((l.take k).any fun n => decide (n ≠ 0)) ∧ Ext w wr
theorem AnyRel.next {w w1 : World} {l : List Int} {k m : Nat} {v : Value} (hk : k < l.length) (hx : Ext w w1) (hv : v = .bool (((l.take k).any fun n => decide (n ≠ 0)) || (l[k] != 0))) (e : m = k + 1) : AnyRel w l (.int .i64 (m : Int)) v w1 := by
  subst e
  refine ⟨k + 1, by omega, rfl, ?_, hx⟩
  rw [hv, List.take_succ_eq_append_getElem hk, List.any_append, show (l[k] != 0) = decide (l[k] ≠ 0) by rw [Bool.eq_iff_iff]; simp]
  rw [List.any_cons, List.any_nil, Bool.or_false]
set_option maxRecDepth 100000 in
set_option maxHeartbeats 1000000 in
theorem refundFine_any (e : Ent) (Aa At : Option Addr) (ca ct : Nat) (w : World) (h : EntR w e Aa At) :
    Calls Tryz.prog 234 #[entV e Aa At ca ct] w fun r w' => r = .returned (.bool e.refundFine) ∧ Ext w w' := by
  have la := h.la
  have lt := h.lt
  have hr := h.ra
  unfold maxLen at la lt
  have HR := Lib.hid (show e.refundFine = (decide (e.of_ ≠ 0) && win (e.am.length : Int) 1 100 && (e.am.any fun n => decide (n ≠ 0)) && decide ((e.tax.length : Int) = 0)) by
    have q1 : win (e.am.length : Int) 1 100 = manyI e.am.length := by unfold win manyI; congr 1 <;> (rw [decide_eq_decide]; omega)
    have q2 : decide ((e.tax.length : Int) = 0) = decide (e.tax.length = 0) := by rw [decide_eq_decide]; omega
    rw [q1, q2]; rfl)
  have B := Blk.new w 123 #[.int .i64 e.k, .int .i64 e.id, .int .i64 e.of_, .int .i64 e.day, .slice Aa e.am.length ca, .slice At e.tax.length ct]
  have X0 := (Ext.refl w).alloc (.cells #[.int .i64 e.k, .int .i64 e.id, .int .i64 e.of_, .int .i64 e.day, .slice Aa e.am.length ca, .slice At e.tax.length ct] 123)
  have hr := hr.ext X0
  clear h
  go_enter Tryz.func234, Tryz.ntmps234
  go_wp2_with fail
  generalize w.alloc (.cells #[.int .i64 e.k, .int .i64 e.id, .int .i64 e.of_, .int .i64 e.day, .slice Aa e.am.length ca, .slice At e.tax.length ct] 123) = W0 at B X0 hr ⊢
  generalize w.heap.size = g0 at B ⊢
  have HB := Lib.hid (fun W (h : Ext W0 W) => B.ext h)
  clear B
  go_loopw [10, 3] (fun i b wr => AnyRel W0 e.am i b wr) (fun i _ _ => e.am.length - (intOf i).toNat)
  case atStart => exact ⟨0, by omega, rfl, by simp, Ext.refl _⟩
  case round =>
    obtain ⟨k, hk, rfl, rfl, hx⟩ := hrel
    by_cases hlt : k < e.am.length
    · have hd : decide ((k : Int) < (e.am.length : Int)) = true := by simp; omega
      obtain ⟨g, off, rfl, hg, c1⟩ := reads_int (hr.extB (Nat.le_refl _) hx) hlt rfl
      have HN := Lib.hid (fun v => AnyRel.next (v := v) (m := k + 1) hlt hx)
      generalize ((e.am.take k).any fun n => decide (n ≠ 0)) = d at *
      clear hr HB
      generalize e.am[k] = x at *
      rcases d with _ | _
      all_goals
        go_wp2_with fail
        go_roundw
        case rel => exact HN.out _ (by rfl) (by simp)
        case measure => simp [intOf]; omega
    · have hd : decide ((k : Int) < (e.am.length : Int)) = false := by simp; omega
      have hk' : k = e.am.length := by omega
      subst hk'
      rw [List.take_length]
      obtain ⟨q, q'⟩ := (HB.out _ hx).cells
      have X1 := X0.trans hx
      generalize (e.am.any fun n => decide (n ≠ 0)) = d at *
      clear hr HB hx
      have HR1 := HR.out
      clear HR
      by_cases d1 : e.of_ = 0
      · simp only [ne_eq, d1, not_true, decide_false, Bool.false_and] at HR1
        replace HR1 := Lib.hid HR1
        go_wp2_with fail
        go_ret
        exact ⟨by rw [HR1.out]; rfl, X1⟩
      · cases d2 : win (e.am.length : Int) 1 100 <;> rcases d with _ | _ <;> by_cases d3 : (e.tax.length : Int) = 0
        all_goals
          simp only [ne_eq, d1, d2, d3, not_false_eq_true, decide_true, decide_false, Bool.and_true, Bool.and_false] at HR1
          replace HR1 := Lib.hid HR1
          replace d2 := Lib.hid d2
          go_wp2_with fail
          refine (many_any e.am.length Aa ca _ (by omega)).mono ?_
          rintro r w' ⟨rfl, rfl⟩
          rw [d2.out]
          go_wp2_with fail
          go_ret
          exact ⟨by rw [HR1.out]; first | rfl | exact ret_bool (by simpa using d1) | exact ret_bool (by rw [Bool.eq_iff_iff]; simp only [Bool.and_eq_true, bne_iff_ne, ne_eq, beq_iff_eq, Bool.false_eq_true, iff_false, not_and]; omega), X1⟩
end Go.Proofs.YtokakpbpenndlaaGreatDoor
