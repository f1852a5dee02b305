/-
  street: the table's map: keys of six strings, elements of two rows.
-/
import Derived.Test.YtjaponmpfdpemaaGreatDoorBa22
import Derived.Maps.OwnSet
import Derived.Maps.OwnOps
import Derived.DeepKeys4
set_option linter.unusedVariables false
namespace Go.Proofs.YtjaponmpfdpemaaGreatDoor
open Go.RowKit Go.Maps

theorem laidStr : laidOutB Tryz.prog = true := by kernel_rfl
theorem lawStr : Keyed Tryz.prog 74 := Keyed.of_law (deep_law_laid laidStr (m := 2) (by decide) (of_decide_eq_true (by kernel_rfl)) (by kernel_rfl) (by rw [Tryz.underlying74]))
def strV (b : Bs) : Value := .string ⟨b.toArray⟩
def keyV (k : List Bs) : Value := .agg (k.map strV).toArray
/-- What a key reads as. -/
def klK (k : List Bs) : Lit := .string (keyBytes (k.map fun b => .string b))
def OkK (k : List Bs) : Prop := k.length = 6 ∧ ∀ b ∈ k, b.length ≤ 100000
theorem klt_str : Tryz.prog.types.size + 1 = Tryz.prog.types.size - 1 + 1 + 1 := by
  have : 1 ≤ Tryz.prog.types.size := of_decide_eq_true (by kernel_rfl)
  omega
set_option maxRecDepth 100000 in
theorem keyStr (k : List Bs) (h : OkK k) : keyOf Tryz.prog 74 (keyV k) = some (klK k) := by
  obtain ⟨hl, hs⟩ := h
  match k, hl with
  | [a, b, c, d, e, f], _ =>
  have h1 : Tryz.prog.keyType 74 = true := by kernel_rfl
  have h2 : Tryz.prog.cellsOf 74 = 6 := by kernel_rfl
  have h3 : Tryz.prog.cellsOf 9 = 1 := by kernel_rfl
  have e1 : ∀ d (s : Bs), s.length ≤ 100000 → Tryz.prog.keyLits (d + 1) 9 [.string ⟨s.toArray⟩] = some [.string s] := by
    intro d s hn
    unfold Program.keyLits
    have : ByteArray.size ⟨s.toArray⟩ ≤ maxLen := by show s.toArray.size ≤ _; rw [List.size_toArray]; unfold maxLen; omega
    simp [Tryz.underlying9, this]
  unfold keyOf keyV
  rw [Tryz.underlying74]
  simp only [h1, Value.formed, Tryz.underlying74, h2, List.map_cons, List.map_nil, strV]
  rw [klt_str]
  generalize Tryz.prog.types.size - 1 = dp
  unfold Program.keyLits
  simp only [Tryz.underlying74, Value.cells, h2, h3]
  simp [List.range, List.range.loop, e1 _ a (hs a (by simp)), e1 _ b (hs b (by simp)), e1 _ c (hs c (by simp)), e1 _ d (hs _ (by simp)), e1 _ e (hs e (by simp)), e1 _ f (hs f (by simp)), klK]
theorem strV_inj {a b : Bs} (h : strV a = strV b) : a = b := by
  unfold strV at h
  have := congrArg (fun v => match v with | .string s => s.data.toList | _ => []) h
  simpa using this
theorem keyV_inj {k k' : List Bs} (h : keyV k = keyV k') : k = k' := by
  unfold keyV at h
  have h1 : (k.map strV) = (k'.map strV) := by
    have := Value.agg.inj h
    simpa using this
  exact List.map_inj_right (fun a b => strV_inj) |>.1 h1
theorem klK_inj {k k' : List Bs} (hk : OkK k) (hk' : OkK k') (h : klK k = klK k') : k = k' := by
  have h1 := keyStr k hk
  have h2 := keyStr k' hk'
  rw [← h] at h2
  exact keyV_inj (lawStr.inj h1 h2)
theorem klK_key (k : List Bs) : WideAt.IsKeyLit (klK k) := by trivial
/-- How a pair of rows reads. -/
def rowR : Value → Option (DataW Unit)
  | .slice none 0 0 => some .nil
  | .slice (some ⟨g, 0, none⟩) n c => some (.agg [.lit (.int .u64 (g : Int)), .lit (.int .u64 (n : Int)), .lit (.int .u64 (c : Int))])
  | _ => none
def twoR (v : Value) : Option (DataW Unit × List MemPlace) := match v with
  | .agg ⟨[a, b]⟩ => match rowR a, rowR b with
    | some x, some y => some (.agg [x, y], [])
    | _, _ => none
  | _ => none
theorem rowR_inj {v v' : Value} {d : DataW Unit} (h : rowR v = some d) (h' : rowR v' = some d) : v = v' := by
  unfold rowR at h h'
  split at h
  · simp only [Option.some.injEq] at h
    split at h'
    · rfl
    · simp only [Option.some.injEq] at h'
      rw [← h] at h'
      cases h'
    · cases h'
  · simp only [Option.some.injEq] at h
    split at h'
    · simp only [Option.some.injEq] at h'
      rw [← h] at h'
      cases h'
    · simp only [Option.some.injEq] at h'
      rw [← h] at h'
      simp only [DataW.agg.injEq, List.cons.injEq, DataW.lit.injEq, Lit.int.injEq, true_and, and_true] at h'
      obtain ⟨a, b, c⟩ := h'
      rw [Int.ofNat.inj a, Int.ofNat.inj b, Int.ofNat.inj c]
    · cases h'
  · cases h
theorem own_rowR {w : World} {base : Nat} {e : TypeId} {size n : Nat} {v : Value} {xs : List Value} (h : w.ownsRow base e size v n xs) : ∃ d, rowR v = some d := by
  rcases h.2 with ⟨rfl, _⟩ | ⟨g, cap, cur, rfl, _⟩
  · exact ⟨_, rfl⟩
  · exact ⟨_, rfl⟩
theorem twoR_inv {v a b : Value} {x y : DataW Unit} {ps : List MemPlace} (ha : rowR a = some x) (hb : rowR b = some y) (h : twoR v = some (.agg [x, y], ps)) : v = .agg #[a, b] := by
  unfold twoR at h
  split at h
  · rename_i a' b'
    split at h
    · rename_i x' y' h1 h2
      simp only [Option.some.injEq, Prod.mk.injEq, DataW.agg.injEq, List.cons.injEq, and_true] at h
      obtain ⟨⟨rfl, rfl⟩, _⟩ := h
      rw [rowR_inj h1 ha, rowR_inj h2 hb]
    · cases h
  · cases h
/-- The table's map: which parts lie behind each key. -/
structure TabAt (w0 W : World) (ml n : Nat) (T : List Bs → List Sr × List Sr) : Prop where
  ex : ∃ D : DataW Unit, W.ownsMap Tryz.prog 74 twoR ml n D ∧ ∀ k, OkK k → ∃ v0 v1 x y, rowR v0 = some x ∧ rowR v1 = some y ∧ D.atKey (klK k) (.agg [.nil, .nil]) = .agg [x, y] ∧
    W.ownsRow w0.heap.size 25 13 v0 (T k).1.length (srCells (T k).1) ∧ W.ownsRow w0.heap.size 25 13 v1 (T k).2.length (srCells (T k).2)
theorem TabAt.made (w0 w : World) : TabAt w0 (w.alloc (.map #[] 0)) w.heap.size 0 (fun _ => ([], [])) :=
  ⟨.map [], World.ownsMap_made _ _ _ _, fun k _ => ⟨.slice none 0 0, .slice none 0 0, .nil, .nil, rfl, rfl, rfl, World.ownsRow_nil _ _ _ _, World.ownsRow_nil _ _ _ _⟩⟩
theorem TabAt.lt {w0 W : World} {ml n : Nat} {T : List Bs → List Sr × List Sr} (h : TabAt w0 W ml n T) : ml < W.heap.size := by
  obtain ⟨D, hm, _⟩ := h.ex
  exact hm.lt
theorem TabAt.ext {w0 W W' : World} {ml n : Nat} {T : List Bs → List Sr × List Sr} (h : TabAt w0 W ml n T) (hx : Ext W W') : TabAt w0 W' ml n T := by
  obtain ⟨D, hm, hk⟩ := h.ex
  refine ⟨D, ?_, fun k hk' => ?_⟩
  · obtain ⟨es', clock, hb, r⟩ := hm
    exact ⟨es', clock, (hx.block ml (Array.getElem?_eq_some_iff.1 hb).1).trans hb, r⟩
  · obtain ⟨v0, v1, x, y, h1, h2, h3, h4, h5⟩ := hk k hk'
    exact ⟨v0, v1, x, y, h1, h2, h3, own_ext h4 hx, own_ext h5 hx⟩
theorem zeroT (w : World) : (zeroValue 72).run Tryz.prog w = .ok (.agg #[.slice none 0 0, .slice none 0 0]) w := by kernel_rfl
theorem TabAt.look {w0 W : World} {ml n : Nat} {T : List Bs → List Sr × List Sr} (h : TabAt w0 W ml n T) (k : List Bs) (hk : OkK k) : ∃ v0 v1, (Instr.lookup 59 (.map (some ml)) (keyV k) false).run Tryz.prog W = .ok (.agg #[v0, v1]) W ∧
    W.ownsRow w0.heap.size 25 13 v0 (T k).1.length (srCells (T k).1) ∧ W.ownsRow w0.heap.size 25 13 v1 (T k).2.length (srCells (T k).2) := by
  obtain ⟨D, hm, hK⟩ := h.ex
  obtain ⟨v0, v1, x, y, h1, h2, h3, h4, h5⟩ := hK k hk
  obtain ⟨v, ps, hrun, hv⟩ := hm.lookup lawStr Tryz.underlying59 (zeroT W) (zd := .agg [.nil, .nil]) (zp := []) rfl (keyStr k hk)
  rw [h3] at hv
  rw [twoR_inv h1 h2 hv] at hrun
  exact ⟨v0, v1, hrun, h4, h5⟩
def setT (T : List Bs → List Sr × List Sr) (k : List Bs) (p : List Sr × List Sr) : List Bs → List Sr × List Sr := fun k' => if k' = k then p else T k'
theorem own_notmap {w : World} {ml : Nat} {v : Value} {base n : Nat} {e : TypeId} {size : Nat} {xs : List Value} {es : Array MapEntry} {clock : Nat} (hb : w.heap[ml]? = some (.map es clock)) (h : w.ownsRow base e size v n xs) : v.ownBlock ≠ some ml := by
  intro he
  rcases h.2 with ⟨rfl, _⟩ | ⟨g, cap, cur, rfl, _, hg, _⟩
  · cases he
  · have : g = ml := Option.some.inj he
    subst this
    rw [hb] at hg
    cases hg
theorem TabAt.put {w0 W : World} {ml n : Nat} {T : List Bs → List Sr × List Sr} (h : TabAt w0 W ml n T) (hn : n < 100000) (k : List Bs) (hk : OkK k) (v0 v1 : Value) (l0 l1 : List Sr)
    (h0 : W.ownsRow w0.heap.size 25 13 v0 l0.length (srCells l0)) (h1 : W.ownsRow w0.heap.size 25 13 v1 l1.length (srCells l1)) :
    ∃ W', (Instr.mapUpdate 59 (.map (some ml)) (keyV k) (.agg #[v0, v1])).run Tryz.prog W = .ok () W' ∧ TabAt w0 W' ml (n + 1) (setT T k (l0, l1)) ∧ W.grownBy W' (some ml) := by
  obtain ⟨D, hm, hK⟩ := h.ex
  obtain ⟨x, hx⟩ := own_rowR h0
  obtain ⟨y, hy⟩ := own_rowR h1
  have hv : twoR (.agg #[v0, v1]) = some (.agg [x, y], []) := by simp [twoR, hx, hy]
  obtain ⟨W', hrun, hm', hg⟩ := hm.update lawStr Tryz.underlying59 (by unfold maxLen; omega) (keyStr k hk) hv
  have hnm : ∀ {v : Value} {m : Nat} {xs : List Value}, W.ownsRow w0.heap.size 25 13 v m xs → W'.ownsRow w0.heap.size 25 13 v m xs := fun ho => by
    obtain ⟨es, clock, hb, _⟩ := hm
    exact ho.kept hg (.inr (own_notmap hb ho))
  refine ⟨W', hrun, ⟨_, hm', fun k' hk' => ?_⟩, hg⟩
  by_cases e : k' = k
  · subst e
    refine ⟨v0, v1, x, y, hx, hy, atKey_put_same hm.isMap (klK_key _) _ _, ?_, ?_⟩
    · simpa [setT] using hnm h0
    · simpa [setT] using hnm h1
  · obtain ⟨u0, u1, a, b, q1, q2, q3, q4, q5⟩ := hK k' hk'
    refine ⟨u0, u1, a, b, q1, q2, ?_, ?_, ?_⟩
    · rw [atKey_put_other (fun h => e (klK_inj hk' hk h))]
      exact q3
    · simpa [setT, e] using hnm q4
    · simpa [setT, e] using hnm q5
end Go.Proofs.YtjaponmpfdpemaaGreatDoor

set_option linter.unusedVariables false
namespace Go.Proofs.YtjaponmpfdpemaaGreatDoor

/-- A row in order: parts of one parity, none over another. -/
structure Row (p : Int) (l : List Sr) : Prop where
  mem : ∀ s ∈ l, s.Num ∧ s.low p ≤ s.high p
  ord : l.Pairwise (fun a b => a.high p < b.low p)
theorem Row.nil (p : Int) : Row p [] := ⟨by simp, .nil⟩
theorem Row.lt {p : Int} {l : List Sr} (h : Row p l) {i j : Nat} (hij : i < j) (hj : j < l.length) : (l[i]'(by omega)).high p < (l[j]).low p := List.pairwise_iff_getElem.1 h.ord i j (by omega) hj hij
theorem Row.mono {p : Int} {l : List Sr} (h : Row p l) (n : Int) : SrMono l p n := fun i j hij hj hn => by
  have h1 := h.lt hij hj
  have h2 := (h.mem _ (List.getElem_mem hj)).2
  omega
/-- What plK says: ahead of it all lie below, from it on none. -/
theorem Row.at_ {p n : Int} {l : List Sr} (h : Row p l) : plK l p n ≤ l.length ∧ (∀ i (hi : i < l.length), i < plK l p n → (l[i]).high p < n) ∧ (∀ i (hi : i < l.length), plK l p n ≤ i → n ≤ (l[i]).high p) := by
  have hk : plK l p n ≤ l.length := List.findIdx_le_length
  refine ⟨hk, fun i hi hik => ?_, fun i hi hik => ?_⟩
  · have := List.not_of_lt_findIdx hik
    simpa using this
  · have hkl : plK l p n < l.length := by omega
    have h1 : n ≤ (l[plK l p n]).high p := by
      have := List.findIdx_getElem (p := fun s : Sr => decide (n ≤ s.high p)) (xs := l) (w := hkl)
      exact of_decide_eq_true this
    by_cases e : plK l p n = i
    · subst e; exact h1
    · have h2 := h.lt (i := plK l p n) (j := i) (by omega) hi
      have h3 := (h.mem _ (List.getElem_mem hi)).2
      omega
/-- The part of a row that a number lies in: there is at most one. -/
theorem Row.found {p n : Int} {l : List Sr} (h : Row p l) : plF l p n = l.any (fun s => decide (s.low p ≤ n) && decide (n ≤ s.high p)) := by
  obtain ⟨hk, h1, h2⟩ := h.at_ (n := n)
  rw [Bool.eq_iff_iff, List.any_eq_true]
  unfold plF
  constructor
  · intro hf
    split at hf
    · rename_i s hs
      obtain ⟨hl, rfl⟩ := List.getElem?_eq_some_iff.1 hs
      exact ⟨_, List.getElem_mem hl, by simpa using ⟨of_decide_eq_true hf, h2 _ hl (Nat.le_refl _)⟩⟩
    · cases hf
  · rintro ⟨s, hs, hc⟩
    obtain ⟨i, hi, rfl⟩ := List.mem_iff_getElem.1 hs
    simp only [Bool.and_eq_true, decide_eq_true_eq] at hc
    have hki : plK l p n ≤ i := by
      rcases Nat.lt_or_ge i (plK l p n) with h3 | h3
      · have := h1 i hi h3; omega
      · exact h3
    have e : plK l p n = i := by
      rcases Nat.lt_or_ge (plK l p n) i with h3 | h3
      · have h4 := h.lt h3 hi
        have h5 := h2 _ (by omega) (Nat.le_refl (plK l p n))
        omega
      · omega
    rw [e, List.getElem?_eq_getElem hi]
    simpa using hc.1
/-- A part put into a row; none: it lies over another. -/
def clashQ (l : List Sr) (s : Sr) (p : Int) : Bool := plF l p (s.low p) || (match l[plK l p (s.low p)]? with
  | some t => decide (t.low p ≤ s.high p)
  | none => false)
def sideP (l : List Sr) (s : Sr) (p : Int) : Option (List Sr) :=
  if s.isQ p = false then some l else if clashQ l s p = true then none else some (l.take (plK l p (s.low p)) ++ s :: l.drop (plK l p (s.low p)))
/-- Two parts lie over each other at a parity. -/
def Sr.over (s t : Sr) (p : Int) : Bool := decide (s.low p ≤ t.high p) && decide (t.low p ≤ s.high p)
theorem Row.clash {p : Int} {l : List Sr} (h : Row p l) (s : Sr) (hs : s.low p ≤ s.high p) : clashQ l s p = l.any (fun t => s.over t p) := by
  obtain ⟨hk, h1, h2⟩ := h.at_ (n := s.low p)
  unfold clashQ
  rw [h.found, Bool.eq_iff_iff, Bool.or_eq_true, List.any_eq_true, List.any_eq_true]
  constructor
  · rintro (⟨t, ht, hc⟩ | hc)
    · simp only [Bool.and_eq_true, decide_eq_true_eq] at hc
      exact ⟨t, ht, by simp only [Sr.over, Bool.and_eq_true, decide_eq_true_eq]; omega⟩
    · split at hc
      · rename_i t ht
        obtain ⟨hl, rfl⟩ := List.getElem?_eq_some_iff.1 ht
        have := h2 _ hl (Nat.le_refl _)
        have hc := of_decide_eq_true hc
        exact ⟨_, List.getElem_mem hl, by simp only [Sr.over, Bool.and_eq_true, decide_eq_true_eq]; omega⟩
      · cases hc
  · rintro ⟨t, ht, hc⟩
    obtain ⟨i, hi, rfl⟩ := List.mem_iff_getElem.1 ht
    simp only [Sr.over, Bool.and_eq_true, decide_eq_true_eq] at hc
    right
    have hki : plK l p (s.low p) ≤ i := by
      rcases Nat.lt_or_ge i (plK l p (s.low p)) with h3 | h3
      · have := h1 i hi h3; omega
      · exact h3
    rw [List.getElem?_eq_getElem (by omega)]
    simp only [decide_eq_true_eq]
    rcases Nat.lt_or_ge (plK l p (s.low p)) i with h3 | h3
    · have h4 := h.lt h3 hi
      have h5 := (h.mem _ (List.getElem_mem (show plK l p (s.low p) < l.length by omega))).2
      omega
    · have e : plK l p (s.low p) = i := by omega
      subst e
      exact hc.2
theorem Sr.isQ_low {s : Sr} {p : Int} (h : s.isQ p = true) : s.low p ≤ s.high p := by
  unfold Sr.isQ at h
  simp only [Bool.and_eq_true, decide_eq_true_eq] at h
  exact h.2
theorem Row.ins {p : Int} {l m : List Sr} (h : Row p l) {s : Sr} (hs : s.Num) (e : sideP l s p = some m) : Row p m := by
  unfold sideP at e
  by_cases hq : s.isQ p = false
  · rw [if_pos hq] at e
    injection e with e; subst e; exact h
  · rw [if_neg hq] at e
    have hq : s.isQ p = true := by simpa using hq
    have hl := s.isQ_low hq
    rw [h.clash s hl] at e
    by_cases hc : l.any (fun t => s.over t p) = true
    · rw [if_pos hc] at e; cases e
    · rw [if_neg hc] at e
      injection e with e; subst e
      obtain ⟨hk, h1, h2⟩ := h.at_ (n := s.low p)
      have hno : ∀ t ∈ l, ¬ (s.low p ≤ t.high p ∧ t.low p ≤ s.high p) := fun t ht hh => hc (List.any_eq_true.2 ⟨t, ht, by simpa [Sr.over] using hh⟩)
      refine ⟨fun t ht => ?_, ?_⟩
      · rcases List.mem_append.1 ht with ht | ht
        · exact h.mem t (List.mem_of_mem_take ht)
        · rcases List.mem_cons.1 ht with rfl | ht
          · exact ⟨hs, hl⟩
          · exact h.mem t (List.mem_of_mem_drop ht)
      · rw [List.pairwise_append, List.pairwise_cons]
        refine ⟨h.ord.sublist (List.take_sublist _ _), ⟨fun t ht => ?_, h.ord.sublist (List.drop_sublist _ _)⟩, fun a ha b hb => ?_⟩
        · obtain ⟨i, hi, rfl⟩ := List.mem_iff_getElem.1 ht
          rw [List.length_drop] at hi
          rw [List.getElem_drop]
          have h3 := h2 (plK l p (s.low p) + i) (by omega) (by omega)
          have := hno _ (List.getElem_mem (show plK l p (s.low p) + i < l.length by omega))
          omega
        · obtain ⟨i, hi, rfl⟩ := List.mem_iff_getElem.1 ha
          rw [List.length_take] at hi
          rw [List.getElem_take]
          rcases List.mem_cons.1 hb with rfl | hb
          · exact h1 i (by omega) (by omega)
          · obtain ⟨j, hj, rfl⟩ := List.mem_iff_getElem.1 hb
            rw [List.length_drop] at hj
            rw [List.getElem_drop]
            exact h.lt (by omega) (by omega)
end Go.Proofs.YtjaponmpfdpemaaGreatDoor

set_option linter.unusedVariables false
namespace Go.Proofs.YtjaponmpfdpemaaGreatDoor

abbrev STab := List Bs → List Sr × List Sr
def STab.z : STab := fun _ => ([], [])
def stepT (T : STab) (s : Sr) : Option STab := match sideP (T s.key).1 s 0 with
  | none => none
  | some a => match sideP (T s.key).2 s 1 with
    | none => none
    | some b => some (setT T s.key (a, b))
def nextT (o : Option STab) (s : Sr) : Option STab := match o with
  | none => none
  | some T => stepT T s
def tabP (l : List Sr) : Option STab := l.foldl nextT (some STab.z)
theorem tabP_snoc (l : List Sr) (s : Sr) : tabP (l ++ [s]) = nextT (tabP l) s := by simp [tabP, List.foldl_append]
theorem tabP_take {l : List Sr} {k : Nat} (hk : k < l.length) : tabP (l.take (k + 1)) = nextT (tabP (l.take k)) l[k] := by
  rw [← tabP_snoc, List.take_append_getElem hk]
/-- Every row of the table is in order, and holds no more than went in. -/
structure STabOk (n : Nat) (T : STab) : Prop where
  even : ∀ k, Row 0 (T k).1
  odd : ∀ k, Row 1 (T k).2
  le0 : ∀ k, (T k).1.length ≤ n
  le1 : ∀ k, (T k).2.length ≤ n
theorem sideP_len {l m : List Sr} {s : Sr} {p : Int} (h : sideP l s p = some m) : m.length ≤ l.length + 1 := by
  unfold sideP at h
  split at h
  · injection h with h; subst h; omega
  · split at h
    · cases h
    · injection h with h; subst h
      rw [List.length_append, List.length_cons, List.length_take, List.length_drop]
      omega
theorem STabOk.z : STabOk 0 STab.z := ⟨fun _ => Row.nil 0, fun _ => Row.nil 1, fun _ => Nat.le_refl _, fun _ => Nat.le_refl _⟩
theorem STabOk.step {n : Nat} {T T' : STab} {s : Sr} (h : STabOk n T) (hs : s.Num) (e : stepT T s = some T') : STabOk (n + 1) T' := by
  unfold stepT at e
  split at e
  · cases e
  · rename_i a ha
    split at e
    · cases e
    · rename_i b hb
      injection e with e; subst e
      have q0 := (h.even s.key).ins hs ha
      have q1 := (h.odd s.key).ins hs hb
      have a0 := sideP_len ha
      have a1 := sideP_len hb
      have b0 := h.le0 s.key
      have b1 := h.le1 s.key
      refine ⟨fun k => ?_, fun k => ?_, fun k => ?_, fun k => ?_⟩ <;> unfold setT <;> by_cases hk : k = s.key
      · rw [if_pos hk]; exact q0
      · rw [if_neg hk]; exact h.even k
      · rw [if_pos hk]; exact q1
      · rw [if_neg hk]; exact h.odd k
      · rw [if_pos hk]; show a.length ≤ _; omega
      · rw [if_neg hk]; have := h.le0 k; omega
      · rw [if_pos hk]; show b.length ≤ _; omega
      · rw [if_neg hk]; have := h.le1 k; omega
theorem tabP_ok {l : List Sr} (hN : ∀ s ∈ l, s.Num) : ∀ k, k ≤ l.length → ∀ T, tabP (l.take k) = some T → STabOk k T
  | 0, _, T, h => by
    simp only [List.take_zero] at h
    injection h with h; subst h
    exact STabOk.z
  | k + 1, hk, T, h => by
    rw [tabP_take (by omega)] at h
    cases hp : tabP (l.take k) with
    | none => rw [hp] at h; cases h
    | some T0 =>
      rw [hp] at h
      exact (tabP_ok hN k (by omega) T0 hp).step (hN _ (List.getElem_mem _)) h
/-- What New comes to: a table, or which fault at which part. -/
def clashK (l : List Sr) : Nat := (List.range l.length).findIdx (fun k => (tabP (l.take (k + 1))).isNone)
def newP (l : List Sr) : Option STab × Int × Int :=
  if 500 < l.length then (none, 8, 0) else if 0 ≤ srBad l then (none, 2, srBad l) else match tabP l with
    | some T => (some T, 0, 0)
    | none => (none, 7, clashK l)
theorem tabP_none {l : List Sr} {k : Nat} (h : tabP (l.take k) = none) : ∀ j, k ≤ j → j ≤ l.length → tabP (l.take j) = none := by
  intro j hj hl
  induction j with
  | zero => have : k = 0 := by omega
            subst this; exact h
  | succ j ih =>
    by_cases e : k = j + 1
    · subst e; exact h
    · rw [tabP_take (by omega), ih (by omega) (by omega)]; rfl
theorem clashK_is {l : List Sr} {k : Nat} {T : STab} (hk : k < l.length) (h1 : tabP (l.take k) = some T) (h2 : tabP (l.take (k + 1)) = none) : tabP l = none ∧ clashK l = k := by
  refine ⟨?_, ?_⟩
  · have := tabP_none h2 l.length (by omega) (Nat.le_refl _)
    simpa using this
  · unfold clashK
    rw [List.findIdx_eq (by simpa using hk)]
    refine ⟨by simp [h2], fun j hj => ?_⟩
    simp only [List.getElem_range]
    cases h3 : tabP (l.take (j + 1)) with
    | some _ => rfl
    | none =>
      have := tabP_none h3 k (by omega) (by omega)
      rw [h1] at this; cases this
end Go.Proofs.YtjaponmpfdpemaaGreatDoor
