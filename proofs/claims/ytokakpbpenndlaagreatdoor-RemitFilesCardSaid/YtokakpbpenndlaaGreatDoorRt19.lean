/-
  The statements' own helpers: entries made, added; the chapter's first example (awake).
-/
import Derived.Test.YtokakpbpenndlaaGreatDoorRt18
import Derived.Test.YtokakpbpenndlaaGreatDoorRt13
set_option linter.unusedVariables false
namespace Go.Proofs.YtokakpbpenndlaaGreatDoor
open Go.RowKit Go.Maps

def saleE : Ent := ⟨1, 1, 0, 10, [100, 50], [⟨0, 7, 100, 0, 72500, 7⟩, ⟨1, 7, 50, 0, 72500, 4⟩]⟩
def refundE (id of_ : Int) (am : List Int) : Ent := ⟨2, id, of_, 12, am, []⟩
/-- An Add whose answer is known. -/
theorem add_is {w0 W : World} {bb mb : Nat} {vids : Value} {M : BkM} (h : BookAt w0 W bb mb vids M) (hx0 : Ext w0 W) (e : Ent) (Aa At : Option Addr) (ca ct : Nat) (he : EntR W e Aa At) (hml : M.length ≤ 100000) (hs : M.b.small) {B : Bk} {l : List Tx} {f : Int} (hE : M.b.add e = (B, l, f)) {n : Nat} (hn : l.length = n) :
    Calls Tryz.prog 26 #[.pointer (some ⟨bb, 0, none⟩), entV e Aa At ca ct] W fun r W' => ∃ A c vids' M' B1, r = .returned (.tuple #[.slice A n c, .int .i64 f]) ∧ Added w0 W W' bb mb vids M e A c vids' M' B1 ∧ M'.b = B ∧ (∀ g ∈ foot bb mb vids' M', g < B1) ∧ W'.ownsRow B1 117 6 (.slice A n c) n (txCells l) := by
  subst hn
  refine (add_any h hx0 e Aa At ca ct he hml hs).mono ?_
  rintro r W' ⟨A, c, vids', M', B1, rfl, hA⟩
  have ho := hA.own
  rw [hE] at ho
  refine ⟨A, c, vids', M', B1, by rw [hE], hA, by rw [hA.b, hE], fun g hg => ?_, ho⟩
  rcases hA.foot g hg with h1 | h1
  · exact Nat.lt_of_lt_of_le (h.foot_ge g h1).2 hA.le
  · exact h1.2
theorem BkM.len_b (M : BkM) : M.b.length = M.length := by simp [BkM.b]
def kpSale : Kp := ⟨saleE, saleE.tax, [0, 0], false⟩
theorem add_sale0 : Bk.add [] saleE = ([kpSale], saleE.tax, 0) := by kernel_rfl
theorem small0 : Bk.small [] := by intro x hx; cases hx
theorem small1 : Bk.small [kpSale] := by
  intro x hx
  rw [List.mem_singleton.1 hx]
  decide
end Go.Proofs.YtokakpbpenndlaaGreatDoor

set_option linter.unusedVariables false
namespace Go.Proofs.YtokakpbpenndlaaGreatDoor
open Go.RowKit Go.Maps

/-- One book in use. -/
def One (w W : World) (bb mb : Nat) (K : Bk) : Prop := ∃ v M, BookAt w W bb mb v M ∧ M.b = K ∧ Ext w W
theorem One.to {w W W' : World} {bb mb : Nat} {K : Bk} (h : One w W bb mb K) (hx : Ext W W') : One w W' bb mb K := by
  obtain ⟨v, M, h1, h2, h3⟩ := h
  exact ⟨v, M, h1.ext hx, h2, h3.trans hx⟩
theorem One.x {w W : World} {bb mb : Nat} {K : Bk} (h : One w W bb mb K) : Ext w W := by
  obtain ⟨v, M, h1, h2, h3⟩ := h
  exact h3
/-- A book in use, beside one that is empty. -/
def Two (w W : World) (bb mb cb mc : Nat) (K : Bk) : Prop := ∃ v M, BookAt w W bb mb v M ∧ M.b = K ∧ Ext w W ∧ BookAt w W cb mc (.slice none 0 0) [] ∧ ∀ g ∈ foot bb mb v M, g ≠ cb ∧ g ≠ mc
theorem Two.to {w W W' : World} {bb mb cb mc : Nat} {K : Bk} (h : Two w W bb mb cb mc K) (hx : Ext W W') : Two w W' bb mb cb mc K := by
  obtain ⟨v, M, h1, h2, h3, h4, h5⟩ := h
  exact ⟨v, M, h1.ext hx, h2, h3.trans hx, h4.ext hx, h5⟩
theorem Two.one {w W : World} {bb mb cb mc : Nat} {K : Bk} (h : Two w W bb mb cb mc K) : One w W bb mb K := by
  obtain ⟨v, M, h1, h2, h3, h4, h5⟩ := h
  exact ⟨v, M, h1, h2, h3⟩
theorem Two.other {w W : World} {bb mb cb mc : Nat} {K : Bk} (h : Two w W bb mb cb mc K) : One w W cb mc [] := by
  obtain ⟨v, M, h1, h2, h3, h4, h5⟩ := h
  exact ⟨_, _, h4, rfl, h3⟩
theorem BookAt.far0 {w W W' : World} {cb mc : Nat} {S : List Nat} (h : BookAt w W cb mc (.slice none 0 0) []) (hc : Chg S W W') (h1 : cb ∉ S) (h2 : mc ∉ S) : BookAt w W' cb mc (.slice none 0 0) [] := by
  refine BookAt.empty (hc.blk h.blk h1) ?_ h.geb h.gem
  obtain ⟨es, clock, hb, r⟩ := h.map
  exact ⟨es, clock, by rw [hc.block mc (Array.getElem?_eq_some_iff.1 hb).1 h2]; exact hb, r⟩
theorem BookAt.lts {w W : World} {bb mb : Nat} {v : Value} {M : BkM} (h : BookAt w W bb mb v M) : bb < W.heap.size ∧ mb < W.heap.size := ⟨(h.foot_ge bb (by simp [foot])).2, (h.foot_ge mb (by simp [foot])).2⟩
theorem Two.chg {w W W' : World} {bb mb cb mc : Nat} {K' : Bk} {v v' : Value} {M M' : BkM} (h1 : BookAt w W bb mb v M) (h3 : Ext w W) (h4 : BookAt w W cb mc (.slice none 0 0) []) (h5 : ∀ g ∈ foot bb mb v M, g ≠ cb ∧ g ≠ mc)
    (k1 : BookAt w W' bb mb v' M') (k2 : M'.b = K') (k3 : Chg (foot bb mb v M) W W') (k4 : ∀ g ∈ foot bb mb v' M', g ∈ foot bb mb v M ∨ W.heap.size ≤ g) : Two w W' bb mb cb mc K' := by
  refine ⟨v', M', k1, k2, Chg.to_ext h3 k3 (fun k hk => (h1.foot_ge k hk).1), h4.far0 k3 (fun hm => (h5 _ hm).1 rfl) (fun hm => (h5 _ hm).2 rfl), fun g hg => ?_⟩
  rcases k4 g hg with h | h
  · exact h5 g h
  · have := h4.lts
    exact ⟨by omega, by omega⟩
theorem Two.add {w W : World} {bb mb cb mc : Nat} {K : Bk} (h : Two w W bb mb cb mc K) (e : Ent) (Aa At : Option Addr) (ca ct : Nat) (he : EntR W e Aa At) (hs : K.small) (hk : K.length ≤ 100000) {K' : Bk} {l : List Tx} {f : Int} (hE : K.add e = (K', l, f)) {n : Nat} (hn : l.length = n) :
    Calls Tryz.prog 26 #[.pointer (some ⟨bb, 0, none⟩), entV e Aa At ca ct] W fun r W' => ∃ A c, r = .returned (.tuple #[.slice A n c, .int .i64 f]) ∧ Two w W' bb mb cb mc K' ∧ Reads W' W'.heap.size 6 A n (txCells l) := by
  obtain ⟨v, M, h1, rfl, h3, h4, h5⟩ := h
  refine (add_is h1 h3 e Aa At ca ct he (by rw [← BkM.len_b]; exact hk) hs hE hn).mono ?_
  rintro r W' ⟨A, c, v', M', B1, rfl, hA, hb, hlow, ho⟩
  refine ⟨A, c, rfl, Two.chg h1 h3 h4 h5 hA.at_ hb hA.chg (fun g hg => ?_), Reads.of_own ho⟩
  rcases hA.foot g hg with h | h
  · exact .inl h
  · exact .inr h.1
theorem One.moves {w W : World} {bb mb : Nat} {K : Bk} (h : One w W bb mb K) (j : Int) (hs : K.small) (hk : K.length ≤ 100000) {l : List Mv} (hl : K.moves j = l) {n : Nat} (hn : l.length = n) :
    Calls Tryz.prog 41 #[.pointer (some ⟨bb, 0, none⟩), .int .i64 j] W fun r W' => ∃ A c, r = .returned (.slice A n c) ∧ Reads W' W'.heap.size 6 A n (mvCells l) ∧ Ext W W' := by
  subst hn
  obtain ⟨v, M, h1, rfl, h3⟩ := h
  refine (moves_any h1 j (by rw [← BkM.len_b]; exact hk) hs).mono ?_
  rintro r W' ⟨A, c, rfl, ho, hx⟩
  rw [hl] at ho ⊢
  exact ⟨A, c, rfl, Reads.of_own ho, hx⟩
def bk1 : Bk := [⟨saleE, saleE.tax, [50, 0], false⟩, ⟨refundE 2 1 [50, 0], [⟨0, 7, 50, 0, 72500, 4⟩], [], false⟩]
def mv3 : List Mv := [⟨1, 10, false, 100, 0, 7⟩, ⟨1, 10, false, 50, 0, 4⟩, ⟨2, 12, true, 50, 0, 4⟩]
theorem k_ref2 : Bk.add [kpSale] (refundE 2 1 [50, 0]) = (bk1, [⟨0, 7, 50, 0, 72500, 4⟩], 0) := by kernel_rfl
theorem k_mv : Bk.moves bk1 7 = mv3 := by kernel_rfl
theorem small_b1 : Bk.small bk1 := by
  intro x hx
  simp only [bk1, List.mem_cons, List.not_mem_nil, or_false] at hx
  rcases hx with rfl | rfl <;> decide
end Go.Proofs.YtokakpbpenndlaaGreatDoor

set_option linter.unusedVariables false
namespace Go.Proofs.YtokakpbpenndlaaGreatDoor
open Go.RowKit Go.Maps

/-- A row that a book does not turn. -/
structure Beside (F : List Nat) (W : World) (base : Nat) (e : TypeId) (size : Nat) (v : Value) (n : Nat) (xs : List Value) : Prop where
  own : W.ownsRow base e size v n xs
  out : ∀ g, v.ownBlock = some g → g ∉ F
theorem Beside.to {F : List Nat} {W W' : World} {base : Nat} {e : TypeId} {size : Nat} {v : Value} {n : Nat} {xs : List Value} (h : Beside F W base e size v n xs) (hx : Ext W W') : Beside F W' base e size v n xs := ⟨own_ext h.own hx, h.out⟩
/-- Added, in short: the book behind it, and what it may turn. -/
structure Step (F F' : List Nat) (W W' : World) : Prop where
  chg : Chg F W W'
  foot : ∀ g ∈ F', g ∈ F ∨ W.heap.size ≤ g
theorem Beside.step {F F' : List Nat} {W W' : World} {base : Nat} {e : TypeId} {size : Nat} {v : Value} {n : Nat} {xs : List Value} (h : Beside F W base e size v n xs) (hs : Step F F' W W') : Beside F' W' base e size v n xs :=
  ⟨hs.chg.own h.own h.out, fun g hg hm => by
    rcases hs.foot g hm with h1 | h1
    · exact h.out g hg h1
    · have := (h.own.lt g hg).2; omega⟩
theorem Step.pre {F F' : List Nat} {W W1 W' : World} (hx : Ext W W1) (h : Step F F' W1 W') : Step F F' W W' :=
  ⟨(Chg.ext hx).trans h.chg, fun g hg => by
    rcases h.foot g hg with h1 | h1
    · exact .inl h1
    · exact .inr (Nat.le_trans hx.size h1)⟩
theorem Step.post {F F' : List Nat} {W W1 W' : World} (h : Step F F' W W1) (hx : Ext W1 W') : Step F F' W W' := ⟨h.chg.then_ext hx, h.foot⟩
theorem Beside.new {F : List Nat} {W W' : World} {base : Nat} {e : TypeId} {size : Nat} {v : Value} {n : Nat} {xs : List Value} (hF : ∀ g ∈ F, g < W.heap.size) (h : W'.ownsRow W.heap.size e size v n xs) (hb : base ≤ W.heap.size) : Beside F W' base e size v n xs :=
  ⟨own_base h hb, fun g hg hm => by have a1 := (h.lt g hg).1; have a2 := hF g hm; omega⟩

/-- How a slice reads. -/
def sliceR : Value → Option (DataW Unit × List MemPlace)
  | .slice none 0 0 => some (.nil, [])
  | .slice (some ⟨g, 0, none⟩) n c => some (.agg [.lit (.int .u64 (g : Int)), .lit (.int .u64 (n : Int)), .lit (.int .u64 (c : Int))], [])
  | _ => none
def sliceD (v : Value) : DataW Unit := match sliceR v with | some (d, _) => d | none => .nil
/-- A map filled one behind the other. -/
def putV (m : DataW Unit) (p : Int × DataW Unit) : DataW Unit := m.put (klI p.1) p.2
def mapV (es : List (Int × DataW Unit)) : DataW Unit := es.foldl putV (.map [])
theorem mapV_snoc (es : List (Int × DataW Unit)) (p : Int × DataW Unit) : mapV (es ++ [p]) = (mapV es).put (klI p.1) p.2 := by simp [mapV, List.foldl_append, putV]
/-- The tax lines told of each entry, kept in a map by ID. -/
structure Told (F : List Nat) (w0 W : World) (ml : Nat) (B : Bk) (es : List (Int × Value)) : Prop where
  map : W.ownsMap Tryz.prog 3 sliceR ml es.length (mapV (es.map fun p => (p.1, sliceD p.2)))
  len : es.length = B.length
  row : ∀ i (h : i < es.length) (h' : i < B.length), es[i].1 = B[i].e.id ∧ Beside F W w0.heap.size 117 6 es[i].2 B[i].lines.length (txCells B[i].lines)
  out : ml ∉ F
theorem Told.to {F : List Nat} {w0 W W' : World} {ml : Nat} {B : Bk} {es : List (Int × Value)} (h : Told F w0 W ml B es) (hx : Ext W W') : Told F w0 W' ml B es :=
  ⟨own_map_ext h.map hx, h.len, fun i h1 h2 => ⟨(h.row i h1 h2).1, (h.row i h1 h2).2.to hx⟩, h.out⟩
theorem Told.mlt {F : List Nat} {w0 W : World} {ml : Nat} {B : Bk} {es : List (Int × Value)} (h : Told F w0 W ml B es) : ml < W.heap.size := by
  obtain ⟨es', clock, hb, _⟩ := h.map
  exact (Array.getElem?_eq_some_iff.1 hb).1
theorem Told.step {F F' : List Nat} {w0 W W' : World} {ml : Nat} {B B' : Bk} {es : List (Int × Value)} (h : Told F w0 W ml B es) (hs : Step F F' W W') (hB : B'.map (fun x => (x.e.id, x.lines)) = B.map (fun x => (x.e.id, x.lines))) : Told F' w0 W' ml B' es := by
  have hlen : B'.length = B.length := by have := congrArg List.length hB; simpa using this
  refine ⟨?_, by rw [hlen]; exact h.len, fun i h1 h2 => ?_, fun hm => ?_⟩
  · obtain ⟨es', clock, hb, r⟩ := h.map
    exact ⟨es', clock, by rw [hs.chg.block ml (Array.getElem?_eq_some_iff.1 hb).1 h.out]; exact hb, r⟩
  · have h3 : i < B.length := by omega
    have e1 : (B'.map fun x => (x.e.id, x.lines))[i]? = (B.map fun x => (x.e.id, x.lines))[i]? := by rw [hB]
    rw [List.getElem?_map, List.getElem?_map, List.getElem?_eq_getElem h2, List.getElem?_eq_getElem h3] at e1
    simp only [Option.map_some, Option.some.injEq, Prod.mk.injEq] at e1
    have h4 := h.row i h1 h3
    rw [e1.1, e1.2]
    exact ⟨h4.1, h4.2.step hs⟩
  · rcases hs.foot ml hm with h1 | h1
    · exact h.out h1
    · have := h.mlt; omega
theorem Told.keys {F : List Nat} {w0 W : World} {ml : Nat} {B : Bk} {es : List (Int × Value)} (h : Told F w0 W ml B es) : es.map Prod.fst = B.ids := by
  apply List.ext_getElem
  · simp [Bk.ids, h.len]
  · intro i h1 h2
    have a1 : i < es.length := by simpa using h1
    have a2 : i < B.length := by rw [← h.len]; exact a1
    simp only [List.getElem_map, Bk.ids]
    exact (h.row i a1 a2).1
end Go.Proofs.YtokakpbpenndlaaGreatDoor

set_option linter.unusedVariables false
namespace Go.Proofs.YtokakpbpenndlaaGreatDoor
open Go.RowKit Go.Maps
theorem add_no {B : Bk} {e : Ent} (h : B.may e ≠ 0) : (B.add e).1 = B := by
  unfold Bk.add
  rw [if_neg h]
  have hi : ∀ (c : Prop) [Decidable c] (x y : Bk × List Tx × Int), x.1 = B → y.1 = B → (if c then x else y).1 = B := by
    intro c _ x y hx hy
    split
    · exact hx
    · exact hy
  exact hi _ _ _ rfl rfl
theorem upd_lines (B : Bk) (id : Int) (f : Kp → Kp) (hf : ∀ x, (f x).e = x.e ∧ (f x).lines = x.lines) : (B.upd id f).map (fun x => (x.e.id, x.lines)) = B.map fun x => (x.e.id, x.lines) := by
  unfold Bk.upd
  rw [List.map_map]
  refine List.map_congr_left fun x _ => ?_
  simp only [Function.comp_apply]
  split
  · rw [(hf x).1, (hf x).2]
  · rfl
theorem add_yes {B : Bk} {e : Ent} (h : B.may e = 0) : ∃ x : Kp, (B.add e).1.map (fun x => (x.e.id, x.lines)) = B.map (fun x => (x.e.id, x.lines)) ++ [(e.id, (B.add e).2.1)] ∧ (B.add e).1.length = B.length + 1 := by
  have hc := may_check h
  refine ⟨⟨e, [], [], false⟩, ?_⟩
  unfold Bk.add
  rw [if_pos h]
  simp only
  unfold Bk.put
  by_cases hk : e.k = 1
  · rw [if_pos hk]; simp
  rw [if_neg hk]
  by_cases hk2 : e.k = 2
  · rw [if_pos hk2]
    obtain ⟨s, hs, _⟩ := may_ref h hc hk2
    rw [hs]
    simp only
    rw [List.map_append, upd_lines B e.of_ (fun x => { x with back := addL x.back e.am }) (fun _ => ⟨rfl, rfl⟩)]
    simp [Bk.upd]
  rw [if_neg hk2]
  by_cases hk3 : e.k = 3
  · rw [if_pos hk3]
    simp only
    rw [List.map_append, upd_lines B e.of_ (fun x => { x with voided := true }) (fun _ => ⟨rfl, rfl⟩)]
    simp [Bk.upd]
  rw [if_neg hk3]
  simp
/-- A store into another map. -/
theorem BookAt.othermap {w0 W W' : World} {bb mb ml : Nat} {v : Value} {M : BkM} (h : BookAt w0 W bb mb v M) {k : TypeId} {R : Value → Option (DataW Unit × List MemPlace)} {n : Nat} {D : DataW Unit} (hm : W.ownsMap Tryz.prog k R ml n D) (hg : W.grownBy W' (some ml)) (hl : ml ∉ foot bb mb v M) : BookAt w0 W' bb mb v M := by
  have hrow : ∀ {b s n : Nat} {t : TypeId} {v : Value} {xs : List Value}, W.ownsRow b t s v n xs → W'.ownsRow b t s v n xs := fun ho => ho.kept hg (.inr (ownsMap_own_ne hm ho))
  have hblk : ∀ {g : Nat} {t : TypeId} {cs : Array Value}, Blk W g t cs → Blk W' g t cs := fun hb => hb.grown hg (fun e => ownsMap_blk_ne hm hb (Option.some.inj e).symm)
  refine ⟨hblk h.blk, h.map.kept hg (fun e => hl (by rw [← Option.some.inj e]; simp [foot])), hrow h.ids, fun p hp => ?_, h.nodup, h.gnd, h.apart, h.ok, h.geb, h.gem⟩
  have hk := h.all p hp
  exact ⟨hblk hk.blk, hrow hk.oa, hrow hk.ot, hrow hk.ol, hrow hk.ob, hk.ge⟩
theorem Beside.othermap {F : List Nat} {W W' : World} {base : Nat} {e : TypeId} {size ml : Nat} {v : Value} {n : Nat} {xs : List Value} (h : Beside F W base e size v n xs) {k : TypeId} {R : Value → Option (DataW Unit × List MemPlace)} {m : Nat} {D : DataW Unit} (hm : W.ownsMap Tryz.prog k R ml m D) (hg : W.grownBy W' (some ml)) : Beside F W' base e size v n xs :=
  ⟨h.own.kept hg (.inr (ownsMap_own_ne hm h.own)), h.out⟩
/-- One more told. -/
theorem Told.snoc {F : List Nat} {w0 W W' : World} {ml : Nat} {B B' : Bk} {es : List (Int × Value)} {id : Int} {l : List Tx} {v : Value} (h : Told F w0 W ml B es) (hB : B'.map (fun x => (x.e.id, x.lines)) = B.map (fun x => (x.e.id, x.lines)) ++ [(id, l)]) (hr : Beside F W w0.heap.size 117 6 v l.length (txCells l))
    (hm : W'.ownsMap Tryz.prog 3 sliceR ml (es.length + 1) ((mapV (es.map fun p => (p.1, sliceD p.2))).put (klI id) (sliceD v))) (hg : W.grownBy W' (some ml)) : Told F w0 W' ml B' (es ++ [(id, v)]) := by
  have hlen : B'.length = B.length + 1 := by have := congrArg List.length hB; simpa using this
  refine ⟨?_, by rw [List.length_append, h.len, hlen]; rfl, fun i h1 h2 => ?_, h.out⟩
  · rw [List.map_append, List.map_cons, List.map_nil, mapV_snoc, List.length_append]
    exact hm
  · have e1 : (B'.map fun x => (x.e.id, x.lines))[i]? = (B.map (fun x => (x.e.id, x.lines)) ++ [(id, l)])[i]? := by rw [hB]
    rw [List.getElem?_map, List.getElem?_eq_getElem h2] at e1
    by_cases hi : i < B.length
    · have hi2 : i < es.length := by rw [h.len]; exact hi
      rw [List.getElem?_append_left (by simpa using hi), List.getElem?_map, List.getElem?_eq_getElem hi] at e1
      simp only [Option.map_some, Option.some.injEq, Prod.mk.injEq] at e1
      rw [e1.1, e1.2, List.getElem_append_left hi2]
      exact ⟨(h.row i hi2 hi).1, (h.row i hi2 hi).2.othermap h.map hg⟩
    · have hie : i = B.length := by omega
      have hle := h.len
      subst hie
      rw [List.getElem?_append_right (by simp)] at e1
      simp only [List.length_map, Nat.sub_self, List.getElem?_cons_zero, Option.map_some, Option.some.injEq, Prod.mk.injEq] at e1
      rw [e1.1, e1.2, List.getElem_append_right (by omega)]
      simp only [h.len, Nat.sub_self, List.getElem_cons_zero]
      exact ⟨trivial, hr.othermap h.map hg⟩
end Go.Proofs.YtokakpbpenndlaaGreatDoor
