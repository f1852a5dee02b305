/-
  The statements' own helpers: entries made, added; the chapter's first example (awake).
-/
import Derived.Test.YtokakpbpenndlaaDoorRp29
set_option linter.unusedVariables false
namespace Go.Proofs.YtokakpbpenndlaaDoor
open Go.RowKit Go.Maps

def saleE : Ent := ⟨1, 1, 0, 10, [100, 50], [⟨0, 7, 100, 0, 72500, 7⟩, ⟨1, 7, 50, 0, 72500, 4⟩]⟩
def refundE (id of_ : Int) (am : List Int) : Ent := ⟨2, id, of_, 12, am, []⟩
def voidE (id of_ : Int) : Ent := ⟨3, id, of_, 0, [], []⟩
theorem reads_nil (w : World) (B size : Nat) : Reads w B size none 0 [] := Reads.none_
/-- An Add whose answer is known. -/
theorem add_is {w0 W : World} {bb mb : Nat} {vids : Value} {M : BkM} (h : BookAt w0 W bb mb vids M) (hx0 : Ext w0 W) (e : Ent) (Aa At : Option Addr) (ca ct : Nat) (he : EntR W e Aa At) (hml : M.length ≤ 100000) (hs : M.b.small) {B : Bk} {l : List Tx} {f : Int} (hE : M.b.add e = (B, l, f)) {n : Nat} (hn : l.length = n) :
    Calls Tryd.prog 6 #[.pointer (some ⟨bb, 0, none⟩), entV e Aa At ca ct] W fun r W' => ∃ A c vids' M' B1, r = .returned (.tuple #[.slice A n c, .int .i64 f]) ∧ Added w0 W W' bb mb vids M e A c vids' M' B1 ∧ M'.b = B ∧ (∀ g ∈ foot bb mb vids' M', g < B1) ∧ W'.ownsRow B1 27 6 (.slice A n c) n (txCells l) := by
  subst hn
  refine (add_any h hx0 e Aa At ca ct he hml hs).mono ?_
  rintro r W' ⟨A, c, vids', M', B1, rfl, hA⟩
  have ho := hA.own
  rw [hE] at ho
  refine ⟨A, c, vids', M', B1, by rw [hE], hA, by rw [hA.b, hE], fun g hg => ?_, ho⟩
  rcases hA.foot g hg with h1 | h1
  · exact Nat.lt_of_lt_of_le (h.foot_ge g h1).2 hA.le
  · exact h1.2
theorem BkM.len_b (M : BkM) : M.b.length = M.length := by simp [BkM.b]
def kpSale : Kp := ⟨saleE, saleE.tax, [0, 0], false⟩
theorem add_sale0 : Bk.add [] saleE = ([kpSale], saleE.tax, 0) := by kernel_rfl
theorem add_sale1 : Bk.add [kpSale] saleE = ([kpSale], saleE.tax, 7) := by kernel_rfl
theorem fld5 (e : Ent) (A A' : Option Addr) (c c' : Nat) (W : World) : (Instr.field 30 (entV e A A' c c') 5).run Tryd.prog W = .ok (.slice A' e.tax.length c') W := by kernel_rfl
theorem small0 : Bk.small [] := by intro x hx; cases hx
theorem small1 : Bk.small [kpSale] := by
  intro x hx
  rw [List.mem_singleton.1 hx]
  decide
end Go.Proofs.YtokakpbpenndlaaDoor

set_option linter.unusedVariables false
namespace Go.Proofs.YtokakpbpenndlaaDoor
open Go.RowKit Go.Maps

/-- One book in use. -/
def One (w W : World) (bb mb : Nat) (K : Bk) : Prop := ∃ v M, BookAt w W bb mb v M ∧ M.b = K ∧ Ext w W
theorem One.to {w W W' : World} {bb mb : Nat} {K : Bk} (h : One w W bb mb K) (hx : Ext W W') : One w W' bb mb K := by
  obtain ⟨v, M, h1, h2, h3⟩ := h
  exact ⟨v, M, h1.ext hx, h2, h3.trans hx⟩
theorem One.x {w W : World} {bb mb : Nat} {K : Bk} (h : One w W bb mb K) : Ext w W := by
  obtain ⟨v, M, h1, h2, h3⟩ := h
  exact h3
/-- A book in use, beside one that is empty. -/
def Two (w W : World) (bb mb cb mc : Nat) (K : Bk) : Prop := ∃ v M, BookAt w W bb mb v M ∧ M.b = K ∧ Ext w W ∧ BookAt w W cb mc (.slice none 0 0) [] ∧ ∀ g ∈ foot bb mb v M, g ≠ cb ∧ g ≠ mc
theorem Two.to {w W W' : World} {bb mb cb mc : Nat} {K : Bk} (h : Two w W bb mb cb mc K) (hx : Ext W W') : Two w W' bb mb cb mc K := by
  obtain ⟨v, M, h1, h2, h3, h4, h5⟩ := h
  exact ⟨v, M, h1.ext hx, h2, h3.trans hx, h4.ext hx, h5⟩
theorem Two.one {w W : World} {bb mb cb mc : Nat} {K : Bk} (h : Two w W bb mb cb mc K) : One w W bb mb K := by
  obtain ⟨v, M, h1, h2, h3, h4, h5⟩ := h
  exact ⟨v, M, h1, h2, h3⟩
theorem Two.other {w W : World} {bb mb cb mc : Nat} {K : Bk} (h : Two w W bb mb cb mc K) : One w W cb mc [] := by
  obtain ⟨v, M, h1, h2, h3, h4, h5⟩ := h
  exact ⟨_, _, h4, rfl, h3⟩
theorem BookAt.far0 {w W W' : World} {cb mc : Nat} {S : List Nat} (h : BookAt w W cb mc (.slice none 0 0) []) (hc : Chg S W W') (h1 : cb ∉ S) (h2 : mc ∉ S) : BookAt w W' cb mc (.slice none 0 0) [] := by
  refine BookAt.empty (hc.blk h.blk h1) ?_ h.geb h.gem
  obtain ⟨es, clock, hb, r⟩ := h.map
  exact ⟨es, clock, by rw [hc.block mc (Array.getElem?_eq_some_iff.1 hb).1 h2]; exact hb, r⟩
theorem BookAt.lts {w W : World} {bb mb : Nat} {v : Value} {M : BkM} (h : BookAt w W bb mb v M) : bb < W.heap.size ∧ mb < W.heap.size := ⟨(h.foot_ge bb (by simp [foot])).2, (h.foot_ge mb (by simp [foot])).2⟩
theorem Two.chg {w W W' : World} {bb mb cb mc : Nat} {K' : Bk} {v v' : Value} {M M' : BkM} (h1 : BookAt w W bb mb v M) (h3 : Ext w W) (h4 : BookAt w W cb mc (.slice none 0 0) []) (h5 : ∀ g ∈ foot bb mb v M, g ≠ cb ∧ g ≠ mc)
    (k1 : BookAt w W' bb mb v' M') (k2 : M'.b = K') (k3 : Chg (foot bb mb v M) W W') (k4 : ∀ g ∈ foot bb mb v' M', g ∈ foot bb mb v M ∨ W.heap.size ≤ g) : Two w W' bb mb cb mc K' := by
  refine ⟨v', M', k1, k2, Chg.to_ext h3 k3 (fun k hk => (h1.foot_ge k hk).1), h4.far0 k3 (fun hm => (h5 _ hm).1 rfl) (fun hm => (h5 _ hm).2 rfl), fun g hg => ?_⟩
  rcases k4 g hg with h | h
  · exact h5 g h
  · have := h4.lts
    exact ⟨by omega, by omega⟩
theorem Two.add {w W : World} {bb mb cb mc : Nat} {K : Bk} (h : Two w W bb mb cb mc K) (e : Ent) (Aa At : Option Addr) (ca ct : Nat) (he : EntR W e Aa At) (hs : K.small) (hk : K.length ≤ 100000) {K' : Bk} {l : List Tx} {f : Int} (hE : K.add e = (K', l, f)) {n : Nat} (hn : l.length = n) :
    Calls Tryd.prog 6 #[.pointer (some ⟨bb, 0, none⟩), entV e Aa At ca ct] W fun r W' => ∃ A c, r = .returned (.tuple #[.slice A n c, .int .i64 f]) ∧ Two w W' bb mb cb mc K' ∧ Reads W' W'.heap.size 6 A n (txCells l) := by
  obtain ⟨v, M, h1, rfl, h3, h4, h5⟩ := h
  refine (add_is h1 h3 e Aa At ca ct he (by rw [← BkM.len_b]; exact hk) hs hE hn).mono ?_
  rintro r W' ⟨A, c, v', M', B1, rfl, hA, hb, hlow, ho⟩
  refine ⟨A, c, rfl, Two.chg h1 h3 h4 h5 hA.at_ hb hA.chg (fun g hg => ?_), Reads.of_own ho⟩
  rcases hA.foot g hg with h | h
  · exact .inl h
  · exact .inr h.1
theorem One.moves {w W : World} {bb mb : Nat} {K : Bk} (h : One w W bb mb K) (j : Int) (hs : K.small) (hk : K.length ≤ 100000) {l : List Mv} (hl : K.moves j = l) {n : Nat} (hn : l.length = n) :
    Calls Tryd.prog 23 #[.pointer (some ⟨bb, 0, none⟩), .int .i64 j] W fun r W' => ∃ A c, r = .returned (.slice A n c) ∧ Reads W' W'.heap.size 6 A n (mvCells l) ∧ Ext W W' := by
  subst hn
  obtain ⟨v, M, h1, rfl, h3⟩ := h
  refine (moves_any h1 j (by rw [← BkM.len_b]; exact hk) hs).mono ?_
  rintro r W' ⟨A, c, rfl, ho, hx⟩
  rw [hl] at ho ⊢
  exact ⟨A, c, rfl, Reads.of_own ho, hx⟩
def bk1 : Bk := [⟨saleE, saleE.tax, [50, 0], false⟩, ⟨refundE 2 1 [50, 0], [⟨0, 7, 50, 0, 72500, 4⟩], [], false⟩]
def bk2 : Bk := [⟨saleE, saleE.tax, [0, 0], true⟩, ⟨voidE 2 1, [], [], false⟩]
def mv3 : List Mv := [⟨1, 10, false, 100, 0, 7⟩, ⟨1, 10, false, 50, 0, 4⟩, ⟨2, 12, true, 50, 0, 4⟩]
theorem k_ref2 : Bk.add [kpSale] (refundE 2 1 [50, 0]) = (bk1, [⟨0, 7, 50, 0, 72500, 4⟩], 0) := by kernel_rfl
theorem k_left : Bk.left bk1 1 0 = (50, true) := by kernel_rfl
theorem k_mv : Bk.moves bk1 7 = mv3 := by kernel_rfl
theorem k_ref3 : Bk.add bk1 (refundE 3 1 [51, 0]) = (bk1, [], 5) := by kernel_rfl
theorem k_void4 : Bk.add bk1 (voidE 4 1) = (bk1, [], 9) := by kernel_rfl
theorem k_ref5 : Bk.add bk1 (refundE 5 9 [1, 0]) = (bk1, [], 6) := by kernel_rfl
theorem k_void2 : Bk.add [kpSale] (voidE 2 1) = (bk2, [], 0) := by kernel_rfl
theorem k_voided : Bk.voided bk2 1 = true := by kernel_rfl
theorem k_mv0 : Bk.moves bk2 7 = [] := by kernel_rfl
theorem k_void3 : Bk.add bk2 (voidE 3 1) = (bk2, [], 9) := by kernel_rfl
theorem small_b1 : Bk.small bk1 := by
  intro x hx
  simp only [bk1, List.mem_cons, List.not_mem_nil, or_false] at hx
  rcases hx with rfl | rfl <;> decide
theorem small_b2 : Bk.small bk2 := by
  intro x hx
  simp only [bk2, List.mem_cons, List.not_mem_nil, or_false] at hx
  rcases hx with rfl | rfl <;> decide
end Go.Proofs.YtokakpbpenndlaaDoor
