/-
  The statement BookKnown: the walk.
-/
import Derived.Test.YtehkmngbknbbaaaRk31
set_option linter.unusedVariables false
namespace Go.Proofs.Ytehkmngbknbbaaa
open Go.RowKit Go.Maps

/-- One book in use. -/
def One (w W : World) (bb mb : Nat) (K : Bk) : Prop := ∃ v M, BookAt w W bb mb v M ∧ M.b = K ∧ Ext w W
theorem One.to {w W W' : World} {bb mb : Nat} {K : Bk} (h : One w W bb mb K) (hx : Ext W W') : One w W' bb mb K := by
  obtain ⟨v, M, h1, h2, h3⟩ := h
  exact ⟨v, M, h1.ext hx, h2, h3.trans hx⟩
theorem One.x {w W : World} {bb mb : Nat} {K : Bk} (h : One w W bb mb K) : Ext w W := by
  obtain ⟨v, M, h1, h2, h3⟩ := h
  exact h3
theorem One.added {w W : World} {bb mb : Nat} {K : Bk} (h : One w W bb mb K) (e : Ent) (Aa At : Option Addr) (ca ct : Nat) (he : EntR W e Aa At) (hs : K.small) (hk : K.length ≤ 100000) {K' : Bk} {l : List Tx} {f : Int} (hE : K.add e = (K', l, f)) :
    Calls Try.prog 40 #[.pointer (some ⟨bb, 0, none⟩), entV e Aa At ca ct, .int .i64 f] W fun r W' => r = .returned (.bool true) ∧ One w W' bb mb K' := by
  obtain ⟨v, M, h1, rfl, h3⟩ := h
  refine (added29_any h1 h3 e Aa At ca ct he (by rw [← BkM.len_b]; exact hk) hs hE).mono ?_
  rintro r W' ⟨v', M', rfl, h4, h5, h6, h7⟩
  exact ⟨rfl, v', M', h4, h5, Chg.to_ext h3 h6 (fun k hk => (h1.foot_ge k hk).1)⟩
/-- A book in use, beside one that is empty. -/
def Two (w W : World) (bb mb cb mc : Nat) (K : Bk) : Prop := ∃ v M, BookAt w W bb mb v M ∧ M.b = K ∧ Ext w W ∧ BookAt w W cb mc (.slice none 0 0) [] ∧ ∀ g ∈ foot bb mb v M, g ≠ cb ∧ g ≠ mc
theorem Two.to {w W W' : World} {bb mb cb mc : Nat} {K : Bk} (h : Two w W bb mb cb mc K) (hx : Ext W W') : Two w W' bb mb cb mc K := by
  obtain ⟨v, M, h1, h2, h3, h4, h5⟩ := h
  exact ⟨v, M, h1.ext hx, h2, h3.trans hx, h4.ext hx, h5⟩
theorem Two.one {w W : World} {bb mb cb mc : Nat} {K : Bk} (h : Two w W bb mb cb mc K) : One w W bb mb K := by
  obtain ⟨v, M, h1, h2, h3, h4, h5⟩ := h
  exact ⟨v, M, h1, h2, h3⟩
theorem Two.other {w W : World} {bb mb cb mc : Nat} {K : Bk} (h : Two w W bb mb cb mc K) : One w W cb mc [] := by
  obtain ⟨v, M, h1, h2, h3, h4, h5⟩ := h
  exact ⟨_, _, h4, rfl, h3⟩
theorem BookAt.far0 {w W W' : World} {cb mc : Nat} {S : List Nat} (h : BookAt w W cb mc (.slice none 0 0) []) (hc : Chg S W W') (h1 : cb ∉ S) (h2 : mc ∉ S) : BookAt w W' cb mc (.slice none 0 0) [] := by
  refine BookAt.empty (hc.blk h.blk h1) ?_ h.geb h.gem
  obtain ⟨es, clock, hb, r⟩ := h.map
  exact ⟨es, clock, by rw [hc.block mc (Array.getElem?_eq_some_iff.1 hb).1 h2]; exact hb, r⟩
theorem BookAt.lts {w W : World} {bb mb : Nat} {v : Value} {M : BkM} (h : BookAt w W bb mb v M) : bb < W.heap.size ∧ mb < W.heap.size := ⟨(h.foot_ge bb (by simp [foot])).2, (h.foot_ge mb (by simp [foot])).2⟩
theorem Two.chg {w W W' : World} {bb mb cb mc : Nat} {K' : Bk} {v v' : Value} {M M' : BkM} (h1 : BookAt w W bb mb v M) (h3 : Ext w W) (h4 : BookAt w W cb mc (.slice none 0 0) []) (h5 : ∀ g ∈ foot bb mb v M, g ≠ cb ∧ g ≠ mc)
    (k1 : BookAt w W' bb mb v' M') (k2 : M'.b = K') (k3 : Chg (foot bb mb v M) W W') (k4 : ∀ g ∈ foot bb mb v' M', g ∈ foot bb mb v M ∨ W.heap.size ≤ g) : Two w W' bb mb cb mc K' := by
  refine ⟨v', M', k1, k2, Chg.to_ext h3 k3 (fun k hk => (h1.foot_ge k hk).1), h4.far0 k3 (fun hm => (h5 _ hm).1 rfl) (fun hm => (h5 _ hm).2 rfl), fun g hg => ?_⟩
  rcases k4 g hg with h | h
  · exact h5 g h
  · have := h4.lts
    exact ⟨by omega, by omega⟩
theorem Two.added {w W : World} {bb mb cb mc : Nat} {K : Bk} (h : Two w W bb mb cb mc K) (e : Ent) (Aa At : Option Addr) (ca ct : Nat) (he : EntR W e Aa At) (hs : K.small) (hk : K.length ≤ 100000) {K' : Bk} {l : List Tx} {f : Int} (hE : K.add e = (K', l, f)) :
    Calls Try.prog 40 #[.pointer (some ⟨bb, 0, none⟩), entV e Aa At ca ct, .int .i64 f] W fun r W' => r = .returned (.bool true) ∧ Two w W' bb mb cb mc K' := by
  obtain ⟨v, M, h1, rfl, h3, h4, h5⟩ := h
  refine (added29_any h1 h3 e Aa At ca ct he (by rw [← BkM.len_b]; exact hk) hs hE).mono ?_
  rintro r W' ⟨v', M', rfl, k1, k2, k3, k4⟩
  exact ⟨rfl, Two.chg h1 h3 h4 h5 k1 k2 k3 k4⟩
theorem Two.add {w W : World} {bb mb cb mc : Nat} {K : Bk} (h : Two w W bb mb cb mc K) (e : Ent) (Aa At : Option Addr) (ca ct : Nat) (he : EntR W e Aa At) (hs : K.small) (hk : K.length ≤ 100000) {K' : Bk} {l : List Tx} {f : Int} (hE : K.add e = (K', l, f)) {n : Nat} (hn : l.length = n) :
    Calls Try.prog 42 #[.pointer (some ⟨bb, 0, none⟩), entV e Aa At ca ct] W fun r W' => ∃ A c, r = .returned (.tuple #[.slice A n c, .int .i64 f]) ∧ Two w W' bb mb cb mc K' ∧ Reads W' W'.heap.size 6 A n (txCells l) := by
  obtain ⟨v, M, h1, rfl, h3, h4, h5⟩ := h
  refine (add_is h1 h3 e Aa At ca ct he (by rw [← BkM.len_b]; exact hk) hs hE hn).mono ?_
  rintro r W' ⟨A, c, v', M', B1, rfl, hA, hb, hlow, ho⟩
  refine ⟨A, c, rfl, Two.chg h1 h3 h4 h5 hA.at_ hb hA.chg (fun g hg => ?_), Reads.of_own ho⟩
  rcases hA.foot g hg with h | h
  · exact .inl h
  · exact .inr h.1
theorem One.left {w W : World} {bb mb : Nat} {K : Bk} (h : One w W bb mb K) (id line : Int) (hi : i64 id) {n : Int} {b : Bool} (hl : K.left id line = (n, b)) :
    Calls Try.prog 44 #[.pointer (some ⟨bb, 0, none⟩), .int .i64 id, .int .i64 line] W fun r W' => r = .returned (.tuple #[.int .i64 n, .bool b]) ∧ Ext W W' := by
  obtain ⟨v, M, h1, rfl, h3⟩ := h
  refine (left_any h1 id line hi).mono ?_
  rintro r W' ⟨rfl, hx⟩
  rw [hl]
  exact ⟨rfl, hx⟩
theorem One.voided {w W : World} {bb mb : Nat} {K : Bk} (h : One w W bb mb K) (id : Int) (hi : i64 id) {b : Bool} (hl : K.voided id = b) :
    Calls Try.prog 49 #[.pointer (some ⟨bb, 0, none⟩), .int .i64 id] W fun r W' => r = .returned (.bool b) ∧ W = W' := by
  obtain ⟨v, M, h1, rfl, h3⟩ := h
  refine (voided_any h1 id hi).mono ?_
  rintro r W' ⟨rfl, hx⟩
  rw [hl]
  exact ⟨rfl, hx⟩
theorem One.moves {w W : World} {bb mb : Nat} {K : Bk} (h : One w W bb mb K) (j : Int) (hs : K.small) (hk : K.length ≤ 100000) {l : List Mv} (hl : K.moves j = l) {n : Nat} (hn : l.length = n) :
    Calls Try.prog 47 #[.pointer (some ⟨bb, 0, none⟩), .int .i64 j] W fun r W' => ∃ A c, r = .returned (.slice A n c) ∧ Reads W' W'.heap.size 6 A n (mvCells l) ∧ Ext W W' := by
  subst hn
  obtain ⟨v, M, h1, rfl, h3⟩ := h
  refine (moves_any h1 j (by rw [← BkM.len_b]; exact hk) hs).mono ?_
  rintro r W' ⟨A, c, rfl, ho, hx⟩
  rw [hl] at ho ⊢
  exact ⟨A, c, rfl, Reads.of_own ho, hx⟩
def bk1 : Bk := [⟨saleE, saleE.tax, [50, 0], false⟩, ⟨refundE 2 1 [50, 0], [⟨0, 7, 50, 0, 72500, 4⟩], [], false⟩]
def bk2 : Bk := [⟨saleE, saleE.tax, [0, 0], true⟩, ⟨voidE 2 1, [], [], false⟩]
def mv3 : List Mv := [⟨1, 10, false, 100, 0, 7⟩, ⟨1, 10, false, 50, 0, 4⟩, ⟨2, 12, true, 50, 0, 4⟩]
theorem k_ref2 : Bk.add [kpSale] (refundE 2 1 [50, 0]) = (bk1, [⟨0, 7, 50, 0, 72500, 4⟩], 0) := by kernel_rfl
theorem k_left : Bk.left bk1 1 0 = (50, true) := by kernel_rfl
theorem k_mv : Bk.moves bk1 7 = mv3 := by kernel_rfl
theorem k_ref3 : Bk.add bk1 (refundE 3 1 [51, 0]) = (bk1, [], 5) := by kernel_rfl
theorem k_void4 : Bk.add bk1 (voidE 4 1) = (bk1, [], 9) := by kernel_rfl
theorem k_ref5 : Bk.add bk1 (refundE 5 9 [1, 0]) = (bk1, [], 6) := by kernel_rfl
theorem k_void2 : Bk.add [kpSale] (voidE 2 1) = (bk2, [], 0) := by kernel_rfl
theorem k_voided : Bk.voided bk2 1 = true := by kernel_rfl
theorem k_mv0 : Bk.moves bk2 7 = [] := by kernel_rfl
theorem k_void3 : Bk.add bk2 (voidE 3 1) = (bk2, [], 9) := by kernel_rfl
theorem small_b1 : Bk.small bk1 := by
  intro x hx
  simp only [bk1, List.mem_cons, List.not_mem_nil, or_false] at hx
  rcases hx with rfl | rfl <;> decide
theorem small_b2 : Bk.small bk2 := by
  intro x hx
  simp only [bk2, List.mem_cons, List.not_mem_nil, or_false] at hx
  rcases hx with rfl | rfl <;> decide
theorem refund_n (id of_ : Int) (am : List Int) (A : Option Addr) (c n : Nat) (w : World) (hn : am.length = n) (hr : Reads w w.heap.size 1 A n (iV am)) (hm : n ≤ 1000) : Calls Try.prog 43 #[.int .i64 id, .int .i64 of_, .slice A n c] w fun r w' => r = .returned (entV (refundE id of_ am) A none c 0) ∧ EntR w' (refundE id of_ am) A none ∧ Ext w w' := by
  subst hn
  exact refund29_any id of_ am A c w hr (by unfold maxLen; omega)
set_option maxRecDepth 100000 in
set_option maxHeartbeats 16000000 in
theorem bookKnown_any (w : World) : Calls Try.prog 8 #[] w fun r w' => r = .returned (.bool true) ∧ Ext w w' := by
  go_enter Try.func8, Try.ntmps8
  go_wp2_with fail
  refine (newBook_any _).mono ?_
  rintro r w1 ⟨rfl, hB1, hx1⟩
  go_wp2_with fail
  refine (newBook_any _).mono ?_
  rintro r w2 ⟨rfl, hB2, hx2⟩
  have HT : Two w w2 (w.heap.size + 1) w.heap.size (w1.heap.size + 1) w1.heap.size [] := by
    have hl := hB1.lts
    refine ⟨.slice none 0 0, [], hB1.ext hx2, rfl, hx1.trans hx2, BookAt.empty hB2.blk hB2.map (Nat.le_trans hx1.size (by omega)) hx1.size, fun g hg => ?_⟩
    simp only [foot, Value.ownBlock, List.mem_cons, Option.toList_none, List.flatMap_nil, List.append_nil, List.not_mem_nil, or_false] at hg
    omega
  clear hB1 hB2 hx1 hx2
  generalize w.heap.size + 1 = bb at *
  generalize hmb : w.heap.size = mb at *
  generalize w1.heap.size + 1 = cb at *
  generalize hmc : w1.heap.size = mc at *
  clear hmb hmc
  go_wp2_with fail
  refine (sale29_any _).mono ?_
  rintro r w3 ⟨A3, A3', rfl, hE, hx⟩
  replace HT := HT.to hx
  clear hx
  go_wp2_with fail
  refine (HT.added saleE A3 A3' 2 2 hE small0 (by simp) (f := 0) add_sale0).mono ?_
  rintro r w4 ⟨rfl, HT4⟩
  clear HT hE
  go_wp2_with fail
  have hr5 := reads_new' w4 #[.int .i64 50, .int .i64 0] 3 2 1 rfl rfl
  refine (refund_n 2 1 [50, 0] (some ⟨w4.heap.size, 0, none⟩) 2 2 _ rfl hr5 (by omega)).mono ?_
  rintro r w5 ⟨rfl, hE, hx⟩
  have HT5 := HT4.to (((Ext.refl w4).alloc _).trans hx)
  clear HT4 hx hr5
  go_wp2_with fail
  refine (HT5.add (refundE 2 1 [50, 0]) _ _ _ _ hE small1 (by simp) (f := 0) k_ref2 (n := 1) rfl).mono ?_
  rintro r w6 ⟨A6, c6, rfl, HT6, hr6⟩
  clear HT5 hE
  go_wp2_with fail
  refine (HT6.one.left 1 0 (by unfold i64; omega) k_left).mono ?_
  rintro r w7 ⟨rfl, hx⟩
  have HT7 := HT6.to hx
  replace hr6 := hr6.ext hx
  clear HT6 hx
  go_wp2_with fail
  have hr7 : Reads _ _ 6 _ 1 (txCells [⟨0, 7, 50, 0, 72500, 4⟩]) := reads_new' w7 #[.int .i64 0, .int .i64 7, .int .i64 50, .int .i64 0, .int .i64 72500, .int .i64 4] 46 1 6 rfl rfl
  have hx := (Ext.refl w7).alloc (.cells #[.int .i64 0, .int .i64 7, .int .i64 50, .int .i64 0, .int .i64 72500, .int .i64 4] 46)
  refine (sameTax_any [⟨0, 7, 50, 0, 72500, 4⟩] [⟨0, 7, 50, 0, 72500, 4⟩] A6 (some ⟨w7.heap.size, 0, none⟩) 1 1 c6 1 _ rfl rfl (hr6.ext hx) hr7 (by unfold maxLen; omega) (by unfold maxLen; omega)).mono ?_
  rintro r w8 ⟨rfl, hx8⟩
  have HT8 := HT7.to (hx.trans hx8)
  clear HT7 hx hx8 hr6 hr7
  simp only [decide_true]
  go_wp2_with fail
  refine (HT8.one.moves 7 small_b1 (by decide) k_mv (n := 3) rfl).mono ?_
  rintro r w9 ⟨A9, c9, rfl, hr9, hx9⟩
  have HT9 := HT8.to hx9
  clear HT8 hx9
  go_wp2_with fail
  have hr10 : Reads _ _ 6 _ 3 (mvCells mv3) := reads_new' w9 #[.int .i64 1, .int .i64 10, .bool false, .int .i64 100, .int .i64 0, .int .i64 7, .int .i64 1, .int .i64 10, .bool false, .int .i64 50, .int .i64 0, .int .i64 4, .int .i64 2, .int .i64 12, .bool true, .int .i64 50, .int .i64 0, .int .i64 4] 78 3 6 rfl rfl
  have hx := (Ext.refl w9).alloc (.cells #[.int .i64 1, .int .i64 10, .bool false, .int .i64 100, .int .i64 0, .int .i64 7, .int .i64 1, .int .i64 10, .bool false, .int .i64 50, .int .i64 0, .int .i64 4, .int .i64 2, .int .i64 12, .bool true, .int .i64 50, .int .i64 0, .int .i64 4] 78)
  refine (sameMoves_any mv3 mv3 A9 (some ⟨w9.heap.size, 0, none⟩) 3 3 c9 3 _ rfl rfl (hr9.ext hx) hr10 (by unfold maxLen; omega) (by unfold maxLen; omega)).mono ?_
  rintro r w10 ⟨rfl, hx10⟩
  have HT10 := HT9.to (hx.trans hx10)
  clear HT9 hx hx10 hr9 hr10
  simp only [decide_true]
  go_wp2_with fail
  have hr11 := reads_new' w10 #[.int .i64 51, .int .i64 0] 3 2 1 rfl rfl
  refine (refund_n 3 1 [51, 0] (some ⟨w10.heap.size, 0, none⟩) 2 2 _ rfl hr11 (by omega)).mono ?_
  rintro r w11 ⟨rfl, hE, hx⟩
  have HT11 := HT10.to (((Ext.refl w10).alloc _).trans hx)
  clear HT10 hx hr11
  go_wp2_with fail
  refine (HT11.added (refundE 3 1 [51, 0]) _ _ _ _ hE small_b1 (by decide) (f := 5) k_ref3).mono ?_
  rintro r w12 ⟨rfl, HT12⟩
  clear HT11 hE
  go_wp2_with fail
  refine (void29_any 4 1 _).mono ?_
  rintro r w13 ⟨rfl, hE, hx⟩
  have HT13 := HT12.to hx
  clear HT12 hx
  go_wp2_with fail
  refine (HT13.added (voidE 4 1) _ _ _ _ hE small_b1 (by decide) (f := 9) k_void4).mono ?_
  rintro r w14 ⟨rfl, HT14⟩
  clear HT13 hE
  go_wp2_with fail
  have hr15 := reads_new' w14 #[.int .i64 1, .int .i64 0] 3 2 1 rfl rfl
  refine (refund_n 5 9 [1, 0] (some ⟨w14.heap.size, 0, none⟩) 2 2 _ rfl hr15 (by omega)).mono ?_
  rintro r w15 ⟨rfl, hE, hx⟩
  have HT15 := HT14.to (((Ext.refl w14).alloc _).trans hx)
  clear HT14 hx hr15
  go_wp2_with fail
  refine (HT15.added (refundE 5 9 [1, 0]) _ _ _ _ hE small_b1 (by decide) (f := 6) k_ref5).mono ?_
  rintro r w16 ⟨rfl, HT16⟩
  clear HT15 hE
  have HO16 := HT16.other
  clear HT16
  go_wp2_with fail
  refine (sale29_any _).mono ?_
  rintro r w17 ⟨A17, A17', rfl, hE, hx⟩
  have HO17 := HO16.to hx
  clear HO16 hx
  go_wp2_with fail
  refine (HO17.added saleE A17 A17' 2 2 hE small0 (by simp) (f := 0) add_sale0).mono ?_
  rintro r w18 ⟨rfl, HO18⟩
  clear HO17 hE
  go_wp2_with fail
  refine (void29_any 2 1 _).mono ?_
  rintro r w19 ⟨rfl, hE, hx⟩
  have HO19 := HO18.to hx
  clear HO18 hx
  go_wp2_with fail
  refine (HO19.added (voidE 2 1) _ _ _ _ hE small1 (by decide) (f := 0) k_void2).mono ?_
  rintro r w20 ⟨rfl, HO20⟩
  clear HO19 hE
  go_wp2_with fail
  refine (HO20.voided 1 (by unfold i64; omega) k_voided).mono ?_
  rintro r w21 ⟨rfl, rfl⟩
  go_wp2_with fail
  refine (HO20.moves 7 small_b2 (by decide) k_mv0 (n := 0) rfl).mono ?_
  rintro r w21 ⟨A21, c21, rfl, _, hx⟩
  have HO21 := HO20.to hx
  clear HO20 hx
  go_wp2_with fail
  refine (void29_any 3 1 _).mono ?_
  rintro r w22 ⟨rfl, hE, hx⟩
  have HO22 := HO21.to hx
  clear HO21 hx
  go_wp2_with fail
  refine (HO22.added (voidE 3 1) _ _ _ _ hE small_b2 (by decide) (f := 9) k_void3).mono ?_
  rintro r w23 ⟨rfl, HO23⟩
  clear HO22 hE
  have X23 := HO23.x
  clear HO23
  go_wp2_with fail
  refine (awake29_any _).mono ?_
  rintro r w24 ⟨rfl, hx⟩
  go_wp2_with fail
  go_ret
  exact ⟨rfl, X23.trans hx⟩
end Go.Proofs.Ytehkmngbknbbaaa
