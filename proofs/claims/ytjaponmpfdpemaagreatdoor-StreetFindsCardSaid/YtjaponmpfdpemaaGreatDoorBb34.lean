/-
  The reference's numbers in memory; zero, carried. (Printed by wip/tools/genQb.py.)
-/
import Derived.Test.YtjaponmpfdpemaaGreatDoorBb33
import Derived.Test.YtjaponmpfdpemaaGreatDoorBb07
import Derived.Test.YtjaponmpfdpemaaGreatDoorBb09
import Derived.ChangeKeysEq
import Derived.LaidEql
import Derived.Deep.QuietTactic
import Derived.StillTailTactics
import Derived.IntWalk
set_option linter.unusedSimpArgs false
set_option linter.unusedVariables false
namespace Go.Proofs.YtjaponmpfdpemaaGreatDoor
open Go.RowKit
def numC (s : Bool) (f : Nat → Int) : Array Value := #[.bool s, .int .i64 (f 0), .int .i64 (f 1), .int .i64 (f 2), .int .i64 (f 3), .int .i64 (f 4), .int .i64 (f 5), .int .i64 (f 6), .int .i64 (f 7), .int .i64 (f 8), .int .i64 (f 9), .int .i64 (f 10), .int .i64 (f 11)]
abbrev numV (s : Bool) (f : Nat → Int) : Value := .agg #[.bool s, .int .i64 (f 0), .int .i64 (f 1), .int .i64 (f 2), .int .i64 (f 3), .int .i64 (f 4), .int .i64 (f 5), .int .i64 (f 6), .int .i64 (f 7), .int .i64 (f 8), .int .i64 (f 9), .int .i64 (f 10), .int .i64 (f 11)]
def digI (n : Nat) : Nat → Int := fun i => (dig n i : Int)
def updI (f : Nat → Int) (k : Nat) (v : Int) : Nat → Int := fun i => if i = k then v else f i
theorem lt12 {P : Nat → Prop} (h0 : P 0) (h1 : P 1) (h2 : P 2) (h3 : P 3) (h4 : P 4) (h5 : P 5) (h6 : P 6) (h7 : P 7) (h8 : P 8) (h9 : P 9) (h10 : P 10) (h11 : P 11) : ∀ k, k < 12 → P k
 | 0, _ => h0
 | 1, _ => h1
 | 2, _ => h2
 | 3, _ => h3
 | 4, _ => h4
 | 5, _ => h5
 | 6, _ => h6
 | 7, _ => h7
 | 8, _ => h8
 | 9, _ => h9
 | 10, _ => h10
 | 11, _ => h11
 | k + 12, h => absurd h (by omega)
theorem numC_at (s : Bool) (f : Nat → Int) : ∀ k, k < 12 → (numC s f)[1 + k]? = some (.int .i64 (f k)) :=
 lt12 rfl rfl rfl rfl rfl rfl rfl rfl rfl rfl rfl rfl
theorem numC_set (s : Bool) (f : Nat → Int) (v : Int) : ∀ k, k < 12 → (numC s f).setIfInBounds (1 + k) (.int .i64 v) = numC s (updI f k v) :=
 lt12 rfl rfl rfl rfl rfl rfl rfl rfl rfl rfl rfl rfl
theorem numC_congr {s : Bool} {f g : Nat → Int} (h : ∀ i, i < 12 → f i = g i) : numC s f = numC s g := by
 unfold numC
 rw [h 0 (by decide), h 1 (by decide), h 2 (by decide), h 3 (by decide), h 4 (by decide), h 5 (by decide), h 6 (by decide), h 7 (by decide), h 8 (by decide), h 9 (by decide), h 10 (by decide), h 11 (by decide)]
def allZ (f : Nat → Int) : Bool := (List.range 12).all fun i => f i == 0
theorem allZ_iff {f : Nat → Int} : allZ f = true ↔ ∀ i, i < 12 → f i = 0 := by simp [allZ]
theorem arr_eq (w : World) (xs ys : Array Value) : (Op.equalIn 10000 151 (.agg xs) (.agg ys)).run Tryz.prog w = (Op.eqItems 9999 3 (Tryz.prog.cellsOf 3) xs ys (List.range 12)).run Tryz.prog w := by
 obtain ⟨i, hi, _⟩ := row_int.ex
 exact run_equalIn_array w 9999 xs ys Tryz.underlying151 hi
theorem cells_int : Tryz.prog.cellsOf 3 = 1 := by kernel_rfl
theorem eql_arr (f : Nat → Int) (r : Bool) (h : r = allZ f) (w : World) : (binOp .eql 151 (.agg #[.int .i64 (f 0), .int .i64 (f 1), .int .i64 (f 2), .int .i64 (f 3), .int .i64 (f 4), .int .i64 (f 5), .int .i64 (f 6), .int .i64 (f 7), .int .i64 (f 8), .int .i64 (f 9), .int .i64 (f 10), .int .i64 (f 11)]) (.agg #[.int .i64 0, .int .i64 0, .int .i64 0, .int .i64 0, .int .i64 0, .int .i64 0, .int .i64 0, .int .i64 0, .int .i64 0, .int .i64 0, .int .i64 0, .int .i64 0])).run Tryz.prog w = .ok (.bool r) w := by
 subst h
 have hl : List.range 12 = [0, 1, 2, 3, 4, 5, 6, 7, 8, 9, 10, 11] := by decide
 by_cases h0 : f 0 = 0
 case neg =>
  have hn : allZ f = false := by
   rw [Bool.eq_false_iff]
   exact fun h => h0 (allZ_iff.1 h 0 (by decide))
  rw [hn]
  simp [go_sem, arr_eq, hl, Op.eqItems, cells_int, h0]
 by_cases h1 : f 1 = 0
 case neg =>
  have hn : allZ f = false := by
   rw [Bool.eq_false_iff]
   exact fun h => h1 (allZ_iff.1 h 1 (by decide))
  rw [hn]
  simp [go_sem, arr_eq, hl, Op.eqItems, cells_int, h0, h1]
 by_cases h2 : f 2 = 0
 case neg =>
  have hn : allZ f = false := by
   rw [Bool.eq_false_iff]
   exact fun h => h2 (allZ_iff.1 h 2 (by decide))
  rw [hn]
  simp [go_sem, arr_eq, hl, Op.eqItems, cells_int, h0, h1, h2]
 by_cases h3 : f 3 = 0
 case neg =>
  have hn : allZ f = false := by
   rw [Bool.eq_false_iff]
   exact fun h => h3 (allZ_iff.1 h 3 (by decide))
  rw [hn]
  simp [go_sem, arr_eq, hl, Op.eqItems, cells_int, h0, h1, h2, h3]
 by_cases h4 : f 4 = 0
 case neg =>
  have hn : allZ f = false := by
   rw [Bool.eq_false_iff]
   exact fun h => h4 (allZ_iff.1 h 4 (by decide))
  rw [hn]
  simp [go_sem, arr_eq, hl, Op.eqItems, cells_int, h0, h1, h2, h3, h4]
 by_cases h5 : f 5 = 0
 case neg =>
  have hn : allZ f = false := by
   rw [Bool.eq_false_iff]
   exact fun h => h5 (allZ_iff.1 h 5 (by decide))
  rw [hn]
  simp [go_sem, arr_eq, hl, Op.eqItems, cells_int, h0, h1, h2, h3, h4, h5]
 by_cases h6 : f 6 = 0
 case neg =>
  have hn : allZ f = false := by
   rw [Bool.eq_false_iff]
   exact fun h => h6 (allZ_iff.1 h 6 (by decide))
  rw [hn]
  simp [go_sem, arr_eq, hl, Op.eqItems, cells_int, h0, h1, h2, h3, h4, h5, h6]
 by_cases h7 : f 7 = 0
 case neg =>
  have hn : allZ f = false := by
   rw [Bool.eq_false_iff]
   exact fun h => h7 (allZ_iff.1 h 7 (by decide))
  rw [hn]
  simp [go_sem, arr_eq, hl, Op.eqItems, cells_int, h0, h1, h2, h3, h4, h5, h6, h7]
 by_cases h8 : f 8 = 0
 case neg =>
  have hn : allZ f = false := by
   rw [Bool.eq_false_iff]
   exact fun h => h8 (allZ_iff.1 h 8 (by decide))
  rw [hn]
  simp [go_sem, arr_eq, hl, Op.eqItems, cells_int, h0, h1, h2, h3, h4, h5, h6, h7, h8]
 by_cases h9 : f 9 = 0
 case neg =>
  have hn : allZ f = false := by
   rw [Bool.eq_false_iff]
   exact fun h => h9 (allZ_iff.1 h 9 (by decide))
  rw [hn]
  simp [go_sem, arr_eq, hl, Op.eqItems, cells_int, h0, h1, h2, h3, h4, h5, h6, h7, h8, h9]
 by_cases h10 : f 10 = 0
 case neg =>
  have hn : allZ f = false := by
   rw [Bool.eq_false_iff]
   exact fun h => h10 (allZ_iff.1 h 10 (by decide))
  rw [hn]
  simp [go_sem, arr_eq, hl, Op.eqItems, cells_int, h0, h1, h2, h3, h4, h5, h6, h7, h8, h9, h10]
 by_cases h11 : f 11 = 0
 case neg =>
  have hn : allZ f = false := by
   rw [Bool.eq_false_iff]
   exact fun h => h11 (allZ_iff.1 h 11 (by decide))
  rw [hn]
  simp [go_sem, arr_eq, hl, Op.eqItems, cells_int, h0, h1, h2, h3, h4, h5, h6, h7, h8, h9, h10, h11]
 have hy : allZ f = true := allZ_iff.2 (lt12 h0 h1 h2 h3 h4 h5 h6 h7 h8 h9 h10 h11)
 rw [hy]
 simp [go_sem, arr_eq, hl, Op.eqItems, cells_int, h0, h1, h2, h3, h4, h5, h6, h7, h8, h9, h10, h11]
theorem ld_num {w : World} {g : Nat} {s : Bool} {f : Nat → Int} (h : Blk w g 153 (numC s f)) : (loadVar 153 ⟨g, 0, none⟩).run Tryz.prog w = .ok (numV s f) w := by
 have q := h.cell
 unfold numC at q
 simp [go_sem, q]
theorem put13 {w : World} {g : Nat} {t : TypeId} {s' s : Bool} {f' f : Nat → Int} (h : Blk w g t (numC s' f')) : Blk (((((((((((((w.setCell ⟨g, 0, none⟩ (.bool s)).setCell ⟨g, 1, none⟩ (.int .i64 (f 0))).setCell ⟨g, 2, none⟩ (.int .i64 (f 1))).setCell ⟨g, 3, none⟩ (.int .i64 (f 2))).setCell ⟨g, 4, none⟩ (.int .i64 (f 3))).setCell ⟨g, 5, none⟩ (.int .i64 (f 4))).setCell ⟨g, 6, none⟩ (.int .i64 (f 5))).setCell ⟨g, 7, none⟩ (.int .i64 (f 6))).setCell ⟨g, 8, none⟩ (.int .i64 (f 7))).setCell ⟨g, 9, none⟩ (.int .i64 (f 8))).setCell ⟨g, 10, none⟩ (.int .i64 (f 9))).setCell ⟨g, 11, none⟩ (.int .i64 (f 10))).setCell ⟨g, 12, none⟩ (.int .i64 (f 11))) g t (numC s f) := by
 have e : ((((((((((((((numC s' f').setIfInBounds 0 (.bool s)).setIfInBounds 1 (.int .i64 (f 0))).setIfInBounds 2 (.int .i64 (f 1))).setIfInBounds 3 (.int .i64 (f 2))).setIfInBounds 4 (.int .i64 (f 3))).setIfInBounds 5 (.int .i64 (f 4))).setIfInBounds 6 (.int .i64 (f 5))).setIfInBounds 7 (.int .i64 (f 6))).setIfInBounds 8 (.int .i64 (f 7))).setIfInBounds 9 (.int .i64 (f 8))).setIfInBounds 10 (.int .i64 (f 9))).setIfInBounds 11 (.int .i64 (f 10))).setIfInBounds 12 (.int .i64 (f 11))) = numC s f := by simp [numC]
 have hh := (((((((((((((h.set_ 0 (.bool s)).set_ 1 (.int .i64 (f 0))).set_ 2 (.int .i64 (f 1))).set_ 3 (.int .i64 (f 2))).set_ 4 (.int .i64 (f 3))).set_ 5 (.int .i64 (f 4))).set_ 6 (.int .i64 (f 5))).set_ 7 (.int .i64 (f 6))).set_ 8 (.int .i64 (f 7))).set_ 9 (.int .i64 (f 8))).set_ 10 (.int .i64 (f 9))).set_ 11 (.int .i64 (f 10))).set_ 12 (.int .i64 (f 11)))
 rwa [e] at hh
theorem ext13 {a w : World} {g : Nat} {s : Bool} {f : Nat → Int} (hx : Ext a w) (hg : a.heap.size ≤ g) : Ext a (((((((((((((w.setCell ⟨g, 0, none⟩ (.bool s)).setCell ⟨g, 1, none⟩ (.int .i64 (f 0))).setCell ⟨g, 2, none⟩ (.int .i64 (f 1))).setCell ⟨g, 3, none⟩ (.int .i64 (f 2))).setCell ⟨g, 4, none⟩ (.int .i64 (f 3))).setCell ⟨g, 5, none⟩ (.int .i64 (f 4))).setCell ⟨g, 6, none⟩ (.int .i64 (f 5))).setCell ⟨g, 7, none⟩ (.int .i64 (f 6))).setCell ⟨g, 8, none⟩ (.int .i64 (f 7))).setCell ⟨g, 9, none⟩ (.int .i64 (f 8))).setCell ⟨g, 10, none⟩ (.int .i64 (f 9))).setCell ⟨g, 11, none⟩ (.int .i64 (f 10))).setCell ⟨g, 12, none⟩ (.int .i64 (f 11))) :=
 (((((((((((((hx.set (p := ⟨g, 0, none⟩) hg _).set (p := ⟨g, 1, none⟩) hg _).set (p := ⟨g, 2, none⟩) hg _).set (p := ⟨g, 3, none⟩) hg _).set (p := ⟨g, 4, none⟩) hg _).set (p := ⟨g, 5, none⟩) hg _).set (p := ⟨g, 6, none⟩) hg _).set (p := ⟨g, 7, none⟩) hg _).set (p := ⟨g, 8, none⟩) hg _).set (p := ⟨g, 9, none⟩) hg _).set (p := ⟨g, 10, none⟩) hg _).set (p := ⟨g, 11, none⟩) hg _).set (p := ⟨g, 12, none⟩) hg _)
theorem far13 {w : World} {g g' : Nat} {t : TypeId} {cs : Array Value} {s : Bool} {f : Nat → Int} (h : Blk w g' t cs) (hne : g' ≠ g) : Blk (((((((((((((w.setCell ⟨g, 0, none⟩ (.bool s)).setCell ⟨g, 1, none⟩ (.int .i64 (f 0))).setCell ⟨g, 2, none⟩ (.int .i64 (f 1))).setCell ⟨g, 3, none⟩ (.int .i64 (f 2))).setCell ⟨g, 4, none⟩ (.int .i64 (f 3))).setCell ⟨g, 5, none⟩ (.int .i64 (f 4))).setCell ⟨g, 6, none⟩ (.int .i64 (f 5))).setCell ⟨g, 7, none⟩ (.int .i64 (f 6))).setCell ⟨g, 8, none⟩ (.int .i64 (f 7))).setCell ⟨g, 9, none⟩ (.int .i64 (f 8))).setCell ⟨g, 10, none⟩ (.int .i64 (f 9))).setCell ⟨g, 11, none⟩ (.int .i64 (f 10))).setCell ⟨g, 12, none⟩ (.int .i64 (f 11))) g' t cs :=
 (((((((((((((h.far (p := ⟨g, 0, none⟩) hne _).far (p := ⟨g, 1, none⟩) hne _).far (p := ⟨g, 2, none⟩) hne _).far (p := ⟨g, 3, none⟩) hne _).far (p := ⟨g, 4, none⟩) hne _).far (p := ⟨g, 5, none⟩) hne _).far (p := ⟨g, 6, none⟩) hne _).far (p := ⟨g, 7, none⟩) hne _).far (p := ⟨g, 8, none⟩) hne _).far (p := ⟨g, 9, none⟩) hne _).far (p := ⟨g, 10, none⟩) hne _).far (p := ⟨g, 11, none⟩) hne _).far (p := ⟨g, 12, none⟩) hne _)
set_option maxRecDepth 100000 in
set_option maxHeartbeats 1000000 in
theorem zero_any (s : Bool) (f : Nat → Int) (w : World) :
  Calls Tryz.prog 136 #[numV s f] w fun e w' => e = .returned (.bool (allZ f)) ∧ Ext w w' := by
 have hq := fun W => eql_arr f (allZ f) rfl W
 obtain ⟨r, hr⟩ : ∃ r, allZ f = r := ⟨_, rfl⟩
 rw [hr] at hq ⊢
 clear hr
 go_enter Tryz.func136, Tryz.ntmps136
 go_wp2_with fail
 go_ret
 exact ⟨rfl, (Ext.refl w).alloc _⟩
end Go.Proofs.YtjaponmpfdpemaaGreatDoor
set_option linter.unusedSimpArgs false
set_option linter.unusedVariables false
namespace Go.Proofs.YtjaponmpfdpemaaGreatDoor
open Go.RowKit
theorem allZ_dig {S : Nat} (h : S < 65536 ^ 12) : allZ (digI S) = decide (S = 0) := by
 rw [Bool.eq_iff_iff, allZ_iff, decide_eq_true_eq]
 constructor
 ·intro ha
  have h1 := sumD_dig12 h
  rw [sumD_congr (g := fun _ => 0) (k := 12) (fun i hi => by have := ha i hi; unfold digI at this; omega)] at h1
  have : ∀ k, sumD (fun _ => 0) k = 0 := by
   intro k
   induction k with
   | zero => rfl
   | succ k ih => rw [sumD, ih]; simp
  rw [this] at h1
  exact h1.symm
 ·intro h0 i _
  subst h0
  simp [digI, dig]
def CarRel (w : World) (s : Bool) (f : Nat → Nat) (i : Value) (wr : World) : Prop :=
 ∃ k : Nat, k ≤ 11 ∧ i = .int .i64 (k : Int) ∧ Blk wr w.heap.size 153 (numC s (fun j => ((cst f k j : Nat) : Int))) ∧ Blk wr (w.heap.size + 1) 153 (numC false (fun _ => 0)) ∧ Ext w wr
theorem CarRel.next {w W : World} {s : Bool} {f : Nat → Nat} {k m : Nat} (hk : k < 11) {x y : Int} (hx : x = ((cst f k (k + 1) : Nat) : Int) + ((cst f k k : Nat) : Int) / 65536) (hy : y = ((cst f k k : Nat) : Int) % 65536)
  (B : Blk W w.heap.size 153 ((numC s (fun j => ((cst f k j : Nat) : Int))).setIfInBounds (1 + (k + 1)) (.int .i64 x) |>.setIfInBounds (1 + k) (.int .i64 y))) (B2 : Blk W (w.heap.size + 1) 153 (numC false (fun _ => 0))) (hX : Ext w W) (e : m = k + 1) : CarRel w s f (.int .i64 (m : Int)) W := by
 subst e hx hy
 rw [numC_set _ _ _ (k + 1) (by omega), numC_set _ _ _ k (by omega)] at B
 refine ⟨k + 1, by omega, rfl, ?_, B2, hX⟩
 rw [cst_step]
 have e : (fun j => ((upd (upd (cst f k) (k + 1) (cst f k (k + 1) + cst f k k / 65536)) k (cst f k k % 65536) j : Nat) : Int)) = updI (updI (fun j => ((cst f k j : Nat) : Int)) (k + 1) (((cst f k (k + 1) : Nat) : Int) + ((cst f k k : Nat) : Int) / 65536)) k (((cst f k k : Nat) : Int) % 65536) := by
  funext j
  unfold upd updI
  split
  ·simp
  ·split
   ·simp
   ·rfl
 rw [e]
 exact B
set_option maxRecDepth 100000 in
set_option maxHeartbeats 1000000 in
theorem carried_any (s : Bool) (f : Nat → Nat) (hf : ∀ i, f i ≤ 1152921504606846976) (hS : sumD f 12 < 65536 ^ 12) (w : World) :
  Calls Tryz.prog 107 #[numV s (fun i => (f i : Int))] w fun e w' => e = .returned (numV (s && decide (sumD f 12 ≠ 0)) (digI (sumD f 12))) ∧ Ext w w' := by
 have B1 := (Blk.new w 153 (numC s (fun i => (f i : Int)))).alloc (.cells (numC false (fun _ => 0)) 153)
 have B2 : Blk ((w.alloc (.cells (numC s (fun i => (f i : Int))) 153)).alloc (.cells (numC false (fun _ => 0)) 153)) (w.heap.size + 1) 153 (numC false (fun _ => 0)) := by
  have := Blk.new (w.alloc (.cells (numC s (fun i => (f i : Int))) 153)) 153 (numC false (fun _ => 0))
  simpa using this
 have X0 := ((Ext.refl w).alloc (.cells (numC s (fun i => (f i : Int))) 153)).alloc (.cells (numC false (fun _ => 0)) 153)
 have H0 := Lib.hid (show CarRel w s f (.int .i64 ((0 : Nat) : Int)) _ from ⟨0, by omega, rfl, by rw [cst_0]; exact B1, B2, X0⟩)
 clear B1 B2 X0
 have HS := Lib.hid hS
 obtain ⟨S, hSS⟩ : ∃ S, sumD f 12 = S := ⟨_, rfl⟩
 rw [hSS]
 replace hSS := Lib.hid hSS
 have HF := Lib.hid hf
 clear hS hf
 go_enter Tryz.func107, Tryz.ntmps107
 go_wp2_with fail
 go_loopw [3] (fun i wr => CarRel w s f i wr) (fun i _ => 11 - (intOf i).toNat)
 case atStart => exact H0.out
 case round =>
  clear H0
  obtain ⟨k, hk, rfl, hB, hB2, hx⟩ := hrel
  by_cases hlt : k < 11
  ·have hd : decide ((k : Int) < 11) = true := by simp; omega
   have c1 := (hB.cell (1 + k)).trans (numC_at s _ k (by omega))
   have c2 := (hB.cell (1 + (k + 1))).trans (numC_at s _ (k + 1) (by omega))
   have fz := hB.frozen
   have b1 := cst_bd (by decide) HF.out k k
   have b2 := cst_bd (by decide) HF.out k (k + 1)
   have HN := Lib.hid (fun (W : World) (x y : Int) hx' hy B B2 hX => CarRel.next (w := w) (W := W) (s := s) (f := f) (x := x) (y := y) (m := k + 1) hlt hx' hy B B2 hX rfl)
   have hB' := Lib.hid hB
   have hB2' := Lib.hid hB2
   clear hB hB2
   generalize cst f k k = a at *
   generalize cst f k (k + 1) = b at *
   have lb := (hB'.out).lt
   have e1 : IntKind.i64.wrap ((k : Int) + 1) = (k : Int) + 1 := IntWalk.i64_in _ (by omega)
   have e2 : (0 : Int) ≤ (k : Int) + 1 := by omega
   have e3 : ((k : Int) + 1).toNat = k + 1 := by omega
   have e4 : (k : Int) + 1 < 12 := by omega
   have e5 : (k : Int) < 12 := by omega
   have a1 : (0 : Int) ≤ (a : Int) := by omega
   have a2 : (a : Int).tdiv 65536 = (a : Int) / 65536 := Int.tdiv_eq_ediv_of_nonneg a1
   have a3 : IntKind.i64.wrap ((b : Int) + (a : Int) / 65536) = (b : Int) + (a : Int) / 65536 := IntWalk.i64_in _ (by omega)
   go_wp2_with fail
   go_still_tail 15, (by kernel_rfl)
   go_wp2_with fail
   go_roundw
   case rel =>
    have g1 : w.heap.size + 1 ≠ w.heap.size := by omega
    have := HN.out _ _ _ rfl rfl (((hB'.out.set_ (1 + (k + 1)) (.int .i64 ((b : Int) + (a : Int) / 65536))).set_ (1 + k) (.int .i64 ((a : Int) % 65536))).ext (Ext.refl _).drew) (((hB2'.out.far (p := ⟨w.heap.size, 1 + (k + 1), none⟩) g1 _).far (p := ⟨w.heap.size, 1 + k, none⟩) g1 _).ext (Ext.refl _).drew) (((hx.set (p := ⟨w.heap.size, 1 + (k + 1), none⟩) (Nat.le_refl _) _).set (p := ⟨w.heap.size, 1 + k, none⟩) (Nat.le_refl _) _).drew)
    first | exact this | (simpa using this)
   case measure => simp [intOf]; omega
  ·have hk11 : k = 11 := by omega
   subst hk11
   have hC := numC_congr (s := s) (f := fun j => ((cst f 11 j : Nat) : Int)) (g := digI (sumD f 12)) (fun i hi => by show ((cst f 11 i : Nat) : Int) = _; rw [cst_end HS.out hi]; rfl)
   rw [hC] at hB
   have hz := allZ_dig HS.out
   rw [hSS.out] at hz hB
   clear HF hC
   obtain ⟨q, q'⟩ := hB.cells
   unfold numC at q
   go_wp2_with fail
   refine (zero_any s (digI S) _).mono ?_
   rintro e w2 ⟨rfl, hx2⟩
   rw [hz]
   replace hz := Lib.hid hz
   have B3 := hB.ext hx2
   have B4 := hB2.ext hx2
   have X3 := hx.trans hx2
   clear q q' hB hB2 hx hx2
   obtain ⟨q, q'⟩ := B3.cells
   obtain ⟨p, p'⟩ := B4.cells
   unfold numC at q p
   have g1 : w.heap.size + 1 ≠ w.heap.size := by omega
   by_cases h0 : S = 0
   ·have hd0 : decide (S = 0) = true := by simpa using h0
    have hd1 : decide (S ≠ 0) = false := by simpa using h0
    rw [hd0]
    replace hd1 := Lib.hid hd1
    replace h0 := Lib.hid h0
    go_wp2_with fail
    exact bodyPost_ret (results_c rfl rfl (ld_num (put13 (s := false) (f := digI S) (B4.far (p := ⟨w.heap.size, 0, none⟩) g1 _)))) rfl ⟨by rw [hd1.out, Bool.and_false], ext13 (X3.set (p := ⟨w.heap.size, 0, none⟩) (Nat.le_refl _) _) (by omega)⟩
   ·have hd0 : decide (S = 0) = false := by simpa using h0
    have hd1 : decide (S ≠ 0) = true := by simpa using h0
    rw [hd0]
    replace hd1 := Lib.hid hd1
    replace h0 := Lib.hid h0
    go_wp2_with fail
    exact bodyPost_ret (results_c rfl rfl (ld_num (put13 (s := s) (f := digI S) B4))) rfl ⟨by rw [hd1.out, Bool.and_true], ext13 X3 (by omega)⟩
end Go.Proofs.YtjaponmpfdpemaaGreatDoor
set_option linter.unusedSimpArgs false
set_option linter.unusedVariables false
namespace Go.Proofs.YtjaponmpfdpemaaGreatDoor
open Go.RowKit
theorem carriedD_any (s : Bool) (n : Nat) (hn : n < 65536 ^ 12) (w : World) :
  Calls Tryz.prog 107 #[numV s (digI n)] w fun e w' => e = .returned (numV (s && decide (n ≠ 0)) (digI n)) ∧ Ext w w' := by
 have := carried_any s (dig n) (fun i => by have := dig_lt n i; omega) (by rw [sumD_dig12 hn]; exact hn) w
 rw [sumD_dig12 hn] at this
 exact this
theorem Blk.two12 (w : World) (t t' : TypeId) (cs cs' : Array Value) : Blk ((w.alloc (.cells cs t)).alloc (.cells cs' t')) (w.heap.size + 1) t' cs' := by
 have := Blk.new (w.alloc (.cells cs t)) t' cs'
 rwa [show (w.alloc (.cells cs t)).heap.size = w.heap.size + 1 by simp] at this
def SizeRel (m n : Nat) (W0 : World) (i : Value) (wr : World) : Prop :=
 ∃ k : Nat, k ≤ 12 ∧ i = .int .i64 ((k : Int) - 1) ∧ m / 65536 ^ k = n / 65536 ^ k ∧ Ext W0 wr
set_option maxRecDepth 100000 in
set_option maxHeartbeats 1000000 in
theorem size_any (s s' : Bool) (m n : Nat) (hm : m < 65536 ^ 12) (hn : n < 65536 ^ 12) (w : World) :
  Calls Tryz.prog 134 #[numV s (digI m), numV s' (digI n)] w fun e w' => e = .returned (.int .i64 (cmpN m n)) ∧ Ext w w' := by
 have B1 := (Blk.new w 153 (numC s (digI m))).alloc (.cells (numC s' (digI n)) 153)
 have B2 := Blk.two12 w 153 153 (numC s (digI m)) (numC s' (digI n))
 have X0 := ((Ext.refl w).alloc (.cells (numC s (digI m)) 153)).alloc (.cells (numC s' (digI n)) 153)
 have H0 := Lib.hid (show SizeRel m n ((w.alloc (.cells (numC s (digI m)) 153)).alloc (.cells (numC s' (digI n)) 153)) (.int .i64 11) _ from ⟨12, by omega, rfl, by rw [Nat.div_eq_of_lt hm, Nat.div_eq_of_lt hn], Ext.refl _⟩)
 have HB := Lib.hid (fun W (hx : Ext ((w.alloc (.cells (numC s (digI m)) 153)).alloc (.cells (numC s' (digI n)) 153)) W) => And.intro (B1.ext hx) (B2.ext hx))
 replace X0 := Lib.hid X0
 clear B1 B2 hm hn
 obtain ⟨C, hC⟩ : ∃ C, cmpN m n = C := ⟨_, rfl⟩
 rw [hC]
 replace hC := Lib.hid hC
 go_enter Tryz.func134, Tryz.ntmps134
 go_wp2_with fail
 go_loopw [5] (fun i wr => SizeRel m n ((w.alloc (.cells (numC s (digI m)) 153)).alloc (.cells (numC s' (digI n)) 153)) i wr) (fun i _ => (intOf i + 1).toNat)
 case atStart => exact H0.out
 case round =>
  clear H0
  obtain ⟨k, hk, rfl, hd, hx⟩ := hrel
  rcases k with _ | j
  ·have hmn : m = n := by simpa using hd
   have hC0 : C = 0 := by rw [← hC.out, hmn]; unfold cmpN; rw [if_neg (by omega), if_neg (by omega)]
   have e0 : (((0 : Nat) : Int) - 1) = -1 := rfl
   rw [e0]
   replace hmn := Lib.hid hmn
   replace hC0 := Lib.hid hC0
   clear hd
   go_wp2_with fail
   go_ret
   exact ⟨by rw [hC0.out]; rfl, X0.out.trans hx⟩
  ·have e0 : (((j + 1 : Nat) : Int) - 1) = (j : Int) := by omega
   rw [e0]
   obtain ⟨B1, B2⟩ := HB.out wr hx
   have c1 := (B1.cell (1 + j)).trans (numC_at s _ j (by omega))
   have c2 := (B2.cell (1 + j)).trans (numC_at s' _ j (by omega))
   have l12 : (j : Int) < 12 := by omega
   have l0 : (0 : Int) ≤ (j : Int) := by omega
   have HL := Lib.hid (fun (h : digI m j < digI n j) => (show C = -1 from by rw [← hC.out]; unfold cmpN; rw [if_pos (top_lt hd (by unfold digI at h; omega))]))
   have HG := Lib.hid (fun (h : digI n j < digI m j) => (show C = 1 from by
    have := top_lt hd.symm (by unfold digI at h; omega)
    rw [← hC.out]; unfold cmpN; rw [if_neg (by omega), if_pos this]))
   have HE := Lib.hid (fun (h : digI m j = digI n j) => top_next hd (by unfold digI at h; omega))
   clear hd B1 B2
   generalize digI m j = x at *
   generalize digI n j = y at *
   by_cases hxy : x = y
   ·have hb : (x != y) = false := by simpa using hxy
    have hE := Lib.hid (HE.out hxy)
    replace hxy := Lib.hid hxy
    clear HL HG HE
    go_wp2_with fail
    go_quiet (fail)
    go_wp2_with fail
    go_roundw
    case rel => exact ⟨j, by omega, rfl, hE.out, hx.drewN _⟩
    case measure => simp [intOf] <;> omega
   ·have hb : (x != y) = true := by simpa using hxy
    replace hxy := Lib.hid hxy
    go_wp2_with fail
    go_quiet (fail)
    rcases Int.lt_or_gt_of_ne hxy.out with hl | hl
    ·have hb2 : decide (x < y) = true := by simpa using hl
     have hE := Lib.hid (HL.out hl)
     clear HL HG HE
     go_wp2_with fail
     go_quiet (fail)
     go_wp2_with fail
     go_ret
     exact ⟨by rw [hE.out]; rfl, ((X0.out.trans hx).drewN _).drewN _⟩
    ·have hb2 : decide (x < y) = false := by simp; omega
     have hE := Lib.hid (HG.out hl)
     clear HL HG HE
     go_wp2_with fail
     go_quiet (fail)
     go_wp2_with fail
     go_ret
     exact ⟨by rw [hE.out]; rfl, ((X0.out.trans hx).drewN _).drewN _⟩
set_option maxRecDepth 100000 in
set_option maxHeartbeats 1000000 in
theorem less_any (s : Bool) (n : Nat) (hn : n < 65536 ^ 12) (w : World) :
  Calls Tryz.prog 135 #[numV s (digI n)] w fun e w' => e = .returned (numV (!s && decide (n ≠ 0)) (digI n)) ∧ Ext w w' := by
 have B2 := Blk.two12 w 153 153 (numC (!s) (digI n)) (numC false (fun _ => 0))
 have X0 := ((Ext.refl w).alloc (.cells (numC (!s) (digI n)) 153)).alloc (.cells (numC false (fun _ => 0)) 153)
 have HC := Lib.hid (carriedD_any (!s) n hn)
 obtain ⟨sg, hsg⟩ : ∃ sg, (!s && decide (n ≠ 0)) = sg := ⟨_, rfl⟩
 replace hsg := Lib.hid hsg
 have HB := Lib.hid (And.intro B2 X0)
 unfold numC at HB
 clear hn B2 X0
 go_enter Tryz.func135, Tryz.ntmps135
 go_wp2_with fail
 refine (HC.out _).mono ?_
 rintro e w2 ⟨rfl, hx2⟩
 rw [hsg.out]
 have B3 := HB.out.1.ext hx2
 have X3 := HB.out.2.trans hx2
 obtain ⟨p, p'⟩ := B3.cells
 clear hx2
 go_wp2_with fail
 exact bodyPost_ret (results_c rfl rfl (ld_num (put13 (s := sg) (f := digI n) (s' := false) (f' := fun _ => 0) B3))) rfl ⟨by rw [hsg.out], ext13 X3 (by omega)⟩
def PlusRel (w : World) (s s' : Bool) (m n : Nat) (i : Value) (wr : World) : Prop :=
 ∃ k : Nat, k ≤ 12 ∧ i = .int .i64 (k : Int) ∧ Blk wr w.heap.size 153 (numC s (fun j => if j < k then digI m j + digI n j else digI m j)) ∧ Blk wr (w.heap.size + 1) 153 (numC s' (digI n)) ∧ Blk wr (w.heap.size + 1 + 1) 153 (numC false (fun _ => 0)) ∧ Ext w wr
theorem PlusRel.next {w W : World} {s s' : Bool} {m n k j : Nat} (hk : k < 12)
  (B : Blk W w.heap.size 153 ((numC s (fun j => if j < k then digI m j + digI n j else digI m j)).setIfInBounds (1 + k) (.int .i64 (digI m k + digI n k)))) (B2 : Blk W (w.heap.size + 1) 153 (numC s' (digI n))) (B3 : Blk W (w.heap.size + 1 + 1) 153 (numC false (fun _ => 0))) (hX : Ext w W) (e : j = k + 1) : PlusRel w s s' m n (.int .i64 (j : Int)) W := by
 subst e
 rw [numC_set _ _ _ k hk] at B
 refine ⟨k + 1, by omega, rfl, ?_, B2, B3, hX⟩
 rw [show (fun j => if j < k + 1 then digI m j + digI n j else digI m j) = updI (fun j => if j < k then digI m j + digI n j else digI m j) k (digI m k + digI n k) from ?_]
 ·exact B
 funext j
 unfold updI
 dsimp only
 by_cases h1 : j = k
 ·subst h1; rw [if_pos (by omega), if_pos rfl]
 ·rw [if_neg h1]
  by_cases h2 : j < k
  ·rw [if_pos (by omega), if_pos h2]
  ·rw [if_neg (by omega), if_neg h2]
set_option maxRecDepth 100000 in
set_option maxHeartbeats 1000000 in
theorem plus_same (s : Bool) (m n : Nat) (hm : m < 65536 ^ 12) (hn : n < 65536 ^ 12) (hs : m + n < 65536 ^ 12) (w : World) :
  Calls Tryz.prog 105 #[numV s (digI m), numV s (digI n)] w fun e w' => e = .returned (numV (s && decide (m + n ≠ 0)) (digI (m + n))) ∧ Ext w w' := by
 have B1 := ((Blk.new w 153 (numC s (digI m))).alloc (.cells (numC s (digI n)) 153)).alloc (.cells (numC false (fun _ => 0)) 153)
 have B2 := (Blk.two12 w 153 153 (numC s (digI m)) (numC s (digI n))).alloc (.cells (numC false (fun _ => 0)) 153)
 have B3 : Blk (((w.alloc (.cells (numC s (digI m)) 153)).alloc (.cells (numC s (digI n)) 153)).alloc (.cells (numC false (fun _ => 0)) 153)) (w.heap.size + 1 + 1) 153 (numC false (fun _ => 0)) := by
  have := Blk.two12 (w.alloc (.cells (numC s (digI m)) 153)) 153 153 (numC s (digI n)) (numC false (fun _ => 0))
  simpa using this
 have X0 := (((Ext.refl w).alloc (.cells (numC s (digI m)) 153)).alloc (.cells (numC s (digI n)) 153)).alloc (.cells (numC false (fun _ => 0)) 153)
 have H0 := Lib.hid (show PlusRel w s s m n (.int .i64 ((0 : Nat) : Int)) _ from ⟨0, by omega, rfl, B1, B2, B3, X0⟩)
 have HC := Lib.hid (carried_any s (fun j => dig m j + dig n j) (fun i => by have := dig_lt m i; have := dig_lt n i; omega) (by rw [sumD_add, sumD_dig12 hm, sumD_dig12 hn]; exact hs))
 have HS := Lib.hid (show sumD (fun j => dig m j + dig n j) 12 = m + n by rw [sumD_add, sumD_dig12 hm, sumD_dig12 hn])
 have hss : (s == s) = true := by simp
 obtain ⟨sg, hsg⟩ : ∃ sg, (s && decide (m + n ≠ 0)) = sg := ⟨_, rfl⟩
 replace hsg := Lib.hid hsg
 clear hm hn hs B1 B2 B3 X0
 go_enter Tryz.func105, Tryz.ntmps105
 go_wp2_with fail
 go_loopw [5] (fun i wr => PlusRel w s s m n i wr) (fun i _ => 12 - (intOf i).toNat)
 case atStart => exact H0.out
 case round =>
  clear H0
  obtain ⟨k, hk, rfl, hB, hB2, hB3, hx⟩ := hrel
  by_cases hlt : k < 12
  ·have hd : decide ((k : Int) < 12) = true := by simp; omega
   have c1 : wr.cell? ⟨w.heap.size, 1 + k, none⟩ = some (.int .i64 (digI m k)) := (hB.cell (1 + k)).trans ((numC_at s _ k hlt).trans (by rw [if_neg (by omega)]))
   have c2 := (hB2.cell (1 + k)).trans (numC_at s _ k hlt)
   have fz := hB.frozen
   have b1 : 0 ≤ digI m k ∧ digI m k < 65536 := by have := dig_lt m k; unfold digI; omega
   have b2 : 0 ≤ digI n k ∧ digI n k < 65536 := by have := dig_lt n k; unfold digI; omega
   have HN := Lib.hid (fun (W : World) B B2 B3 hX => PlusRel.next (w := w) (W := W) (s := s) (s' := s) (m := m) (n := n) (j := k + 1) hlt B B2 B3 hX rfl)
   have hB' := Lib.hid hB
   have hB2' := Lib.hid hB2
   have hB3' := Lib.hid hB3
   clear hB hB2 hB3
   generalize digI m k = a at *
   generalize digI n k = b at *
   obtain ⟨b10, b11⟩ := b1
   obtain ⟨b20, b21⟩ := b2
   have e1 : IntKind.i64.wrap (a + b) = a + b := IntWalk.i64_in _ (by omega)
   have e5 : (k : Int) < 12 := by omega
   have lb := (hB'.out).lt
   go_wp2_with fail
   go_still_tail 11, (by kernel_rfl)
   go_wp2_with fail
   go_roundw
   case rel =>
    have g1 : w.heap.size + 1 ≠ w.heap.size := by omega
    have g2 : w.heap.size + 1 + 1 ≠ w.heap.size := by omega
    have := HN.out _ ((hB'.out.set_ (1 + k) (.int .i64 (a + b))).ext (Ext.refl _).drew) ((hB2'.out.far (p := ⟨w.heap.size, 1 + k, none⟩) g1 _).ext (Ext.refl _).drew) ((hB3'.out.far (p := ⟨w.heap.size, 1 + k, none⟩) g2 _).ext (Ext.refl _).drew) ((hx.set (p := ⟨w.heap.size, 1 + k, none⟩) (Nat.le_refl _) _).drew)
    first | exact this | (simpa using this)
   case measure => simp [intOf] <;> omega
  ·have hk12 : k = 12 := by omega
   subst hk12
   rw [numC_congr (s := s) (g := fun j => (((fun j => dig m j + dig n j) j : Nat) : Int)) (fun i hi => by rw [if_pos hi]; unfold digI; simp)] at hB
   obtain ⟨q, q'⟩ := hB.cells
   unfold numC at q
   go_wp2_with fail
   refine (HC.out _).mono ?_
   rintro e w2 ⟨rfl, hx2⟩
   rw [HS.out, hsg.out]
   have B3 := hB3.ext hx2
   obtain ⟨p, p'⟩ := B3.cells
   unfold numC at p
   have X3 := hx.trans hx2
   clear q q' hB hB2 hB3
   go_wp2_with fail
   exact bodyPost_ret (results_c rfl rfl (ld_num (put13 (s := sg) (f := digI (m + n)) B3))) rfl ⟨by rw [hsg.out], ext13 X3 (by omega)⟩
end Go.Proofs.YtjaponmpfdpemaaGreatDoor
set_option linter.unusedSimpArgs false
set_option linter.unusedVariables false
namespace Go.Proofs.YtjaponmpfdpemaaGreatDoor
open Go.RowKit
theorem cmpN_ge {m n : Nat} (h : n ≤ m) : 0 ≤ cmpN m n := by unfold cmpN; split; omega; split <;> omega
def subF (m n k : Nat) : Nat → Int := fun j => if j < k then digI (m - n) j else if j = k then digI m j - (brw m n j : Int) else digI m j
theorem subF_0 (m n : Nat) : subF m n 0 = digI m := by
 funext j
 unfold subF
 rw [if_neg (by omega)]
 split
 ·next h => subst h; rw [brw_0]; simp
 ·rfl
theorem subF_end {m n : Nat} {i : Nat} (hi : i < 12) : subF m n 12 i = digI (m - n) i := by
 unfold subF
 rw [if_pos hi]
theorem subF_k (m n k : Nat) : subF m n k k = digI m k - (brw m n k : Int) := by
 unfold subF
 rw [if_neg (by omega), if_pos rfl]
theorem subF_up (m n k : Nat) : subF m n k (k + 1) = digI m (k + 1) := by
 unfold subF
 rw [if_neg (by omega), if_neg (by omega)]
theorem subF_no {m n : Nat} (h : n ≤ m) (k : Nat) (hb : brw m n (k + 1) = 0) : subF m n (k + 1) = updI (subF m n k) k (digI m k - (brw m n k : Int) - digI n k) := by
 have hd := sub_dig h k
 rw [hb] at hd
 funext j
 unfold updI
 by_cases h1 : j = k
 ·subst h1
  rw [if_pos rfl]
  unfold subF
  rw [if_pos (by omega)]
  unfold digI
  omega
 rw [if_neg h1]
 unfold subF
 by_cases h2 : j < k
 ·rw [if_pos (by omega), if_pos h2]
 ·rw [if_neg (by omega), if_neg h2, if_neg h1]
  by_cases h3 : j = k + 1
  ·subst h3; rw [if_pos rfl, hb]; simp
  ·rw [if_neg h3]
theorem subF_yes {m n : Nat} (h : n ≤ m) (k : Nat) (hb : brw m n (k + 1) = 1) : subF m n (k + 1) = updI (updI (updI (subF m n k) k (digI m k - (brw m n k : Int) - digI n k)) k (digI m k - (brw m n k : Int) - digI n k + 65536)) (k + 1) (digI m (k + 1) - 1) := by
 have hd := sub_dig h k
 rw [hb] at hd
 funext j
 unfold updI
 by_cases h3 : j = k + 1
 ·subst h3
  rw [if_pos rfl]
  unfold subF
  rw [if_neg (by omega), if_pos rfl, hb]
  rfl
 rw [if_neg h3]
 by_cases h1 : j = k
 ·subst h1
  rw [if_pos rfl]
  unfold subF
  rw [if_pos (by omega)]
  unfold digI
  omega
 rw [if_neg h1, if_neg h1]
 unfold subF
 by_cases h2 : j < k
 ·rw [if_pos (by omega), if_pos h2]
 ·rw [if_neg (by omega), if_neg h3, if_neg h2, if_neg h1]
theorem sub_sign {m n : Nat} (h : n ≤ m) (k : Nat) : (brw m n (k + 1) = 1 → digI m k - (brw m n k : Int) - digI n k < 0) ∧ (brw m n (k + 1) = 0 → 0 ≤ digI m k - (brw m n k : Int) - digI n k) := by
 have hd := sub_dig h k
 have := dig_lt (m - n) k
 unfold digI
 constructor
 ·intro hb; rw [hb] at hd; omega
 ·intro hb; rw [hb] at hd; omega
def SubRel (w : World) (s s' : Bool) (m n : Nat) (i : Value) (wr : World) : Prop :=
 ∃ k : Nat, k ≤ 12 ∧ i = .int .i64 (k : Int) ∧ Blk wr w.heap.size 153 (numC s (subF m n k)) ∧ Blk wr (w.heap.size + 1) 153 (numC s' (digI n)) ∧ Blk wr (w.heap.size + 1 + 1) 153 (numC false (fun _ => 0)) ∧ Ext w wr
set_option maxRecDepth 100000 in
set_option maxHeartbeats 2000000 in
theorem plus_diff (s s' : Bool) (m n : Nat) (hm : m < 65536 ^ 12) (hnm : n ≤ m) (hss : (s == s') = false) (w : World) :
  Calls Tryz.prog 105 #[numV s (digI m), numV s' (digI n)] w fun e w' => e = .returned (numV (s && decide (m - n ≠ 0)) (digI (m - n))) ∧ Ext w w' := by
 have hn : n < 65536 ^ 12 := Nat.lt_of_le_of_lt hnm hm
 have B1 := ((Blk.new w 153 (numC s (digI m))).alloc (.cells (numC s' (digI n)) 153)).alloc (.cells (numC false (fun _ => 0)) 153)
 have B2 := (Blk.two12 w 153 153 (numC s (digI m)) (numC s' (digI n))).alloc (.cells (numC false (fun _ => 0)) 153)
 have B3 : Blk (((w.alloc (.cells (numC s (digI m)) 153)).alloc (.cells (numC s' (digI n)) 153)).alloc (.cells (numC false (fun _ => 0)) 153)) (w.heap.size + 1 + 1) 153 (numC false (fun _ => 0)) := by
  have := Blk.two12 (w.alloc (.cells (numC s (digI m)) 153)) 153 153 (numC s' (digI n)) (numC false (fun _ => 0))
  simpa using this
 have X0 := (((Ext.refl w).alloc (.cells (numC s (digI m)) 153)).alloc (.cells (numC s' (digI n)) 153)).alloc (.cells (numC false (fun _ => 0)) 153)
 have HC := Lib.hid (carriedD_any s (m - n) (by omega))
 have HZ := Lib.hid (size_any s s' m n hm hn)
 have hc0 := cmpN_ge hnm
 obtain ⟨c, hc⟩ : ∃ c, cmpN m n = c := ⟨_, rfl⟩
 rw [hc] at hc0
 replace hc := Lib.hid hc
 have hdc : decide (c < 0) = false := by simp; omega
 have HM := Lib.hid hm
 obtain ⟨sg, hsg⟩ : ∃ sg, (s && decide (m - n ≠ 0)) = sg := ⟨_, rfl⟩
 replace hsg := Lib.hid hsg
 obtain ⟨q, q'⟩ := B1.cells
 obtain ⟨p, p'⟩ := B2.cells
 unfold numC at q p
 have H0 := Lib.hid (fun W (hx : Ext _ W) => (show SubRel w s s' m n (.int .i64 ((0 : Nat) : Int)) W from ⟨0, by omega, rfl, by rw [subF_0]; exact B1.ext hx, B2.ext hx, B3.ext hx, X0.trans hx⟩))
 clear hm hn B1 B2 B3 X0 q q' p p'
 go_enter Tryz.func105, Tryz.ntmps105
 go_wp2_with fail
 refine (HZ.out _).mono ?_
 rintro e w1 ⟨rfl, hx1⟩
 rw [hc.out]
 have H1 := Lib.hid (H0.out _ hx1)
 clear H0 HZ hx1
 go_wp2_with fail
 go_loopw [6] (fun i wr => SubRel w s s' m n i wr) (fun i _ => 12 - (intOf i).toNat)
 case atStart => exact H1.out
 case round =>
  clear H1
  obtain ⟨k, hk, rfl, hB, hB2, hB3, hx⟩ := hrel
  have g1 : w.heap.size + 1 ≠ w.heap.size := by omega
  have g2 : w.heap.size + 1 + 1 ≠ w.heap.size := by omega
  by_cases hlt : k < 12
  ·have hd : decide ((k : Int) < 12) = true := by simp; omega
   have c1 := (hB.cell (1 + k)).trans (numC_at s _ k hlt)
   rw [subF_k] at c1
   have c2 := (hB2.cell (1 + k)).trans (numC_at s' _ k hlt)
   have fz := hB.frozen
   have b1 : 0 ≤ digI m k ∧ digI m k < 65536 := by have := dig_lt m k; unfold digI; omega
   have b2 : 0 ≤ digI n k ∧ digI n k < 65536 := by have := dig_lt n k; unfold digI; omega
   have b3 := brw_le m n k
   have hsn := sub_sign hnm k
   have lb := hB.lt
   have e5 : (k : Int) < 12 := by omega
   obtain ⟨b10, b11⟩ := b1
   obtain ⟨b20, b21⟩ := b2
   by_cases hb : brw m n (k + 1) = 0
   ·have hv := hsn.2 hb
    have HF := subF_no hnm k hb
    have HN := Lib.hid (fun (W : World) (B : Blk W w.heap.size 153 ((numC s (subF m n k)).setIfInBounds (1 + k) (.int .i64 (digI m k - (brw m n k : Int) - digI n k)))) B2 B3 hX => (show SubRel w s s' m n (.int .i64 ((k + 1 : Nat) : Int)) W from ⟨k + 1, by omega, rfl, by rw [numC_set _ _ _ k hlt, ← HF] at B; exact B, B2, B3, hX⟩))
    have hB' := Lib.hid hB
    have hB2' := Lib.hid hB2
    have hB3' := Lib.hid hB3
    clear hB hB2 hB3 HF hsn
    replace hb := Lib.hid hb
    generalize brw m n k = z at *
    obtain ⟨a, ha⟩ : ∃ a, digI m k - (z : Int) = a := ⟨_, rfl⟩
    rw [ha] at c1 hv HN
    have ab : -1 ≤ a ∧ a < 65536 := by omega
    replace ha := Lib.hid ha
    obtain ⟨ab0, ab1⟩ := ab
    generalize digI n k = b at *
    have a1 : IntKind.i64.wrap (a - b) = a - b := IntWalk.i64_in _ (by omega)
    have hdv : decide (a - b < 0) = false := by simp; omega
    go_wp2_with fail
    go_still_tail 11, (by kernel_rfl)
    go_wp2_with fail
    go_roundw
    case rel =>
     have := HN.out _ ((hB'.out.set_ (1 + k) (.int .i64 (a - b))).ext (Ext.refl _).drew) ((hB2'.out.far (p := ⟨w.heap.size, 1 + k, none⟩) g1 _).ext (Ext.refl _).drew) ((hB3'.out.far (p := ⟨w.heap.size, 1 + k, none⟩) g2 _).ext (Ext.refl _).drew) ((hx.set (p := ⟨w.heap.size, 1 + k, none⟩) (Nat.le_refl _) _).drew)
     first | exact this | (simpa using this)
    case measure => simp [intOf] <;> omega
   ·have hb1 : brw m n (k + 1) = 1 := by have := brw_le m n (k + 1); omega
    have hk11 : k < 11 := by
     rcases Nat.lt_or_ge k 11 with h | h
     ·exact h
     ·have : k = 11 := by omega
      subst this
      rw [brw_12 hnm HM.out] at hb1
      cases hb1
    have hv := hsn.1 hb1
    have c3 := (hB.cell (1 + (k + 1))).trans (numC_at s _ (k + 1) (by omega))
    rw [subF_up] at c3
    have HF := subF_yes hnm k hb1
    have HN := Lib.hid (fun (W : World) (B : Blk W w.heap.size 153 ((((numC s (subF m n k)).setIfInBounds (1 + k) (.int .i64 (digI m k - (brw m n k : Int) - digI n k))).setIfInBounds (1 + k) (.int .i64 (digI m k - (brw m n k : Int) - digI n k + 65536))).setIfInBounds (1 + (k + 1)) (.int .i64 (digI m (k + 1) - 1)))) B2 B3 hX => (show SubRel w s s' m n (.int .i64 ((k + 1 : Nat) : Int)) W from ⟨k + 1, by omega, rfl, by rw [numC_set _ _ _ k hlt, numC_set _ _ _ k hlt, numC_set _ _ _ (k + 1) (by omega), ← HF] at B; exact B, B2, B3, hX⟩))
    have hB' := Lib.hid hB
    have hB2' := Lib.hid hB2
    have hB3' := Lib.hid hB3
    have b3n : 0 ≤ digI m (k + 1) ∧ digI m (k + 1) < 65536 := by have := dig_lt m (k + 1); unfold digI; omega
    clear hB hB2 hB3 HF hsn
    replace hb := Lib.hid hb
    replace hb1 := Lib.hid hb1
    generalize brw m n k = z at *
    obtain ⟨a, ha⟩ : ∃ a, digI m k - (z : Int) = a := ⟨_, rfl⟩
    rw [ha] at c1 hv HN
    have ab : -1 ≤ a ∧ a < 65536 := by omega
    replace ha := Lib.hid ha
    generalize digI n k = b at *
    generalize digI m (k + 1) = c' at *
    have a1 : IntKind.i64.wrap (a - b) = a - b := IntWalk.i64_in _ (by omega)
    have hdv : decide (a - b < 0) = true := by simp; omega
    have hd11 : decide ((k : Int) < 11) = true := by simp; omega
    obtain ⟨b30, b31⟩ := b3n
    obtain ⟨ab0, ab1⟩ := ab
    go_wp2_with fail
    go_still_tail 11, (by kernel_rfl)
    go_wp2_with fail
    go_roundw
    case rel =>
     have := HN.out _ ((((hB'.out.set_ (1 + k) (.int .i64 (a - b))).set_ (1 + k) (.int .i64 (a - b + 65536))).set_ (1 + (k + 1)) (.int .i64 (c' - 1))).ext (Ext.refl _).drew) ((((hB2'.out.far (p := ⟨w.heap.size, 1 + k, none⟩) g1 _).far (p := ⟨w.heap.size, 1 + k, none⟩) g1 _).far (p := ⟨w.heap.size, 1 + (k + 1), none⟩) g1 _).ext (Ext.refl _).drew) ((((hB3'.out.far (p := ⟨w.heap.size, 1 + k, none⟩) g2 _).far (p := ⟨w.heap.size, 1 + k, none⟩) g2 _).far (p := ⟨w.heap.size, 1 + (k + 1), none⟩) g2 _).ext (Ext.refl _).drew) ((((hx.set (p := ⟨w.heap.size, 1 + k, none⟩) (Nat.le_refl _) _).set (p := ⟨w.heap.size, 1 + k, none⟩) (Nat.le_refl _) _).set (p := ⟨w.heap.size, 1 + (k + 1), none⟩) (Nat.le_refl _) _).drew)
     first | exact this | (simpa using this)
    case measure => simp [intOf] <;> omega
  ·have hk12 : k = 12 := by omega
   subst hk12
   rw [numC_congr (s := s) (g := digI (m - n)) (fun i hi => subF_end hi)] at hB
   obtain ⟨q, q'⟩ := hB.cells
   unfold numC at q
   go_wp2_with fail
   refine (HC.out _).mono ?_
   rintro e w2 ⟨rfl, hx2⟩
   rw [hsg.out]
   have B3 := hB3.ext hx2
   obtain ⟨p, p'⟩ := B3.cells
   unfold numC at p
   have X3 := hx.trans hx2
   clear q q' hB hB2 hB3
   go_wp2_with fail
   exact bodyPost_ret (results_c rfl rfl (ld_num (put13 (s := sg) (f := digI (m - n)) B3))) rfl ⟨by rw [hsg.out], ext13 X3 (by omega)⟩
end Go.Proofs.YtjaponmpfdpemaaGreatDoor
