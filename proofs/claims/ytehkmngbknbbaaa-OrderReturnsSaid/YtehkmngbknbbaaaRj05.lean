/-
  The reference's numbers in memory; zero, carried. (Printed by wip/tools/genQb.py.)
-/
import Derived.Test.YtehkmngbknbbaaaRj03
import Derived.Test.YtehkmngbknbbaaaRj04
import Derived.ChangeKeysEq
import Derived.LaidEql
set_option linter.unusedVariables false
namespace Go.Proofs.Ytehkmngbknbbaaa
open Go.RowKit

/-- A number's cells: its sign, its digits. -/
def numC (s : Bool) (f : Nat → Int) : Array Value := #[.bool s, .int .i64 (f 0), .int .i64 (f 1), .int .i64 (f 2), .int .i64 (f 3), .int .i64 (f 4), .int .i64 (f 5), .int .i64 (f 6), .int .i64 (f 7), .int .i64 (f 8), .int .i64 (f 9), .int .i64 (f 10), .int .i64 (f 11)]
abbrev numV (s : Bool) (f : Nat → Int) : Value := .agg #[.bool s, .int .i64 (f 0), .int .i64 (f 1), .int .i64 (f 2), .int .i64 (f 3), .int .i64 (f 4), .int .i64 (f 5), .int .i64 (f 6), .int .i64 (f 7), .int .i64 (f 8), .int .i64 (f 9), .int .i64 (f 10), .int .i64 (f 11)]
def digI (n : Nat) : Nat → Int := fun i => (dig n i : Int)
def updI (f : Nat → Int) (k : Nat) (v : Int) : Nat → Int := fun i => if i = k then v else f i
theorem lt12 {P : Nat → Prop} (h0 : P 0) (h1 : P 1) (h2 : P 2) (h3 : P 3) (h4 : P 4) (h5 : P 5) (h6 : P 6) (h7 : P 7) (h8 : P 8) (h9 : P 9) (h10 : P 10) (h11 : P 11) : ∀ k, k < 12 → P k
  | 0, _ => h0
  | 1, _ => h1
  | 2, _ => h2
  | 3, _ => h3
  | 4, _ => h4
  | 5, _ => h5
  | 6, _ => h6
  | 7, _ => h7
  | 8, _ => h8
  | 9, _ => h9
  | 10, _ => h10
  | 11, _ => h11
  | k + 12, h => absurd h (by omega)
theorem numC_at (s : Bool) (f : Nat → Int) : ∀ k, k < 12 → (numC s f)[1 + k]? = some (.int .i64 (f k)) :=
  lt12 rfl rfl rfl rfl rfl rfl rfl rfl rfl rfl rfl rfl
theorem numC_set (s : Bool) (f : Nat → Int) (v : Int) : ∀ k, k < 12 → (numC s f).setIfInBounds (1 + k) (.int .i64 v) = numC s (updI f k v) :=
  lt12 rfl rfl rfl rfl rfl rfl rfl rfl rfl rfl rfl rfl
theorem numC_congr {s : Bool} {f g : Nat → Int} (h : ∀ i, i < 12 → f i = g i) : numC s f = numC s g := by
  unfold numC
  rw [h 0 (by decide), h 1 (by decide), h 2 (by decide), h 3 (by decide), h 4 (by decide), h 5 (by decide), h 6 (by decide), h 7 (by decide), h 8 (by decide), h 9 (by decide), h 10 (by decide), h 11 (by decide)]
def allZ (f : Nat → Int) : Bool := (List.range 12).all fun i => f i == 0
theorem allZ_iff {f : Nat → Int} : allZ f = true ↔ ∀ i, i < 12 → f i = 0 := by simp [allZ]
theorem arr_eq (w : World) (xs ys : Array Value) : (Op.equalIn 10000 167 (.agg xs) (.agg ys)).run Try.prog w = (Op.eqItems 9999 3 (Try.prog.cellsOf 3) xs ys (List.range 12)).run Try.prog w := by
  obtain ⟨i, hi, _⟩ := row_int.ex
  exact run_equalIn_array w 9999 xs ys Try.underlying167 hi
theorem cells_int : Try.prog.cellsOf 3 = 1 := by kernel_rfl
theorem eql_arr (f : Nat → Int) (r : Bool) (h : r = allZ f) (w : World) : (binOp .eql 167 (.agg #[.int .i64 (f 0), .int .i64 (f 1), .int .i64 (f 2), .int .i64 (f 3), .int .i64 (f 4), .int .i64 (f 5), .int .i64 (f 6), .int .i64 (f 7), .int .i64 (f 8), .int .i64 (f 9), .int .i64 (f 10), .int .i64 (f 11)]) (.agg #[.int .i64 0, .int .i64 0, .int .i64 0, .int .i64 0, .int .i64 0, .int .i64 0, .int .i64 0, .int .i64 0, .int .i64 0, .int .i64 0, .int .i64 0, .int .i64 0])).run Try.prog w = .ok (.bool r) w := by
  subst h
  have hl : List.range 12 = [0, 1, 2, 3, 4, 5, 6, 7, 8, 9, 10, 11] := by decide
  by_cases h0 : f 0 = 0
  case neg =>
    have hn : allZ f = false := by
      rw [Bool.eq_false_iff]
      exact fun h => h0 (allZ_iff.1 h 0 (by decide))
    rw [hn]
    simp [go_sem, arr_eq, hl, Op.eqItems, cells_int, h0]
  by_cases h1 : f 1 = 0
  case neg =>
    have hn : allZ f = false := by
      rw [Bool.eq_false_iff]
      exact fun h => h1 (allZ_iff.1 h 1 (by decide))
    rw [hn]
    simp [go_sem, arr_eq, hl, Op.eqItems, cells_int, h0, h1]
  by_cases h2 : f 2 = 0
  case neg =>
    have hn : allZ f = false := by
      rw [Bool.eq_false_iff]
      exact fun h => h2 (allZ_iff.1 h 2 (by decide))
    rw [hn]
    simp [go_sem, arr_eq, hl, Op.eqItems, cells_int, h0, h1, h2]
  by_cases h3 : f 3 = 0
  case neg =>
    have hn : allZ f = false := by
      rw [Bool.eq_false_iff]
      exact fun h => h3 (allZ_iff.1 h 3 (by decide))
    rw [hn]
    simp [go_sem, arr_eq, hl, Op.eqItems, cells_int, h0, h1, h2, h3]
  by_cases h4 : f 4 = 0
  case neg =>
    have hn : allZ f = false := by
      rw [Bool.eq_false_iff]
      exact fun h => h4 (allZ_iff.1 h 4 (by decide))
    rw [hn]
    simp [go_sem, arr_eq, hl, Op.eqItems, cells_int, h0, h1, h2, h3, h4]
  by_cases h5 : f 5 = 0
  case neg =>
    have hn : allZ f = false := by
      rw [Bool.eq_false_iff]
      exact fun h => h5 (allZ_iff.1 h 5 (by decide))
    rw [hn]
    simp [go_sem, arr_eq, hl, Op.eqItems, cells_int, h0, h1, h2, h3, h4, h5]
  by_cases h6 : f 6 = 0
  case neg =>
    have hn : allZ f = false := by
      rw [Bool.eq_false_iff]
      exact fun h => h6 (allZ_iff.1 h 6 (by decide))
    rw [hn]
    simp [go_sem, arr_eq, hl, Op.eqItems, cells_int, h0, h1, h2, h3, h4, h5, h6]
  by_cases h7 : f 7 = 0
  case neg =>
    have hn : allZ f = false := by
      rw [Bool.eq_false_iff]
      exact fun h => h7 (allZ_iff.1 h 7 (by decide))
    rw [hn]
    simp [go_sem, arr_eq, hl, Op.eqItems, cells_int, h0, h1, h2, h3, h4, h5, h6, h7]
  by_cases h8 : f 8 = 0
  case neg =>
    have hn : allZ f = false := by
      rw [Bool.eq_false_iff]
      exact fun h => h8 (allZ_iff.1 h 8 (by decide))
    rw [hn]
    simp [go_sem, arr_eq, hl, Op.eqItems, cells_int, h0, h1, h2, h3, h4, h5, h6, h7, h8]
  by_cases h9 : f 9 = 0
  case neg =>
    have hn : allZ f = false := by
      rw [Bool.eq_false_iff]
      exact fun h => h9 (allZ_iff.1 h 9 (by decide))
    rw [hn]
    simp [go_sem, arr_eq, hl, Op.eqItems, cells_int, h0, h1, h2, h3, h4, h5, h6, h7, h8, h9]
  by_cases h10 : f 10 = 0
  case neg =>
    have hn : allZ f = false := by
      rw [Bool.eq_false_iff]
      exact fun h => h10 (allZ_iff.1 h 10 (by decide))
    rw [hn]
    simp [go_sem, arr_eq, hl, Op.eqItems, cells_int, h0, h1, h2, h3, h4, h5, h6, h7, h8, h9, h10]
  by_cases h11 : f 11 = 0
  case neg =>
    have hn : allZ f = false := by
      rw [Bool.eq_false_iff]
      exact fun h => h11 (allZ_iff.1 h 11 (by decide))
    rw [hn]
    simp [go_sem, arr_eq, hl, Op.eqItems, cells_int, h0, h1, h2, h3, h4, h5, h6, h7, h8, h9, h10, h11]
  have hy : allZ f = true := allZ_iff.2 (lt12 h0 h1 h2 h3 h4 h5 h6 h7 h8 h9 h10 h11)
  rw [hy]
  simp [go_sem, arr_eq, hl, Op.eqItems, cells_int, h0, h1, h2, h3, h4, h5, h6, h7, h8, h9, h10, h11]

theorem ld_num {w : World} {g : Nat} {s : Bool} {f : Nat → Int} (h : Blk w g 169 (numC s f)) : (loadVar 169 ⟨g, 0, none⟩).run Try.prog w = .ok (numV s f) w := by
  have q := h.cell
  unfold numC at q
  simp [go_sem, q]
/-- A number laid into its cells. -/
theorem put13 {w : World} {g : Nat} {t : TypeId} {s' s : Bool} {f' f : Nat → Int} (h : Blk w g t (numC s' f')) : Blk (((((((((((((w.setCell ⟨g, 0, none⟩ (.bool s)).setCell ⟨g, 1, none⟩ (.int .i64 (f 0))).setCell ⟨g, 2, none⟩ (.int .i64 (f 1))).setCell ⟨g, 3, none⟩ (.int .i64 (f 2))).setCell ⟨g, 4, none⟩ (.int .i64 (f 3))).setCell ⟨g, 5, none⟩ (.int .i64 (f 4))).setCell ⟨g, 6, none⟩ (.int .i64 (f 5))).setCell ⟨g, 7, none⟩ (.int .i64 (f 6))).setCell ⟨g, 8, none⟩ (.int .i64 (f 7))).setCell ⟨g, 9, none⟩ (.int .i64 (f 8))).setCell ⟨g, 10, none⟩ (.int .i64 (f 9))).setCell ⟨g, 11, none⟩ (.int .i64 (f 10))).setCell ⟨g, 12, none⟩ (.int .i64 (f 11))) g t (numC s f) := by
  have e : ((((((((((((((numC s' f').setIfInBounds 0 (.bool s)).setIfInBounds 1 (.int .i64 (f 0))).setIfInBounds 2 (.int .i64 (f 1))).setIfInBounds 3 (.int .i64 (f 2))).setIfInBounds 4 (.int .i64 (f 3))).setIfInBounds 5 (.int .i64 (f 4))).setIfInBounds 6 (.int .i64 (f 5))).setIfInBounds 7 (.int .i64 (f 6))).setIfInBounds 8 (.int .i64 (f 7))).setIfInBounds 9 (.int .i64 (f 8))).setIfInBounds 10 (.int .i64 (f 9))).setIfInBounds 11 (.int .i64 (f 10))).setIfInBounds 12 (.int .i64 (f 11))) = numC s f := by simp [numC]
  have hh := (((((((((((((h.set_ 0 (.bool s)).set_ 1 (.int .i64 (f 0))).set_ 2 (.int .i64 (f 1))).set_ 3 (.int .i64 (f 2))).set_ 4 (.int .i64 (f 3))).set_ 5 (.int .i64 (f 4))).set_ 6 (.int .i64 (f 5))).set_ 7 (.int .i64 (f 6))).set_ 8 (.int .i64 (f 7))).set_ 9 (.int .i64 (f 8))).set_ 10 (.int .i64 (f 9))).set_ 11 (.int .i64 (f 10))).set_ 12 (.int .i64 (f 11)))
  rwa [e] at hh
theorem ext13 {a w : World} {g : Nat} {s : Bool} {f : Nat → Int} (hx : Ext a w) (hg : a.heap.size ≤ g) : Ext a (((((((((((((w.setCell ⟨g, 0, none⟩ (.bool s)).setCell ⟨g, 1, none⟩ (.int .i64 (f 0))).setCell ⟨g, 2, none⟩ (.int .i64 (f 1))).setCell ⟨g, 3, none⟩ (.int .i64 (f 2))).setCell ⟨g, 4, none⟩ (.int .i64 (f 3))).setCell ⟨g, 5, none⟩ (.int .i64 (f 4))).setCell ⟨g, 6, none⟩ (.int .i64 (f 5))).setCell ⟨g, 7, none⟩ (.int .i64 (f 6))).setCell ⟨g, 8, none⟩ (.int .i64 (f 7))).setCell ⟨g, 9, none⟩ (.int .i64 (f 8))).setCell ⟨g, 10, none⟩ (.int .i64 (f 9))).setCell ⟨g, 11, none⟩ (.int .i64 (f 10))).setCell ⟨g, 12, none⟩ (.int .i64 (f 11))) :=
  (((((((((((((hx.set (p := ⟨g, 0, none⟩) hg _).set (p := ⟨g, 1, none⟩) hg _).set (p := ⟨g, 2, none⟩) hg _).set (p := ⟨g, 3, none⟩) hg _).set (p := ⟨g, 4, none⟩) hg _).set (p := ⟨g, 5, none⟩) hg _).set (p := ⟨g, 6, none⟩) hg _).set (p := ⟨g, 7, none⟩) hg _).set (p := ⟨g, 8, none⟩) hg _).set (p := ⟨g, 9, none⟩) hg _).set (p := ⟨g, 10, none⟩) hg _).set (p := ⟨g, 11, none⟩) hg _).set (p := ⟨g, 12, none⟩) hg _)
theorem far13 {w : World} {g g' : Nat} {t : TypeId} {cs : Array Value} {s : Bool} {f : Nat → Int} (h : Blk w g' t cs) (hne : g' ≠ g) : Blk (((((((((((((w.setCell ⟨g, 0, none⟩ (.bool s)).setCell ⟨g, 1, none⟩ (.int .i64 (f 0))).setCell ⟨g, 2, none⟩ (.int .i64 (f 1))).setCell ⟨g, 3, none⟩ (.int .i64 (f 2))).setCell ⟨g, 4, none⟩ (.int .i64 (f 3))).setCell ⟨g, 5, none⟩ (.int .i64 (f 4))).setCell ⟨g, 6, none⟩ (.int .i64 (f 5))).setCell ⟨g, 7, none⟩ (.int .i64 (f 6))).setCell ⟨g, 8, none⟩ (.int .i64 (f 7))).setCell ⟨g, 9, none⟩ (.int .i64 (f 8))).setCell ⟨g, 10, none⟩ (.int .i64 (f 9))).setCell ⟨g, 11, none⟩ (.int .i64 (f 10))).setCell ⟨g, 12, none⟩ (.int .i64 (f 11))) g' t cs :=
  (((((((((((((h.far (p := ⟨g, 0, none⟩) hne _).far (p := ⟨g, 1, none⟩) hne _).far (p := ⟨g, 2, none⟩) hne _).far (p := ⟨g, 3, none⟩) hne _).far (p := ⟨g, 4, none⟩) hne _).far (p := ⟨g, 5, none⟩) hne _).far (p := ⟨g, 6, none⟩) hne _).far (p := ⟨g, 7, none⟩) hne _).far (p := ⟨g, 8, none⟩) hne _).far (p := ⟨g, 9, none⟩) hne _).far (p := ⟨g, 10, none⟩) hne _).far (p := ⟨g, 11, none⟩) hne _).far (p := ⟨g, 12, none⟩) hne _)
set_option maxRecDepth 100000 in
set_option maxHeartbeats 1000000 in
theorem zero_any (s : Bool) (f : Nat → Int) (w : World) :
    Calls Try.prog 131 #[numV s f] w fun e w' => e = .returned (.bool (allZ f)) ∧ Ext w w' := by
  have hq := fun W => eql_arr f (allZ f) rfl W
  obtain ⟨r, hr⟩ : ∃ r, allZ f = r := ⟨_, rfl⟩
  rw [hr] at hq ⊢
  clear hr
  go_enter Try.func131, Try.ntmps131
  go_wp2_with fail
  go_ret
  exact ⟨rfl, (Ext.refl w).alloc _⟩
end Go.Proofs.Ytehkmngbknbbaaa
