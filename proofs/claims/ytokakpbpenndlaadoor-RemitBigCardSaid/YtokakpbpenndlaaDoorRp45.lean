/-
  remit: Bytes.
-/
import Derived.Test.YtokakpbpenndlaaDoorRp42
import Derived.Test.YtokakpbpenndlaaDoorRp05
import Derived.Test.YtokakpbpenndlaaDoorRp04
import Derived.Test.YtokakpbpenndlaaDoorRp10
import Derived.Test.YtokakpbpenndlaaDoorRp17
import Derived.Deep.RegionHeld3
import Derived.Defers
import Derived.Test.YtokakpbpenndlaaDoorRp40
import Derived.Test.YtokakpbpenndlaaDoorRp44
import Derived.Deep.DeepCutAuto
import Derived.LaidEql
set_option linter.unusedVariables false
namespace Go.Proofs.YtokakpbpenndlaaDoor
open Go.RowKit Go.Maps
end Go.Proofs.YtokakpbpenndlaaDoor

set_option linter.unusedVariables false
namespace Go.Proofs.YtokakpbpenndlaaDoor
open Go.RowKit
def GotV (g : Got) : Value := .tuple #[.int .i64 g.n, .int .i64 (g.next : Int), .agg #[.int .i64 g.fe, .int .i64 (g.fa : Int)]]
end Go.Proofs.YtokakpbpenndlaaDoor

set_option linter.unusedVariables false
namespace Go.Proofs.YtokakpbpenndlaaDoor
open Go.RowKit
end Go.Proofs.YtokakpbpenndlaaDoor

set_option linter.unusedVariables false
namespace Go.Proofs.YtokakpbpenndlaaDoor
open Go.RowKit
def markB (i : Nat) : UInt8 := UInt8.ofNat (160 + i % 90)
def lentL (l : List UInt8) : List UInt8 := l ++ [markB l.length, markB (l.length + 1), markB (l.length + 2)]

def lentC (l : List UInt8) (k : Nat) : List Value := bV ((lentL l).take k) ++ reps (l.length + 3 - k) (.int .u8 0)
theorem lentL_len (l : List UInt8) : (lentL l).length = l.length + 3 := by simp [lentL]
theorem lentC_start (l : List UInt8) : splice (reps (l.length + 3) (.int .u8 0)) 0 (bV l) = lentC l l.length := by
  simp [splice, lentC, lentL, reps, bV]
theorem lentC_end (l : List UInt8) : lentC l (l.length + 3) = bV (lentL l) := by
  rw [lentC, ← lentL_len, List.take_length]; simp [reps]
theorem lentL_at (l : List UInt8) (k : Nat) (h1 : l.length ≤ k) (h2 : k < l.length + 3) : (lentL l)[k]'(by rw [lentL_len]; exact h2) = markB k := by
  unfold lentL
  rw [List.getElem_append_right h1]
  rcases Nat.eq_or_lt_of_le h1 with h | h
  · subst h; simp
  · rcases Nat.eq_or_lt_of_le (show l.length + 1 ≤ k by omega) with h' | h'
    · have : k - l.length = 1 := by omega
      simp [h'.symm]
    · have e : k = l.length + 2 := by omega
      subst e
      simp
theorem lentC_next (l : List UInt8) (k : Nat) (h1 : l.length ≤ k) (h2 : k < l.length + 3) (c : Int) (hc : c = ((markB k).toNat : Int)) : (lentC l k).toArray.setIfInBounds k (.int .u8 c) = (lentC l (k + 1)).toArray := by
  subst hc
  have hl : ((lentL l).take k).length = k := by rw [List.length_take, lentL_len]; omega
  have hk : k < (lentL l).length := by rw [lentL_len]; exact h2
  obtain ⟨m, hm⟩ : ∃ m, l.length + 3 - k = m + 1 := ⟨l.length + 2 - k, by omega⟩
  have hm' : l.length + 3 - (k + 1) = m := by omega
  unfold lentC
  rw [hm, hm', List.take_succ_eq_append_getElem hk, lentL_at l k h1 h2, bV_app]
  simp only [reps, List.replicate_succ, List.setIfInBounds_toArray]
  congr 1
  rw [List.set_append_right _ _ (by simp [bV, lentL_len]; omega)]
  simp [bV, lentL_len, Nat.min_eq_left (show k ≤ l.length + 3 by omega)]
def LRel (w : World) (l : List UInt8) (i : Value) (wr : World) : Prop :=
  ∃ k : Nat, l.length ≤ k ∧ k ≤ l.length + 3 ∧ i = .int .i64 (k : Int) ∧ Blk wr w.heap.size 5 (lentC l k).toArray ∧ Ext w wr
theorem mark_val (k : Nat) : (160 + (k : Int) % 90) = ((markB k).toNat : Int) := by
  simp [markB]; omega

end Go.Proofs.YtokakpbpenndlaaDoor

set_option linter.unusedVariables false
namespace Go.Proofs.YtokakpbpenndlaaDoor
open Go.RowKit

/-- A row that is written over: only its block turns. -/
def ORel (w : World) (g : Nat) (t : TypeId) (n size : Nat) (p : Value → Prop) (i : Value) (wr : World) : Prop :=
  ∃ k : Nat, k ≤ n ∧ i = .int .i64 (k : Int) ∧ w.grownBy wr (some g) ∧ ∃ cs, Blk wr g t cs ∧ cs.size = size ∧ ∀ u ∈ cs.toList, p u

theorem u8_get {cs : Array Value} (h : ∀ u ∈ cs.toList, u8P u) {k : Nat} (hk : k < cs.size) : ∃ m : Int, cs[k]? = some (.int .u8 m) := by
  obtain ⟨m, hm⟩ := h cs[k] (by simp)
  exact ⟨m, by rw [Array.getElem?_eq_getElem hk, hm]⟩
theorem all_set {cs : Array Value} {p : Value → Prop} (h : ∀ u ∈ cs.toList, p u) {k : Nat} {v : Value} (hv : p v) : ∀ u ∈ (cs.setIfInBounds k v).toList, p u := by
  intro u hu
  simp only [Array.toList_setIfInBounds] at hu
  rcases List.mem_or_eq_of_mem_set hu with hu | rfl
  · exact h u hu
  · exact hv

end Go.Proofs.YtokakpbpenndlaaDoor

set_option linter.unusedVariables false
namespace Go.Proofs.YtokakpbpenndlaaDoor
open Go.RowKit
end Go.Proofs.YtokakpbpenndlaaDoor

set_option linter.unusedVariables false
namespace Go.Proofs.YtokakpbpenndlaaDoor
open Go.RowKit
/-- The fault of a number that was read. -/
def RS.flt (s : RS) (lo hi above : Int) : Int × Nat :=
  if (getN s.b s.at_).fe ≠ 0 then ((getN s.b s.at_).fe, (getN s.b s.at_).fa) else if hi < (getN s.b s.at_).n then (above, s.at_) else if (getN s.b s.at_).n < lo then (5, s.at_) else (0, 0)

theorem al_some {w : World} {a : Addr} {v : Value} (h : w.cell? a = some v) (o : Obj) : (w.alloc o).cell? a = some v := (World.cell?_alloc_some w a o (by rw [h]; rfl)).trans h
theorem st_some {w : World} {a : Addr} {v u : Value} {o : Obj} {i : Nat} (h : w.cell? a = some v) : ((w.alloc o).setCell ⟨w.heap.size, i, none⟩ u).cell? a = some v :=
  (World.cell?_setCell_far _ _ _ _ (Nat.ne_of_gt (World.block_lt_of_cell? w _ h))).trans (al_some h o)
theorem st_some2 {w : World} {a : Addr} {v u u' : Value} {o : Obj} {i j : Nat} (h : w.cell? a = some v) : (((w.alloc o).setCell ⟨w.heap.size, i, none⟩ u).setCell ⟨w.heap.size, j, none⟩ u').cell? a = some v :=
  (World.cell?_setCell_far _ _ _ _ (Nat.ne_of_gt (World.block_lt_of_cell? w _ h))).trans (st_some h)
theorem set_some2 {w : World} {b i n j j' : Nat} {v u u' : Value} (h : w.cell? ⟨b, i, none⟩ = some v) (hne : b < n) : ((w.setCell ⟨n, j, none⟩ u).setCell ⟨n, j', none⟩ u').cell? ⟨b, i, none⟩ = some v :=
  (World.cell?_setCell_far _ _ _ _ (Nat.ne_of_gt hne)).trans ((World.cell?_setCell_far _ _ _ _ (Nat.ne_of_gt hne)).trans h)

end Go.Proofs.YtokakpbpenndlaaDoor

set_option linter.unusedVariables false
namespace Go.Proofs.YtokakpbpenndlaaDoor
open Go.RowKit

/-- The cells of a reader. -/
def rdCells (A : Option Addr) (n cap at_ : Nat) (fe : Int) (fa : Nat) : Array Value := #[.slice A n cap, .int .i64 (at_ : Int), .int .i64 fe, .int .i64 (fa : Int), .bool true]
end Go.Proofs.YtokakpbpenndlaaDoor

set_option linter.unusedVariables false
namespace Go.Proofs.YtokakpbpenndlaaDoor
open Go.RowKit

theorem num_flt (s : RS) (lo hi above : Int) (h0 : s.fe = 0) (ha : above ≠ 0) :
    s.num lo hi above = if (s.flt lo hi above).1 ≠ 0 then (0, { s with fe := (s.flt lo hi above).1, fa := (s.flt lo hi above).2 }) else ((getN s.b s.at_).n, { s with at_ := (getN s.b s.at_).next }) := by
  unfold RS.num RS.flt
  rw [if_neg (by simpa using h0)]
  simp only
  by_cases h1 : (getN s.b s.at_).fe ≠ 0
  · rw [if_pos h1, if_pos h1, if_pos h1]
  rw [if_neg h1, if_neg h1]
  by_cases h2 : hi < (getN s.b s.at_).n
  · rw [if_pos h2, if_pos h2, if_pos ha]
  rw [if_neg h2, if_neg h2]
  by_cases h3 : (getN s.b s.at_).n < lo
  · rw [if_pos h3, if_pos h3, if_pos (by show (5 : Int) ≠ 0; decide)]
  rw [if_neg h3, if_neg h3, if_neg (by show ¬ (0 : Int) ≠ 0; decide)]

end Go.Proofs.YtokakpbpenndlaaDoor

namespace Go.Proofs.YtokakpbpenndlaaDoor
open Go.RowKit

theorem ld_int {w : World} {b i : Nat} {v : Value} (h : w.cell? ⟨b, i, none⟩ = some v) : (loadVar 3 ⟨b, i, none⟩).run Tryd.prog w = .ok v w := by
  simp [go_sem, h]
theorem blk4 (w : World) (t0 t1 t2 t3 : TypeId) (c0 c1 c2 c3 : Array Value) :
    Blk ((((w.alloc (.cells c0 t0)).alloc (.cells c1 t1)).alloc (.cells c2 t2)).alloc (.cells c3 t3)) w.heap.size t0 c0 ∧
    Blk ((((w.alloc (.cells c0 t0)).alloc (.cells c1 t1)).alloc (.cells c2 t2)).alloc (.cells c3 t3)) (w.heap.size + 1) t1 c1 ∧
    Blk ((((w.alloc (.cells c0 t0)).alloc (.cells c1 t1)).alloc (.cells c2 t2)).alloc (.cells c3 t3)) (w.heap.size + 1 + 1) t2 c2 ∧
    Blk ((((w.alloc (.cells c0 t0)).alloc (.cells c1 t1)).alloc (.cells c2 t2)).alloc (.cells c3 t3)) (w.heap.size + 1 + 1 + 1) t3 c3 := by
  have h1 := Blk.new (w.alloc (.cells c0 t0)) t1 c1
  have h2 := Blk.new ((w.alloc (.cells c0 t0)).alloc (.cells c1 t1)) t2 c2
  have h3 := Blk.new (((w.alloc (.cells c0 t0)).alloc (.cells c1 t1)).alloc (.cells c2 t2)) t3 c3
  have e1 : (w.alloc (.cells c0 t0)).heap.size = w.heap.size + 1 := by simp
  have e2 : ((w.alloc (.cells c0 t0)).alloc (.cells c1 t1)).heap.size = w.heap.size + 1 + 1 := by simp
  have e3 : (((w.alloc (.cells c0 t0)).alloc (.cells c1 t1)).alloc (.cells c2 t2)).heap.size = w.heap.size + 1 + 1 + 1 := by simp
  rw [e1] at h1
  rw [e2] at h2
  rw [e3] at h3
  exact ⟨(((Blk.new w t0 c0).alloc _).alloc _).alloc _, (h1.alloc _).alloc _, h2.alloc _, h3⟩

def doorW (w2 : World) (n1 n2 n3 : Nat) (G : Got) (F : Int × Nat) : World :=
  (((((w2.setCell ⟨n1, 0, none⟩ (.int .i64 G.n)).setCell ⟨n2, 0, none⟩ (.int .i64 (G.next : Int))).setCell ⟨n3, 0, none⟩ (.int .i64 F.1)).setCell ⟨n3, 1, none⟩ (.int .i64 (F.2 : Int))).setCell ⟨n1, 0, none⟩ (.int .i64 G.n))
end Go.Proofs.YtokakpbpenndlaaDoor

set_option linter.unusedVariables false
namespace Go.Proofs.YtokakpbpenndlaaDoor
open Go.RowKit
end Go.Proofs.YtokakpbpenndlaaDoor

set_option linter.unusedVariables false
namespace Go.Proofs.YtokakpbpenndlaaDoor
open Go.RowKit
theorem ext_grown {w a b : World} {row : Option Nat} (hx : Ext w a) (hG : a.grownBy b row) : w.grownBy b row :=
  ⟨hG.os.trans hx.below.os, hG.tape.trans hx.below.tape, hG.output.trans hx.below.output, Nat.le_trans hx.size hG.size, fun k hk hne => (hG.block k (Nat.lt_of_lt_of_le hk hx.size) hne).trans (hx.block k hk)⟩

end Go.Proofs.YtokakpbpenndlaaDoor

set_option linter.unusedVariables false
namespace Go.Proofs.YtokakpbpenndlaaDoor
open Go.RowKit Go.Maps

/-- The reading of a report, the first k numbers read. -/
def rstF (f : RS → Int × RS) (s : RS) : Nat → RS × Array Value
  | 0 => (s, zRep)
  | k + 1 => ((f (rstF f s k).1).2, (rstF f s k).2.setIfInBounds k (.int .i64 (f (rstF f s k).1).1))
def numF (s : RS) : Int × RS := s.num (-9223372036854775808) 9223372036854775807 5
def repF (f : RS → Int × RS) (s : RS) : Rep × RS :=
  (⟨(f s).1, (f (f s).2).1, (f (f (f s).2).2).1, (f (f (f (f s).2).2).2).1, (f (f (f (f (f s).2).2).2).2).1, (f (f (f (f (f (f s).2).2).2).2).2).1, (f (f (f (f (f (f (f s).2).2).2).2).2).2).1, (f (f (f (f (f (f (f (f s).2).2).2).2).2).2).2).1⟩, (f (f (f (f (f (f (f (f s).2).2).2).2).2).2).2).2)
theorem rstF_8 (f : RS → Int × RS) (s : RS) : rstF f s 8 = ((repF f s).2, (repF f s).1.cs) := rfl
theorem repP_F (b : List UInt8) : repP b = repF numF (RS.start b) := rfl
def rst (b : List UInt8) (k : Nat) : RS × Array Value := rstF numF (RS.start b) k
theorem rst_8 (b : List UInt8) : rst b 8 = ((repP b).2, (repP b).1.cs) := by
  rw [repP_F]
  exact rstF_8 numF (RS.start b)
theorem rstF_at (f : RS → Int × RS) (s : RS) : ∀ k, k < 8 → (rstF f s k).2[k]? = some (.int .i64 0)
  | 0, _ => rfl
  | 1, _ => rfl
  | 2, _ => rfl
  | 3, _ => rfl
  | 4, _ => rfl
  | 5, _ => rfl
  | 6, _ => rfl
  | 7, _ => rfl
  | n + 8, h => absurd h (by omega)
theorem rst_at (b : List UInt8) (k : Nat) (h : k < 8) : (rst b k).2[k]? = some (.int .i64 0) := rstF_at _ _ k h
theorem num_i64 (s : RS) (above : Int) : i64 (s.num (-9223372036854775808) 9223372036854775807 above).1 := by
  unfold RS.num
  by_cases h0 : s.fe ≠ 0
  · rw [if_pos h0]; exact (by decide : i64 0)
  rw [if_neg h0]
  simp only
  by_cases h1 : (getN s.b s.at_).fe ≠ 0
  · rw [if_pos h1]; exact (by decide : i64 0)
  rw [if_neg h1]
  by_cases h2 : 9223372036854775807 < (getN s.b s.at_).n
  · rw [if_pos h2]; exact (by decide : i64 0)
  rw [if_neg h2]
  by_cases h3 : (getN s.b s.at_).n < -9223372036854775808
  · rw [if_pos h3]; exact (by decide : i64 0)
  rw [if_neg h3]
  unfold i64
  omega
theorem repP_i64 (b : List UInt8) : (repP b).1.i64s := by
  constructor <;> exact num_i64 _ _
end Go.Proofs.YtokakpbpenndlaaDoor

set_option linter.unusedVariables false
namespace Go.Proofs.YtokakpbpenndlaaDoor
open Go.RowKit Go.Maps

theorem eql_rep (x y : Rep) (r : Bool) (h : r = decide (x = y)) (w : World) : (binOp .eql 35 x.V y.V).run Tryd.prog w = .ok (.bool r) w := by
  obtain ⟨a1, a2, a3, a4, a5, a6, a7, a8⟩ := x
  obtain ⟨b1, b2, b3, b4, b5, b6, b7, b8⟩ := y
  subst h
  by_cases h1 : a1 = b1
  case neg => simp [go_sem, h1]
  by_cases h2 : a2 = b2
  case neg => simp [go_sem, h1, h2]
  by_cases h3 : a3 = b3
  case neg => simp [go_sem, h1, h2, h3]
  by_cases h4 : a4 = b4
  case neg => simp [go_sem, h1, h2, h3, h4]
  by_cases h5 : a5 = b5
  case neg => simp [go_sem, h1, h2, h3, h4, h5]
  by_cases h6 : a6 = b6
  case neg => simp [go_sem, h1, h2, h3, h4, h5, h6]
  by_cases h7 : a7 = b7
  case neg => simp [go_sem, h1, h2, h3, h4, h5, h6, h7]
  by_cases h8 : a8 = b8
  case neg => simp [go_sem, h1, h2, h3, h4, h5, h6, h7, h8]
  subst h1 h2 h3 h4 h5 h6 h7 h8
  simp [go_sem]
theorem neq_rep (x y : Rep) (r : Bool) (h : r = decide (x ≠ y)) (w : World) : (binOp .neq 35 x.V y.V).run Tryd.prog w = .ok (.bool r) w := by
  obtain ⟨a1, a2, a3, a4, a5, a6, a7, a8⟩ := x
  obtain ⟨b1, b2, b3, b4, b5, b6, b7, b8⟩ := y
  subst h
  by_cases h1 : a1 = b1
  case neg => simp [go_sem, h1]
  by_cases h2 : a2 = b2
  case neg => simp [go_sem, h1, h2]
  by_cases h3 : a3 = b3
  case neg => simp [go_sem, h1, h2, h3]
  by_cases h4 : a4 = b4
  case neg => simp [go_sem, h1, h2, h3, h4]
  by_cases h5 : a5 = b5
  case neg => simp [go_sem, h1, h2, h3, h4, h5]
  by_cases h6 : a6 = b6
  case neg => simp [go_sem, h1, h2, h3, h4, h5, h6]
  by_cases h7 : a7 = b7
  case neg => simp [go_sem, h1, h2, h3, h4, h5, h6, h7]
  by_cases h8 : a8 = b8
  case neg => simp [go_sem, h1, h2, h3, h4, h5, h6, h7, h8]
  subst h1 h2 h3 h4 h5 h6 h7 h8
  simp [go_sem]
theorem rep_len {r : Rep} : r.bytes.length ≤ 1000 := by
  unfold Rep.bytes
  split
  · have := putsL_len r.ints
    have h8 : r.ints.length = 8 := rfl
    omega
  · simp
theorem readRep_cases (b : List UInt8) : ((readRep b).2 = 0 ∧ (readRep b).1 = (repP b).1) ∨ readRep b = (Rep.zero, 4) := by
  unfold readRep
  by_cases h : (repP b).2.fin.1 ≠ 0 ∨ (repP b).1.check ≠ 0
  · rw [if_pos h]; exact .inr rfl
  · rw [if_neg h]; exact .inl ⟨rfl, rfl⟩
end Go.Proofs.YtokakpbpenndlaaDoor
