/-
  book.Read: how the world stands; the two loops.
-/
import Derived.Test.YtehkmngbknbbaaaRi29
import Derived.Test.YtehkmngbknbbaaaRi40
import Derived.Test.YtehkmngbknbbaaaRi41
set_option linter.unusedVariables false
namespace Go.Proofs.Ytehkmngbknbbaaa
open Go.RowKit Go.Maps

def zEnt : Array Value := #[.int .i64 0, .int .i64 0, .int .i64 0, .int .i64 0, .slice none 0 0, .slice none 0 0]
/-- How the world stands in book.Read. -/
structure SE (w w1 W : World) (b5 : Nat) (s : RS) (cs : Array Value) : Prop where
  rd : RdO W w1.heap.size s
  h2 : Blk W w.heap.size 66 zEnt
  h5 : Blk W b5 66 cs
  ew : Ext w w1
  e1 : Ext w1 W
  lg : w.heap.size < w1.heap.size
  l5 : w1.heap.size < b5
theorem SE.ext {w w1 W : World} {b5 : Nat} {s : RS} {cs : Array Value} (h : SE w w1 W b5 s cs) : Ext w W := h.ew.trans h.e1
theorem SE.call {w w1 W W' : World} {b5 : Nat} {s s' : RS} {cs : Array Value} (h : SE w w1 W b5 s cs) (hR : RdO W' w1.heap.size s') (hG : W.grownBy W' (some w1.heap.size)) : SE w w1 W' b5 s' cs := by
  have l := h.lg
  have l' := h.l5
  exact ⟨hR, h.h2.grown hG (by intro e; have := Option.some.inj e; omega), h.h5.grown hG (by intro e; have := Option.some.inj e; omega), h.ew, h.e1.grown hG (by intro k e; have := Option.some.inj e; omega), h.lg, h.l5⟩
theorem SE.to {w w1 W W' : World} {b5 : Nat} {s : RS} {cs : Array Value} (h : SE w w1 W b5 s cs) (hx : Ext W W') : SE w w1 W' b5 s cs :=
  ⟨h.rd.ext hx, h.h2.ext hx, h.h5.ext hx, h.ew, h.e1.trans hx, h.lg, h.l5⟩
theorem SE.set {w w1 W : World} {b5 : Nat} {s : RS} {cs : Array Value} (h : SE w w1 W b5 s cs) (i : Nat) (v : Value) : SE w w1 (W.setCell ⟨b5, i, none⟩ v) b5 s (cs.setIfInBounds i v) := by
  have l := h.lg
  have l' := h.l5
  exact ⟨h.rd.set (p := ⟨b5, i, none⟩) l' v, h.h2.far (p := ⟨b5, i, none⟩) (show w.heap.size ≠ b5 by omega) v, h.h5.set_ i v, h.ew, h.e1.set (p := ⟨b5, i, none⟩) (show w1.heap.size ≤ b5 by omega) v, l, l'⟩
theorem SE.app {w w1 W W1 : World} {b5 : Nat} {s : RS} {cs : Array Value} (h : SE w w1 W b5 s cs) {z v v' : Value} {n n0 : Nat} {xs xs0 : List Value} (ho : W.ownsRow w1.heap.size 3 1 v n0 xs0) (hg : Grew w1 W W1 3 1 z v v' n xs) : SE w w1 W1 b5 s cs := by
  refine ⟨?_, hg.blk ho h.h2 (by decide), hg.blk ho h.h5 (by decide), h.ew, hg.ext, h.lg, h.l5⟩
  obtain ⟨A, cap, hB, hr, hc, hm⟩ := h.rd.ex
  exact ⟨⟨A, cap, hg.blk ho hB (by decide), hr.keep fun b o hb => (hg.ext.cell b o none hb).trans (h.e1.cell b o none hb).symm, hc, hm⟩, h.rd.ok⟩

/-- The four numbers at the head: their bounds. -/
def loP : Nat → Int
  | 0 => 1
  | 1 => 1
  | _ => 0
def hiP : Nat → Int
  | 0 => 3
  | 1 => 1099511627775
  | 2 => 1099511627775
  | _ => 3652058
/-- Reader and entry after k of them. -/
def hst (b : List UInt8) : Nat → RS × Array Value
  | 0 => (RS.start b, zEnt)
  | k + 1 => (((hst b k).1.num (loP k) (hiP k) 5).2, (hst b k).2.setIfInBounds k (.int .i64 ((hst b k).1.num (loP k) (hiP k) 5).1))
def tabE (g : Nat) : Array Value := #[.pointer (some ⟨g, 0, none⟩), .int .i64 1, .int .i64 3, .pointer (some ⟨g, 1, none⟩), .int .i64 1, .int .i64 1099511627775, .pointer (some ⟨g, 2, none⟩), .int .i64 0, .int .i64 1099511627775, .pointer (some ⟨g, 3, none⟩), .int .i64 0, .int .i64 3652058]
theorem tabE_at (g : Nat) : ∀ k, k < 4 → (tabE g)[k * 3]? = some (.pointer (some ⟨g, k, none⟩)) ∧ (tabE g)[k * 3 + 1]? = some (.int .i64 (loP k)) ∧ (tabE g)[k * 3 + 2]? = some (.int .i64 (hiP k))
  | 0, _ => ⟨rfl, rfl, rfl⟩
  | 1, _ => ⟨rfl, rfl, rfl⟩
  | 2, _ => ⟨rfl, rfl, rfl⟩
  | 3, _ => ⟨rfl, rfl, rfl⟩
  | n + 4, h => absurd h (by omega)
def E4Rel (w w1 : World) (b5 : Nat) (b : List UInt8) (i : Value) (wr : World) : Prop :=
  ∃ k : Nat, k ≤ 4 ∧ i = .int .i64 (k : Int) ∧ SE w w1 wr b5 (hst b k).1 (hst b k).2 ∧ Blk wr (b5 + 1) 153 (tabE b5)
/-- Where the loop of amounts stands. -/
def AmRel (w w1 : World) (b5 : Nat) (z0 z1 z2 z3 : Int) (n : Nat) (s0 : RS) (i : Value) (wr : World) : Prop :=
  ∃ (k : Nat) (A : Option Addr) (c : Nat), k ≤ n ∧ i = .int .i64 (k : Int) ∧
    SE w w1 wr b5 (amsO k s0).2 #[.int .i64 z0, .int .i64 z1, .int .i64 z2, .int .i64 z3, .slice A k c, .slice none 0 0] ∧
    wr.ownsRow w1.heap.size 3 1 (.slice A k c) k (iV (amsO k s0).1)
end Go.Proofs.Ytehkmngbknbbaaa
