/-
  A number read out of bytes: the walks through both Gets.
-/
import Derived.Test.YtokakpbpenndlaaGreatDoorRt02
import Derived.Test.YtokakpbpenndlaaGreatDoorRt05
import Derived.Test.YtokakpbpenndlaaGreatDoorRt12
import Derived.Deep.RegionHeld3
import Derived.Defers
import Derived.Test.YtokakpbpenndlaaGreatDoorRt09
import Derived.Test.YtokakpbpenndlaaGreatDoorRt11
import Derived.Deep.DeepCutAuto
import Derived.IntWalk
import Derived.Test.YtokakpbpenndlaaGreatDoorRt06
import Derived.Test.YtokakpbpenndlaaGreatDoorRt18
import Derived.Test.YtokakpbpenndlaaGreatDoorRt13
set_option linter.unusedVariables false
namespace Go.Proofs.YtokakpbpenndlaaGreatDoor
open Go.RowKit
end Go.Proofs.YtokakpbpenndlaaGreatDoor

set_option linter.unusedVariables false
namespace Go.Proofs.YtokakpbpenndlaaGreatDoor
open Go.RowKit
end Go.Proofs.YtokakpbpenndlaaGreatDoor

set_option linter.unusedVariables false
namespace Go.Proofs.YtokakpbpenndlaaGreatDoor
open Go.RowKit
end Go.Proofs.YtokakpbpenndlaaGreatDoor

set_option linter.unusedVariables false
namespace Go.Proofs.YtokakpbpenndlaaGreatDoor
open Go.RowKit
end Go.Proofs.YtokakpbpenndlaaGreatDoor

set_option linter.unusedVariables false
namespace Go.Proofs.YtokakpbpenndlaaGreatDoor
open Go.RowKit
end Go.Proofs.YtokakpbpenndlaaGreatDoor

set_option linter.unusedVariables false
namespace Go.Proofs.YtokakpbpenndlaaGreatDoor
open Go.RowKit

/-- Block g is a reader of the program that stands as s. -/
structure RdO (w : World) (g : Nat) (s : RS) : Prop where
  ex : ∃ A cap, Blk w g 173 #[.slice A s.b.length cap, .int .i64 (s.at_ : Int), .int .i64 s.fe, .int .i64 (s.fa : Int), .bool true] ∧ Reads w g 1 A s.b.length (bV s.b) ∧ s.b.length ≤ cap ∧ cap ≤ maxLen
  ok : s.ok
theorem RdO.lt {w : World} {g : Nat} {s : RS} (h : RdO w g s) : g < w.heap.size := by obtain ⟨A, cap, hB, _⟩ := h.ex; exact hB.lt
theorem RdO.ext {w w' : World} {g : Nat} {s : RS} (h : RdO w g s) (hx : Ext w w') : RdO w' g s := by
  obtain ⟨A, cap, hB, hr, hc, hm⟩ := h.ex
  exact ⟨⟨A, cap, hB.ext hx, hr.extB (Nat.le_of_lt hB.lt) hx, hc, hm⟩, h.ok⟩

end Go.Proofs.YtokakpbpenndlaaGreatDoor

set_option linter.unusedVariables false
namespace Go.Proofs.YtokakpbpenndlaaGreatDoor
open Go.RowKit

/-- The cells of a reader. -/
def rdCells (A : Option Addr) (n cap at_ : Nat) (fe : Int) (fa : Nat) : Array Value := #[.slice A n cap, .int .i64 (at_ : Int), .int .i64 fe, .int .i64 (fa : Int), .bool true]
theorem RdO.upd {w w' : World} {g : Nat} {s s' : RS} (h : RdO w g s) (hg : w.grownBy w' (some g)) (hb : s'.b = s.b) (hok : s'.ok)
    (hB : ∀ A cap, Blk w g 173 (rdCells A s.b.length cap s.at_ s.fe s.fa) → Blk w' g 173 (rdCells A s.b.length cap s'.at_ s'.fe s'.fa)) : RdO w' g s' := by
  obtain ⟨A, cap, hB', hr, hc, hm⟩ := h.ex
  refine ⟨⟨A, cap, by rw [hb]; exact hB A cap hB', ?_, by rw [hb]; exact hc, hm⟩, hok⟩
  rw [hb]
  exact hr.keep fun b o hlt => World.cell?_of_block (a := ⟨b, o, none⟩) (hg.block b (Nat.lt_trans hlt hB'.lt) (fun e => by have := Option.some.inj e; omega))
theorem RdO.made {w : World} {g : Nat} {s : RS} (h : RdO w g s) : w.cell? ⟨g, 4, none⟩ = some (.bool true) := by
  obtain ⟨A, cap, hB', hr, hc, hm⟩ := h.ex
  exact hB'.cell 4
theorem RdO.at_ {w : World} {g : Nat} {s : RS} (h : RdO w g s) : w.cell? ⟨g, 1, none⟩ = some (.int .i64 (s.at_ : Int)) := by
  obtain ⟨A, cap, hB', hr, hc, hm⟩ := h.ex
  exact hB'.cell 1
theorem RdO.fe {w : World} {g : Nat} {s : RS} (h : RdO w g s) : w.cell? ⟨g, 2, none⟩ = some (.int .i64 s.fe) := by
  obtain ⟨A, cap, hB', hr, hc, hm⟩ := h.ex
  exact hB'.cell 2
theorem RdO.fa {w : World} {g : Nat} {s : RS} (h : RdO w g s) : w.cell? ⟨g, 3, none⟩ = some (.int .i64 (s.fa : Int)) := by
  obtain ⟨A, cap, hB', hr, hc, hm⟩ := h.ex
  exact hB'.cell 3
theorem RdO.bytes {w : World} {g : Nat} {s : RS} (h : RdO w g s) : ∃ A cap, w.cell? ⟨g, 0, none⟩ = some (.slice A s.b.length cap) := by
  obtain ⟨A, cap, hB', hr, hc, hm⟩ := h.ex
  exact ⟨A, cap, hB'.cell 0⟩
end Go.Proofs.YtokakpbpenndlaaGreatDoor

set_option linter.unusedVariables false
namespace Go.Proofs.YtokakpbpenndlaaGreatDoor
open Go.RowKit
end Go.Proofs.YtokakpbpenndlaaGreatDoor

namespace Go.Proofs.YtokakpbpenndlaaGreatDoor
open Go.RowKit
end Go.Proofs.YtokakpbpenndlaaGreatDoor

set_option linter.unusedVariables false
namespace Go.Proofs.YtokakpbpenndlaaGreatDoor
open Go.RowKit
end Go.Proofs.YtokakpbpenndlaaGreatDoor

set_option linter.unusedVariables false
namespace Go.Proofs.YtokakpbpenndlaaGreatDoor
open Go.RowKit
theorem RdO.set {w : World} {g : Nat} {s : RS} (h : RdO w g s) {p : Addr} (hp : g < p.block) (u : Value) : RdO (w.setCell p u) g s := by
  obtain ⟨A, cap, hB, hr, hc, hm⟩ := h.ex
  exact ⟨⟨A, cap, hB.far (Nat.ne_of_lt hp) u, hr.keep fun b o hb => World.cell?_setCell_far _ _ _ _ (Nat.ne_of_gt (Nat.lt_trans hb hp)), hc, hm⟩, h.ok⟩
end Go.Proofs.YtokakpbpenndlaaGreatDoor

set_option linter.unusedVariables false
namespace Go.Proofs.YtokakpbpenndlaaGreatDoor
open Go.RowKit Go.Maps

/-- What reading a tax line gives: the line, the fault, its place; the reader, and what was met. -/
structure TL where
  x : Tx
  fe : Int
  fa : Nat
  s : RS
  ks : List (Int × Int)
/-- How the world stands while a tax line is read. -/
structure TS (w W : World) (g B n : Nat) (s : RS) (ks : List (Int × Int)) (g6 g7 g8 : Nat) (cs : Array Value) : Prop where
  rd : RdO W g s
  met : MetIs W B n ks
  b6 : Blk W g6 117 #[.int .i64 0, .int .i64 0, .int .i64 0, .int .i64 0, .int .i64 0, .int .i64 0]
  b7 : Blk W g7 100 #[.int .i64 0, .int .i64 0]
  b8 : Blk W g8 117 cs
  chg : Chg [g, B] w W
  l6 : w.heap.size ≤ g6
  l7 : w.heap.size ≤ g7
  l8 : w.heap.size ≤ g8
  ne : g6 ≠ g8
  gB : g < B
  gw : g < w.heap.size
  Bw : B < w.heap.size
theorem TS.to {w W W' : World} {g B n : Nat} {s : RS} {ks : List (Int × Int)} {g6 g7 g8 : Nat} {cs : Array Value} (h : TS w W g B n s ks g6 g7 g8 cs) (hx : Ext W W') : TS w W' g B n s ks g6 g7 g8 cs :=
  ⟨h.rd.ext hx, h.met.ext hx, h.b6.ext hx, h.b7.ext hx, h.b8.ext hx, h.chg.then_ext hx, h.l6, h.l7, h.l8, h.ne, h.gB, h.gw, h.Bw⟩
theorem TS.call {w W W' : World} {g B n : Nat} {s s' : RS} {ks : List (Int × Int)} {g6 g7 g8 : Nat} {cs : Array Value} (h : TS w W g B n s ks g6 g7 g8 cs) (hR : RdO W' g s') (hG : W.grownBy W' (some g)) : TS w W' g B n s' ks g6 g7 g8 cs := by
  have hh := h
  obtain ⟨_, _, _, _, _, _, l6, l7, l8, _, gB, gw, Bw⟩ := hh
  exact ⟨hR, h.met.grown hG (by intro e; have := Option.some.inj e; omega), h.b6.grown hG (by intro e; have := Option.some.inj e; omega), h.b7.grown hG (by intro e; have := Option.some.inj e; omega), h.b8.grown hG (by intro e; have := Option.some.inj e; omega),
    h.chg.then_grown hG (fun k e => .inl (by rw [← Option.some.inj e]; simp)), l6, l7, l8, h.ne, gB, gw, Bw⟩
theorem TS.more {w W : World} {g B n : Nat} {s : RS} {ks : List (Int × Int)} {g6 g7 g8 : Nat} {cs : Array Value} (h : TS w W g B n s ks g6 g7 g8 cs) : TS w W g B (n + 1) s ks g6 g7 g8 cs :=
  ⟨h.rd, h.met.mono (by omega), h.b6, h.b7, h.b8, h.chg, h.l6, h.l7, h.l8, h.ne, h.gB, h.gw, h.Bw⟩
/-- What a call leaves. -/
structure TLOut (w W : World) (g B n : Nat) (t : TL) : Prop where
  rd : RdO W g t.s
  met : MetIs W B (n + 1) t.ks
  chg : Chg [g, B] w W
end Go.Proofs.YtokakpbpenndlaaGreatDoor

set_option linter.unusedVariables false
namespace Go.Proofs.YtokakpbpenndlaaGreatDoor
open Go.RowKit Go.Maps
end Go.Proofs.YtokakpbpenndlaaGreatDoor

set_option linter.unusedVariables false
namespace Go.Proofs.YtokakpbpenndlaaGreatDoor
open Go.RowKit Go.Maps
/-- How the world stands at a round's head. -/
structure TW (w W : World) (g B g3 k : Nat) (s : RS) (ks : List (Int × Int)) (out : List Tx) (v : Value) : Prop where
  rd : RdO W g s
  met : MetIs W B k ks
  b3 : Blk W g3 100 #[.int .i64 0, .int .i64 0]
  ext : Ext w W
  own : W.ownsRow w.heap.size 117 6 v k (txCells out)
  len : out.length = k
  hg : w.heap.size = g
  g3g : g3 < g
  gB : g < B
theorem TW.to {w W W' : World} {g B g3 k : Nat} {s : RS} {ks : List (Int × Int)} {out : List Tx} {v : Value} (h : TW w W g B g3 k s ks out v) (hx : Ext W W') : TW w W' g B g3 k s ks out v :=
  ⟨h.rd.ext hx, h.met.ext hx, h.b3.ext hx, h.ext.trans hx, own_ext h.own hx, h.len, h.hg, h.g3g, h.gB⟩
theorem TW.line {w W W' : World} {g B g3 k : Nat} {s : RS} {ks : List (Int × Int)} {out : List Tx} {v : Value} (h : TW w W g B g3 k s ks out v) {t : TL} (ho : TLOut W W' g B k t) :
    RdO W' g t.s ∧ MetIs W' B (k + 1) t.ks ∧ Blk W' g3 100 #[.int .i64 0, .int .i64 0] ∧ Ext w W' ∧ W'.ownsRow w.heap.size 117 6 v k (txCells out) := by
  have h1 := h.hg
  have h2 := h.g3g
  have h3 := h.gB
  refine ⟨ho.rd, ho.met, ho.chg.blk h.b3 (by simp; omega), Chg.to_ext h.ext ho.chg (fun k hk => by simp at hk; rcases hk with rfl | rfl <;> omega), ho.chg.own h.own (fun q hq hm => ?_)⟩
  simp only [List.mem_cons, List.not_mem_nil, or_false] at hm
  rcases hm with rfl | rfl
  · obtain ⟨A, cap, hB, _⟩ := h.rd.ex
    exact own_blk_ne h.own hB (by decide) hq
  · exact ownsMap_own_ne h.met.1 h.own hq
end Go.Proofs.YtokakpbpenndlaaGreatDoor

set_option linter.unusedVariables false
namespace Go.Proofs.YtokakpbpenndlaaGreatDoor
open Go.RowKit

def Tx.ints (x : Tx) : List Int := [x.l, x.j, x.t, x.x, x.r, x.v]
def txInts (l : List Tx) : List Int := l.flatMap Tx.ints
theorem txInts_snoc (l : List Tx) (k : Nat) (h : k < l.length) : txInts (l.take (k + 1)) = txInts (l.take k) ++ l[k].ints := by
  rw [List.take_succ_eq_append_getElem h]; unfold txInts; rw [List.flatMap_append, List.flatMap_cons, List.flatMap_nil, List.append_nil]
/-- P25.2: the bytes of tax lines. -/
def taxBytes (l : List Tx) : List UInt8 := if (checkTax l).1 = 0 then putsL ((l.length : Int) :: txInts l) else []
def TBRel (w : World) (l : List Tx) (out i : Value) (wr : World) : Prop :=
  ∃ k : Nat, k ≤ l.length ∧ i = .int .i64 (k : Int) ∧ wr.ownsRow w.heap.size 5 1 out (putsL ((l.length : Int) :: txInts (l.take k))).length (bV (putsL ((l.length : Int) :: txInts (l.take k)))) ∧ Ext w wr ∧ AllP wr out u8P
theorem TBRel.next {w w1 : World} {l : List Tx} {k : Nat} {v1 : Value} {n m : Nat} {xs : List Value} {x : Tx} (hk : k < l.length) (hx0 : l[k] = x) (hg : w1.ownsRow w.heap.size 5 1 v1 n xs) (hn : n = (putsL ((l.length : Int) :: txInts (l.take k))).length + (putsL x.ints).length) (hxs : xs = bV (putsL ((l.length : Int) :: txInts (l.take k))) ++ bV (putsL x.ints)) (hx : Ext w w1) (hall : AllP w1 v1 u8P) (hm : m = k + 1) : TBRel w l v1 (.int .i64 (m : Int)) w1 := by
  subst hm hn hxs hx0
  refine ⟨k + 1, by omega, rfl, ?_, hx, hall⟩
  rw [txInts_snoc _ k hk, ← List.cons_append, putsL_app ((l.length : Int) :: txInts (l.take k)), bV_app, List.length_append]
  exact hg
theorem TBRel.done {w w1 : World} {l : List Tx} {k : Nat} {out : Value} (hc : (checkTax l).1 = 0) (hk : k = l.length) (h : w1.ownsRow w.heap.size 5 1 out (putsL ((l.length : Int) :: txInts (l.take k))).length (bV (putsL ((l.length : Int) :: txInts (l.take k))))) : w1.ownsRow w.heap.size 5 1 out (taxBytes l).length (bV (taxBytes l)) := by
  subst hk; rw [List.take_length] at h; rw [taxBytes, if_pos hc]; exact h

end Go.Proofs.YtokakpbpenndlaaGreatDoor

namespace Go.Proofs.YtokakpbpenndlaaGreatDoor
end Go.Proofs.YtokakpbpenndlaaGreatDoor

set_option linter.unusedVariables false
namespace Go.Proofs.YtokakpbpenndlaaGreatDoor

def Ent.hd (e : Ent) : List Int := [e.k, e.id, e.of_, e.day, (e.am.length : Int)]
/-- P29.5: the bytes of an entry. -/
def Ent.bytes (e : Ent) : List UInt8 := if e.check = 0 then putsL (e.hd ++ e.am) ++ (if e.k = 1 then taxBytes e.tax else []) else []
/-- Amounts read one behind the other. -/
def amsO : Nat → RS → List Int × RS
  | 0, s => ([], s)
  | n + 1, s => ((s.num 0 4611686018427387904 5).1 :: (amsO n (s.num 0 4611686018427387904 5).2).1, (amsO n (s.num 0 4611686018427387904 5).2).2)
structure EHead where
  k : Int
  id : Int
  of_ : Int
  day : Int
  n : Int
  s : RS
theorem amsO_snoc : ∀ (n : Nat) (s : RS), amsO (n + 1) s = ((amsO n s).1 ++ [((amsO n s).2.num 0 4611686018427387904 5).1], ((amsO n s).2.num 0 4611686018427387904 5).2)
  | 0, _ => rfl
  | n + 1, s => by
    rw [amsO, amsO_snoc n]
    simp [amsO]
end Go.Proofs.YtokakpbpenndlaaGreatDoor

set_option linter.unusedVariables false
namespace Go.Proofs.YtokakpbpenndlaaGreatDoor
open Go.RowKit
end Go.Proofs.YtokakpbpenndlaaGreatDoor

set_option linter.unusedVariables false
namespace Go.Proofs.YtokakpbpenndlaaGreatDoor
open Go.RowKit Go.Maps

def zEnt : Array Value := #[.int .i64 0, .int .i64 0, .int .i64 0, .int .i64 0, .slice none 0 0, .slice none 0 0]
/-- How the world stands in book.Read. -/
structure SE (w w1 W : World) (b5 : Nat) (s : RS) (cs : Array Value) : Prop where
  rd : RdO W w1.heap.size s
  h2 : Blk W w.heap.size 52 zEnt
  h5 : Blk W b5 52 cs
  ew : Ext w w1
  e1 : Ext w1 W
  lg : w.heap.size < w1.heap.size
  l5 : w1.heap.size < b5
theorem SE.ext {w w1 W : World} {b5 : Nat} {s : RS} {cs : Array Value} (h : SE w w1 W b5 s cs) : Ext w W := h.ew.trans h.e1
theorem SE.call {w w1 W W' : World} {b5 : Nat} {s s' : RS} {cs : Array Value} (h : SE w w1 W b5 s cs) (hR : RdO W' w1.heap.size s') (hG : W.grownBy W' (some w1.heap.size)) : SE w w1 W' b5 s' cs := by
  have l := h.lg
  have l' := h.l5
  exact ⟨hR, h.h2.grown hG (by intro e; have := Option.some.inj e; omega), h.h5.grown hG (by intro e; have := Option.some.inj e; omega), h.ew, h.e1.grown hG (by intro k e; have := Option.some.inj e; omega), h.lg, h.l5⟩
theorem SE.to {w w1 W W' : World} {b5 : Nat} {s : RS} {cs : Array Value} (h : SE w w1 W b5 s cs) (hx : Ext W W') : SE w w1 W' b5 s cs :=
  ⟨h.rd.ext hx, h.h2.ext hx, h.h5.ext hx, h.ew, h.e1.trans hx, h.lg, h.l5⟩
theorem SE.set {w w1 W : World} {b5 : Nat} {s : RS} {cs : Array Value} (h : SE w w1 W b5 s cs) (i : Nat) (v : Value) : SE w w1 (W.setCell ⟨b5, i, none⟩ v) b5 s (cs.setIfInBounds i v) := by
  have l := h.lg
  have l' := h.l5
  exact ⟨h.rd.set (p := ⟨b5, i, none⟩) l' v, h.h2.far (p := ⟨b5, i, none⟩) (show w.heap.size ≠ b5 by omega) v, h.h5.set_ i v, h.ew, h.e1.set (p := ⟨b5, i, none⟩) (show w1.heap.size ≤ b5 by omega) v, l, l'⟩
/-- The four numbers at the head: their bounds. -/
def loP : Nat → Int
  | 0 => 1
  | 1 => 1
  | _ => 0
def hiP : Nat → Int
  | 0 => 3
  | 1 => 1099511627775
  | 2 => 1099511627775
  | _ => 3652058
/-- Reader and entry after k of them. -/
def hst (b : List UInt8) : Nat → RS × Array Value
  | 0 => (RS.start b, zEnt)
  | k + 1 => (((hst b k).1.num (loP k) (hiP k) 5).2, (hst b k).2.setIfInBounds k (.int .i64 ((hst b k).1.num (loP k) (hiP k) 5).1))
/-- Where the loop of amounts stands. -/
def AmRel (w w1 : World) (b5 : Nat) (z0 z1 z2 z3 : Int) (n : Nat) (s0 : RS) (i : Value) (wr : World) : Prop :=
  ∃ (k : Nat) (A : Option Addr) (c : Nat), k ≤ n ∧ i = .int .i64 (k : Int) ∧
    SE w w1 wr b5 (amsO k s0).2 #[.int .i64 z0, .int .i64 z1, .int .i64 z2, .int .i64 z3, .slice A k c, .slice none 0 0] ∧
    wr.ownsRow w1.heap.size 3 1 (.slice A k c) k (iV (amsO k s0).1)
end Go.Proofs.YtokakpbpenndlaaGreatDoor

set_option linter.unusedVariables false
namespace Go.Proofs.YtokakpbpenndlaaGreatDoor
open Go.RowKit Go.Maps
theorem AmRel.next {w w1 W : World} {b5 : Nat} {z0 z1 z2 z3 : Int} {n k m : Nat} {s0 : RS} {A1 A9 : Option Addr} {c1 c9 : Nat} {xs : List Value} (hk : k < n)
    (T : SE w w1 W b5 (amsO (k + 1) s0).2 #[.int .i64 z0, .int .i64 z1, .int .i64 z2, .int .i64 z3, .slice A1 k c1, .slice none 0 0])
    (hown : W.ownsRow w1.heap.size 3 1 (.slice A9 (k + 1) c9) (k + 1) xs) (hxs : xs = iV (amsO k s0).1 ++ [.int .i64 ((amsO k s0).2.num 0 4611686018427387904 5).1]) (e : m = k + 1) :
    AmRel w w1 b5 z0 z1 z2 z3 n s0 (.int .i64 (m : Int)) (W.setCell ⟨b5, 4, none⟩ (.slice A9 (k + 1) c9)) := by
  subst e hxs
  refine ⟨k + 1, A9, c9, by omega, rfl, T.set 4 _, ?_⟩
  have := own_set hown (a := ⟨b5, 4, none⟩) (own_blk_ne hown T.h5 (by decide)) (.slice A9 (k + 1) c9)
  rw [amsO_snoc]
  simpa [iV] using this
theorem own_slice' {w : World} {base : Nat} {e : TypeId} {size n c : Nat} {A : Option Addr} {xs : List Value} (h : w.ownsRow base e size (.slice A n c) n xs) : n ≤ c ∧ c ≤ maxLen ∧ Reads w w.heap.size size A n xs := by
  obtain ⟨A', c', e, h1, h2, h3⟩ := own_slice h
  injection e with e _ ec
  subst e ec
  exact ⟨h1, h2, h3⟩
/-- The end with an entry. -/
theorem SE.out {w w1 W : World} {b5 : Nat} {s : RS} {cs : Array Value} {e : Ent} {Aa At : Option Addr} {ca ct : Nat} (h : SE w w1 W b5 s cs) (oa : W.ownsRow w.heap.size 3 1 (.slice Aa e.am.length ca) e.am.length (iV e.am)) (ot : W.ownsRow w.heap.size 117 6 (.slice At e.tax.length ct) e.tax.length (txCells e.tax)) (u0 u1 u2 u3 u4 u5 : Value) :
    EntOut w ((((((W.setCell ⟨w.heap.size, 0, none⟩ u0).setCell ⟨w.heap.size, 1, none⟩ u1).setCell ⟨w.heap.size, 2, none⟩ u2).setCell ⟨w.heap.size, 3, none⟩ u3).setCell ⟨w.heap.size, 4, none⟩ u4).setCell ⟨w.heap.size, 5, none⟩ u5) e Aa At ca ct :=
  ⟨own_put6 oa (own_blk_ne oa h.h2 (by decide)) _ _ _ _ _ _, own_put6 ot (own_blk_ne ot h.h2 (by decide)) _ _ _ _ _ _, set6' h.ext (Nat.le_refl _) _ _ _ _ _ _⟩
end Go.Proofs.YtokakpbpenndlaaGreatDoor
