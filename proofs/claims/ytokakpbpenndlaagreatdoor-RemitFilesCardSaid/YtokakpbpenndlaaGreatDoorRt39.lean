/-
  DERIVED: THE SHELF's CONTRACTS AT THIS DUMP, IN PLAIN WORDS (tools/lay-plain.mjs out of 'TryzSort.lean', which tools/lay-shelf.mjs wrote): THE SAME DECLARATIONS UNDER THE SAME NAMES: 'import', 'namespace', 'open', 'def', 'theorem' AND NOTHING ELSE: no command of the shelf's: FOR A HAND-IN. Each laying: the table of numbers ('.._ren') and one theorem, a field a fact of the dump's own or the kernel's comparison; each contract: ONE APPLICATION.
-/
import Derived.Shelf.SlSortCmp.NoneTotal
import Derived.Ground.SlsfProg
import Derived.Test.YtokakpbpenndlaaGreatDoorProg
import Derived.Test.YtokakpbpenndlaaGreatDoorRt38
import Derived.Test.YtokakpbpenndlaaGreatDoorRt36
import Derived.Test.YtokakpbpenndlaaGreatDoorRt08
import Derived.Test.YtokakpbpenndlaaGreatDoorRt29
import Derived.Deep.RegionHeld3
namespace Go.Proofs
open Go.Shelf
def Tryz.dueSort_ren : Go.Shelf.Ren := ⟨fun | 6 => 125 | 15 => 158 | 14 => 157 | 28 => 183 | 29 => 184 | 20 => 175 | 21 => 176 | 22 => 177 | 23 => 178 | 24 => 179 | 25 => 180 | 26 => 181 | 27 => 182 | 46 => 194 | 47 => 195 | 48 => 196 | 49 => 197 | 50 => 198 | 57 => 209 | n => n, fun | 22 => 56 | 24 => 62 | 25 => 153 | 3 => 3 | 39 => 157 | 0 => 0 | 53 => 239 | 55 => 132 | 4 => 4 | 46 => 233 | 45 => 232 | 50 => 139 | 5 => 5 | 9 => 9 | 66 => 248 | 70 => 87 | 76 => 260 | 77 => 261 | n => n, fun | n => n⟩
theorem Tryz.dueSort : Go.Proofs.SlLaysF0.n6 Tryz.prog Tryz.dueSort_ren := {
  mixed := by kernel_rfl
  f6 := ⟨Tryz.f125.name, by decide, Tryz.func125.trans (congrArg some (by kernel_rfl))⟩
  f14 := ⟨Tryz.f157.name, by decide, Tryz.func157.trans (congrArg some (by kernel_rfl))⟩
  f15 := Tryz.func158.trans (congrArg some (by kernel_rfl))
  f20 := ⟨Tryz.f175.name, by decide, Tryz.func175.trans (congrArg some (by kernel_rfl))⟩
  f21 := ⟨Tryz.f176.name, by decide, Tryz.func176.trans (congrArg some (by kernel_rfl))⟩
  f22 := ⟨Tryz.f177.name, by decide, Tryz.func177.trans (congrArg some (by kernel_rfl))⟩
  f23 := ⟨Tryz.f178.name, by decide, Tryz.func178.trans (congrArg some (by kernel_rfl))⟩
  f24 := ⟨Tryz.f179.name, by decide, Tryz.func179.trans (congrArg some (by kernel_rfl))⟩
  f25 := ⟨Tryz.f180.name, by decide, Tryz.func180.trans (congrArg some (by kernel_rfl))⟩
  f26 := ⟨Tryz.f181.name, by decide, Tryz.func181.trans (congrArg some (by kernel_rfl))⟩
  f27 := ⟨Tryz.f182.name, by decide, Tryz.func182.trans (congrArg some (by kernel_rfl))⟩
  f28 := Tryz.func183.trans (congrArg some (by kernel_rfl))
  f29 := Tryz.func184.trans (congrArg some (by kernel_rfl))
  f46 := ⟨Tryz.f194.name, by decide, Tryz.func194.trans (congrArg some (by kernel_rfl))⟩
  f47 := Tryz.func195.trans (congrArg some (by kernel_rfl))
  f48 := Tryz.func196.trans (congrArg some (by kernel_rfl))
  f49 := ⟨Tryz.f197.name, by decide, Tryz.func197.trans (congrArg some (by kernel_rfl))⟩
  f50 := ⟨Tryz.f198.name, by decide, Tryz.func198.trans (congrArg some (by kernel_rfl))⟩
  f57 := ⟨Tryz.f209.name, by decide, Tryz.func209.trans (congrArg some (by kernel_rfl))⟩
  t0 := Tryz.underlying0
  a0 := Tryz.isAgg0
  z0 := Tryz.sizeOf0
  v0 := Tryz.zeroValue0
  t3 := Tryz.underlying3
  a3 := Tryz.isAgg3
  z3 := Tryz.sizeOf3
  v3 := Tryz.zeroValue3
  t4 := Tryz.underlying4
  a4 := Tryz.isAgg4
  z4 := Tryz.sizeOf4
  v4 := Tryz.zeroValue4
  t5 := Tryz.underlying5
  a5 := Tryz.isAgg5
  z5 := Tryz.sizeOf5
  v5 := Tryz.zeroValue5
  t9 := Tryz.underlying9
  a9 := Tryz.isAgg9
  z9 := Tryz.sizeOf9
  v9 := Tryz.zeroValue9
  t22 := Tryz.underlying56
  a22 := Tryz.isAgg56
  z22 := Tryz.sizeOf56
  v22 := Tryz.zeroValue56
  t25 := Tryz.underlying153
  a25 := Tryz.isAgg153
  z25 := Tryz.sizeOf153
  v25 := Tryz.zeroValue153
  t39 := Tryz.underlying157
  a39 := Tryz.isAgg157
  z39 := Tryz.sizeOf157
  v39 := Tryz.zeroValue157
  t45 := Tryz.underlying232
  a45 := Tryz.isAgg232
  z45 := Tryz.sizeOf232
  v45 := Tryz.zeroValue232
  t46 := Tryz.underlying233
  a46 := Tryz.isAgg233
  z46 := Tryz.sizeOf233
  v46 := Tryz.zeroValue233
  t50 := Tryz.underlying139
  a50 := Tryz.isAgg139
  z50 := Tryz.sizeOf139
  v50 := Tryz.zeroValue139
  t53 := Tryz.underlying239
  a53 := Tryz.isAgg239
  z53 := Tryz.sizeOf239
  v53 := Tryz.zeroValue239
  t55 := Tryz.underlying132
  a55 := Tryz.isAgg132
  z55 := Tryz.sizeOf132
  v55 := Tryz.zeroValue132
  t66 := Tryz.underlying248
  a66 := Tryz.isAgg248
  z66 := Tryz.sizeOf248
  v66 := Tryz.zeroValue248
  t70 := Tryz.underlying87
  a70 := Tryz.isAgg87
  z70 := Tryz.sizeOf87
  v70 := Tryz.zeroValue87
  t76 := Tryz.underlying260
  a76 := Tryz.isAgg260
  z76 := Tryz.sizeOf260
  v76 := Tryz.zeroValue260
  t77 := Tryz.underlying261
  a77 := Tryz.isAgg261
  z77 := Tryz.sizeOf261
  v77 := Tryz.zeroValue261 }
end Go.Proofs

set_option linter.unusedVariables false
namespace Go.Proofs.YtokakpbpenndlaaGreatDoor
open Go.RowKit Go.Maps Go.Sort Go.Shelf

def dueE (p : Int × Int) : List Value := [.int .i64 p.1, .int .i64 p.2]
theorem dueE_len (p : Int × Int) : (dueE p).length = 2 := rfl
theorem dueE_one (p : Int × Int) : ∀ v ∈ dueE p, v.oneCell' = true := by
  intro v hv
  simp [dueE] at hv
  rcases hv with rfl | rfl <;> rfl
theorem due_flat (d : List (Int × Int)) : flatK dueE 2 d.toArray = (dueCl d).toArray := by
  apply Array.toList_inj.1
  apply List.ext_getElem?
  intro t
  have hl : (dueCl d).length = d.length * 2 := flat_len (f := fun p : Int × Int => dueE p) (fun _ => rfl) d
  by_cases ht : t < d.length * 2
  · have hk : t / 2 < d.length := by omega
    have h1 := flat_get (f := fun p : Int × Int => dueE p) (c := 2) (fun _ => rfl) d (t / 2) (t % 2) hk (by omega)
    rw [show t / 2 * 2 + t % 2 = t by omega] at h1
    rw [show (dueCl d).toArray.toList[t]? = (dueCl d)[t]? by simp]
    have h2 := get_flatK dueE 2 d.toArray t (by simpa using ht)
    have hs : t < (flatK dueE 2 d.toArray).size := by simpa using ht
    rw [getElem!_pos _ t hs] at h2
    rw [Array.getElem?_toList, Array.getElem?_eq_getElem hs, h2]
    rw [show dueCl d = d.flatMap (fun p : Int × Int => dueE p) from rfl, h1]
    have e1 : d.toArray[t / 2]! = d[t / 2] := by simp [hk]
    rw [e1]
    rcases (by omega : t % 2 = 0 ∨ t % 2 = 1) with e | e <;> rw [e] <;> rfl
  · rw [List.getElem?_eq_none (by simp; omega), List.getElem?_eq_none (by simp; omega)]
theorem holds_id {w : World} {g : Nat} {cur : Array Value} {e : TypeId} {xs : List Value} (hb : w.heap[g]? = some (.cells cur e (0, 0))) (ht : cur.toList.take xs.length = xs) : Holds id w g 0 xs.toArray := by
  intro j hj
  have hj' : j < xs.length := by simpa using hj
  refine ⟨?_, by simp [World.frozen?, hb]⟩
  have h1 : (cur.toList.take xs.length)[j]? = xs[j]? := by rw [ht]
  rw [List.getElem?_take_of_lt hj'] at h1
  simp only [World.cell?, hb, Nat.zero_add]
  simp only [Option.isSome_none, Bool.false_eq_true, if_false]
  rw [← Array.getElem?_toList, h1]
  simp [hj']
theorem heap_putId {w : World} {g n : Nat} {os : Array Obj} {cur : Array Value} {e : TypeId} {fr : Nat × Nat} (d : Array Value) (hb : w.heap[g]? = some (.cells cur e fr)) :
    (grow (putRow id (Sort.ahead w n) g 0 d) os).heap[g]? = some (.cells (putCells id 0 d cur) e fr) := by
  have hg : g < w.heap.size := (Array.getElem?_eq_some_iff.1 hb).1
  rw [heap_grow_old _ _ (by simpa using hg)]
  simp [putRow, mapBlock, Sort.ahead, Array.getElem?_modify, hb, onCells]
theorem grownBy_putId {w : World} {g n : Nat} {os : Array Obj} (d : Array Value) : w.grownBy (grow (putRow id (Sort.ahead w n) g 0 d) os) (some g) := by
  refine ⟨rfl, rfl, rfl, by simp, fun k hk hne => ?_⟩
  rw [heap_grow_old _ _ (by simpa using hk)]
  have : g ≠ k := fun e => hne (by rw [e])
  simp [putRow, mapBlock, Sort.ahead, Array.getElem?_modify, this]
theorem take_putId (cur : Array Value) (ts : List Value) (h : ts.length ≤ cur.size) : (putCells id 0 ts.toArray cur).toList.take ts.length = ts := by
  apply List.ext_getElem?
  intro j
  by_cases hj : j < ts.length
  · rw [List.getElem?_take_of_lt hj, Array.getElem?_toList]
    simp [putCells, hj, show j < cur.size by omega]
  · rw [List.getElem?_take_eq_none (by omega), List.getElem?_eq_none (by omega)]

/-- The order of dues. -/
def cmpDue (x y : Int × Int) : Int := if Lib.compareInt x.1 y.1 ≠ 0 then Lib.compareInt x.1 y.1 else Lib.compareInt x.2 y.2
def ltDue (x y : Int × Int) : Bool := decide (x.1 < y.1) || (decide (x.1 = y.1) && decide (x.2 < y.2))
theorem cmp_lt (x y : Int × Int) : ltOf cmpDue x y = ltDue x y := by
  unfold ltOf cmpDue ltDue Lib.compareInt
  by_cases h1 : x.1 < y.1
  · simp [h1]
  · by_cases h2 : y.1 < x.1
    · have : ¬ x.1 = y.1 := by omega
      simp [h1, h2, this]
    · have : x.1 = y.1 := by omega
      by_cases h3 : x.2 < y.2
      · simp [this, h3]
      · by_cases h4 : y.2 < x.2 <;> simp [this, h3, h4]
theorem swoDue : SWO (ltOf cmpDue) where
  irrefl x := by rw [cmp_lt]; simp [ltDue]
  trans x y z h1 h2 := by rw [cmp_lt] at *; simp [ltDue] at *; omega
  ntrans x y z h1 h2 := by rw [cmp_lt] at *; simp [ltDue] at *; omega
theorem totDue (x y : Int × Int) (h1 : ltOf cmpDue x y = false) (h2 : ltOf cmpDue y x = false) : x = y := by
  rw [cmp_lt] at h1 h2
  simp [ltDue] at h1 h2
  obtain ⟨a, b⟩ := x
  obtain ⟨c, d⟩ := y
  simp at h1 h2 ⊢
  omega
end Go.Proofs.YtokakpbpenndlaaGreatDoor

set_option linter.unusedVariables false
namespace Go.Proofs.YtokakpbpenndlaaGreatDoor
open Go.RowKit
end Go.Proofs.YtokakpbpenndlaaGreatDoor

namespace Go.Proofs.YtokakpbpenndlaaGreatDoor
open Go.RowKit
end Go.Proofs.YtokakpbpenndlaaGreatDoor

set_option linter.unusedVariables false
namespace Go.Proofs.YtokakpbpenndlaaGreatDoor
open Go.RowKit

/-- Block g is a reader of the reference that stands as s. -/
structure RdR (w : World) (g : Nat) (s : RS) : Prop where
  ex : ∃ A cap, Blk w g 104 #[.slice A s.b.length cap, .int .i64 (s.at_ : Int), .int .i64 s.fe, .int .i64 (s.fa : Int)] ∧ Reads w g 1 A s.b.length (bV s.b) ∧ s.b.length ≤ cap ∧ cap ≤ maxLen
  ok : s.ok
theorem RdR.lt {w : World} {g : Nat} {s : RS} (h : RdR w g s) : g < w.heap.size := by obtain ⟨A, cap, hB, _⟩ := h.ex; exact hB.lt
theorem RdR.ext {w w' : World} {g : Nat} {s : RS} (h : RdR w g s) (hx : Ext w w') : RdR w' g s := by
  obtain ⟨A, cap, hB, hr, hc, hm⟩ := h.ex
  exact ⟨⟨A, cap, hB.ext hx, hr.extB (Nat.le_of_lt hB.lt) hx, hc, hm⟩, h.ok⟩
def rrCells (A : Option Addr) (n cap at_ : Nat) (fe : Int) (fa : Nat) : Array Value := #[.slice A n cap, .int .i64 (at_ : Int), .int .i64 fe, .int .i64 (fa : Int)]
theorem RdR.upd {w w' : World} {g : Nat} {s s' : RS} (h : RdR w g s) (hg : w.grownBy w' (some g)) (hb : s'.b = s.b) (hok : s'.ok)
    (hB : ∀ A cap, Blk w g 104 (rrCells A s.b.length cap s.at_ s.fe s.fa) → Blk w' g 104 (rrCells A s.b.length cap s'.at_ s'.fe s'.fa)) : RdR w' g s' := by
  obtain ⟨A, cap, hB', hr, hc, hm⟩ := h.ex
  refine ⟨⟨A, cap, by rw [hb]; exact hB A cap hB', ?_, by rw [hb]; exact hc, hm⟩, hok⟩
  rw [hb]
  exact hr.keep fun b o hlt => World.cell?_of_block (a := ⟨b, o, none⟩) (hg.block b (Nat.lt_trans hlt hB'.lt) (fun e => by have := Option.some.inj e; omega))
theorem RdR.at_ {w : World} {g : Nat} {s : RS} (h : RdR w g s) : w.cell? ⟨g, 1, none⟩ = some (.int .i64 (s.at_ : Int)) := by
  obtain ⟨A, cap, hB', hr, hc, hm⟩ := h.ex
  exact hB'.cell 1
theorem RdR.fe {w : World} {g : Nat} {s : RS} (h : RdR w g s) : w.cell? ⟨g, 2, none⟩ = some (.int .i64 s.fe) := by
  obtain ⟨A, cap, hB', hr, hc, hm⟩ := h.ex
  exact hB'.cell 2
theorem RdR.fa {w : World} {g : Nat} {s : RS} (h : RdR w g s) : w.cell? ⟨g, 3, none⟩ = some (.int .i64 (s.fa : Int)) := by
  obtain ⟨A, cap, hB', hr, hc, hm⟩ := h.ex
  exact hB'.cell 3
theorem RdR.bytes {w : World} {g : Nat} {s : RS} (h : RdR w g s) : ∃ A cap, w.cell? ⟨g, 0, none⟩ = some (.slice A s.b.length cap) := by
  obtain ⟨A, cap, hB', hr, hc, hm⟩ := h.ex
  exact ⟨A, cap, hB'.cell 0⟩
theorem Blk.drew {w : World} {g : Nat} {t : TypeId} {cs : Array Value} (h : Blk w g t cs) : Blk w.drew g t cs := h
end Go.Proofs.YtokakpbpenndlaaGreatDoor

set_option linter.unusedVariables false
namespace Go.Proofs.YtokakpbpenndlaaGreatDoor
open Go.RowKit

theorem RdR.set {w : World} {g : Nat} {s : RS} (h : RdR w g s) {p : Addr} (hp : g < p.block) (u : Value) : RdR (w.setCell p u) g s := by
  obtain ⟨A, cap, hB, hr, hc, hm⟩ := h.ex
  exact ⟨⟨A, cap, hB.far (Nat.ne_of_lt hp) u, hr.keep fun b o hb => World.cell?_setCell_far _ _ _ _ (Nat.ne_of_gt (Nat.lt_trans hb hp)), hc, hm⟩, h.ok⟩
end Go.Proofs.YtokakpbpenndlaaGreatDoor

set_option linter.unusedVariables false
namespace Go.Proofs.YtokakpbpenndlaaGreatDoor
open Go.RowKit
theorem Blk.new2 (w : World) (t t' : TypeId) (cs cs' : Array Value) : Blk ((w.alloc (.cells cs t)).alloc (.cells cs' t')) (w.heap.size + 1) t' cs' := by
  have := Blk.new (w.alloc (.cells cs t)) t' cs'
  simpa using this
end Go.Proofs.YtokakpbpenndlaaGreatDoor

set_option linter.unusedVariables false
namespace Go.Proofs.YtokakpbpenndlaaGreatDoor
open Go.RowKit Go.Maps Go.Sort Go.Shelf

def OrRel (w : World) (a b : Int) (i : Value) (wr : World) : Prop := wr = w ∧ (i = .int .i64 0 ∨ (i = .int .i64 1 ∧ a = 0) ∨ (i = .int .i64 2 ∧ a = 0 ∧ b = 0))
set_option maxRecDepth 100000 in
set_option maxHeartbeats 1000000 in
theorem cmpOr_any (g cc : Nat) (a b R : Int) (hR : (if a ≠ 0 then a else b) = R) (w : World) (h0 : w.cell? ⟨g, 0, none⟩ = some (.int .i64 a)) (h1 : w.cell? ⟨g, 1, none⟩ = some (.int .i64 b)) :
    Calls Tryz.prog 82 #[.slice (some ⟨g, 0, none⟩) 2 cc] w fun e w' => e = .returned (.int .i64 R) ∧ w' = w := by
  have v1 : IntKind.i64.wrap 1 = 1 := by decide
  have v2 : IntKind.i64.wrap 2 = 2 := by decide
  replace hR := Lib.hid hR
  go_enter Tryz.func82, Tryz.ntmps82
  go_wp2
  go_loopw [8] (fun i wr => OrRel w a b i wr) (fun i _ => 2 - (intOf i).toNat)
  case atStart => exact ⟨rfl, .inl rfl⟩
  case round =>
    obtain ⟨rfl, rfl | ⟨rfl, ha⟩ | ⟨rfl, ha, hb⟩⟩ := hrel
    · by_cases ha : a = 0
      · have hd : (a != 0) = false := by simp [ha]
        replace ha := Lib.hid ha
        go_wp2
        go_roundw
        case rel => exact ⟨rfl, .inr (.inl ⟨rfl, ha.out⟩)⟩
        case measure => simp [intOf]
      · have hd : (a != 0) = true := by simp [ha]
        have hi := Lib.hid (show R = a by rw [← hR.out, if_pos ha])
        replace ha := Lib.hid ha
        go_wp2
        go_ret
        exact ⟨by rw [hi.out]; rfl, rfl⟩
    · have hi := Lib.hid (show R = b by rw [← hR.out, if_neg (by simp [ha])])
      replace ha := Lib.hid ha
      by_cases hb : b = 0
      · have hd : (b != 0) = false := by simp [hb]
        replace hb := Lib.hid hb
        go_wp2
        go_roundw
        case rel => exact ⟨rfl, .inr (.inr ⟨rfl, ha.out, hb.out⟩)⟩
        case measure => simp [intOf]
      · have hd : (b != 0) = true := by simp [hb]
        replace hb := Lib.hid hb
        go_wp2
        go_ret
        exact ⟨by rw [hi.out]; rfl, rfl⟩
    · have hi := Lib.hid (show R = 0 by rw [← hR.out, if_neg (by simp [ha]), hb])
      clear ha hb
      go_wp2
      go_ret
      exact ⟨by rw [hi.out]; rfl, rfl⟩
set_option maxRecDepth 100000 in
set_option maxHeartbeats 2000000 in
theorem dueCmp_any (x y : Int × Int) (W : World) : Calls Tryz.prog 81 #[.agg #[.int .i64 x.1, .int .i64 x.2], .agg #[.int .i64 y.1, .int .i64 y.2]] W fun e w' => e = .returned (.int .i64 (cmpDue x y)) ∧ ∃ q os', w' = grow (W.drewN q) os' := by
  obtain ⟨x1, x2⟩ := x
  obtain ⟨y1, y2⟩ := y
  have hc1 := fun W => Tryz.cmp_Compare_int x1 y1 W
  have hc2 := fun W => Tryz.cmp_Compare_int x2 y2 W
  unfold cmpDue
  simp only
  generalize Lib.compareInt x1 y1 = r1 at hc1 ⊢
  generalize Lib.compareInt x2 y2 = r2 at hc2 ⊢
  generalize hR : (if r1 ≠ 0 then r1 else r2) = R
  replace hR := Lib.hid hR
  have B1 := (Blk.new W 62 #[.int .i64 x1, .int .i64 x2]).alloc (.cells #[.int .i64 y1, .int .i64 y2] 62)
  have B2 := Blk.new2 W 62 62 #[.int .i64 x1, .int .i64 x2] #[.int .i64 y1, .int .i64 y2]
  have hos := Lib.hid (show (W.alloc (.cells #[.int .i64 x1, .int .i64 x2] 62)).alloc (.cells #[.int .i64 y1, .int .i64 y2] 62) = grow W (#[(.cells #[.int .i64 x1, .int .i64 x2] 62)] ++ #[(.cells #[.int .i64 y1, .int .i64 y2] 62)]) by rw [alloc_eq_grow, alloc_eq_grow, grow_grow])
  go_enter Tryz.func81, Tryz.ntmps81
  go_wp2_with fail
  generalize hW2 : (W.alloc (.cells #[.int .i64 x1, .int .i64 x2] 62)).alloc (.cells #[.int .i64 y1, .int .i64 y2] 62) = W2 at *
  have HS := Lib.hid (fun (w' : World) (hx : Ext W2 w') => (show w'.cell? ⟨W.heap.size, 0, none⟩ = some (.int .i64 x1) ∧ w'.cell? ⟨W.heap.size, 1, none⟩ = some (.int .i64 x2) ∧ w'.cell? ⟨W.heap.size + 1, 0, none⟩ = some (.int .i64 y1) ∧ w'.cell? ⟨W.heap.size + 1, 1, none⟩ = some (.int .i64 y2) from
    ⟨(B1.ext hx).cell 0, (B1.ext hx).cell 1, (B2.ext hx).cell 0, (B2.ext hx).cell 1⟩))
  obtain ⟨s0, s1, s2, s3⟩ := HS.out W2 (Ext.refl _)
  clear B1 B2 hW2
  go_region_held3 (fun w' => w'.cell? ⟨W.heap.size, 0, none⟩ = some (.int .i64 x1) ∧ w'.cell? ⟨W.heap.size, 1, none⟩ = some (.int .i64 x2) ∧ w'.cell? ⟨W.heap.size + 1, 0, none⟩ = some (.int .i64 y1) ∧ w'.cell? ⟨W.heap.size + 1, 1, none⟩ = some (.int .i64 y2))
    (with_reducible refine HS.out _ ?_; with_reducible repeat (first | exact Ext.refl _ | refine Ext.drew ?_ | refine Ext.alloc ?_ _))
    (first
    | (go_at_call 83; with_reducible refine (hc1 _).mono ?_; rintro e w1 ⟨rfl, rfl⟩)
    | (go_at_call 83; with_reducible refine (hc2 _).mono ?_; rintro e w1 ⟨rfl, rfl⟩)
    | (go_at_call 82; refine (cmpOr_any _ _ r1 r2 R hR.out _ (((Blk.new W2 3 #[.int .i64 r1, .int .i64 r2]).drew).cell 0) (((Blk.new W2 3 #[.int .i64 r1, .int .i64 r2]).drew).cell 1)).mono ?_; rintro e w1 ⟨rfl, rfl⟩))
  all_goals
    go_wp2_with fail
    go_ret
    refine ⟨rfl, 1, (#[(.cells #[.int .i64 x1, .int .i64 x2] 62)] ++ #[(.cells #[.int .i64 y1, .int .i64 y2] 62)]) ++ #[(.cells #[.int .i64 r1, .int .i64 r2] 3)], ?_⟩
    rw [hos.out, alloc_eq_grow, grow_grow, drew_grow]
    rfl
end Go.Proofs.YtokakpbpenndlaaGreatDoor

set_option linter.unusedVariables false
namespace Go.Proofs.YtokakpbpenndlaaGreatDoor
open Go.RowKit Go.Maps Go.Sort Go.Shelf

/-- Dues in their order. -/
def sortD (ss : List (Int × Int)) : List (Int × Int) := ss.mergeSort fun x y => !(ltOf cmpDue) y x
theorem sortD_perm (ss : List (Int × Int)) : (sortD ss).Perm ss := List.mergeSort_perm _ _
theorem sortD_len (ss : List (Int × Int)) : (sortD ss).length = ss.length := (sortD_perm ss).length_eq
theorem dueCl_len (ss : List (Int × Int)) : (dueCl ss).length = ss.length * 2 := flat_len (f := fun p : Int × Int => dueE p) (fun _ => rfl) ss
set_option maxHeartbeats 1000000 in
theorem dueSortFunc_any (blk cap : Nat) (ss : List (Int × Int)) (w : World) {cur : Array Value} (hb : w.heap[blk]? = some (.cells cur 62 (0, 0))) (hr : cur.toList.take (ss.length * 2) = dueCl ss) (hsz : ss.length < 4611686018427387904) :
    Calls Tryz.prog 125 #[.slice (some ⟨blk, 0, none⟩) ss.length cap, .func (.func 81) #[] #[]] w fun e w' => e = .returned (.tuple #[]) ∧ ∃ n os, w' = grow (putRow id (Sort.ahead w n) blk 0 (dueCl (sortD ss)).toArray) os := by
  have hH : HoldsK dueE 2 w blk 0 ss.toArray := by
    show Holds id w blk 0 (flatK dueE 2 ss.toArray)
    rw [due_flat]
    exact holds_id hb (by rw [dueCl_len]; exact hr)
  have eg : ∀ args w, (callFunc 81 args).run Tryz.prog w = .ok (.enter 81 args) w := enters_of Tryz.func81 (by kernel_rfl) rfl
  have hcmp : CmpLays Tryz.prog 81 #[] dueE 2 cmpDue blk 0 ss.toArray.size w := fun _ _ _ _ x y => dueCmp_any x y _
  have h := AnyQ.slices_SortFunc_total Tryz.dueSort 2 Tryz.isAgg62 Tryz.sizeOf62 dueE dueE_len dueE_one cmpDue swoDue 81 #[] blk 0 cap ss.toArray w eg hcmp hH (Array.getElem?_eq_some_iff.1 hb).1 (by simpa using hsz) totDue
  change Calls Tryz.prog 125 _ _ _ at h
  have e0 : ss.toArray.size = ss.length := by simp
  rw [e0] at h
  refine h.mono ?_
  rintro e w' ⟨rfl, n, os, rfl⟩
  refine ⟨rfl, n, os, ?_⟩
  show grow (putRow id (Sort.ahead w n) blk 0 (flatK dueE 2 (sortD ss).toArray)) os = _
  rw [due_flat]
theorem dueSortFunc_none (p : Option Addr) (cap : Nat) (fv : Value) (w : World) : Calls Tryz.prog 125 #[.slice p 0 cap, fv] w fun e w' => e = .returned (.tuple #[]) ∧ w' = w :=
  AnyF.slices_SortFunc_none Tryz.dueSort p cap fv w
set_option maxRecDepth 100000 in
set_option maxHeartbeats 1000000 in
theorem dueSorted_any (Bm b nn : Nat) (ks : List (Int × Int)) (w : World) (hBm : Bm < w.heap.size) (hm : w.cell? ⟨Bm, 0, none⟩ = some (.map (some b))) (hown : DueIs w b nn ks) (hN : nn ≤ maxLen) (hNb : nn * 16 ≤ 140737488355328) :
    Calls Tryz.prog 79 #[.func (.func 126) #[] #[.pointer (some ⟨Bm, 0, none⟩)], .func (.func 81) #[] #[]] w fun e w' =>
      ∃ v ss, e = .returned v ∧ DueAll ks ss ∧ w'.ownsRow w.heap.size 62 2 v ss.length (dueCl (sortD ss)) ∧ Ext w w' := by
  have hsz := hown.1.size_le
  have HC : Calls Tryz.prog 124 #[.func (.func 126) #[] #[.pointer (some ⟨Bm, 0, none⟩)]] w fun e w' => ∃ (v : Value) (ss : List (Int × Int)), e = .returned v ∧ (DueAll ks ss ∧ ss.length ≤ Maps.size (dueD ks)) ∧ w'.ownsRow w.heap.size 62 2 v ss.length (dueCl ss) ∧ (v = .slice none 0 0 ↔ ss = []) ∧ Below w.heap.size w w' :=
    callsIn_wide.1 (dueCollect_in Fence.wide 5 trivial trivial rfl (by omega) 126 #[.pointer (some ⟨Bm, 0, none⟩)] trivial (enters_of Tryz.func126 (by kernel_rfl) rfl) (fun ss => DueAll ks ss ∧ ss.length ≤ Maps.size (dueD ks)) (fun _ => True) (Maps.size (dueD ks)) (by omega) (by omega) w
      (dueKeys_stops Fence.wide 3 trivial rfl (by omega) Bm b nn ks w hBm hm hown))
  replace HC := Lib.hid HC
  clear hown hm
  go_enter Tryz.func79, Tryz.ntmps79
  go_wp2_with fail
  refine HC.out.mono ?_
  rintro e w1 ⟨v, ss, rfl, ⟨hS, hSl⟩, hrow, hnil, hb⟩
  rcases hrow.2 with ⟨rfl, hz⟩ | ⟨gb, cap, cur, rfl, hbase, hgb, r1, r2, r3, r4⟩
  · have hss : ss = [] := List.eq_nil_of_length_eq_zero hz
    subst hss
    go_wp2_with fail
    refine (dueSortFunc_none none 0 _ _).mono ?_
    rintro e w2 ⟨rfl, rfl⟩
    go_wp2_with fail
    go_ret
    exact ⟨.slice none 0 0, [], rfl, hS, by simpa [sortD] using hrow, hb⟩
  · have hS2 := Lib.hid (dueSortFunc_any gb cap ss w1 hgb r4 (by omega))
    go_wp2_with fail
    refine hS2.out.mono ?_
    rintro e w2 ⟨rfl, n, os, rfl⟩
    have hl : (dueCl (sortD ss)).length = ss.length * 2 := by rw [dueCl_len, sortD_len]
    have hx : Ext w (grow (putRow id (Sort.ahead w1 n) gb 0 (dueCl (sortD ss)).toArray) os) := Ext.grown hb (grownBy_putId _) (fun j hj => by cases hj; exact hbase)
    have ho : (grow (putRow id (Sort.ahead w1 n) gb 0 (dueCl (sortD ss)).toArray) os).ownsRow w.heap.size 62 2 (.slice (some ⟨gb, 0, none⟩) ss.length cap) ss.length (dueCl (sortD ss)) :=
      ⟨by rw [hl], .inr ⟨gb, cap, _, rfl, hbase, heap_putId _ hgb, r1, r2, by simp [putCells, r3], by rw [← hl]; exact take_putId cur _ (by rw [hl, r3]; exact Nat.mul_le_mul_right _ r1)⟩⟩
    generalize grow (putRow id (Sort.ahead w1 n) gb 0 (dueCl (sortD ss)).toArray) os = w2 at *
    clear hgb r1 r2 r3 r4 hS2 hrow
    go_wp2_with fail
    go_ret
    exact ⟨_, ss, rfl, hS, ho, hx⟩
end Go.Proofs.YtokakpbpenndlaaGreatDoor
