/-
  order.Return, whole.
-/
import Derived.Test.YtokakpbpenndlaaGreatDoorRr06
import Derived.Maps.OwnSet
import Derived.DeepKeys4
import Derived.Shelf.SlIterI.Stops
import Derived.RangeFuncNested
import Derived.RangeFuncBound
import Derived.RangeFuncCalls
import Derived.RangeFuncLeaves
import Derived.RangeFuncBox
import Derived.Maps.OwnIn
import Derived.Shelf.Abstract
import Derived.Shelf.RegionOpen
import Derived.WalkKit
import Derived.OwnWalkIn
import Derived.TacticsInMore
import Derived.LoopNIn
import Derived.LoopIn
set_option linter.unusedVariables false
namespace Go.Proofs.YtokakpbpenndlaaGreatDoor
open Go.RowKit

/-- What is stored in the result's block, cell by cell. -/
def put6 (W : World) (g : Nat) (a b c d e f : Value) : World := (((((W.setCell ⟨g, 0, none⟩ a).setCell ⟨g, 1, none⟩ b).setCell ⟨g, 2, none⟩ c).setCell ⟨g, 3, none⟩ d).setCell ⟨g, 4, none⟩ e).setCell ⟨g, 5, none⟩ f
theorem put6_blk {W : World} {g : Nat} {t : TypeId} {a b c d e f a' b' c' d' e' f' : Value} (h : Blk W g t #[a', b', c', d', e', f']) : Blk (put6 W g a b c d e f) g t #[a, b, c, d, e, f] :=
  (((((h.set_ 0 a).set_ 1 b).set_ 2 c).set_ 3 d).set_ 4 e).set_ 5 f
theorem put6_ext {V W : World} {g : Nat} {a b c d e f : Value} (h : Ext V W) (hg : V.heap.size ≤ g) : Ext V (put6 W g a b c d e f) :=
  (((((h.set (p := ⟨g, 0, none⟩) hg a).set (p := ⟨g, 1, none⟩) hg b).set (p := ⟨g, 2, none⟩) hg c).set (p := ⟨g, 3, none⟩) hg d).set (p := ⟨g, 4, none⟩) hg e).set (p := ⟨g, 5, none⟩) hg f

set_option maxRecDepth 100000 in
set_option maxHeartbeats 2000000 in
theorem return_any (x : Tx) (b a : Int) (w : World) : Calls Tryz.prog 105 #[x.V, .int .i64 b, .int .i64 a] w fun r w' => r = .returned (.tuple #[(x.ret b a).1.V, .int .i64 (x.ret b a).2]) ∧ Ext w w' := by
  have B3 := Lib.hid ((Blk.new w 117 #[.int .i64 x.l, .int .i64 x.j, .int .i64 x.t, .int .i64 x.x, .int .i64 x.r, .int .i64 x.v]).alloc (.cells #[.int .i64 0, .int .i64 0, .int .i64 0, .int .i64 0, .int .i64 0, .int .i64 0] 117))
  have B6 : Hid (Blk ((w.alloc (.cells #[.int .i64 x.l, .int .i64 x.j, .int .i64 x.t, .int .i64 x.x, .int .i64 x.r, .int .i64 x.v] 117)).alloc (.cells #[.int .i64 0, .int .i64 0, .int .i64 0, .int .i64 0, .int .i64 0, .int .i64 0] 117)) (w.heap.size + 1) 117 #[.int .i64 0, .int .i64 0, .int .i64 0, .int .i64 0, .int .i64 0, .int .i64 0]) := Lib.hid (by
    have := Blk.new (w.alloc (.cells #[.int .i64 x.l, .int .i64 x.j, .int .i64 x.t, .int .i64 x.x, .int .i64 x.r, .int .i64 x.v] 117)) 117 #[.int .i64 0, .int .i64 0, .int .i64 0, .int .i64 0, .int .i64 0, .int .i64 0]
    simpa using this)
  have kk : w.heap.size ≤ w.heap.size + 1 := by omega
  have nn : w.heap.size + 1 ≠ w.heap.size := by omega
  cases hok : x.ok
  · have HR := Lib.hid (show x.ret b a = (Tx.zero, 5) by unfold Tx.ret; rw [if_pos hok])
    replace hok := Lib.hid hok
    unfold Tx.V taxV
    go_enter Tryz.func105, Tryz.ntmps105
    go_wp2_with fail
    refine (one_any x.l x.j x.t x.x x.r x.v _).mono ?_
    rintro e v1 ⟨rfl, hx1⟩
    rw [show Tax1 x.l x.j x.t x.x x.r x.v = false from hok.out]
    have X1 := (((Ext.refl w).alloc _).alloc _).trans hx1
    have C6 := B6.out.ext hx1
    clear hx1 B3 B6
    obtain ⟨q6, q6'⟩ := C6.cells
    go_wp2_with fail
    refine bodyPost_ret (results_ct rfl rfl (ld_tax (put6_blk (a := .int .i64 0) (b := .int .i64 0) (c := .int .i64 0) (d := .int .i64 0) (e := .int .i64 0) (f := .int .i64 0) C6))) rfl ⟨by rw [HR.out]; rfl, put6_ext X1 kk⟩
  · obtain ⟨b1, b2, b3, b4, b5, b6⟩ := Tx.ok_bd hok
    have hu := Lib.hid (show x.ret b a = if (backI x.t (x.t + x.x) b a).2 ≠ 0 then (Tx.zero, (backI x.t (x.t + x.x) b a).2)
      else ({ x with t := (backI x.t (x.t + x.x) b a).1, x := a - b - (backI x.t (x.t + x.x) b a).1, v := (backI x.v (x.t + x.x) b a).1 }, 0) by
        unfold Tx.ret; rw [if_neg (by simp [hok])])
    replace hok := Lib.hid hok
    by_cases he : (backI x.t (x.t + x.x) b a).2 = 0
    · have HR := Lib.hid (hu.out.trans (if_neg (by simpa using he)))
      have hbd := backI_ok he
      have he0 : ((backI x.t (x.t + x.x) b a).2 != 0) = false := by simp [he]
      clear hu
      replace he := Lib.hid he
      generalize hT : (backI x.t (x.t + x.x) b a).1 = T at *
      generalize hE : (backI x.t (x.t + x.x) b a).2 = E at *
      replace hT := Lib.hid hT
      replace hE := Lib.hid hE
      obtain ⟨_, _, c1, c2, c3, c4, c5⟩ := hbd
      unfold Tx.V taxV
      go_enter Tryz.func105, Tryz.ntmps105
      go_wp2_with fail
      refine (one_any x.l x.j x.t x.x x.r x.v _).mono ?_
      rintro e v1 ⟨rfl, hx1⟩
      rw [show Tax1 x.l x.j x.t x.x x.r x.v = true from hok.out]
      have X1 := (((Ext.refl w).alloc _).alloc _).trans hx1
      have C3 := B3.out.ext hx1
      have C6 := B6.out.ext hx1
      clear hx1 B3 B6
      obtain ⟨q3, q3'⟩ := C3.cells
      go_wp2_with fail
      refine (back_any x.t (x.t + x.x) b a _).mono ?_
      rintro e v2 ⟨rfl, hx2⟩
      rw [hT.out, hE.out]
      have X2 := X1.trans hx2
      replace C3 := C3.ext hx2
      replace C6 := C6.ext hx2
      clear hx2 X1 q3 q3'
      obtain ⟨q3, q3'⟩ := C3.cells
      go_wp2_with fail
      refine (back_any x.v (x.t + x.x) b a _).mono ?_
      rintro e v3 ⟨rfl, hx3⟩
      have X3 := X2.trans hx3
      replace C3 := C3.ext hx3
      replace C6 := C6.ext hx3
      clear hx3 X2 q3 q3'
      obtain ⟨q3, q3'⟩ := C3.cells
      obtain ⟨q6, q6'⟩ := C6.cells
      generalize hV : (backI x.v (x.t + x.x) b a).1 = V at *
      generalize hV2 : (backI x.v (x.t + x.x) b a).2 = V2 at *
      replace hV := Lib.hid hV
      replace hV2 := Lib.hid hV2
      go_wp2_with fail
      have B : Blk _ (w.heap.size + 1) 117 #[.int .i64 x.l, .int .i64 x.j, .int .i64 T, .int .i64 (a - b - T), .int .i64 x.r, .int .i64 V] :=
        put6_blk (((C6.far (p := ⟨w.heap.size, 5, none⟩) nn (.int .i64 V)).far (p := ⟨w.heap.size, 2, none⟩) nn (.int .i64 T)).far (p := ⟨w.heap.size, 3, none⟩) nn (.int .i64 (a - b - T)))
      refine bodyPost_ret (results_ct rfl rfl (ld_tax B)) rfl ⟨by rw [HR.out]; rfl, put6_ext (((X3.set (p := ⟨w.heap.size, 5, none⟩) (Nat.le_refl _) (.int .i64 V)).set (p := ⟨w.heap.size, 2, none⟩) (Nat.le_refl _) (.int .i64 T)).set (p := ⟨w.heap.size, 3, none⟩) (Nat.le_refl _) (.int .i64 (a - b - T))) kk⟩
    · have HR := Lib.hid (hu.out.trans (if_pos he))
      have he0 : ((backI x.t (x.t + x.x) b a).2 != 0) = true := by simpa using he
      clear hu
      replace he := Lib.hid he
      generalize hT : (backI x.t (x.t + x.x) b a).1 = T at *
      generalize hE : (backI x.t (x.t + x.x) b a).2 = E at *
      replace hT := Lib.hid hT
      replace hE := Lib.hid hE
      unfold Tx.V taxV
      go_enter Tryz.func105, Tryz.ntmps105
      go_wp2_with fail
      refine (one_any x.l x.j x.t x.x x.r x.v _).mono ?_
      rintro e v1 ⟨rfl, hx1⟩
      rw [show Tax1 x.l x.j x.t x.x x.r x.v = true from hok.out]
      have X1 := (((Ext.refl w).alloc _).alloc _).trans hx1
      have C3 := B3.out.ext hx1
      have C6 := B6.out.ext hx1
      clear hx1 B3 B6
      obtain ⟨q3, q3'⟩ := C3.cells
      go_wp2_with fail
      refine (back_any x.t (x.t + x.x) b a _).mono ?_
      rintro e v2 ⟨rfl, hx2⟩
      rw [hT.out, hE.out]
      have X2 := X1.trans hx2
      replace C6 := C6.ext hx2
      clear hx2 X1 q3 q3' C3
      obtain ⟨q6, q6'⟩ := C6.cells
      go_wp2_with fail
      refine bodyPost_ret (results_ct rfl rfl (ld_tax (put6_blk (a := .int .i64 0) (b := .int .i64 0) (c := .int .i64 0) (d := .int .i64 0) (e := .int .i64 0) (f := .int .i64 0) C6))) rfl ⟨by rw [HR.out]; rfl, put6_ext X2 kk⟩
end Go.Proofs.YtokakpbpenndlaaGreatDoor

set_option linter.unusedVariables false
namespace Go.Proofs.YtokakpbpenndlaaGreatDoor
open Go.RowKit Go.Maps

theorem laidK : laidOutB Tryz.prog = true := by kernel_rfl
theorem law2 : Keyed Tryz.prog 283 := Keyed.of_law (deep_law_laid laidK (m := 2) (by decide) (of_decide_eq_true (by kernel_rfl)) (by kernel_rfl) (by rw [Tryz.underlying283]))
/-- What a key reads as. -/
def kl2 (p : Int × Int) : Lit := .string (keyBytes [.int .i64 p.1, .int .i64 p.2])
theorem kl_t : Tryz.prog.types.size + 1 = Tryz.prog.types.size - 1 + 1 + 1 := by
  have : 1 ≤ Tryz.prog.types.size := of_decide_eq_true (by kernel_rfl)
  omega
theorem i64_wf {n : Int} (h : i64 n) : (Lit.int .i64 n).wf = true := by
  unfold i64 at h
  simp [Lit.wf, IntKind.min, IntKind.max, IntKind.signed, IntKind.bits]
  exact h
theorem key2 (l j : Int) (hl : i64 l) (hj : i64 j) : keyOf Tryz.prog 283 (.agg #[.int .i64 l, .int .i64 j]) = some (kl2 (l, j)) := by
  have h1 : Tryz.prog.keyType 283 = true := by kernel_rfl
  have h2 : Tryz.prog.cellsOf 283 = 2 := by kernel_rfl
  have h3 : Tryz.prog.cellsOf 3 = 1 := by kernel_rfl
  have e1 : ∀ d n, i64 n → Tryz.prog.keyLits (d + 1) 3 [.int .i64 n] = some [.int .i64 n] := by
    intro d n hn
    unfold Program.keyLits
    simp [Tryz.underlying3, i64_wf hn]
  unfold keyOf
  rw [Tryz.underlying283]
  simp only [h1, Value.formed, Tryz.underlying283, h2]
  rw [kl_t]
  unfold Program.keyLits
  simp only [Tryz.underlying283, Value.cells, h2, h3]
  simp [List.range, List.range.loop, e1 _ l hl, e1 _ j hj, kl2]
theorem kl2_inj {p q : Int × Int} (hp : i64 p.1 ∧ i64 p.2) (hq : i64 q.1 ∧ i64 q.2) (h : kl2 p = kl2 q) : p = q := by
  have h1 := key2 p.1 p.2 hp.1 hp.2
  have h2 := key2 q.1 q.2 hq.1 hq.2
  have e1 : (p.1, p.2) = p := rfl
  have e2 : (q.1, q.2) = q := rfl
  rw [e1] at h1
  rw [e2, ← h] at h2
  have := law2.inj h1 h2
  obtain ⟨a, b⟩ := p
  obtain ⟨c, d⟩ := q
  simp at this
  simp [this]
theorem kl2_key (p : Int × Int) : WideAt.IsKeyLit (kl2 p) := by trivial
theorem kl2_same {p q : Int × Int} (hp : i64 p.1 ∧ i64 p.2) (hq : i64 q.1 ∧ i64 q.2) : (kl2 p).sameKey (kl2 q) = decide (p = q) := by
  by_cases h : p = q
  · subst h; simp [kl2, Lit.sameKey]
  · rw [sameKey_ne (fun e => h (kl2_inj hp hq e))]
    simp [h]
/-- Block B is the set of these keys. -/
def MetIs (w : World) (B n : Nat) (ks : List (Int × Int)) : Prop := w.ownsMap Tryz.prog 283 (unitElem (H := Unit)) B n (setOf (.agg []) (ks.map kl2)) ∧ ∀ p ∈ ks, i64 p.1 ∧ i64 p.2
theorem MetIs.has {w : World} {B n : Nat} {ks : List (Int × Int)} (h : MetIs w B n ks) {p : Int × Int} (hp : i64 p.1 ∧ i64 p.2) : Maps.has (setOf (H := Unit) (.agg []) (ks.map kl2)) (kl2 p) = decide (p ∈ ks) := by
  rw [has_setOf _ _ _ (by intro x hx; obtain ⟨q, _, rfl⟩ := List.mem_map.1 hx; exact kl2_key q)]
  rw [Bool.eq_iff_iff]
  simp only [List.any_map, List.any_eq_true, Function.comp_apply, decide_eq_true_eq]
  constructor
  · rintro ⟨q, hq, he⟩
    rw [kl2_same (h.2 q hq) hp] at he
    have : q = p := by simpa using he
    rw [← this]; exact hq
  · intro hm
    exact ⟨p, hm, by rw [kl2_same hp hp]; simp⟩
theorem MetIs.snoc {w : World} {B n : Nat} {ks : List (Int × Int)} {p : Int × Int} (hp : i64 p.1 ∧ i64 p.2) (hk : ∀ q ∈ ks, i64 q.1 ∧ i64 q.2) (h : w.ownsMap Tryz.prog 283 (unitElem (H := Unit)) B n ((setOf (.agg []) (ks.map kl2)).put (kl2 p) (.agg []))) : MetIs w B n (ks ++ [p]) := by
  refine ⟨?_, ?_⟩
  · rw [List.map_append, List.map_cons, List.map_nil, setOf_snoc]; exact h
  · intro q hq
    rcases List.mem_append.1 hq with hq | hq
    · exact hk q hq
    · rw [List.mem_singleton.1 hq]; exact hp
theorem MetIs.made (w : World) : MetIs (w.alloc (.map #[] 0)) w.heap.size 0 [] := ⟨World.ownsMap_made _ _ _ _, by simp⟩
theorem MetIs.grown {w w' : World} {B n : Nat} {ks : List (Int × Int)} {row : Option Nat} (h : MetIs w B n ks) (hg : w.grownBy w' row) (hne : some B ≠ row) : MetIs w' B n ks := ⟨h.1.kept hg hne, h.2⟩
theorem MetIs.lt {w : World} {B n : Nat} {ks : List (Int × Int)} (h : MetIs w B n ks) : B < w.heap.size := by
  obtain ⟨es, clock, hb, _⟩ := h.1
  exact (Array.getElem?_eq_some_iff.1 hb).1
theorem MetIs.ext {w w' : World} {B n : Nat} {ks : List (Int × Int)} (h : MetIs w B n ks) (hx : Ext w w') : MetIs w' B n ks := by
  obtain ⟨es, clock, hb, r⟩ := h.1
  exact ⟨⟨es, clock, by rw [hx.block B h.lt]; exact hb, r⟩, h.2⟩
theorem MetIs.mono {w : World} {B n m : Nat} {ks : List (Int × Int)} (h : MetIs w B n ks) (hn : n ≤ m) : MetIs w B m ks := by
  obtain ⟨es, clock, hb, r, hs, e⟩ := h.1
  exact ⟨⟨es, clock, hb, r, by omega, e⟩, h.2⟩
theorem zeroU (w : World) : (zeroValue 147).run Tryz.prog w = .ok (.agg #[]) w := by kernel_rfl

set_option maxRecDepth 100000 in
set_option maxHeartbeats 1000000 in
theorem twice_any (B n : Nat) (ks : List (Int × Int)) (l j : Int) (hl : i64 l) (hj : i64 j) (w : World) (hn : n < maxLen) (h : MetIs w B n ks) :
    Calls Tryz.prog 233 #[.map (some B), .int .i64 l, .int .i64 j] w fun e w' => e = .returned (.bool (decide ((l, j) ∈ ks))) ∧ MetIs w' B (n + 1) (ks ++ [(l, j)]) ∧ w.grownBy w' (some B) := by
  have hkey := key2 l j hl hj
  have hh := h.has (p := (l, j)) ⟨hl, hj⟩
  have H1 := Lib.hid (h.1)
  have H2 := Lib.hid h.2
  replace hkey := Lib.hid hkey
  replace hh := Lib.hid hh
  clear h
  go_enter Tryz.func233, Tryz.ntmps233
  go_wp2_with (first
    | (at_lookup; refine wpList_lookup_own_unit _ rfl _ _ 281 rfl 283 147 law2 Tryz.underlying281 (zeroU _) B n _ rfl (H1.out.alloc _) _ _ rfl hkey.out ?_)
    | (at_mapUpdate; refine wpList_mapUpdate_own _ rfl _ _ _ 281 rfl 283 147 law2 Tryz.underlying281 _ B n _ rfl ((H1.out.alloc _).alloc _) hn _ _ _ rfl rfl hkey.out (.agg []) [] unitElem_mk ?_; intro w1 hown1 hgrow1))
  go_ret
  refine ⟨ret_bool hh.out, MetIs.snoc ⟨hl, hj⟩ H2.out hown1, ?_⟩
  exact only_trans (only_alloc (only_alloc (World.grownBy.refl _ _) _) _) hgrow1
end Go.Proofs.YtokakpbpenndlaaGreatDoor

set_option linter.unusedVariables false
namespace Go.Proofs.YtokakpbpenndlaaGreatDoor
open Go.RowKit Go.Maps Go.Sort Go.Shelf

theorem lawDue : Keyed Tryz.prog 62 := Keyed.of_law (deep_law_laid laidK (m := 2) (by decide) (of_decide_eq_true (by kernel_rfl)) (by kernel_rfl) (by rw [Tryz.underlying62]))
def dueV (p : Int × Int) : Value := .agg #[.int .i64 p.1, .int .i64 p.2]
theorem dueV_inj {p q : Int × Int} (h : dueV p = dueV q) : p = q := by
  obtain ⟨a, b⟩ := p
  obtain ⟨c, d⟩ := q
  simp only [dueV, Value.agg.injEq, Array.mk.injEq, List.cons.injEq, Value.int.injEq, true_and, and_true] at h
  rw [h.1, h.2]
theorem wf_i64 {n : Int} (h : (Lit.int .i64 n).wf = true) : i64 n := by
  simp [Lit.wf, IntKind.min, IntKind.max, IntKind.signed, IntKind.bits] at h
  unfold i64
  omega
theorem dueLits (d : Nat) (c : List Value) (h : c.length = 1) {ls : List Lit} (he : Tryz.prog.keyLits (d + 1) 3 c = some ls) : ∃ n, c = [.int .i64 n] ∧ i64 n ∧ ls = [.int .i64 n] := by
  obtain ⟨v, rfl⟩ := List.length_eq_one_iff.1 h
  unfold Program.keyLits at he
  cases v <;> simp [Tryz.underlying3] at he
  obtain ⟨⟨rfl, hw⟩, rfl⟩ := he
  exact ⟨_, rfl, wf_i64 hw, rfl⟩
theorem keyDue (l j : Int) (hl : i64 l) (hj : i64 j) : keyOf Tryz.prog 62 (dueV (l, j)) = some (kl2 (l, j)) := by
  have h1 : Tryz.prog.keyType 62 = true := by kernel_rfl
  have h2 : Tryz.prog.cellsOf 62 = 2 := by kernel_rfl
  have h3 : Tryz.prog.cellsOf 3 = 1 := by kernel_rfl
  have e1 : ∀ d n, i64 n → Tryz.prog.keyLits (d + 1) 3 [.int .i64 n] = some [.int .i64 n] := by
    intro d n hn
    unfold Program.keyLits
    simp [Tryz.underlying3, i64_wf hn]
  unfold keyOf dueV
  rw [Tryz.underlying62]
  simp only [h1, Value.formed, Tryz.underlying62, h2]
  rw [kl_t]
  generalize Tryz.prog.types.size - 1 = d
  unfold Program.keyLits
  simp only [Tryz.underlying62, Value.cells, h2]
  simp [h3, e1 _ l hl, e1 _ j hj, kl2]
set_option maxRecDepth 100000 in
theorem dueLits_inv (d : Nat) (cs : List Value) (ls : List Lit) (h : Tryz.prog.keyLits (d + 1 + 1) 62 cs = some ls) : ∃ p : Int × Int, cs = [.int .i64 p.1, .int .i64 p.2] ∧ ls = [.int .i64 p.1, .int .i64 p.2] ∧ i64 p.1 ∧ i64 p.2 := by
  have h2 : Tryz.prog.cellsOf 62 = 2 := by kernel_rfl
  have h3 : Tryz.prog.cellsOf 3 = 1 := by kernel_rfl
  unfold Program.keyLits at h
  simp only [Tryz.underlying62, h2] at h
  by_cases hl : cs.length = 2
  case neg => rw [if_neg (fun e => hl e.1)] at h; cases h
  obtain ⟨a, b, rfl⟩ : ∃ a b, cs = [a, b] := by
    match cs, hl with
    | [a, b], _ => exact ⟨a, b, rfl⟩
  rw [if_pos ⟨rfl, by simp⟩] at h
  cases h1 : Tryz.prog.keyLits (d + 1) 3 [a] with
  | none => simp [h1, h3] at h
  | some x =>
    cases h4 : Tryz.prog.keyLits (d + 1) 3 [b] with
    | none => simp [h1, h4, h3] at h
    | some y =>
      simp [h1, h4, h3] at h
      obtain ⟨n, e1, w1, rfl⟩ := dueLits d [a] rfl h1
      obtain ⟨m, e2, w2, rfl⟩ := dueLits d [b] rfl h4
      simp at e1 e2
      subst e1 e2
      exact ⟨(n, m), rfl, by rw [← h]; rfl, w1, w2⟩
set_option maxRecDepth 100000 in
theorem keyDue_inv {v : Value} {kl : Lit} (h : keyOf Tryz.prog 62 v = some kl) : ∃ p : Int × Int, v = dueV p ∧ kl = kl2 p ∧ i64 p.1 ∧ i64 p.2 := by
  have hf : ∀ cs ls, Tryz.prog.keyLits (Tryz.prog.types.size + 1) 62 cs = some ls → ∃ p : Int × Int, cs = [.int .i64 p.1, .int .i64 p.2] ∧ ls = [.int .i64 p.1, .int .i64 p.2] ∧ i64 p.1 ∧ i64 p.2 := by
    intro cs ls h
    rw [kl_t] at h
    exact dueLits_inv _ cs ls h
  unfold keyOf at h
  rw [Tryz.underlying62] at h
  simp only at h
  generalize Tryz.prog.keyLits (Tryz.prog.types.size + 1) 62 = f at h hf
  by_cases hc : (Tryz.prog.keyType 62 && v.formed Tryz.prog 62) = true
  case neg => rw [if_neg hc] at h; cases h
  rw [if_pos hc] at h
  cases hx : f v.cells.toList with
  | none => rw [hx] at h; cases h
  | some ls =>
    rw [hx] at h
    obtain ⟨p, e1, e2, w1, w2⟩ := hf _ _ hx
    injection h with h
    refine ⟨p, ?_, by rw [← h, e2]; rfl, w1, w2⟩
    have hform := (Bool.and_eq_true _ _ ▸ hc).2
    cases v <;> simp [Value.formed, Tryz.underlying62] at hform
    rename_i cs
    have : cs = #[.int .i64 p.1, .int .i64 p.2] := by
      apply Array.toList_inj.1
      exact e1
    rw [this]
    rfl
end Go.Proofs.YtokakpbpenndlaaGreatDoor
