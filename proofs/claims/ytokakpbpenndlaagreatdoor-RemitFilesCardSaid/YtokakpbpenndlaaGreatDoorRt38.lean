/-
  maps.Keys of a set of dues (its keys are structs of two ints): the iterator gives each key once, in whatever order.
-/
import Derived.Test.YtokakpbpenndlaaGreatDoorRt09
import Derived.Shelf.SlIterI.Stops
import Derived.RangeFuncNested
import Derived.RangeFuncBound
import Derived.RangeFuncCalls
import Derived.RangeFuncLeaves
import Derived.RangeFuncBox
import Derived.Maps.OwnIn
import Derived.Shelf.Abstract
import Derived.Shelf.RegionOpen
import Derived.WalkKit
import Derived.OwnWalkIn
import Derived.TacticsInMore
import Derived.LoopNIn
import Derived.LoopIn
import Derived.Maps.AppendAt
import Derived.Shelf.Strings.Builder1
import Derived.Shelf.Strings.Builder2
import Derived.Shelf.Strings.OnBuilder
import Derived.Shelf.Small.Bits
import Derived.Shelf.Small.Wraps
import Derived.Shelf.Strings.BuilderF
import Derived.Shelf.Strings.BuilderK
import Derived.Shelf.Strings.Builder2Cap
import Derived.Shelf.Strconv.Itoa0
import Derived.Shelf.Strconv.Itoa1
import Derived.Shelf.LaysM
import Derived.Shelf.Strconv.Itoa2
import Derived.Shelf.Strconv.Itoa3
import Derived.Shelf.Bits.Mul64
import Derived.Ground.Names2Prog
import Derived.Shelf.Slices.Clone
import Derived.Shelf.Slices.SearchI
import Derived.Ground.SlgnProg
import Derived.Shelf.SlicesE.Clone
import Derived.Test.YtokakpbpenndlaaGreatDoorProg
set_option linter.unusedVariables false
namespace Go.Proofs.YtokakpbpenndlaaGreatDoor
open Go.RowKit Go.Maps Go.Sort Go.Shelf

theorem lawDue : Keyed Tryz.prog 62 := Keyed.of_law (deep_law_laid laidK (m := 2) (by decide) (of_decide_eq_true (by kernel_rfl)) (by kernel_rfl) (by rw [Tryz.underlying62]))
def dueV (p : Int × Int) : Value := .agg #[.int .i64 p.1, .int .i64 p.2]
theorem dueV_inj {p q : Int × Int} (h : dueV p = dueV q) : p = q := by
  obtain ⟨a, b⟩ := p
  obtain ⟨c, d⟩ := q
  simp only [dueV, Value.agg.injEq, Array.mk.injEq, List.cons.injEq, Value.int.injEq, true_and, and_true] at h
  rw [h.1, h.2]
theorem wf_i64 {n : Int} (h : (Lit.int .i64 n).wf = true) : i64 n := by
  simp [Lit.wf, IntKind.min, IntKind.max, IntKind.signed, IntKind.bits] at h
  unfold i64
  omega
theorem dueLits (d : Nat) (c : List Value) (h : c.length = 1) {ls : List Lit} (he : Tryz.prog.keyLits (d + 1) 3 c = some ls) : ∃ n, c = [.int .i64 n] ∧ i64 n ∧ ls = [.int .i64 n] := by
  obtain ⟨v, rfl⟩ := List.length_eq_one_iff.1 h
  unfold Program.keyLits at he
  cases v <;> simp [Tryz.underlying3] at he
  obtain ⟨⟨rfl, hw⟩, rfl⟩ := he
  exact ⟨_, rfl, wf_i64 hw, rfl⟩
theorem keyDue (l j : Int) (hl : i64 l) (hj : i64 j) : keyOf Tryz.prog 62 (dueV (l, j)) = some (kl2 (l, j)) := by
  have h1 : Tryz.prog.keyType 62 = true := by kernel_rfl
  have h2 : Tryz.prog.cellsOf 62 = 2 := by kernel_rfl
  have h3 : Tryz.prog.cellsOf 3 = 1 := by kernel_rfl
  have e1 : ∀ d n, i64 n → Tryz.prog.keyLits (d + 1) 3 [.int .i64 n] = some [.int .i64 n] := by
    intro d n hn
    unfold Program.keyLits
    simp [Tryz.underlying3, i64_wf hn]
  unfold keyOf dueV
  rw [Tryz.underlying62]
  simp only [h1, Value.formed, Tryz.underlying62, h2]
  rw [kl_t]
  generalize Tryz.prog.types.size - 1 = d
  unfold Program.keyLits
  simp only [Tryz.underlying62, Value.cells, h2]
  simp [h3, e1 _ l hl, e1 _ j hj, kl2]
set_option maxRecDepth 100000 in
theorem dueLits_inv (d : Nat) (cs : List Value) (ls : List Lit) (h : Tryz.prog.keyLits (d + 1 + 1) 62 cs = some ls) : ∃ p : Int × Int, cs = [.int .i64 p.1, .int .i64 p.2] ∧ ls = [.int .i64 p.1, .int .i64 p.2] ∧ i64 p.1 ∧ i64 p.2 := by
  have h2 : Tryz.prog.cellsOf 62 = 2 := by kernel_rfl
  have h3 : Tryz.prog.cellsOf 3 = 1 := by kernel_rfl
  unfold Program.keyLits at h
  simp only [Tryz.underlying62, h2] at h
  by_cases hl : cs.length = 2
  case neg => rw [if_neg (fun e => hl e.1)] at h; cases h
  obtain ⟨a, b, rfl⟩ : ∃ a b, cs = [a, b] := by
    match cs, hl with
    | [a, b], _ => exact ⟨a, b, rfl⟩
  rw [if_pos ⟨rfl, by simp⟩] at h
  cases h1 : Tryz.prog.keyLits (d + 1) 3 [a] with
  | none => simp [h1, h3] at h
  | some x =>
    cases h4 : Tryz.prog.keyLits (d + 1) 3 [b] with
    | none => simp [h1, h4, h3] at h
    | some y =>
      simp [h1, h4, h3] at h
      obtain ⟨n, e1, w1, rfl⟩ := dueLits d [a] rfl h1
      obtain ⟨m, e2, w2, rfl⟩ := dueLits d [b] rfl h4
      simp at e1 e2
      subst e1 e2
      exact ⟨(n, m), rfl, by rw [← h]; rfl, w1, w2⟩
set_option maxRecDepth 100000 in
theorem keyDue_inv {v : Value} {kl : Lit} (h : keyOf Tryz.prog 62 v = some kl) : ∃ p : Int × Int, v = dueV p ∧ kl = kl2 p ∧ i64 p.1 ∧ i64 p.2 := by
  have hf : ∀ cs ls, Tryz.prog.keyLits (Tryz.prog.types.size + 1) 62 cs = some ls → ∃ p : Int × Int, cs = [.int .i64 p.1, .int .i64 p.2] ∧ ls = [.int .i64 p.1, .int .i64 p.2] ∧ i64 p.1 ∧ i64 p.2 := by
    intro cs ls h
    rw [kl_t] at h
    exact dueLits_inv _ cs ls h
  unfold keyOf at h
  rw [Tryz.underlying62] at h
  simp only at h
  generalize Tryz.prog.keyLits (Tryz.prog.types.size + 1) 62 = f at h hf
  by_cases hc : (Tryz.prog.keyType 62 && v.formed Tryz.prog 62) = true
  case neg => rw [if_neg hc] at h; cases h
  rw [if_pos hc] at h
  cases hx : f v.cells.toList with
  | none => rw [hx] at h; cases h
  | some ls =>
    rw [hx] at h
    obtain ⟨p, e1, e2, w1, w2⟩ := hf _ _ hx
    injection h with h
    refine ⟨p, ?_, by rw [← h, e2]; rfl, w1, w2⟩
    have hform := (Bool.and_eq_true _ _ ▸ hc).2
    cases v <;> simp [Value.formed, Tryz.underlying62] at hform
    rename_i cs
    have : cs = #[.int .i64 p.1, .int .i64 p.2] := by
      apply Array.toList_inj.1
      exact e1
    rw [this]
    rfl
end Go.Proofs.YtokakpbpenndlaaGreatDoor

set_option linter.unusedVariables false
namespace Go.Proofs.YtokakpbpenndlaaGreatDoor
open Go.RowKit Go.Maps Go.Sort Go.Shelf

attribute [local go_sem] Oper.semAt_some

/-- A set of dues. -/
abbrev dueD (ks : List (Int × Int)) : DataW Unit := setOf (H := Unit) (.agg []) (ks.map kl2)
def DueIs (w : World) (B n : Nat) (ks : List (Int × Int)) : Prop := w.ownsMap Tryz.prog 62 (unitElem (H := Unit)) B n (dueD ks) ∧ ∀ p ∈ ks, i64 p.1 ∧ i64 p.2
theorem has_due {ks : List (Int × Int)} (h : ∀ p ∈ ks, i64 p.1 ∧ i64 p.2) {p : Int × Int} (hp : i64 p.1 ∧ i64 p.2) : Maps.has (dueD ks) (kl2 p) = decide (p ∈ ks) := by
  rw [has_setOf _ _ _ (by intro x hx; obtain ⟨q, _, rfl⟩ := List.mem_map.1 hx; exact kl2_key q)]
  rw [Bool.eq_iff_iff]
  simp only [List.any_map, List.any_eq_true, Function.comp_apply, decide_eq_true_eq]
  constructor
  · rintro ⟨q, hq, he⟩
    rw [kl2_same (h q hq) hp] at he
    have : q = p := by simpa using he
    rw [← this]; exact hq
  · intro hm
    exact ⟨p, hm, by rw [kl2_same hp hp]; simp⟩
/-- Dues that came, and those that are left. -/
structure CollD (ks : List (Int × Int)) (left : Lit → Bool) (ss : List (Int × Int)) : Prop where
  nd : ss.Nodup
  mem : ∀ p ∈ ss, p ∈ ks ∧ left (kl2 p) = false
  all : ∀ p ∈ ks, left (kl2 p) = false → p ∈ ss
theorem CollD.start {ks : List (Int × Int)} (h : ∀ p ∈ ks, i64 p.1 ∧ i64 p.2) : CollD ks (Maps.has (dueD ks)) [] :=
  ⟨List.nodup_nil, fun p hp => absurd hp List.not_mem_nil, fun p hp hl => by rw [has_due h (h p hp)] at hl; simp [hp] at hl⟩
theorem CollD.step {ks : List (Int × Int)} (h : ∀ p ∈ ks, i64 p.1 ∧ i64 p.2) {left : Lit → Bool} {ss : List (Int × Int)} (hC : CollD ks left ss) {x : Int × Int} (hx : i64 x.1 ∧ i64 x.2) (hlk : left (kl2 x) = true) {y : DataW Unit} (hat : ∀ zd, (dueD ks).atKey (kl2 x) zd = y) :
    CollD ks (fun z => left z && !z.sameKey (kl2 x)) (ss ++ [x]) := by
  have hm : x ∈ ks := by
    have := has_true_of_atKey hat
    rw [has_due h hx] at this
    simpa using this
  have hnew : x ∉ ss := fun hs => by have := (hC.mem x hs).2; rw [hlk] at this; cases this
  refine ⟨List.nodup_append.2 ⟨hC.nd, by simp, fun a ha b hb => by simp at hb; subst hb; exact fun e => hnew (e ▸ ha)⟩, fun p hp => ?_, fun p hp hl => ?_⟩
  · rcases List.mem_append.1 hp with hp | hp
    · exact ⟨(hC.mem p hp).1, by rw [(hC.mem p hp).2]; rfl⟩
    · rw [List.mem_singleton.1 hp]
      exact ⟨hm, by rw [kl2_same hx hx]; simp⟩
  · rcases Bool.and_eq_false_iff.1 hl with hl | hl
    · exact List.mem_append.2 (.inl (hC.all p hp hl))
    · rw [kl2_same (h p hp) hx] at hl
      have : p = x := by simpa using hl
      rw [this]; simp
/-- All that came. -/
def DueAll (ks ss : List (Int × Int)) : Prop := ss.Nodup ∧ ∀ p, p ∈ ss ↔ p ∈ ks
theorem CollD.done {ks : List (Int × Int)} {left : Lit → Bool} {ss : List (Int × Int)} (hC : CollD ks left ss) (hl : ∀ kl, left kl = false) : DueAll ks ss :=
  ⟨hC.nd, fun p => ⟨fun hp => (hC.mem p hp).1, fun hp => hC.all p hp (hl _)⟩⟩

set_option maxRecDepth 100000 in
set_option maxHeartbeats 1000000 in
theorem dueKeys1_in (F : Fence) (n : Nat) (h10 : F.fn 126) (hro : F.round = none) (hn : 1 ≤ n) (l Bm b nn : Nat) (ks : List (Int × Int)) (J Jx : List (Int × Int) → World → Prop)
    (hY : ∀ pre x W, J pre W → pre.length < Maps.size (dueD ks) → YieldAt F (n - 1) Tryz.prog l #[dueV x] W fun e W' =>
      (e = .returned (.bool true) ∧ J (pre ++ [x]) W' ∧ KeepsWalks W W') ∨ (e = .returned (.bool false) ∧ Jx (pre ++ [x]) W'))
    (W : World) (hJ : AbidesFrom W.heap.size J) (hm : W.cell? ⟨Bm, 0, none⟩ = some (.map (some b))) (hown : DueIs W b nn ks) (h0 : J [] W) :
    CallsIn F n Tryz.prog 126 #[.func (.yield l) #[] #[], .pointer (some ⟨Bm, 0, none⟩)] W fun e W' => (∃ v, e = .returned v) ∧
      ((∃ ss, (DueAll ks ss ∧ ss.length ≤ Maps.size (dueD ks)) ∧ J ss W') ∨ (∃ pre : List (Int × Int), True ∧ Jx pre W')) := by
  have hks := hown.2
  have hown' := hown.1
  refine callsIn_of_wp Tryz.func126 rfl h10 ?_ hro
  simp only [Tryz.ntmps126, List.size_toArray, List.length_cons, List.length_nil, Nat.reduceAdd, Nat.reduceSub, Array.replicate_succ, Array.replicate_zero, List.push_toArray, List.append_toArray, List.nil_append, List.cons_append]
  gi_wp2_with (first
    | (gi_at_range; refine wpListIn_range_own _ rfl _ 146 rfl 62 147 lawDue Tryz.underlying146 _ b nn _ rfl hown' ?_; intro w0 hrg0 hg0 hs0)
    | gi_in)
  go_frame
  gi_loopw [3] (fun _ wr => ∃ (left : Lit → Bool) (cnt : Nat) (ss : List (Int × Int)), wr.ranges Tryz.prog 62 (unitElem (H := Unit)) b W.heap.size nn (dueD ks) left cnt ∧ ss.length + cnt ≤ Maps.size (dueD ks) ∧ CollD ks left ss ∧ J ss wr)
    (fun _ wr => wr.rangeLeft b W.heap.size)
  case atStart =>
    exact ⟨_, _, [], hrg0, by simp, CollD.start hks, hJ [] W w0 none h0 hg0 (fun r e => by cases e)⟩
  case round =>
    obtain ⟨left, cnt, ss, hrg, hcs, hC, hJs⟩ := hrel
    gi_wp2_with (first
      | (gi_at_next; refine wpListIn_next_ranges _ rfl _ rfl 62 lawDue (unitElem (H := Unit)) dueV id (fun key kl hk => by obtain ⟨x, hx, _⟩ := keyDue_inv hk; exact ⟨x, hx⟩) (fun v _ _ => ⟨v, rfl⟩) b W.heap.size nn _ _ _ rfl hrg ?_ ?_)
      | gi_in)
    · intro hc0 hl0
      gi_wp2
      go_end0
      exact ⟨⟨_, rfl⟩, .inl ⟨ss, ⟨hC.done hl0, by omega⟩, hJs⟩⟩
    · intro x1 x2 c kl yd yp w2 cnt2 hkey hlk hv hat hrg2 hlt hg2 hs2 hen
      obtain ⟨x', ex, rfl, hx⟩ := keyDue_inv hkey
      obtain rfl : (x1, x2) = x' := dueV_inj ex
      have hJ2 : J ss w2 := hJ ss wr w2 (some W.heap.size) hJs hg2 (fun r e => by cases e; exact ⟨Nat.le_refl _, hrg.iter_walk⟩)
      have hC2 := hC.step hks hx hlk hat
      have hg3 := World.grownBy_alloc w2 (.cells #[.int .i64 x1, .int .i64 x2] 62) none
      have hrg3 := hrg2.of_walks (KeepsWalks.alloc w2 (.cells #[.int .i64 x1, .int .i64 x2] 62))
      have hJ3 : J ss (w2.alloc (.cells #[.int .i64 x1, .int .i64 x2] 62)) := hJ ss w2 _ none hJ2 hg3 (fun r e => by cases e)
      have hsz3 : (w2.alloc (.cells #[.int .i64 x1, .int .i64 x2] 62)).heap.size = w2.heap.size + 1 := by simp
      have B3 := Blk.new w2 62 #[.int .i64 x1, .int .i64 x2]
      obtain ⟨fn, tmps, assign, body, hy, hR⟩ := hY ss (x1, x2) _ hJ3 (by omega)
      clear hs2 hkey ex hv hlk hat
      simp only [dueV] at hen hy hR
      obtain ⟨q, q'⟩ := B3.cells
      gi_wp2
      refine hR.mono ?_
      rintro e W3 (⟨rfl, hJ4, hk4⟩ | ⟨rfl, hJx4⟩)
      · clear q q'
        gi_wp2
        have hrg4 := hrg3.of_walks hk4
        go_roundw
        case rel => exact ⟨_, cnt2, ss ++ [(x1, x2)], hrg4, by simp; omega, hC2, hJ4⟩
        case measure => rw [hrg4.left_eq, hrg.left_eq]; exact hlt
      · clear q q'
        gi_wp2
        refine bodyPost_ret (results_none rfl _ _ _) rfl ?_
        exact ⟨⟨_, rfl⟩, .inr ⟨ss ++ [(x1, x2)], trivial, hJx4⟩⟩
/-- maps.Keys hands back a value that stops. -/
theorem dueKeys_stops (F : Fence) (n : Nat) (h10 : F.fn 126) (hro : F.round = none) (hn : 1 ≤ n) (Bm b nn : Nat) (ks : List (Int × Int)) (w : World) (hBm : Bm < w.heap.size)
    (hm : w.cell? ⟨Bm, 0, none⟩ = some (.map (some b))) (hown : DueIs w b nn ks) :
    SeqStops F n Tryz.prog 126 #[.pointer (some ⟨Bm, 0, none⟩)] dueV (fun ss => DueAll ks ss ∧ ss.length ≤ Maps.size (dueD ks)) (fun _ => True) (Maps.size (dueD ks)) w := fun l J Jx W hW hJ _ hY h0 => by
  have hown' : DueIs W b nn ks := by
    refine ⟨?_, hown.2⟩
    have hbl := hown.1.lt
    obtain ⟨es, clock, hb, Ft, hs, hD⟩ := hown.1
    exact ⟨es, clock, (hW.block b hbl).trans hb, Ft, hs, hD⟩
  exact dueKeys1_in F n h10 hro hn l Bm b nn ks J Jx hY W hJ ((hW.cell (p := ⟨Bm, 0, none⟩) hBm).trans hm) hown' h0
set_option maxHeartbeats 1000000 in
theorem dueKeys_in (F : Fence) (n : Nat) (h7 : F.fn 80) (hro : F.round = none) (mb : Option Nat) (w : World) :
    CallsIn F n Tryz.prog 80 #[.map mb] w fun e w' => e = .returned (.func (.func 126) #[] #[.pointer (some ⟨w.heap.size, 0, none⟩)]) ∧ w' = w.alloc (.cells #[.map mb] 146) := by
  refine callsIn_of_wp Tryz.func80 rfl h7 ?_ hro
  simp only [Tryz.ntmps80, List.size_toArray, List.length_cons, List.length_nil, Nat.reduceAdd, Nat.reduceSub, Array.replicate_succ, Array.replicate_zero, List.push_toArray, List.append_toArray, List.nil_append, List.cons_append]
  gi_wp2
  go_ret
  exact ⟨rfl, rfl⟩
end Go.Proofs.YtokakpbpenndlaaGreatDoor

set_option linter.unusedVariables false
namespace Go.Proofs.YtokakpbpenndlaaGreatDoor
open Go.RowKit Go.Maps Go.Sort Go.Shelf

attribute [local go_sem] Oper.semAt_some

theorem infoDue : (Tryz.prog.info? 62).map (fun i => (i.zero, i.size, i.bytes)) = some (some (.agg #[.int .i64 0, .int .i64 0]), 2, 16) := by kernel_rfl
def dueCl (l : List (Int × Int)) : List Value := l.flatMap fun p => [.int .i64 p.1, .int .i64 p.2]
theorem dueCl_snoc (l : List (Int × Int)) (p : Int × Int) : dueCl (l ++ [p]) = dueCl l ++ [.int .i64 p.1, .int .i64 p.2] := by simp [dueCl]
theorem cell_two_new (w : World) (x y : Value) (t : TypeId) : ∀ j u, [x, y][j]? = some u → (w.alloc (.cells #[x, y] t)).cell? ((⟨w.heap.size, 0, none⟩ : Addr).add j) = some u := by
  intro j u hj
  have B := Blk.new w t #[x, y]
  have e : ((⟨w.heap.size, 0, none⟩ : Addr).add j) = ⟨w.heap.size, 0 + j, none⟩ := by cases j <;> simp [Addr.add]
  rw [Nat.zero_add] at e
  rw [e, B.cell]
  simpa only [List.getElem?_toArray] using hj

set_option maxRecDepth 100000 in
set_option maxHeartbeats 2000000 in
theorem dueAppendSeq_in (F : Fence) (n : Nat) (h11 : F.fn 156) (hro : F.round = none) (hn : 2 ≤ n) (g : Nat) (lb : Array Value) (hFg : F.fn g) (eg : ∀ args w, (callFunc g args).run Tryz.prog w = .ok (.enter g args) w)
    (S Sp : List (Int × Int) → Prop) (N : Nat) (hN : N ≤ maxLen) (hNb : N * 16 ≤ 140737488355328) (w : World) (hseq : SeqStops F (n - 1) Tryz.prog g lb dueV S Sp N w) :
    CallsIn F n Tryz.prog 156 #[.slice none 0 0, .func (.func g) #[] lb] w fun e w' => ∃ (v : Value) (ss : List (Int × Int)), e = .returned v ∧ S ss ∧ w'.ownsRow w.heap.size 62 2 v ss.length (dueCl ss) ∧ (v = .slice none 0 0 ↔ ss = []) ∧ Below w.heap.size w w' := by
  have h1 : 1 ≤ n := by omega
  obtain ⟨i0, hi, hz0, hz1, hz2⟩ := info_parts infoDue
  refine callsIn_of_wp_marks Tryz.func156 rfl h11 ?_ hro
  simp only [Tryz.ntmps156, List.size_toArray, List.length_cons, List.length_nil, Nat.reduceAdd, Nat.reduceSub, Array.replicate_succ, Array.replicate_zero, List.push_toArray, List.append_toArray, List.nil_append, List.cons_append]
  gi_wp2
  have bO := Boxed.new w 56 (.slice none 0 0)
  have hB0 : Below w.heap.size w (w.alloc (.cells #[.slice none 0 0] 56)) := (Below.refl _ w).alloc (Nat.le_refl _) _
  refine wpIn_rangeFunc_ownH hro h1 (gf := g) (lb := lb) rfl hFg eg hseq walksK_t walksK_b hB0 (fun _ => rfl)
    (fun pre W => (∃ v, Boxed W w.heap.size 56 v ∧ W.ownsRow w.heap.size 62 2 v pre.length (dueCl pre) ∧ (v = .slice none 0 0 ↔ pre = [])) ∧ Below w.heap.size w W)
    (fun _ _ _ => False)
    (OwnFrom.and (Own.from (holdsRow_own w.heap.size w.heap.size 56 62 2 (fun pre : List (Int × Int) => pre.length) (fun pre => dueCl pre) (fun pre v => v = .slice none 0 0 ↔ pre = [])) _) (ownFrom_below (Nat.le_refl _) (by simp)))
    (fun _ _ _ _ _ hs _ _ => hs)
    ⟨⟨_, bO, World.ownsRow_nil _ _ _ _, by simp⟩, hB0⟩
    (fun x a' W => ∃ Bx, w.heap.size < Bx ∧ Blk W Bx 62 #[.int .i64 x.1, .int .i64 x.2] ∧ a' = { tmps := #[.slice none 0 0, .func (.func g) #[] lb, .pointer (some ⟨w.heap.size, 0, none⟩), undef, .slice none 0 0, .pointer (some ⟨Bx, 0, none⟩), .func (.func g) #[] lb, .agg #[.int .i64 x.1, .int .i64 x.2], undef, undef, undef, undef, undef], defers := [] })
    (fun x a' _ X Y row hs hg hr => by
      obtain ⟨Bx, h1, h2, h3⟩ := hs
      refine ⟨Bx, h1, (hg.block Bx h2.lt (fun e' => ?_)).trans h2, h3⟩
      obtain ⟨_, o, ho, hc⟩ := hr Bx e'.symm
      rw [show X.heap[Bx]? = _ from h2] at ho; cases ho; cases hc)
    ?assign ?body ?done ?stop
  case assign =>
    rintro l pre x W K ⟨⟨v, hv, hrow, hnil⟩, hB⟩ hK
    simp only [dueV]
    gi_wp2
    exact hK _ _ ((KeepsOthers.alloc _ _).from _) (KeepsWalks.alloc _ _) ⟨⟨v, hv.alloc _, hrow.alloc _, hnil⟩, hB.alloc hB.size _⟩ ⟨W.heap.size, hv.lt, Blk.new W _ _, rfl⟩
  case body =>
    rintro l pre x a' W hl ⟨r, hr⟩ ⟨⟨v, hv, hrow, hnil⟩, hB⟩ ⟨Bx, hBx, hX, rfl⟩ hlt
    have hc := hv.cell
    obtain ⟨q, q'⟩ := hX.cells
    gi_wp2_with (gi_at_builtin; refine wpListIn_append_own _ rfl _ _ 56 rfl w.heap.size 62 i0 (.agg #[.int .i64 0, .int .i64 0]) 2 16 Tryz.underlying56 hi hz0 hz1 hz2 rfl (by decide) _ _ _ rfl (hrow.alloc _) ⟨W.heap.size, 0, none⟩ 1 1 [.int .i64 x.1, .int .i64 x.2] rfl rfl (cell_two_new _ _ _ _) (by simp [Value.oneCell']) (by omega) (by omega) (by have := hB.size; simp; omega) ?_; intro v' w1 hown' hgrow _; obtain ⟨g', cap', rfl⟩ := ownsRow_succ hown'; obtain ⟨hv1, hv2, hr2, hk2, hb2⟩ := hv.appended (by decide) hrow hB.size (Nat.le_refl _) hown' hgrow; have hc1 := hv1.cell; have hf1 := hv1.frozen)
    exact ⟨hk2.from _, hk2.walks, ⟨_, hv2, by rw [dueCl_snoc, List.length_append]; simpa using hr2, by simp⟩, hB.trans hb2⟩
  case done =>
    rintro D ys W hD hS ⟨⟨v, hv, hrow, hnil⟩, hB⟩ hK
    have hc := hv.cell
    gi_wp2
    refine ⟨by simp, .inl ⟨_, _, rfl, run_takeDeferred hK, ?_⟩⟩
    exact ⟨_, results_tmp rfl _ _ _, v, ys, rfl, hS, ownsRow_putObj hrow _ hK rfl, hnil, hB.trans (belowK_b (w := w) (Nat.le_refl _) W D _ _ (by simp at hD; omega) hK rfl rfl)⟩
  case stop =>
    rintro D c pre W _ _ h _
    exact h.elim
set_option maxHeartbeats 1000000 in
theorem dueCollect_in (F : Fence) (n : Nat) (h8 : F.fn 124) (h11 : F.fn 156) (hro : F.round = none) (hn : 3 ≤ n) (g : Nat) (lb : Array Value) (hFg : F.fn g) (eg : ∀ args w, (callFunc g args).run Tryz.prog w = .ok (.enter g args) w)
    (S Sp : List (Int × Int) → Prop) (N : Nat) (hN : N ≤ maxLen) (hNb : N * 16 ≤ 140737488355328) (w : World) (hseq : SeqStops F (n - 1 - 1) Tryz.prog g lb dueV S Sp N w) :
    CallsIn F n Tryz.prog 124 #[.func (.func g) #[] lb] w fun e w' => ∃ (v : Value) (ss : List (Int × Int)), e = .returned v ∧ S ss ∧ w'.ownsRow w.heap.size 62 2 v ss.length (dueCl ss) ∧ (v = .slice none 0 0 ↔ ss = []) ∧ Below w.heap.size w w' := by
  have h1 : 1 ≤ n := by omega
  refine callsIn_of_wp Tryz.func124 rfl h8 ?_ hro
  simp only [Tryz.ntmps124, List.size_toArray, List.length_cons, List.length_nil, Nat.reduceAdd, Nat.reduceSub, Array.replicate_succ, Array.replicate_zero, List.push_toArray, List.append_toArray, List.nil_append, List.cons_append]
  gi_wp2_with (gi_at_call 156; refine (dueAppendSeq_in F (n - 1) h11 hro (by omega) g lb hFg eg S Sp N hN hNb _ hseq).mono ?_; rintro e w' ⟨v, ss, rfl, hS, hrow, hnil, hb⟩)
  go_ret
  exact ⟨v, ss, rfl, hS, hrow, hnil, hb⟩
end Go.Proofs.YtokakpbpenndlaaGreatDoor

namespace Go.Proofs
open Go.Shelf
def Tryz.lays156_ren : Go.Shelf.Ren := ⟨fun | 156 => 48 | 165 => 91 | 166 => 92 | 169 => 93 | 240 => 131 | 241 => 132 | 276 => 164 | 277 => 165 | n => n, fun | 31 => 95 | 9 => 9 | 3 => 3 | 4 => 4 | 0 => 0 | 20 => 20 | 72 => 165 | 76 => 169 | 70 => 163 | 37 => 24 | 75 => 168 | 127 => 203 | 164 => 226 | 5 => 5 | 80 => 162 | n => n, fun | n => n⟩
theorem Tryz.lays156 : Go.Proofs.Lays.n156 Tryz.prog Tryz.lays156_ren := {
  mixed := by kernel_rfl
  f156 := Tryz.func48.trans (congrArg some (by kernel_rfl))
  f165 := Tryz.func91.trans (congrArg some (by kernel_rfl))
  f166 := Tryz.func92.trans (congrArg some (by kernel_rfl))
  f169 := Tryz.func93.trans (congrArg some (by kernel_rfl))
  f240 := Tryz.func131.trans (congrArg some (by kernel_rfl))
  f241 := Tryz.func132.trans (congrArg some (by kernel_rfl))
  f276 := Tryz.func164.trans (congrArg some (by kernel_rfl))
  f277 := Tryz.func165.trans (congrArg some (by kernel_rfl))
  t0 := Tryz.underlying0
  a0 := Tryz.isAgg0
  z0 := Tryz.sizeOf0
  v0 := Tryz.zeroValue0
  t3 := Tryz.underlying3
  a3 := Tryz.isAgg3
  z3 := Tryz.sizeOf3
  v3 := Tryz.zeroValue3
  t4 := Tryz.underlying4
  a4 := Tryz.isAgg4
  z4 := Tryz.sizeOf4
  v4 := Tryz.zeroValue4
  t9 := Tryz.underlying9
  a9 := Tryz.isAgg9
  z9 := Tryz.sizeOf9
  v9 := Tryz.zeroValue9
  t20 := Tryz.underlying20
  a20 := Tryz.isAgg20
  z20 := Tryz.sizeOf20
  v20 := Tryz.zeroValue20
  t31 := Tryz.underlying95
  a31 := Tryz.isAgg95
  z31 := Tryz.sizeOf95
  v31 := Tryz.zeroValue95
  t37 := Tryz.underlying24
  a37 := Tryz.isAgg24
  z37 := Tryz.sizeOf24
  v37 := Tryz.zeroValue24
  t70 := Tryz.underlying163
  a70 := Tryz.isAgg163
  z70 := Tryz.sizeOf163
  v70 := Tryz.zeroValue163
  t72 := Tryz.underlying165
  a72 := Tryz.isAgg165
  z72 := Tryz.sizeOf165
  v72 := Tryz.zeroValue165
  t75 := Tryz.underlying168
  a75 := Tryz.isAgg168
  z75 := Tryz.sizeOf168
  v75 := Tryz.zeroValue168
  t76 := Tryz.underlying169
  a76 := Tryz.isAgg169
  z76 := Tryz.sizeOf169
  v76 := Tryz.zeroValue169
  t127 := Tryz.underlying203
  a127 := Tryz.isAgg203
  z127 := Tryz.sizeOf203
  v127 := Tryz.zeroValue203
  t164 := Tryz.underlying226
  a164 := Tryz.isAgg226
  z164 := Tryz.sizeOf226
  v164 := Tryz.zeroValue226 }
theorem Tryz.Builder_Extra_156 : Builder.Extra Tryz.prog Tryz.lays156_ren := {
  sizeBuilder := by kernel_rfl
  liesBuilder := by kernel_rfl
  t5 := Tryz.underlying5
  a5 := Tryz.isAgg5
  z5 := Tryz.sizeOf5
  v5 := Tryz.zeroValue5
  infoByte := by kernel_rfl
  cellsByte := by kernel_rfl
  sizeByte := by kernel_rfl
  neB5 := by decide }
open Go.RowKit in
/-- strings.Join: "Join concatenates the elements of its first argument to create a single string. The separator string sep is placed between elements in the resulting string.": HOWEVER MANY ELEMENTS. Below the heap's end the world is as it was. (LAID: no walk: one application.) -/
theorem Tryz.strings_Join (bk o c : Nat) (xs : List ByteArray) (sep : ByteArray) (w : World) (hcells : ∀ (j : Nat) x, xs[j]? = some x → w.cell? ⟨bk, o + j, none⟩ = some (.string x)) (hbk : bk < w.heap.size) (hN : xs.length ≤ 140737488355328) (hcap : xs.length ≤ c) (hlen : (Lib.join (xs.map (·.data.toList)) sep.data.toList).length ≤ 140737488355328) :
    Calls Tryz.prog 48 #[.slice (some ⟨bk, o, none⟩) xs.length c, .string sep] w fun e w' => e = .returned (.string ⟨(Lib.join (xs.map (·.data.toList)) sep.data.toList).toArray⟩) ∧ Below w.heap.size w w' := Any.strings_Join Tryz.lays156 Tryz.Builder_Extra_156 bk o c xs sep w hcells hbk hN hcap hlen
def Tryz.lays122_ren : Go.Shelf.Ren := ⟨fun | 122 => 83 | 215 => 127 | n => n, fun | 3 => 3 | 4 => 4 | n => n, fun | n => n⟩
theorem Tryz.lays122 : Go.Proofs.Lays.n122 Tryz.prog Tryz.lays122_ren := {
  mixed := by kernel_rfl
  f122 := Tryz.func83.trans (congrArg some (by kernel_rfl))
  f215 := Tryz.func127.trans (congrArg some (by kernel_rfl))
  t3 := Tryz.underlying3
  a3 := Tryz.isAgg3
  z3 := Tryz.sizeOf3
  v3 := Tryz.zeroValue3
  t4 := Tryz.underlying4
  a4 := Tryz.isAgg4
  z4 := Tryz.sizeOf4
  v4 := Tryz.zeroValue4 }
open Go.RowKit in
/-- cmp.Compare at int: "Compare returns -1 if x is less than y, 0 if x equals y, +1 if x is greater than y.": IT RETURNS 'Lib.compareInt x y'; the world is as it was. (LAID: no walk: one application.) -/
theorem Tryz.cmp_Compare_int (x y : Int) (w : World) :
    Calls Tryz.prog 83 #[.int .i64 x, .int .i64 y] w fun e w' => e = .returned (.int .i64 (Lib.compareInt x y)) ∧ w' = w := Any.cmp_Compare_int Tryz.lays122 x y w
def Tryz.laysM171_ren : Go.Shelf.Ren := ⟨fun | 171 => 47 | 243 => 90 | 246 => 130 | 283 => 160 | 284 => 161 | 285 => 162 | 286 => 163 | 129 => 184 | 317 => 185 | 318 => 186 | 319 => 187 | 320 => 188 | 337 => 199 | 338 => 200 | n => n, fun | 3 => 3 | 9 => 9 | 2 => 2 | 4 => 4 | 171 => 221 | 0 => 0 | 53 => 132 | 37 => 24 | 5 => 5 | 173 => 224 | 212 => 243 | 51 => 239 | 20 => 20 | 213 => 244 | 46 => 157 | 232 => 263 | 233 => 264 | n => n, fun | 17 => 0 | 18 => 2 | 19 => 3 | n => n⟩
theorem Tryz.laysM171 : Go.Proofs.LaysM.n171 Tryz.prog Tryz.laysM171_ren := {
  mixed := by kernel_rfl
  f129 := Tryz.func184.trans (congrArg some (by kernel_rfl))
  f171 := Tryz.func47.trans (congrArg some (by kernel_rfl))
  f243 := Tryz.func90.trans (congrArg some (by kernel_rfl))
  f246 := Tryz.func130.trans (congrArg some (by kernel_rfl))
  f283 := Tryz.func160.trans (congrArg some (by kernel_rfl))
  f284 := Tryz.func161.trans (congrArg some (by kernel_rfl))
  f285 := Tryz.func162.trans (congrArg some (by kernel_rfl))
  f286 := Tryz.func163.trans (congrArg some (by kernel_rfl))
  f317 := Tryz.func185.trans (congrArg some (by kernel_rfl))
  f318 := Tryz.func186.trans (congrArg some (by kernel_rfl))
  f319 := Tryz.func187.trans (congrArg some (by kernel_rfl))
  f320 := Tryz.func188.trans (congrArg some (by kernel_rfl))
  f337 := Tryz.func199.trans (congrArg some (by kernel_rfl))
  f338 := Tryz.func200.trans (congrArg some (by kernel_rfl))
  t0 := Tryz.underlying0
  a0 := Tryz.isAgg0
  z0 := Tryz.sizeOf0
  v0 := Tryz.zeroValue0
  t2 := Tryz.underlying2
  a2 := Tryz.isAgg2
  z2 := Tryz.sizeOf2
  v2 := Tryz.zeroValue2
  t3 := Tryz.underlying3
  a3 := Tryz.isAgg3
  z3 := Tryz.sizeOf3
  v3 := Tryz.zeroValue3
  t4 := Tryz.underlying4
  a4 := Tryz.isAgg4
  z4 := Tryz.sizeOf4
  v4 := Tryz.zeroValue4
  t5 := Tryz.underlying5
  a5 := Tryz.isAgg5
  z5 := Tryz.sizeOf5
  v5 := Tryz.zeroValue5
  t9 := Tryz.underlying9
  a9 := Tryz.isAgg9
  z9 := Tryz.sizeOf9
  v9 := Tryz.zeroValue9
  t20 := Tryz.underlying20
  a20 := Tryz.isAgg20
  z20 := Tryz.sizeOf20
  v20 := Tryz.zeroValue20
  t37 := Tryz.underlying24
  a37 := Tryz.isAgg24
  z37 := Tryz.sizeOf24
  v37 := Tryz.zeroValue24
  t46 := Tryz.underlying157
  a46 := Tryz.isAgg157
  z46 := Tryz.sizeOf157
  v46 := Tryz.zeroValue157
  t51 := Tryz.underlying239
  a51 := Tryz.isAgg239
  z51 := Tryz.sizeOf239
  v51 := Tryz.zeroValue239
  t53 := Tryz.underlying132
  a53 := Tryz.isAgg132
  z53 := Tryz.sizeOf132
  v53 := Tryz.zeroValue132
  t171 := Tryz.underlying221
  a171 := Tryz.isAgg221
  z171 := Tryz.sizeOf221
  v171 := Tryz.zeroValue221
  t173 := Tryz.underlying224
  a173 := Tryz.isAgg224
  z173 := Tryz.sizeOf224
  v173 := Tryz.zeroValue224
  t212 := Tryz.underlying243
  a212 := Tryz.isAgg243
  z212 := Tryz.sizeOf243
  v212 := Tryz.zeroValue243
  t213 := Tryz.underlying244
  a213 := Tryz.isAgg244
  z213 := Tryz.sizeOf244
  t232 := Tryz.underlying263
  a232 := Tryz.isAgg263
  z232 := Tryz.sizeOf263
  v232 := Tryz.zeroValue263
  t233 := Tryz.underlying264
  a233 := Tryz.isAgg264
  z233 := Tryz.sizeOf264
  v233 := Tryz.zeroValue264
  g17 := by kernel_rfl
  g18 := by kernel_rfl
  g19 := by kernel_rfl
  i0 := by kernel_rfl
  i2 := by kernel_rfl
  i3 := by kernel_rfl
  i4 := by kernel_rfl
  i5 := by kernel_rfl
  i9 := by kernel_rfl
  i20 := by kernel_rfl
  i37 := by kernel_rfl
  i46 := by kernel_rfl
  i51 := by kernel_rfl
  i53 := by kernel_rfl
  i171 := by kernel_rfl
  i173 := by kernel_rfl
  i212 := by kernel_rfl
  i232 := by kernel_rfl
  i233 := by kernel_rfl
  m17 := by kernel_rfl
  m18 := by kernel_rfl
  m19 := by kernel_rfl }
open Go.RowKit Go.Sort Go.Lib in
/-- strconv.Itoa: "Itoa is equivalent to FormatInt(int64(i), 10).": i's DECIMAL NUMERAL ('Lib.itoa': a '-' where i is negative, then the digits), FOR EVERY int. The world behind the call: the world before it, new blocks behind the heap (the library's 'var a [24]byte'), draws. (LAID: no walk: one application.) -/
theorem Tryz.strconv_Itoa (n : Int) (h0 : -9223372036854775808 ≤ n) (h1 : n ≤ 9223372036854775807) (w : World) (htab : Lib.TabIs Tryz.prog w "internal/strconv.uint64pow10" .u64 Lib.pow10Tab) :
    Calls Tryz.prog 47 #[.int .i64 n] w fun e w' => e = .returned (.string ⟨(Lib.itoa n).toArray⟩) ∧ ∃ k os, w' = grow (w.drewN k) os := Any.strconv_Itoa Tryz.laysM171 n h0 h1 w htab
end Go.Proofs
