/-
  maps.Keys of a set of dues: the iterator's contract.
-/
import Derived.Test.YtokakpbpenndlaaGreatDoorRr07
import Derived.Maps.AppendAt
set_option linter.unusedVariables false
namespace Go.Proofs.YtokakpbpenndlaaGreatDoor
open Go.RowKit Go.Maps Go.Sort Go.Shelf

attribute [local go_sem] Oper.semAt_some

/-- A set of dues. -/
abbrev dueD (ks : List (Int × Int)) : DataW Unit := setOf (H := Unit) (.agg []) (ks.map kl2)
def DueIs (w : World) (B n : Nat) (ks : List (Int × Int)) : Prop := w.ownsMap Tryz.prog 62 (unitElem (H := Unit)) B n (dueD ks) ∧ ∀ p ∈ ks, i64 p.1 ∧ i64 p.2
theorem has_due {ks : List (Int × Int)} (h : ∀ p ∈ ks, i64 p.1 ∧ i64 p.2) {p : Int × Int} (hp : i64 p.1 ∧ i64 p.2) : Maps.has (dueD ks) (kl2 p) = decide (p ∈ ks) := by
  rw [has_setOf _ _ _ (by intro x hx; obtain ⟨q, _, rfl⟩ := List.mem_map.1 hx; exact kl2_key q)]
  rw [Bool.eq_iff_iff]
  simp only [List.any_map, List.any_eq_true, Function.comp_apply, decide_eq_true_eq]
  constructor
  · rintro ⟨q, hq, he⟩
    rw [kl2_same (h q hq) hp] at he
    have : q = p := by simpa using he
    rw [← this]; exact hq
  · intro hm
    exact ⟨p, hm, by rw [kl2_same hp hp]; simp⟩
/-- Dues that came, and those that are left. -/
structure CollD (ks : List (Int × Int)) (left : Lit → Bool) (ss : List (Int × Int)) : Prop where
  nd : ss.Nodup
  mem : ∀ p ∈ ss, p ∈ ks ∧ left (kl2 p) = false
  all : ∀ p ∈ ks, left (kl2 p) = false → p ∈ ss
theorem CollD.start {ks : List (Int × Int)} (h : ∀ p ∈ ks, i64 p.1 ∧ i64 p.2) : CollD ks (Maps.has (dueD ks)) [] :=
  ⟨List.nodup_nil, fun p hp => absurd hp List.not_mem_nil, fun p hp hl => by rw [has_due h (h p hp)] at hl; simp [hp] at hl⟩
theorem CollD.step {ks : List (Int × Int)} (h : ∀ p ∈ ks, i64 p.1 ∧ i64 p.2) {left : Lit → Bool} {ss : List (Int × Int)} (hC : CollD ks left ss) {x : Int × Int} (hx : i64 x.1 ∧ i64 x.2) (hlk : left (kl2 x) = true) {y : DataW Unit} (hat : ∀ zd, (dueD ks).atKey (kl2 x) zd = y) :
    CollD ks (fun z => left z && !z.sameKey (kl2 x)) (ss ++ [x]) := by
  have hm : x ∈ ks := by
    have := has_true_of_atKey hat
    rw [has_due h hx] at this
    simpa using this
  have hnew : x ∉ ss := fun hs => by have := (hC.mem x hs).2; rw [hlk] at this; cases this
  refine ⟨List.nodup_append.2 ⟨hC.nd, by simp, fun a ha b hb => by simp at hb; subst hb; exact fun e => hnew (e ▸ ha)⟩, fun p hp => ?_, fun p hp hl => ?_⟩
  · rcases List.mem_append.1 hp with hp | hp
    · exact ⟨(hC.mem p hp).1, by rw [(hC.mem p hp).2]; rfl⟩
    · rw [List.mem_singleton.1 hp]
      exact ⟨hm, by rw [kl2_same hx hx]; simp⟩
  · rcases Bool.and_eq_false_iff.1 hl with hl | hl
    · exact List.mem_append.2 (.inl (hC.all p hp hl))
    · rw [kl2_same (h p hp) hx] at hl
      have : p = x := by simpa using hl
      rw [this]; simp
/-- All that came. -/
def DueAll (ks ss : List (Int × Int)) : Prop := ss.Nodup ∧ ∀ p, p ∈ ss ↔ p ∈ ks
theorem CollD.done {ks : List (Int × Int)} {left : Lit → Bool} {ss : List (Int × Int)} (hC : CollD ks left ss) (hl : ∀ kl, left kl = false) : DueAll ks ss :=
  ⟨hC.nd, fun p => ⟨fun hp => (hC.mem p hp).1, fun hp => hC.all p hp (hl _)⟩⟩

set_option maxRecDepth 100000 in
set_option maxHeartbeats 1000000 in
theorem dueKeys1_in (F : Fence) (n : Nat) (h10 : F.fn 126) (hro : F.round = none) (hn : 1 ≤ n) (l Bm b nn : Nat) (ks : List (Int × Int)) (J Jx : List (Int × Int) → World → Prop)
    (hY : ∀ pre x W, J pre W → pre.length < Maps.size (dueD ks) → YieldAt F (n - 1) Tryz.prog l #[dueV x] W fun e W' =>
      (e = .returned (.bool true) ∧ J (pre ++ [x]) W' ∧ KeepsWalks W W') ∨ (e = .returned (.bool false) ∧ Jx (pre ++ [x]) W'))
    (W : World) (hJ : AbidesFrom W.heap.size J) (hm : W.cell? ⟨Bm, 0, none⟩ = some (.map (some b))) (hown : DueIs W b nn ks) (h0 : J [] W) :
    CallsIn F n Tryz.prog 126 #[.func (.yield l) #[] #[], .pointer (some ⟨Bm, 0, none⟩)] W fun e W' => (∃ v, e = .returned v) ∧
      ((∃ ss, (DueAll ks ss ∧ ss.length ≤ Maps.size (dueD ks)) ∧ J ss W') ∨ (∃ pre : List (Int × Int), True ∧ Jx pre W')) := by
  have hks := hown.2
  have hown' := hown.1
  refine callsIn_of_wp Tryz.func126 rfl h10 ?_ hro
  simp only [Tryz.ntmps126, List.size_toArray, List.length_cons, List.length_nil, Nat.reduceAdd, Nat.reduceSub, Array.replicate_succ, Array.replicate_zero, List.push_toArray, List.append_toArray, List.nil_append, List.cons_append]
  gi_wp2_with (first
    | (gi_at_range; refine wpListIn_range_own _ rfl _ 146 rfl 62 147 lawDue Tryz.underlying146 _ b nn _ rfl hown' ?_; intro w0 hrg0 hg0 hs0)
    | gi_in)
  go_frame
  gi_loopw [3] (fun _ wr => ∃ (left : Lit → Bool) (cnt : Nat) (ss : List (Int × Int)), wr.ranges Tryz.prog 62 (unitElem (H := Unit)) b W.heap.size nn (dueD ks) left cnt ∧ ss.length + cnt ≤ Maps.size (dueD ks) ∧ CollD ks left ss ∧ J ss wr)
    (fun _ wr => wr.rangeLeft b W.heap.size)
  case atStart =>
    exact ⟨_, _, [], hrg0, by simp, CollD.start hks, hJ [] W w0 none h0 hg0 (fun r e => by cases e)⟩
  case round =>
    obtain ⟨left, cnt, ss, hrg, hcs, hC, hJs⟩ := hrel
    gi_wp2_with (first
      | (gi_at_next; refine wpListIn_next_ranges _ rfl _ rfl 62 lawDue (unitElem (H := Unit)) dueV id (fun key kl hk => by obtain ⟨x, hx, _⟩ := keyDue_inv hk; exact ⟨x, hx⟩) (fun v _ _ => ⟨v, rfl⟩) b W.heap.size nn _ _ _ rfl hrg ?_ ?_)
      | gi_in)
    · intro hc0 hl0
      gi_wp2
      go_end0
      exact ⟨⟨_, rfl⟩, .inl ⟨ss, ⟨hC.done hl0, by omega⟩, hJs⟩⟩
    · intro x1 x2 c kl yd yp w2 cnt2 hkey hlk hv hat hrg2 hlt hg2 hs2 hen
      obtain ⟨x', ex, rfl, hx⟩ := keyDue_inv hkey
      obtain rfl : (x1, x2) = x' := dueV_inj ex
      have hJ2 : J ss w2 := hJ ss wr w2 (some W.heap.size) hJs hg2 (fun r e => by cases e; exact ⟨Nat.le_refl _, hrg.iter_walk⟩)
      have hC2 := hC.step hks hx hlk hat
      have hg3 := World.grownBy_alloc w2 (.cells #[.int .i64 x1, .int .i64 x2] 62) none
      have hrg3 := hrg2.of_walks (KeepsWalks.alloc w2 (.cells #[.int .i64 x1, .int .i64 x2] 62))
      have hJ3 : J ss (w2.alloc (.cells #[.int .i64 x1, .int .i64 x2] 62)) := hJ ss w2 _ none hJ2 hg3 (fun r e => by cases e)
      have hsz3 : (w2.alloc (.cells #[.int .i64 x1, .int .i64 x2] 62)).heap.size = w2.heap.size + 1 := by simp
      have B3 := Blk.new w2 62 #[.int .i64 x1, .int .i64 x2]
      obtain ⟨fn, tmps, assign, body, hy, hR⟩ := hY ss (x1, x2) _ hJ3 (by omega)
      clear hs2 hkey ex hv hlk hat
      simp only [dueV] at hen hy hR
      obtain ⟨q, q'⟩ := B3.cells
      gi_wp2
      refine hR.mono ?_
      rintro e W3 (⟨rfl, hJ4, hk4⟩ | ⟨rfl, hJx4⟩)
      · clear q q'
        gi_wp2
        have hrg4 := hrg3.of_walks hk4
        go_roundw
        case rel => exact ⟨_, cnt2, ss ++ [(x1, x2)], hrg4, by simp; omega, hC2, hJ4⟩
        case measure => rw [hrg4.left_eq, hrg.left_eq]; exact hlt
      · clear q q'
        gi_wp2
        refine bodyPost_ret (results_none rfl _ _ _) rfl ?_
        exact ⟨⟨_, rfl⟩, .inr ⟨ss ++ [(x1, x2)], trivial, hJx4⟩⟩
/-- maps.Keys hands back a value that stops. -/
theorem dueKeys_stops (F : Fence) (n : Nat) (h10 : F.fn 126) (hro : F.round = none) (hn : 1 ≤ n) (Bm b nn : Nat) (ks : List (Int × Int)) (w : World) (hBm : Bm < w.heap.size)
    (hm : w.cell? ⟨Bm, 0, none⟩ = some (.map (some b))) (hown : DueIs w b nn ks) :
    SeqStops F n Tryz.prog 126 #[.pointer (some ⟨Bm, 0, none⟩)] dueV (fun ss => DueAll ks ss ∧ ss.length ≤ Maps.size (dueD ks)) (fun _ => True) (Maps.size (dueD ks)) w := fun l J Jx W hW hJ _ hY h0 => by
  have hown' : DueIs W b nn ks := by
    refine ⟨?_, hown.2⟩
    have hbl := hown.1.lt
    obtain ⟨es, clock, hb, Ft, hs, hD⟩ := hown.1
    exact ⟨es, clock, (hW.block b hbl).trans hb, Ft, hs, hD⟩
  exact dueKeys1_in F n h10 hro hn l Bm b nn ks J Jx hY W hJ ((hW.cell (p := ⟨Bm, 0, none⟩) hBm).trans hm) hown' h0
set_option maxHeartbeats 1000000 in
theorem dueKeys_in (F : Fence) (n : Nat) (h7 : F.fn 80) (hro : F.round = none) (mb : Option Nat) (w : World) :
    CallsIn F n Tryz.prog 80 #[.map mb] w fun e w' => e = .returned (.func (.func 126) #[] #[.pointer (some ⟨w.heap.size, 0, none⟩)]) ∧ w' = w.alloc (.cells #[.map mb] 146) := by
  refine callsIn_of_wp Tryz.func80 rfl h7 ?_ hro
  simp only [Tryz.ntmps80, List.size_toArray, List.length_cons, List.length_nil, Nat.reduceAdd, Nat.reduceSub, Array.replicate_succ, Array.replicate_zero, List.push_toArray, List.append_toArray, List.nil_append, List.cons_append]
  gi_wp2
  go_ret
  exact ⟨rfl, rfl⟩
end Go.Proofs.YtokakpbpenndlaaGreatDoor

set_option linter.unusedVariables false
namespace Go.Proofs.YtokakpbpenndlaaGreatDoor
open Go.RowKit Go.Maps Go.Sort Go.Shelf

attribute [local go_sem] Oper.semAt_some

theorem infoDue : (Tryz.prog.info? 62).map (fun i => (i.zero, i.size, i.bytes)) = some (some (.agg #[.int .i64 0, .int .i64 0]), 2, 16) := by kernel_rfl
def dueCl (l : List (Int × Int)) : List Value := l.flatMap fun p => [.int .i64 p.1, .int .i64 p.2]
theorem dueCl_snoc (l : List (Int × Int)) (p : Int × Int) : dueCl (l ++ [p]) = dueCl l ++ [.int .i64 p.1, .int .i64 p.2] := by simp [dueCl]
theorem cell_two_new (w : World) (x y : Value) (t : TypeId) : ∀ j u, [x, y][j]? = some u → (w.alloc (.cells #[x, y] t)).cell? ((⟨w.heap.size, 0, none⟩ : Addr).add j) = some u := by
  intro j u hj
  have B := Blk.new w t #[x, y]
  have e : ((⟨w.heap.size, 0, none⟩ : Addr).add j) = ⟨w.heap.size, 0 + j, none⟩ := by cases j <;> simp [Addr.add]
  rw [Nat.zero_add] at e
  rw [e, B.cell]
  simpa only [List.getElem?_toArray] using hj

set_option maxRecDepth 100000 in
set_option maxHeartbeats 2000000 in
theorem dueAppendSeq_in (F : Fence) (n : Nat) (h11 : F.fn 156) (hro : F.round = none) (hn : 2 ≤ n) (g : Nat) (lb : Array Value) (hFg : F.fn g) (eg : ∀ args w, (callFunc g args).run Tryz.prog w = .ok (.enter g args) w)
    (S Sp : List (Int × Int) → Prop) (N : Nat) (hN : N ≤ maxLen) (hNb : N * 16 ≤ 140737488355328) (w : World) (hseq : SeqStops F (n - 1) Tryz.prog g lb dueV S Sp N w) :
    CallsIn F n Tryz.prog 156 #[.slice none 0 0, .func (.func g) #[] lb] w fun e w' => ∃ (v : Value) (ss : List (Int × Int)), e = .returned v ∧ S ss ∧ w'.ownsRow w.heap.size 62 2 v ss.length (dueCl ss) ∧ (v = .slice none 0 0 ↔ ss = []) ∧ Below w.heap.size w w' := by
  have h1 : 1 ≤ n := by omega
  obtain ⟨i0, hi, hz0, hz1, hz2⟩ := info_parts infoDue
  refine callsIn_of_wp_marks Tryz.func156 rfl h11 ?_ hro
  simp only [Tryz.ntmps156, List.size_toArray, List.length_cons, List.length_nil, Nat.reduceAdd, Nat.reduceSub, Array.replicate_succ, Array.replicate_zero, List.push_toArray, List.append_toArray, List.nil_append, List.cons_append]
  gi_wp2
  have bO := Boxed.new w 56 (.slice none 0 0)
  have hB0 : Below w.heap.size w (w.alloc (.cells #[.slice none 0 0] 56)) := (Below.refl _ w).alloc (Nat.le_refl _) _
  refine wpIn_rangeFunc_ownH hro h1 (gf := g) (lb := lb) rfl hFg eg hseq walksK_t walksK_b hB0 (fun _ => rfl)
    (fun pre W => (∃ v, Boxed W w.heap.size 56 v ∧ W.ownsRow w.heap.size 62 2 v pre.length (dueCl pre) ∧ (v = .slice none 0 0 ↔ pre = [])) ∧ Below w.heap.size w W)
    (fun _ _ _ => False)
    (OwnFrom.and (Own.from (holdsRow_own w.heap.size w.heap.size 56 62 2 (fun pre : List (Int × Int) => pre.length) (fun pre => dueCl pre) (fun pre v => v = .slice none 0 0 ↔ pre = [])) _) (ownFrom_below (Nat.le_refl _) (by simp)))
    (fun _ _ _ _ _ hs _ _ => hs)
    ⟨⟨_, bO, World.ownsRow_nil _ _ _ _, by simp⟩, hB0⟩
    (fun x a' W => ∃ Bx, w.heap.size < Bx ∧ Blk W Bx 62 #[.int .i64 x.1, .int .i64 x.2] ∧ a' = { tmps := #[.slice none 0 0, .func (.func g) #[] lb, .pointer (some ⟨w.heap.size, 0, none⟩), undef, .slice none 0 0, .pointer (some ⟨Bx, 0, none⟩), .func (.func g) #[] lb, .agg #[.int .i64 x.1, .int .i64 x.2], undef, undef, undef, undef, undef], defers := [] })
    (fun x a' _ X Y row hs hg hr => by
      obtain ⟨Bx, h1, h2, h3⟩ := hs
      refine ⟨Bx, h1, (hg.block Bx h2.lt (fun e' => ?_)).trans h2, h3⟩
      obtain ⟨_, o, ho, hc⟩ := hr Bx e'.symm
      rw [show X.heap[Bx]? = _ from h2] at ho; cases ho; cases hc)
    ?assign ?body ?done ?stop
  case assign =>
    rintro l pre x W K ⟨⟨v, hv, hrow, hnil⟩, hB⟩ hK
    simp only [dueV]
    gi_wp2
    exact hK _ _ ((KeepsOthers.alloc _ _).from _) (KeepsWalks.alloc _ _) ⟨⟨v, hv.alloc _, hrow.alloc _, hnil⟩, hB.alloc hB.size _⟩ ⟨W.heap.size, hv.lt, Blk.new W _ _, rfl⟩
  case body =>
    rintro l pre x a' W hl ⟨r, hr⟩ ⟨⟨v, hv, hrow, hnil⟩, hB⟩ ⟨Bx, hBx, hX, rfl⟩ hlt
    have hc := hv.cell
    obtain ⟨q, q'⟩ := hX.cells
    gi_wp2_with (gi_at_builtin; refine wpListIn_append_own _ rfl _ _ 56 rfl w.heap.size 62 i0 (.agg #[.int .i64 0, .int .i64 0]) 2 16 Tryz.underlying56 hi hz0 hz1 hz2 rfl (by decide) _ _ _ rfl (hrow.alloc _) ⟨W.heap.size, 0, none⟩ 1 1 [.int .i64 x.1, .int .i64 x.2] rfl rfl (cell_two_new _ _ _ _) (by simp [Value.oneCell']) (by omega) (by omega) (by have := hB.size; simp; omega) ?_; intro v' w1 hown' hgrow _; obtain ⟨g', cap', rfl⟩ := ownsRow_succ hown'; obtain ⟨hv1, hv2, hr2, hk2, hb2⟩ := hv.appended (by decide) hrow hB.size (Nat.le_refl _) hown' hgrow; have hc1 := hv1.cell; have hf1 := hv1.frozen)
    exact ⟨hk2.from _, hk2.walks, ⟨_, hv2, by rw [dueCl_snoc, List.length_append]; simpa using hr2, by simp⟩, hB.trans hb2⟩
  case done =>
    rintro D ys W hD hS ⟨⟨v, hv, hrow, hnil⟩, hB⟩ hK
    have hc := hv.cell
    gi_wp2
    refine ⟨by simp, .inl ⟨_, _, rfl, run_takeDeferred hK, ?_⟩⟩
    exact ⟨_, results_tmp rfl _ _ _, v, ys, rfl, hS, ownsRow_putObj hrow _ hK rfl, hnil, hB.trans (belowK_b (w := w) (Nat.le_refl _) W D _ _ (by simp at hD; omega) hK rfl rfl)⟩
  case stop =>
    rintro D c pre W _ _ h _
    exact h.elim
set_option maxHeartbeats 1000000 in
theorem dueCollect_in (F : Fence) (n : Nat) (h8 : F.fn 124) (h11 : F.fn 156) (hro : F.round = none) (hn : 3 ≤ n) (g : Nat) (lb : Array Value) (hFg : F.fn g) (eg : ∀ args w, (callFunc g args).run Tryz.prog w = .ok (.enter g args) w)
    (S Sp : List (Int × Int) → Prop) (N : Nat) (hN : N ≤ maxLen) (hNb : N * 16 ≤ 140737488355328) (w : World) (hseq : SeqStops F (n - 1 - 1) Tryz.prog g lb dueV S Sp N w) :
    CallsIn F n Tryz.prog 124 #[.func (.func g) #[] lb] w fun e w' => ∃ (v : Value) (ss : List (Int × Int)), e = .returned v ∧ S ss ∧ w'.ownsRow w.heap.size 62 2 v ss.length (dueCl ss) ∧ (v = .slice none 0 0 ↔ ss = []) ∧ Below w.heap.size w w' := by
  have h1 : 1 ≤ n := by omega
  refine callsIn_of_wp Tryz.func124 rfl h8 ?_ hro
  simp only [Tryz.ntmps124, List.size_toArray, List.length_cons, List.length_nil, Nat.reduceAdd, Nat.reduceSub, Array.replicate_succ, Array.replicate_zero, List.push_toArray, List.append_toArray, List.nil_append, List.cons_append]
  gi_wp2_with (gi_at_call 156; refine (dueAppendSeq_in F (n - 1) h11 hro (by omega) g lb hFg eg S Sp N hN hNb _ hseq).mono ?_; rintro e w' ⟨v, ss, rfl, hS, hrow, hnil, hb⟩)
  go_ret
  exact ⟨v, ss, rfl, hS, hrow, hnil, hb⟩
end Go.Proofs.YtokakpbpenndlaaGreatDoor
