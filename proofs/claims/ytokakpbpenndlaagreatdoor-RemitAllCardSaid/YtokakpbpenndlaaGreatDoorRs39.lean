/-
  The reference's Read: the walk.
-/
import Derived.Test.YtokakpbpenndlaaGreatDoorRs38
import Derived.Test.YtokakpbpenndlaaGreatDoorRs27
import Derived.Deep.RegionHeld3
set_option linter.unusedVariables false
namespace Go.Proofs.YtokakpbpenndlaaGreatDoor
open Go.RowKit

theorem RdR.set {w : World} {g : Nat} {s : RS} (h : RdR w g s) {p : Addr} (hp : g < p.block) (u : Value) : RdR (w.setCell p u) g s := by
  obtain ⟨A, cap, hB, hr, hc, hm⟩ := h.ex
  exact ⟨⟨A, cap, hB.far (Nat.ne_of_lt hp) u, hr.keep fun b o hb => World.cell?_setCell_far _ _ _ _ (Nat.ne_of_gt (Nat.lt_trans hb hp)), hc, hm⟩, h.ok⟩
end Go.Proofs.YtokakpbpenndlaaGreatDoor

set_option linter.unusedVariables false
namespace Go.Proofs.YtokakpbpenndlaaGreatDoor
open Go.RowKit

/-- The block of an own row lies above its base. -/
theorem own_above {w : World} {base : Nat} {e : TypeId} {size n : Nat} {v : Value} {xs : List Value} (h : w.ownsRow base e size v n xs) : ∀ k, v.ownBlock = some k → base ≤ k := by
  intro k hk
  rcases h.2 with ⟨rfl, _⟩ | ⟨g, cap, cur, rfl, hg, _⟩
  · simp [Value.ownBlock] at hk
  · have : g = k := by simpa [Value.ownBlock] using hk
    omega
theorem own_types_ne {w : World} {base base' : Nat} {e e' : TypeId} {size size' n n' : Nat} {v v' : Value} {xs xs' : List Value} (h : w.ownsRow base e size v n xs) (h' : w.ownsRow base' e' size' v' n' xs') (hne : e ≠ e') : v.ownBlock = none ∨ v.ownBlock ≠ v'.ownBlock := by
  rcases h'.2 with ⟨rfl, _⟩ | ⟨g, cap, cur, rfl, hg, hh, _⟩
  · rcases h.2 with ⟨rfl, _⟩ | ⟨g, cap, cur, rfl, hg, _⟩
    · exact .inl rfl
    · exact .inr (by simp [Value.ownBlock])
  · exact .inr (own_blk_ne h hh hne)
theorem Blk.new2 (w : World) (t t' : TypeId) (cs cs' : Array Value) : Blk ((w.alloc (.cells cs t)).alloc (.cells cs' t')) (w.heap.size + 1) t' cs' := by
  have := Blk.new (w.alloc (.cells cs t)) t' cs'
  simpa using this
theorem lent_reads {V : World} {b : List UInt8} {gl : Nat} (h : Blk V gl 5 (bV (lentL b)).toArray) : Reads V V.heap.size 1 (some ⟨gl, 0, none⟩) b.length (bV b) :=
  ⟨by simp [bV], fun _ => ⟨gl, 0, rfl, h.lt, fun j u hu => by
    rw [Nat.zero_add, h.cell]
    have hj : j < b.length := by
      have := (List.getElem?_eq_some_iff.1 hu).1
      simpa [bV] using this
    rw [← hu]
    simp [bV, lentL, List.getElem?_append, hj]⟩⟩

end Go.Proofs.YtokakpbpenndlaaGreatDoor

set_option linter.unusedVariables false
namespace Go.Proofs.YtokakpbpenndlaaGreatDoor
open Go.RowKit Go.Maps Go.Sort Go.Shelf

def OrRel (w : World) (a b : Int) (i : Value) (wr : World) : Prop := wr = w ∧ (i = .int .i64 0 ∨ (i = .int .i64 1 ∧ a = 0) ∨ (i = .int .i64 2 ∧ a = 0 ∧ b = 0))
set_option maxRecDepth 100000 in
set_option maxHeartbeats 1000000 in
theorem cmpOr_any (g cc : Nat) (a b R : Int) (hR : (if a ≠ 0 then a else b) = R) (w : World) (h0 : w.cell? ⟨g, 0, none⟩ = some (.int .i64 a)) (h1 : w.cell? ⟨g, 1, none⟩ = some (.int .i64 b)) :
    Calls Tryz.prog 82 #[.slice (some ⟨g, 0, none⟩) 2 cc] w fun e w' => e = .returned (.int .i64 R) ∧ w' = w := by
  have v1 : IntKind.i64.wrap 1 = 1 := by decide
  have v2 : IntKind.i64.wrap 2 = 2 := by decide
  replace hR := Lib.hid hR
  go_enter Tryz.func82, Tryz.ntmps82
  go_wp2
  go_loopw [8] (fun i wr => OrRel w a b i wr) (fun i _ => 2 - (intOf i).toNat)
  case atStart => exact ⟨rfl, .inl rfl⟩
  case round =>
    obtain ⟨rfl, rfl | ⟨rfl, ha⟩ | ⟨rfl, ha, hb⟩⟩ := hrel
    · by_cases ha : a = 0
      · have hd : (a != 0) = false := by simp [ha]
        replace ha := Lib.hid ha
        go_wp2
        go_roundw
        case rel => exact ⟨rfl, .inr (.inl ⟨rfl, ha.out⟩)⟩
        case measure => simp [intOf]
      · have hd : (a != 0) = true := by simp [ha]
        have hi := Lib.hid (show R = a by rw [← hR.out, if_pos ha])
        replace ha := Lib.hid ha
        go_wp2
        go_ret
        exact ⟨by rw [hi.out]; rfl, rfl⟩
    · have hi := Lib.hid (show R = b by rw [← hR.out, if_neg (by simp [ha])])
      replace ha := Lib.hid ha
      by_cases hb : b = 0
      · have hd : (b != 0) = false := by simp [hb]
        replace hb := Lib.hid hb
        go_wp2
        go_roundw
        case rel => exact ⟨rfl, .inr (.inr ⟨rfl, ha.out, hb.out⟩)⟩
        case measure => simp [intOf]
      · have hd : (b != 0) = true := by simp [hb]
        replace hb := Lib.hid hb
        go_wp2
        go_ret
        exact ⟨by rw [hi.out]; rfl, rfl⟩
    · have hi := Lib.hid (show R = 0 by rw [← hR.out, if_neg (by simp [ha]), hb])
      clear ha hb
      go_wp2
      go_ret
      exact ⟨by rw [hi.out]; rfl, rfl⟩
set_option maxRecDepth 100000 in
set_option maxHeartbeats 2000000 in
theorem dueCmp_any (x y : Int × Int) (W : World) : Calls Tryz.prog 81 #[.agg #[.int .i64 x.1, .int .i64 x.2], .agg #[.int .i64 y.1, .int .i64 y.2]] W fun e w' => e = .returned (.int .i64 (cmpDue x y)) ∧ ∃ q os', w' = grow (W.drewN q) os' := by
  obtain ⟨x1, x2⟩ := x
  obtain ⟨y1, y2⟩ := y
  have hc1 := fun W => Tryz.cmp_Compare_int x1 y1 W
  have hc2 := fun W => Tryz.cmp_Compare_int x2 y2 W
  unfold cmpDue
  simp only
  generalize Lib.compareInt x1 y1 = r1 at hc1 ⊢
  generalize Lib.compareInt x2 y2 = r2 at hc2 ⊢
  generalize hR : (if r1 ≠ 0 then r1 else r2) = R
  replace hR := Lib.hid hR
  have B1 := (Blk.new W 62 #[.int .i64 x1, .int .i64 x2]).alloc (.cells #[.int .i64 y1, .int .i64 y2] 62)
  have B2 := Blk.new2 W 62 62 #[.int .i64 x1, .int .i64 x2] #[.int .i64 y1, .int .i64 y2]
  have hos := Lib.hid (show (W.alloc (.cells #[.int .i64 x1, .int .i64 x2] 62)).alloc (.cells #[.int .i64 y1, .int .i64 y2] 62) = grow W (#[(.cells #[.int .i64 x1, .int .i64 x2] 62)] ++ #[(.cells #[.int .i64 y1, .int .i64 y2] 62)]) by rw [alloc_eq_grow, alloc_eq_grow, grow_grow])
  go_enter Tryz.func81, Tryz.ntmps81
  go_wp2_with fail
  generalize hW2 : (W.alloc (.cells #[.int .i64 x1, .int .i64 x2] 62)).alloc (.cells #[.int .i64 y1, .int .i64 y2] 62) = W2 at *
  have HS := Lib.hid (fun (w' : World) (hx : Ext W2 w') => (show w'.cell? ⟨W.heap.size, 0, none⟩ = some (.int .i64 x1) ∧ w'.cell? ⟨W.heap.size, 1, none⟩ = some (.int .i64 x2) ∧ w'.cell? ⟨W.heap.size + 1, 0, none⟩ = some (.int .i64 y1) ∧ w'.cell? ⟨W.heap.size + 1, 1, none⟩ = some (.int .i64 y2) from
    ⟨(B1.ext hx).cell 0, (B1.ext hx).cell 1, (B2.ext hx).cell 0, (B2.ext hx).cell 1⟩))
  obtain ⟨s0, s1, s2, s3⟩ := HS.out W2 (Ext.refl _)
  clear B1 B2 hW2
  go_region_held3 (fun w' => w'.cell? ⟨W.heap.size, 0, none⟩ = some (.int .i64 x1) ∧ w'.cell? ⟨W.heap.size, 1, none⟩ = some (.int .i64 x2) ∧ w'.cell? ⟨W.heap.size + 1, 0, none⟩ = some (.int .i64 y1) ∧ w'.cell? ⟨W.heap.size + 1, 1, none⟩ = some (.int .i64 y2))
    (with_reducible refine HS.out _ ?_; with_reducible repeat (first | exact Ext.refl _ | refine Ext.drew ?_ | refine Ext.alloc ?_ _))
    (first
    | (go_at_call 83; with_reducible refine (hc1 _).mono ?_; rintro e w1 ⟨rfl, rfl⟩)
    | (go_at_call 83; with_reducible refine (hc2 _).mono ?_; rintro e w1 ⟨rfl, rfl⟩)
    | (go_at_call 82; refine (cmpOr_any _ _ r1 r2 R hR.out _ (((Blk.new W2 3 #[.int .i64 r1, .int .i64 r2]).drew).cell 0) (((Blk.new W2 3 #[.int .i64 r1, .int .i64 r2]).drew).cell 1)).mono ?_; rintro e w1 ⟨rfl, rfl⟩))
  all_goals
    go_wp2_with fail
    go_ret
    refine ⟨rfl, 1, (#[(.cells #[.int .i64 x1, .int .i64 x2] 62)] ++ #[(.cells #[.int .i64 y1, .int .i64 y2] 62)]) ++ #[(.cells #[.int .i64 r1, .int .i64 r2] 3)], ?_⟩
    rw [hos.out, alloc_eq_grow, grow_grow, drew_grow]
    rfl
end Go.Proofs.YtokakpbpenndlaaGreatDoor

set_option linter.unusedVariables false
namespace Go.Proofs.YtokakpbpenndlaaGreatDoor
open Go.RowKit Go.Maps Go.Sort Go.Shelf

/-- Dues in their order. -/
def sortD (ss : List (Int × Int)) : List (Int × Int) := ss.mergeSort fun x y => !(ltOf cmpDue) y x
theorem sortD_perm (ss : List (Int × Int)) : (sortD ss).Perm ss := List.mergeSort_perm _ _
theorem sortD_len (ss : List (Int × Int)) : (sortD ss).length = ss.length := (sortD_perm ss).length_eq
theorem dueCl_len (ss : List (Int × Int)) : (dueCl ss).length = ss.length * 2 := flat_len (f := fun p : Int × Int => dueE p) (fun _ => rfl) ss
set_option maxHeartbeats 1000000 in
theorem dueSortFunc_any (blk cap : Nat) (ss : List (Int × Int)) (w : World) {cur : Array Value} (hb : w.heap[blk]? = some (.cells cur 62 (0, 0))) (hr : cur.toList.take (ss.length * 2) = dueCl ss) (hsz : ss.length < 4611686018427387904) :
    Calls Tryz.prog 125 #[.slice (some ⟨blk, 0, none⟩) ss.length cap, .func (.func 81) #[] #[]] w fun e w' => e = .returned (.tuple #[]) ∧ ∃ n os, w' = grow (putRow id (Sort.ahead w n) blk 0 (dueCl (sortD ss)).toArray) os := by
  have hH : HoldsK dueE 2 w blk 0 ss.toArray := by
    show Holds id w blk 0 (flatK dueE 2 ss.toArray)
    rw [due_flat]
    exact holds_id hb (by rw [dueCl_len]; exact hr)
  have eg : ∀ args w, (callFunc 81 args).run Tryz.prog w = .ok (.enter 81 args) w := enters_of Tryz.func81 (by kernel_rfl) rfl
  have hcmp : CmpLays Tryz.prog 81 #[] dueE 2 cmpDue blk 0 ss.toArray.size w := fun _ _ _ _ x y => dueCmp_any x y _
  have h := AnyQ.slices_SortFunc_total Tryz.dueSort 2 Tryz.isAgg62 Tryz.sizeOf62 dueE dueE_len dueE_one cmpDue swoDue 81 #[] blk 0 cap ss.toArray w eg hcmp hH (Array.getElem?_eq_some_iff.1 hb).1 (by simpa using hsz) totDue
  change Calls Tryz.prog 125 _ _ _ at h
  have e0 : ss.toArray.size = ss.length := by simp
  rw [e0] at h
  refine h.mono ?_
  rintro e w' ⟨rfl, n, os, rfl⟩
  refine ⟨rfl, n, os, ?_⟩
  show grow (putRow id (Sort.ahead w n) blk 0 (flatK dueE 2 (sortD ss).toArray)) os = _
  rw [due_flat]
theorem dueSortFunc_none (p : Option Addr) (cap : Nat) (fv : Value) (w : World) : Calls Tryz.prog 125 #[.slice p 0 cap, fv] w fun e w' => e = .returned (.tuple #[]) ∧ w' = w :=
  AnyF.slices_SortFunc_none Tryz.dueSort p cap fv w
set_option maxRecDepth 100000 in
set_option maxHeartbeats 1000000 in
theorem dueSorted_any (Bm b nn : Nat) (ks : List (Int × Int)) (w : World) (hBm : Bm < w.heap.size) (hm : w.cell? ⟨Bm, 0, none⟩ = some (.map (some b))) (hown : DueIs w b nn ks) (hN : nn ≤ maxLen) (hNb : nn * 16 ≤ 140737488355328) :
    Calls Tryz.prog 79 #[.func (.func 126) #[] #[.pointer (some ⟨Bm, 0, none⟩)], .func (.func 81) #[] #[]] w fun e w' =>
      ∃ v ss, e = .returned v ∧ DueAll ks ss ∧ w'.ownsRow w.heap.size 62 2 v ss.length (dueCl (sortD ss)) ∧ Ext w w' := by
  have hsz := hown.1.size_le
  have HC : Calls Tryz.prog 124 #[.func (.func 126) #[] #[.pointer (some ⟨Bm, 0, none⟩)]] w fun e w' => ∃ (v : Value) (ss : List (Int × Int)), e = .returned v ∧ (DueAll ks ss ∧ ss.length ≤ Maps.size (dueD ks)) ∧ w'.ownsRow w.heap.size 62 2 v ss.length (dueCl ss) ∧ (v = .slice none 0 0 ↔ ss = []) ∧ Below w.heap.size w w' :=
    callsIn_wide.1 (dueCollect_in Fence.wide 5 trivial trivial rfl (by omega) 126 #[.pointer (some ⟨Bm, 0, none⟩)] trivial (enters_of Tryz.func126 (by kernel_rfl) rfl) (fun ss => DueAll ks ss ∧ ss.length ≤ Maps.size (dueD ks)) (fun _ => True) (Maps.size (dueD ks)) (by omega) (by omega) w
      (dueKeys_stops Fence.wide 3 trivial rfl (by omega) Bm b nn ks w hBm hm hown))
  replace HC := Lib.hid HC
  clear hown hm
  go_enter Tryz.func79, Tryz.ntmps79
  go_wp2_with fail
  refine HC.out.mono ?_
  rintro e w1 ⟨v, ss, rfl, ⟨hS, hSl⟩, hrow, hnil, hb⟩
  rcases hrow.2 with ⟨rfl, hz⟩ | ⟨gb, cap, cur, rfl, hbase, hgb, r1, r2, r3, r4⟩
  · have hss : ss = [] := List.eq_nil_of_length_eq_zero hz
    subst hss
    go_wp2_with fail
    refine (dueSortFunc_none none 0 _ _).mono ?_
    rintro e w2 ⟨rfl, rfl⟩
    go_wp2_with fail
    go_ret
    exact ⟨.slice none 0 0, [], rfl, hS, by simpa [sortD] using hrow, hb⟩
  · have hS2 := Lib.hid (dueSortFunc_any gb cap ss w1 hgb r4 (by omega))
    go_wp2_with fail
    refine hS2.out.mono ?_
    rintro e w2 ⟨rfl, n, os, rfl⟩
    have hl : (dueCl (sortD ss)).length = ss.length * 2 := by rw [dueCl_len, sortD_len]
    have hx : Ext w (grow (putRow id (Sort.ahead w1 n) gb 0 (dueCl (sortD ss)).toArray) os) := Ext.grown hb (grownBy_putId _) (fun j hj => by cases hj; exact hbase)
    have ho : (grow (putRow id (Sort.ahead w1 n) gb 0 (dueCl (sortD ss)).toArray) os).ownsRow w.heap.size 62 2 (.slice (some ⟨gb, 0, none⟩) ss.length cap) ss.length (dueCl (sortD ss)) :=
      ⟨by rw [hl], .inr ⟨gb, cap, _, rfl, hbase, heap_putId _ hgb, r1, r2, by simp [putCells, r3], by rw [← hl]; exact take_putId cur _ (by rw [hl, r3]; exact Nat.mul_le_mul_right _ r1)⟩⟩
    generalize grow (putRow id (Sort.ahead w1 n) gb 0 (dueCl (sortD ss)).toArray) os = w2 at *
    clear hgb r1 r2 r3 r4 hS2 hrow
    go_wp2_with fail
    go_ret
    exact ⟨_, ss, rfl, hS, ho, hx⟩
end Go.Proofs.YtokakpbpenndlaaGreatDoor
