/-
  The reference's Read: the walk.
-/
import Derived.Test.YtokakpbpenndlaaGreatDoorRr40
import Derived.Test.YtokakpbpenndlaaGreatDoorRr36
import Derived.Deep.RegionHeld3
set_option linter.unusedVariables false
namespace Go.Proofs.YtokakpbpenndlaaGreatDoor
open Go.RowKit

theorem RdR.set {w : World} {g : Nat} {s : RS} (h : RdR w g s) {p : Addr} (hp : g < p.block) (u : Value) : RdR (w.setCell p u) g s := by
  obtain ⟨A, cap, hB, hr, hc, hm⟩ := h.ex
  exact ⟨⟨A, cap, hB.far (Nat.ne_of_lt hp) u, hr.keep fun b o hb => World.cell?_setCell_far _ _ _ _ (Nat.ne_of_gt (Nat.lt_trans hb hp)), hc, hm⟩, h.ok⟩
end Go.Proofs.YtokakpbpenndlaaGreatDoor

set_option linter.unusedVariables false
namespace Go.Proofs.YtokakpbpenndlaaGreatDoor
open Go.RowKit

/-- The block of an own row lies above its base. -/
theorem own_above {w : World} {base : Nat} {e : TypeId} {size n : Nat} {v : Value} {xs : List Value} (h : w.ownsRow base e size v n xs) : ∀ k, v.ownBlock = some k → base ≤ k := by
  intro k hk
  rcases h.2 with ⟨rfl, _⟩ | ⟨g, cap, cur, rfl, hg, _⟩
  · simp [Value.ownBlock] at hk
  · have : g = k := by simpa [Value.ownBlock] using hk
    omega
theorem own_types_ne {w : World} {base base' : Nat} {e e' : TypeId} {size size' n n' : Nat} {v v' : Value} {xs xs' : List Value} (h : w.ownsRow base e size v n xs) (h' : w.ownsRow base' e' size' v' n' xs') (hne : e ≠ e') : v.ownBlock = none ∨ v.ownBlock ≠ v'.ownBlock := by
  rcases h'.2 with ⟨rfl, _⟩ | ⟨g, cap, cur, rfl, hg, hh, _⟩
  · rcases h.2 with ⟨rfl, _⟩ | ⟨g, cap, cur, rfl, hg, _⟩
    · exact .inl rfl
    · exact .inr (by simp [Value.ownBlock])
  · exact .inr (own_blk_ne h hh hne)
theorem Blk.new2 (w : World) (t t' : TypeId) (cs cs' : Array Value) : Blk ((w.alloc (.cells cs t)).alloc (.cells cs' t')) (w.heap.size + 1) t' cs' := by
  have := Blk.new (w.alloc (.cells cs t)) t' cs'
  simpa using this
theorem lent_reads {V : World} {b : List UInt8} {gl : Nat} (h : Blk V gl 5 (bV (lentL b)).toArray) : Reads V V.heap.size 1 (some ⟨gl, 0, none⟩) b.length (bV b) :=
  ⟨by simp [bV], fun _ => ⟨gl, 0, rfl, h.lt, fun j u hu => by
    rw [Nat.zero_add, h.cell]
    have hj : j < b.length := by
      have := (List.getElem?_eq_some_iff.1 hu).1
      simpa [bV] using this
    rw [← hu]
    simp [bV, lentL, List.getElem?_append, hj]⟩⟩

end Go.Proofs.YtokakpbpenndlaaGreatDoor

set_option linter.unusedVariables false
namespace Go.Proofs.YtokakpbpenndlaaGreatDoor
open Go.RowKit Go.Maps Go.Sort Go.Shelf

def OrRel (w : World) (a b : Int) (i : Value) (wr : World) : Prop := wr = w ∧ (i = .int .i64 0 ∨ (i = .int .i64 1 ∧ a = 0) ∨ (i = .int .i64 2 ∧ a = 0 ∧ b = 0))
set_option maxRecDepth 100000 in
set_option maxHeartbeats 1000000 in
theorem cmpOr_any (g cc : Nat) (a b R : Int) (hR : (if a ≠ 0 then a else b) = R) (w : World) (h0 : w.cell? ⟨g, 0, none⟩ = some (.int .i64 a)) (h1 : w.cell? ⟨g, 1, none⟩ = some (.int .i64 b)) :
    Calls Tryz.prog 82 #[.slice (some ⟨g, 0, none⟩) 2 cc] w fun e w' => e = .returned (.int .i64 R) ∧ w' = w := by
  have v1 : IntKind.i64.wrap 1 = 1 := by decide
  have v2 : IntKind.i64.wrap 2 = 2 := by decide
  replace hR := Lib.hid hR
  go_enter Tryz.func82, Tryz.ntmps82
  go_wp2
  go_loopw [8] (fun i wr => OrRel w a b i wr) (fun i _ => 2 - (intOf i).toNat)
  case atStart => exact ⟨rfl, .inl rfl⟩
  case round =>
    obtain ⟨rfl, rfl | ⟨rfl, ha⟩ | ⟨rfl, ha, hb⟩⟩ := hrel
    · by_cases ha : a = 0
      · have hd : (a != 0) = false := by simp [ha]
        replace ha := Lib.hid ha
        go_wp2
        go_roundw
        case rel => exact ⟨rfl, .inr (.inl ⟨rfl, ha.out⟩)⟩
        case measure => simp [intOf]
      · have hd : (a != 0) = true := by simp [ha]
        have hi := Lib.hid (show R = a by rw [← hR.out, if_pos ha])
        replace ha := Lib.hid ha
        go_wp2
        go_ret
        exact ⟨by rw [hi.out]; rfl, rfl⟩
    · have hi := Lib.hid (show R = b by rw [← hR.out, if_neg (by simp [ha])])
      replace ha := Lib.hid ha
      by_cases hb : b = 0
      · have hd : (b != 0) = false := by simp [hb]
        replace hb := Lib.hid hb
        go_wp2
        go_roundw
        case rel => exact ⟨rfl, .inr (.inr ⟨rfl, ha.out, hb.out⟩)⟩
        case measure => simp [intOf]
      · have hd : (b != 0) = true := by simp [hb]
        replace hb := Lib.hid hb
        go_wp2
        go_ret
        exact ⟨by rw [hi.out]; rfl, rfl⟩
    · have hi := Lib.hid (show R = 0 by rw [← hR.out, if_neg (by simp [ha]), hb])
      clear ha hb
      go_wp2
      go_ret
      exact ⟨by rw [hi.out]; rfl, rfl⟩
set_option maxRecDepth 100000 in
set_option maxHeartbeats 2000000 in
theorem dueCmp_any (x y : Int × Int) (W : World) : Calls Tryz.prog 81 #[.agg #[.int .i64 x.1, .int .i64 x.2], .agg #[.int .i64 y.1, .int .i64 y.2]] W fun e w' => e = .returned (.int .i64 (cmpDue x y)) ∧ ∃ q os', w' = grow (W.drewN q) os' := by
  obtain ⟨x1, x2⟩ := x
  obtain ⟨y1, y2⟩ := y
  have hc1 := fun W => Tryz.cmp_Compare_int x1 y1 W
  have hc2 := fun W => Tryz.cmp_Compare_int x2 y2 W
  unfold cmpDue
  simp only
  generalize Lib.compareInt x1 y1 = r1 at hc1 ⊢
  generalize Lib.compareInt x2 y2 = r2 at hc2 ⊢
  generalize hR : (if r1 ≠ 0 then r1 else r2) = R
  replace hR := Lib.hid hR
  have B1 := (Blk.new W 62 #[.int .i64 x1, .int .i64 x2]).alloc (.cells #[.int .i64 y1, .int .i64 y2] 62)
  have B2 := Blk.new2 W 62 62 #[.int .i64 x1, .int .i64 x2] #[.int .i64 y1, .int .i64 y2]
  have hos := Lib.hid (show (W.alloc (.cells #[.int .i64 x1, .int .i64 x2] 62)).alloc (.cells #[.int .i64 y1, .int .i64 y2] 62) = grow W (#[(.cells #[.int .i64 x1, .int .i64 x2] 62)] ++ #[(.cells #[.int .i64 y1, .int .i64 y2] 62)]) by rw [alloc_eq_grow, alloc_eq_grow, grow_grow])
  go_enter Tryz.func81, Tryz.ntmps81
  go_wp2_with fail
  generalize hW2 : (W.alloc (.cells #[.int .i64 x1, .int .i64 x2] 62)).alloc (.cells #[.int .i64 y1, .int .i64 y2] 62) = W2 at *
  have HS := Lib.hid (fun (w' : World) (hx : Ext W2 w') => (show w'.cell? ⟨W.heap.size, 0, none⟩ = some (.int .i64 x1) ∧ w'.cell? ⟨W.heap.size, 1, none⟩ = some (.int .i64 x2) ∧ w'.cell? ⟨W.heap.size + 1, 0, none⟩ = some (.int .i64 y1) ∧ w'.cell? ⟨W.heap.size + 1, 1, none⟩ = some (.int .i64 y2) from
    ⟨(B1.ext hx).cell 0, (B1.ext hx).cell 1, (B2.ext hx).cell 0, (B2.ext hx).cell 1⟩))
  obtain ⟨s0, s1, s2, s3⟩ := HS.out W2 (Ext.refl _)
  clear B1 B2 hW2
  go_region_held3 (fun w' => w'.cell? ⟨W.heap.size, 0, none⟩ = some (.int .i64 x1) ∧ w'.cell? ⟨W.heap.size, 1, none⟩ = some (.int .i64 x2) ∧ w'.cell? ⟨W.heap.size + 1, 0, none⟩ = some (.int .i64 y1) ∧ w'.cell? ⟨W.heap.size + 1, 1, none⟩ = some (.int .i64 y2))
    (with_reducible refine HS.out _ ?_; with_reducible repeat (first | exact Ext.refl _ | refine Ext.drew ?_ | refine Ext.alloc ?_ _))
    (first
    | (go_at_call 83; with_reducible refine (hc1 _).mono ?_; rintro e w1 ⟨rfl, rfl⟩)
    | (go_at_call 83; with_reducible refine (hc2 _).mono ?_; rintro e w1 ⟨rfl, rfl⟩)
    | (go_at_call 82; refine (cmpOr_any _ _ r1 r2 R hR.out _ (((Blk.new W2 3 #[.int .i64 r1, .int .i64 r2]).drew).cell 0) (((Blk.new W2 3 #[.int .i64 r1, .int .i64 r2]).drew).cell 1)).mono ?_; rintro e w1 ⟨rfl, rfl⟩))
  all_goals
    go_wp2_with fail
    go_ret
    refine ⟨rfl, 1, (#[(.cells #[.int .i64 x1, .int .i64 x2] 62)] ++ #[(.cells #[.int .i64 y1, .int .i64 y2] 62)]) ++ #[(.cells #[.int .i64 r1, .int .i64 r2] 3)], ?_⟩
    rw [hos.out, alloc_eq_grow, grow_grow, drew_grow]
    rfl
end Go.Proofs.YtokakpbpenndlaaGreatDoor

set_option linter.unusedVariables false
namespace Go.Proofs.YtokakpbpenndlaaGreatDoor
open Go.RowKit Go.Maps Go.Sort Go.Shelf

/-- Dues in their order. -/
def sortD (ss : List (Int × Int)) : List (Int × Int) := ss.mergeSort fun x y => !(ltOf cmpDue) y x
theorem sortD_perm (ss : List (Int × Int)) : (sortD ss).Perm ss := List.mergeSort_perm _ _
theorem sortD_len (ss : List (Int × Int)) : (sortD ss).length = ss.length := (sortD_perm ss).length_eq
theorem dueCl_len (ss : List (Int × Int)) : (dueCl ss).length = ss.length * 2 := flat_len (f := fun p : Int × Int => dueE p) (fun _ => rfl) ss
set_option maxHeartbeats 1000000 in
theorem dueSortFunc_any (blk cap : Nat) (ss : List (Int × Int)) (w : World) {cur : Array Value} (hb : w.heap[blk]? = some (.cells cur 62 (0, 0))) (hr : cur.toList.take (ss.length * 2) = dueCl ss) (hsz : ss.length < 4611686018427387904) :
    Calls Tryz.prog 125 #[.slice (some ⟨blk, 0, none⟩) ss.length cap, .func (.func 81) #[] #[]] w fun e w' => e = .returned (.tuple #[]) ∧ ∃ n os, w' = grow (putRow id (Sort.ahead w n) blk 0 (dueCl (sortD ss)).toArray) os := by
  have hH : HoldsK dueE 2 w blk 0 ss.toArray := by
    show Holds id w blk 0 (flatK dueE 2 ss.toArray)
    rw [due_flat]
    exact holds_id hb (by rw [dueCl_len]; exact hr)
  have eg : ∀ args w, (callFunc 81 args).run Tryz.prog w = .ok (.enter 81 args) w := enters_of Tryz.func81 (by kernel_rfl) rfl
  have hcmp : CmpLays Tryz.prog 81 #[] dueE 2 cmpDue blk 0 ss.toArray.size w := fun _ _ _ _ x y => dueCmp_any x y _
  have h := AnyQ.slices_SortFunc_total Tryz.dueSort 2 Tryz.isAgg62 Tryz.sizeOf62 dueE dueE_len dueE_one cmpDue swoDue 81 #[] blk 0 cap ss.toArray w eg hcmp hH (Array.getElem?_eq_some_iff.1 hb).1 (by simpa using hsz) totDue
  change Calls Tryz.prog 125 _ _ _ at h
  have e0 : ss.toArray.size = ss.length := by simp
  rw [e0] at h
  refine h.mono ?_
  rintro e w' ⟨rfl, n, os, rfl⟩
  refine ⟨rfl, n, os, ?_⟩
  show grow (putRow id (Sort.ahead w n) blk 0 (flatK dueE 2 (sortD ss).toArray)) os = _
  rw [due_flat]
theorem dueSortFunc_none (p : Option Addr) (cap : Nat) (fv : Value) (w : World) : Calls Tryz.prog 125 #[.slice p 0 cap, fv] w fun e w' => e = .returned (.tuple #[]) ∧ w' = w :=
  AnyF.slices_SortFunc_none Tryz.dueSort p cap fv w
set_option maxRecDepth 100000 in
set_option maxHeartbeats 1000000 in
theorem dueSorted_any (Bm b nn : Nat) (ks : List (Int × Int)) (w : World) (hBm : Bm < w.heap.size) (hm : w.cell? ⟨Bm, 0, none⟩ = some (.map (some b))) (hown : DueIs w b nn ks) (hN : nn ≤ maxLen) (hNb : nn * 16 ≤ 140737488355328) :
    Calls Tryz.prog 79 #[.func (.func 126) #[] #[.pointer (some ⟨Bm, 0, none⟩)], .func (.func 81) #[] #[]] w fun e w' =>
      ∃ v ss, e = .returned v ∧ DueAll ks ss ∧ w'.ownsRow w.heap.size 62 2 v ss.length (dueCl (sortD ss)) ∧ Ext w w' := by
  have hsz := hown.1.size_le
  have HC : Calls Tryz.prog 124 #[.func (.func 126) #[] #[.pointer (some ⟨Bm, 0, none⟩)]] w fun e w' => ∃ (v : Value) (ss : List (Int × Int)), e = .returned v ∧ (DueAll ks ss ∧ ss.length ≤ Maps.size (dueD ks)) ∧ w'.ownsRow w.heap.size 62 2 v ss.length (dueCl ss) ∧ (v = .slice none 0 0 ↔ ss = []) ∧ Below w.heap.size w w' :=
    callsIn_wide.1 (dueCollect_in Fence.wide 5 trivial trivial rfl (by omega) 126 #[.pointer (some ⟨Bm, 0, none⟩)] trivial (enters_of Tryz.func126 (by kernel_rfl) rfl) (fun ss => DueAll ks ss ∧ ss.length ≤ Maps.size (dueD ks)) (fun _ => True) (Maps.size (dueD ks)) (by omega) (by omega) w
      (dueKeys_stops Fence.wide 3 trivial rfl (by omega) Bm b nn ks w hBm hm hown))
  replace HC := Lib.hid HC
  clear hown hm
  go_enter Tryz.func79, Tryz.ntmps79
  go_wp2_with fail
  refine HC.out.mono ?_
  rintro e w1 ⟨v, ss, rfl, ⟨hS, hSl⟩, hrow, hnil, hb⟩
  rcases hrow.2 with ⟨rfl, hz⟩ | ⟨gb, cap, cur, rfl, hbase, hgb, r1, r2, r3, r4⟩
  · have hss : ss = [] := List.eq_nil_of_length_eq_zero hz
    subst hss
    go_wp2_with fail
    refine (dueSortFunc_none none 0 _ _).mono ?_
    rintro e w2 ⟨rfl, rfl⟩
    go_wp2_with fail
    go_ret
    exact ⟨.slice none 0 0, [], rfl, hS, by simpa [sortD] using hrow, hb⟩
  · have hS2 := Lib.hid (dueSortFunc_any gb cap ss w1 hgb r4 (by omega))
    go_wp2_with fail
    refine hS2.out.mono ?_
    rintro e w2 ⟨rfl, n, os, rfl⟩
    have hl : (dueCl (sortD ss)).length = ss.length * 2 := by rw [dueCl_len, sortD_len]
    have hx : Ext w (grow (putRow id (Sort.ahead w1 n) gb 0 (dueCl (sortD ss)).toArray) os) := Ext.grown hb (grownBy_putId _) (fun j hj => by cases hj; exact hbase)
    have ho : (grow (putRow id (Sort.ahead w1 n) gb 0 (dueCl (sortD ss)).toArray) os).ownsRow w.heap.size 62 2 (.slice (some ⟨gb, 0, none⟩) ss.length cap) ss.length (dueCl (sortD ss)) :=
      ⟨by rw [hl], .inr ⟨gb, cap, _, rfl, hbase, heap_putId _ hgb, r1, r2, by simp [putCells, r3], by rw [← hl]; exact take_putId cur _ (by rw [hl, r3]; exact Nat.mul_le_mul_right _ r1)⟩⟩
    generalize grow (putRow id (Sort.ahead w1 n) gb 0 (dueCl (sortD ss)).toArray) os = w2 at *
    clear hgb r1 r2 r3 r4 hS2 hrow
    go_wp2_with fail
    go_ret
    exact ⟨_, ss, rfl, hS, ho, hx⟩
end Go.Proofs.YtokakpbpenndlaaGreatDoor

set_option linter.unusedVariables false
namespace Go.Proofs.YtokakpbpenndlaaGreatDoor
open Go.RowKit Go.Maps Go.Sort Go.Shelf

/-- What a jurisdiction's moves are due for. -/
noncomputable def dueM (j : Jur) (ms : List Mv) : List (Int × Int) := ms.map fun m => (j.id, ofI j.f m.day)
noncomputable def Bk.duesL (B : Bk) (l : List Jur) : List (Int × Int) := l.flatMap fun j => dueM j (B.moves j.id)
noncomputable def Bk.dues (B : Bk) (l : List Jur) : List (Int × Int) := if (checkJ l).1 ≠ 0 then [] else B.duesL l
theorem DueIs.ext {w w' : World} {B n : Nat} {ks : List (Int × Int)} (h : DueIs w B n ks) (hx : Ext w w') : DueIs w' B n ks := by
  obtain ⟨es, clock, hb, r⟩ := h.1
  exact ⟨⟨es, clock, by rw [hx.block B h.1.lt]; exact hb, r⟩, h.2⟩
theorem DueIs.snoc {w : World} {B n : Nat} {ks : List (Int × Int)} {p : Int × Int} (hp : i64 p.1 ∧ i64 p.2) (hk : ∀ q ∈ ks, i64 q.1 ∧ i64 q.2) (h : w.ownsMap Tryz.prog 62 (unitElem (H := Unit)) B n ((dueD ks).put (kl2 p) (.agg []))) : DueIs w B n (ks ++ [p]) := by
  refine ⟨?_, ?_⟩
  · show w.ownsMap _ _ _ _ _ (setOf (.agg []) ((ks ++ [p]).map kl2))
    rw [List.map_append, List.map_cons, List.map_nil, setOf_snoc]; exact h
  · intro q hq
    rcases List.mem_append.1 hq with hq | hq
    · exact hk q hq
    · rw [List.mem_singleton.1 hq]; exact hp
theorem DueIs.ne {w : World} {B n : Nat} {ks : List (Int × Int)} (h : DueIs w B n ks) {g : Nat} {t : TypeId} {cs : Array Value} (hb : Blk w g t cs) : g ≠ B := by
  rintro rfl
  obtain ⟨es, clock, hm, r⟩ := h.1
  have := hm.symm.trans hb
  simp at this
theorem DueIs.row_ne {w : World} {B n : Nat} {ks : List (Int × Int)} (h : DueIs w B n ks) {base : Nat} {e : TypeId} {size m : Nat} {v : Value} {xs : List Value} (ho : w.ownsRow base e size v m xs) : v.ownBlock = none ∨ v.ownBlock ≠ some B := by
  rcases ho.2 with ⟨rfl, _⟩ | ⟨g, cap, cur, rfl, _, hg, _⟩
  · exact .inl rfl
  · refine .inr fun e => ?_
    have e' : g = B := by simpa [Value.ownBlock] using e
    subst e'
    obtain ⟨es, clock, hm, r⟩ := h.1
    have := hm.symm.trans hg
    simp at this
theorem DueIs.made (w : World) : DueIs (w.alloc (.map #[] 0)) w.heap.size 0 [] := ⟨World.ownsMap_made _ _ _ _, by simp⟩
theorem of_i64 {f day : Int} (hf : 1 ≤ f ∧ f ≤ 4) (hd : 0 ≤ day ∧ day ≤ 3652058) : i64 (ofI f day) := by
  have h1 := monI_bd hd
  have h2 := longI_of hf
  unfold ofI i64
  rcases h2 with h | h | h | h <;> rw [h] <;> omega
/-- Where All's loop over the moves stands. -/
def AlIn (W : World) (mg g9 bse : Nat) (x : JV) (ks : List (Int × Int)) (ms : List Mv) (A7 : Option Addr) (c7 : Nat) (i : Value) (wr : World) : Prop :=
  ∃ k : Nat, k ≤ ms.length ∧ i = .int .i64 (k : Int) ∧ DueIs wr mg (ks.length + k) (ks ++ dueM x.j (ms.take k)) ∧ Ext W wr ∧ Blk wr g9 83 x.cl.toArray ∧ wr.ownsRow bse 85 6 (.slice A7 ms.length c7) ms.length (mvCells ms)
def AlOut (W : World) (mg : Nat) (B : Bk) (l : List JV) (i : Value) (wr : World) : Prop :=
  ∃ k : Nat, k ≤ l.length ∧ i = .int .i64 (k : Int) ∧ DueIs wr mg (B.duesL ((jsOf l).take k)).length (B.duesL ((jsOf l).take k)) ∧ Ext W wr
theorem duesL_take {B : Bk} {l : List JV} {k : Nat} (hk : k < l.length) : B.duesL ((jsOf l).take (k + 1)) = B.duesL ((jsOf l).take k) ++ dueM l[k].j (B.moves l[k].j.id) := by
  unfold Bk.duesL
  rw [List.take_succ_eq_append_getElem (by rw [jsOf_len]; exact hk), List.flatMap_append]
  simp [jsOf]
theorem dueM_take {j : Jur} {ms : List Mv} {k : Nat} (hk : k < ms.length) : dueM j (ms.take (k + 1)) = dueM j (ms.take k) ++ [(j.id, ofI j.f ms[k].day)] := by
  unfold dueM
  rw [List.take_succ_eq_append_getElem hk, List.map_append]
  rfl
theorem duesL_len {B : Bk} (hs : B.small) (l : List Jur) : (B.duesL l).length ≤ l.length * (6400 * B.length) := by
  unfold Bk.duesL
  induction l with
  | nil => simp
  | cons j l ih =>
    rw [List.flatMap_cons, List.length_append, List.length_cons, Nat.add_mul]
    have := moves_le hs j.id
    have h2 : (dueM j (B.moves j.id)).length = (B.moves j.id).length := by simp [dueM]
    omega
set_option maxRecDepth 100000 in
set_option maxHeartbeats 4000000 in
theorem rall_any {w0 W : World} {bb mb : Nat} {vids : Value} {M : BkM} (h : BookAt w0 W bb mb vids M) (hml : M.length ≤ 100000) (hs : M.b.small) (h3 : M.b.b3)
    (l : List JV) (A : Option Addr) (cap : Nat) (hr : Reads W W.heap.size 5 A l.length (jvCells l)) (hm : l.length ≤ maxLen) :
    Calls Tryz.prog 31 #[.pointer (some ⟨bb, 0, none⟩), .slice A l.length cap] W fun e w' => ∃ v ss, e = .returned v ∧ DueAll (M.b.dues (jsOf l)) ss ∧ w'.ownsRow W.heap.size 62 2 v ss.length (dueCl (sortD ss)) ∧ Ext W w' := by
  have HB := Lib.hid h
  have HR := Lib.hid (fun W' (hx : Ext W W') => hr.ext hx)
  have HJA := Lib.hid (fun k (hk : k < l.length) => jv_at hr hk)
  have HC := Lib.hid (jcheck_any l A cap W hr hm)
  have hD : M.b.dues (jsOf l) = if (checkJ (jsOf l)).1 ≠ 0 then [] else M.b.duesL (jsOf l) := rfl
  rw [hD]
  clear hD h hr hm
  by_cases h0 : (checkJ (jsOf l)).1 = 0
  case neg =>
    rw [if_pos h0]
    have hb : ((checkJ (jsOf l)).1 != 0) = true := by simpa using h0
    replace h0 := Lib.hid h0
    generalize checkJ (jsOf l) = C at *
    clear HJA
    go_enter Tryz.func31, Tryz.ntmps31
    go_wp2_with fail
    refine HC.out.mono ?_
    rintro e w1 ⟨rfl, hx⟩
    go_wp2_with fail
    go_ret
    exact ⟨.slice none 0 0, [], rfl, ⟨List.nodup_nil, fun p => Iff.rfl⟩, by simpa [sortD, dueCl] using World.ownsRow_nil w1 W.heap.size 62 2, hx⟩
  rw [if_neg (by simp [h0])]
  obtain ⟨hl64, hJ, _⟩ := checkJ_ok h0
  rw [jsOf_len] at hl64
  have HJb := Lib.hid (fun k (hk : k < l.length) => (show (1 ≤ l[k].j.id ∧ l[k].j.id ≤ 1099511627775) ∧ (1 ≤ l[k].j.f ∧ l[k].j.f ≤ 4) from by
    have := hJ k (by rw [jsOf_len]; exact hk)
    rwa [jsOf_at l k hk] at this))
  have hb : ((checkJ (jsOf l)).1 != 0) = false := by simp [h0]
  have HDl := Lib.hid (fun (js : List Jur) => duesL_len hs js)
  have hbl : M.b.length ≤ 100000 := by rw [BkM.len_b]; exact hml
  replace h0 := Lib.hid h0
  clear hJ
  generalize hCq : checkJ (jsOf l) = C at *
  clear hCq
  go_enter Tryz.func31, Tryz.ntmps31
  go_wp2_with fail
  refine HC.out.mono ?_
  rintro e w1 ⟨rfl, X1⟩
  go_wp2_with fail
  refine (rnone_any (HB.out.ext X1)).mono ?_
  rintro e w2 ⟨rfl, hx2⟩
  have X2 := X1.trans hx2
  clear X1 hx2 HC
  have hmm := @run_makeMap Tryz.prog
  go_wp2_with fail
  have D3 := DueIs.made w2
  have X3 := X2.alloc (.map #[] 0)
  have hmg : W.heap.size ≤ w2.heap.size := X2.size
  clear X2
  generalize w2.heap.size = mg at *
  generalize w2.alloc (.map #[] 0) = w3 at *
  go_loopw [28] (fun i wr => AlOut W mg M.b l i wr) (fun i _ => l.length - (intOf i).toNat)
  case atStart => exact ⟨0, by omega, rfl, D3, X3⟩
  clear D3 X3
  case round =>
    obtain ⟨k, hk, rfl, hDu, hX⟩ := hrel
    by_cases hlt : k < l.length
    · have hd : decide ((k : Int) < (l.length : Int)) = true := by simp; omega
      have kl : (k : Int) < (l.length : Int) := by omega
      have kz : (0 : Int) ≤ (k : Int) := by omega
      obtain ⟨g, off, rfl, hg, hc⟩ := HJA.out k hlt
      obtain ⟨c0, c1, c2, c3, c4⟩ := hc wr hX
      obtain ⟨⟨j1, j2⟩, jf⟩ := HJb.out k hlt
      have HT := Lib.hid (duesL_take (B := M.b) hlt)
      have HL := Lib.hid (HDl.out ((jsOf l).take k))
      clear hc
      have hmbd := moves_bd h3 (fun y hy => by obtain ⟨q, hq, rfl⟩ := List.mem_map.1 hy; exact HB.out.ok q hq) (j := l[k].j.id)
      have hml2 : (M.b.moves l[k].j.id).length ≤ 640000000 := by have := moves_le hs l[k].j.id; omega
      have hkl : (M.b.duesL ((jsOf l).take k)).length ≤ 64 * 640000000 := by
        have h1 := HL.out
        have h2 : ((jsOf l).take k).length ≤ 64 := by rw [List.length_take]; omega
        have h3 : ((jsOf l).take k).length * (6400 * M.b.length) ≤ 64 * 640000000 := Nat.mul_le_mul h2 (by omega)
        omega
      generalize l[k] = x at *
      have X9 := (Ext.refl wr).alloc (.cells #[.int .i64 x.j.id, .int .i64 x.j.k, .int .i64 x.j.par, .int .i64 x.j.f, .slice x.A x.n x.c] 83)
      have B9 := Blk.new wr 83 #[.int .i64 x.j.id, .int .i64 x.j.k, .int .i64 x.j.par, .int .i64 x.j.f, .slice x.A x.n x.c]
      have HMV := Lib.hid (moves_any (HB.out.ext (hX.trans X9)) x.j.id hml hs)
      generalize M.b.duesL ((jsOf l).take k) = ks at *
      generalize M.b.moves x.j.id = ms at *
      replace hmbd := Lib.hid hmbd
      have D9 := hDu.ext X9
      have hX9 := hX.trans X9
      clear hDu hX X9 HL
      go_wp2_with fail
      generalize wr.alloc (.cells #[.int .i64 x.j.id, .int .i64 x.j.k, .int .i64 x.j.par, .int .i64 x.j.f, .slice x.A x.n x.c] 83) = w4 at *
      generalize wr.heap.size = g9 at *
      refine HMV.out.mono ?_
      rintro e w5 ⟨A7, c7, rfl, ho5, hx5⟩
      have H0 := Lib.hid (show AlIn W mg g9 w4.heap.size x ks ms A7 c7 (.int .i64 ((0 : Nat) : Int)) w5 from ⟨0, by omega, rfl, by simpa [dueM] using D9.ext hx5, hX9.trans hx5, B9.ext hx5, ho5⟩)
      clear HMV D9 hX9 B9 ho5 hx5 c0 c1 c2 c3 c4
      go_wp2_with fail
      go_loopw [37] (fun v wr => AlIn W mg g9 w4.heap.size x ks ms A7 c7 v wr) (fun v _ => ms.length - (intOf v).toNat)
      case atStart => exact H0.out
      case round =>
        clear H0
        obtain ⟨m, hm, rfl, hDu, hX, hB9, ho⟩ := hrel
        by_cases hltm : m < ms.length
        · have hdm : decide ((m : Int) < (ms.length : Int)) = true := by simp; omega
          have ml : (m : Int) < (ms.length : Int) := by omega
          have mz : (0 : Int) ≤ (m : Int) := by omega
          obtain ⟨ga, oa, rfl, hga, a0, a1, a2, a3, a4, a5⟩ := mv_at (Reads.of_own ho) hltm
          obtain ⟨_, hday⟩ := hmbd.out _ (List.getElem_mem hltm)
          have HDT := Lib.hid (dueM_take (j := x.j) hltm)
          generalize ms[m] = y at *
          obtain ⟨r, r'⟩ := hB9.cells
          have X10 := (Ext.refl wr).alloc (.cells #[.int .i64 y.id, .int .i64 y.day, .bool y.back, .int .i64 y.t, .int .i64 y.x, .int .i64 y.v] 85)
          have B10 := Blk.new wr 85 #[.int .i64 y.id, .int .i64 y.day, .bool y.back, .int .i64 y.t, .int .i64 y.x, .int .i64 y.v]
          have hof := of_i64 jf hday
          have HP := Lib.hid (pof_any x.j.f y.day jf hday)
          have hidd : i64 x.j.id := by unfold i64; omega
          have hkey := keyDue x.j.id (ofI x.j.f y.day) hidd hof
          unfold dueV at hkey
          simp only at hkey
          have hB9l := hB9.lt
          simp only [JV.cl] at r
          go_wp2_with fail
          generalize wr.alloc (.cells #[.int .i64 y.id, .int .i64 y.day, .bool y.back, .int .i64 y.t, .int .i64 y.x, .int .i64 y.v] 85) = w6 at *
          generalize wr.heap.size = g11 at *
          refine (HP.out w6).mono ?_
          rintro e w7 ⟨rfl, hx7⟩
          have X7 := X10.trans hx7
          have D7 := hDu.ext X7
          have B7 := hB9.ext X7
          have O7 := own_ext ho X7
          have hX7 := hX.trans X7
          clear hDu hB9 ho hX X10 B10 hx7 X7 r r' a0 a1 a2 a3 a4 a5 HP
          obtain ⟨r, r'⟩ := B7.cells
          simp only [JV.cl] at r
          generalize ofI x.j.f y.day = of_ at *
          replace hkey := Lib.hid hkey
          replace HDT := Lib.hid HDT
          have hn : ks.length + m < maxLen := by unfold maxLen; omega
          have HD7 := Lib.hid D7
          clear D7
          go_wp2_with (at_mapUpdate; refine wpList_mapUpdate_own _ rfl _ _ _ 146 rfl 62 147 lawDue Tryz.underlying146 _ mg (ks.length + m) _ rfl HD7.out.1 hn _ _ _ rfl rfl hkey.out (.agg []) [] unitElem_mk ?_; intro w8 hown8 hgrow8)
          go_roundw
          case rel =>
            refine ⟨m + 1, by omega, rfl, ?_, hX7.grown hgrow8 (fun j e => by cases e; exact hmg), (hgrow8.block g9 B7.lt (fun e => HD7.out.ne B7 (by simpa using e))).trans B7, O7.kept hgrow8 (HD7.out.row_ne O7)⟩
            rw [HDT.out.out, ← List.append_assoc]
            exact DueIs.snoc (p := (x.j.id, of_)) ⟨hidd, hof⟩ HD7.out.2 hown8
          case measure => simp [intOf]; omega
        · obtain rfl : m = ms.length := by omega
          have hdm : decide ((ms.length : Int) < (ms.length : Int)) = false := by simp
          rw [List.take_length] at hDu
          have hlen : (ks ++ dueM x.j ms).length = ks.length + ms.length := by simp [dueM]
          go_wp2_with fail
          go_roundw
          case rel => exact ⟨k + 1, by omega, rfl, by rw [HT.out, hlen]; exact hDu, hX⟩
          case measure => simp [intOf]; omega
    · obtain rfl : k = l.length := by omega
      have hd : decide ((l.length : Int) < (l.length : Int)) = false := by simp
      have hjl : (jsOf l).take l.length = jsOf l := by rw [← jsOf_len l, List.take_length]
      rw [hjl] at hDu
      have hkl : (M.b.duesL (jsOf l)).length ≤ 64 * 640000000 := by
        have h1 := HDl.out (jsOf l)
        rw [jsOf_len] at h1
        have h3 : l.length * (6400 * M.b.length) ≤ 64 * 640000000 := Nat.mul_le_mul hl64 (by omega)
        omega
      have HK := Lib.hid (dueKeys_in Fence.wide 5 trivial rfl (some mg) wr)
      have BK := Blk.new wr 146 #[.map (some mg)]
      have XK := (Ext.refl wr).alloc (.cells #[.map (some mg)] 146)
      have HSo := Lib.hid (dueSorted_any wr.heap.size mg _ (M.b.duesL (jsOf l)) (wr.alloc (.cells #[.map (some mg)] 146)) BK.lt (BK.cell 0) (hDu.ext XK) (by unfold maxLen; omega) (by omega))
      have hX2 := hX.trans XK
      clear BK XK hDu
      go_wp2_with fail
      refine (callsIn_wide.1 HK.out).mono ?_
      rintro e w5 ⟨rfl, rfl⟩
      go_wp2_with fail
      refine HSo.out.mono ?_
      rintro e w6 ⟨v, ss, rfl, hS, ho, hx6⟩
      go_wp2_with fail
      go_ret
      exact ⟨v, ss, rfl, hS, own_base ho hX2.size, hX2.trans hx6⟩
end Go.Proofs.YtokakpbpenndlaaGreatDoor
