/-
  slices.SortedFunc of dues: what the iterator gave, sorted by jurisdiction and period.
-/
import Derived.Test.YtokakpbpenndlaaGreatDoorRs28
import Derived.Test.YtokakpbpenndlaaGreatDoorRs29
import Derived.Test.YtokakpbpenndlaaGreatDoorRs30
import Derived.Test.YtokakpbpenndlaaGreatDoorRs37
import Derived.Test.YtokakpbpenndlaaGreatDoorRs26
set_option linter.unusedVariables false
namespace Go.Proofs.YtokakpbpenndlaaGreatDoor
open Go.RowKit Go.Maps Go.Sort Go.Shelf

def dueE (p : Int × Int) : List Value := [.int .i64 p.1, .int .i64 p.2]
theorem dueE_len (p : Int × Int) : (dueE p).length = 2 := rfl
theorem dueE_one (p : Int × Int) : ∀ v ∈ dueE p, v.oneCell' = true := by
  intro v hv
  simp [dueE] at hv
  rcases hv with rfl | rfl <;> rfl
theorem due_flat (d : List (Int × Int)) : flatK dueE 2 d.toArray = (dueCl d).toArray := by
  apply Array.toList_inj.1
  apply List.ext_getElem?
  intro t
  have hl : (dueCl d).length = d.length * 2 := flat_len (f := fun p : Int × Int => dueE p) (fun _ => rfl) d
  by_cases ht : t < d.length * 2
  · have hk : t / 2 < d.length := by omega
    have h1 := flat_get (f := fun p : Int × Int => dueE p) (c := 2) (fun _ => rfl) d (t / 2) (t % 2) hk (by omega)
    rw [show t / 2 * 2 + t % 2 = t by omega] at h1
    rw [show (dueCl d).toArray.toList[t]? = (dueCl d)[t]? by simp]
    have h2 := get_flatK dueE 2 d.toArray t (by simpa using ht)
    have hs : t < (flatK dueE 2 d.toArray).size := by simpa using ht
    rw [getElem!_pos _ t hs] at h2
    rw [Array.getElem?_toList, Array.getElem?_eq_getElem hs, h2]
    rw [show dueCl d = d.flatMap (fun p : Int × Int => dueE p) from rfl, h1]
    have e1 : d.toArray[t / 2]! = d[t / 2] := by simp [hk]
    rw [e1]
    rcases (by omega : t % 2 = 0 ∨ t % 2 = 1) with e | e <;> rw [e] <;> rfl
  · rw [List.getElem?_eq_none (by simp; omega), List.getElem?_eq_none (by simp; omega)]
theorem holds_id {w : World} {g : Nat} {cur : Array Value} {e : TypeId} {xs : List Value} (hb : w.heap[g]? = some (.cells cur e (0, 0))) (ht : cur.toList.take xs.length = xs) : Holds id w g 0 xs.toArray := by
  intro j hj
  have hj' : j < xs.length := by simpa using hj
  refine ⟨?_, by simp [World.frozen?, hb]⟩
  have h1 : (cur.toList.take xs.length)[j]? = xs[j]? := by rw [ht]
  rw [List.getElem?_take_of_lt hj'] at h1
  simp only [World.cell?, hb, Nat.zero_add]
  simp only [Option.isSome_none, Bool.false_eq_true, if_false]
  rw [← Array.getElem?_toList, h1]
  simp [hj']
theorem heap_putId {w : World} {g n : Nat} {os : Array Obj} {cur : Array Value} {e : TypeId} {fr : Nat × Nat} (d : Array Value) (hb : w.heap[g]? = some (.cells cur e fr)) :
    (grow (putRow id (Sort.ahead w n) g 0 d) os).heap[g]? = some (.cells (putCells id 0 d cur) e fr) := by
  have hg : g < w.heap.size := (Array.getElem?_eq_some_iff.1 hb).1
  rw [heap_grow_old _ _ (by simpa using hg)]
  simp [putRow, mapBlock, Sort.ahead, Array.getElem?_modify, hb, onCells]
theorem grownBy_putId {w : World} {g n : Nat} {os : Array Obj} (d : Array Value) : w.grownBy (grow (putRow id (Sort.ahead w n) g 0 d) os) (some g) := by
  refine ⟨rfl, rfl, rfl, by simp, fun k hk hne => ?_⟩
  rw [heap_grow_old _ _ (by simpa using hk)]
  have : g ≠ k := fun e => hne (by rw [e])
  simp [putRow, mapBlock, Sort.ahead, Array.getElem?_modify, this]
theorem take_putId (cur : Array Value) (ts : List Value) (h : ts.length ≤ cur.size) : (putCells id 0 ts.toArray cur).toList.take ts.length = ts := by
  apply List.ext_getElem?
  intro j
  by_cases hj : j < ts.length
  · rw [List.getElem?_take_of_lt hj, Array.getElem?_toList]
    simp [putCells, hj, show j < cur.size by omega]
  · rw [List.getElem?_take_eq_none (by omega), List.getElem?_eq_none (by omega)]

/-- The order of dues. -/
def cmpDue (x y : Int × Int) : Int := if Lib.compareInt x.1 y.1 ≠ 0 then Lib.compareInt x.1 y.1 else Lib.compareInt x.2 y.2
def ltDue (x y : Int × Int) : Bool := decide (x.1 < y.1) || (decide (x.1 = y.1) && decide (x.2 < y.2))
theorem cmp_lt (x y : Int × Int) : ltOf cmpDue x y = ltDue x y := by
  unfold ltOf cmpDue ltDue Lib.compareInt
  by_cases h1 : x.1 < y.1
  · simp [h1]
  · by_cases h2 : y.1 < x.1
    · have : ¬ x.1 = y.1 := by omega
      simp [h1, h2, this]
    · have : x.1 = y.1 := by omega
      by_cases h3 : x.2 < y.2
      · simp [this, h3]
      · by_cases h4 : y.2 < x.2 <;> simp [this, h3, h4]
theorem swoDue : SWO (ltOf cmpDue) where
  irrefl x := by rw [cmp_lt]; simp [ltDue]
  trans x y z h1 h2 := by rw [cmp_lt] at *; simp [ltDue] at *; omega
  ntrans x y z h1 h2 := by rw [cmp_lt] at *; simp [ltDue] at *; omega
theorem totDue (x y : Int × Int) (h1 : ltOf cmpDue x y = false) (h2 : ltOf cmpDue y x = false) : x = y := by
  rw [cmp_lt] at h1 h2
  simp [ltDue] at h1 h2
  obtain ⟨a, b⟩ := x
  obtain ⟨c, d⟩ := y
  simp at h1 h2 ⊢
  omega
end Go.Proofs.YtokakpbpenndlaaGreatDoor

set_option linter.unusedVariables false
namespace Go.Proofs.YtokakpbpenndlaaGreatDoor
open Go.RowKit

/-- Block g is a reader of the reference that stands as s. -/
structure RdR (w : World) (g : Nat) (s : RS) : Prop where
  ex : ∃ A cap, Blk w g 104 #[.slice A s.b.length cap, .int .i64 (s.at_ : Int), .int .i64 s.fe, .int .i64 (s.fa : Int)] ∧ Reads w g 1 A s.b.length (bV s.b) ∧ s.b.length ≤ cap ∧ cap ≤ maxLen
  ok : s.ok
theorem RdR.lt {w : World} {g : Nat} {s : RS} (h : RdR w g s) : g < w.heap.size := by obtain ⟨A, cap, hB, _⟩ := h.ex; exact hB.lt
theorem RdR.ext {w w' : World} {g : Nat} {s : RS} (h : RdR w g s) (hx : Ext w w') : RdR w' g s := by
  obtain ⟨A, cap, hB, hr, hc, hm⟩ := h.ex
  exact ⟨⟨A, cap, hB.ext hx, hr.extB (Nat.le_of_lt hB.lt) hx, hc, hm⟩, h.ok⟩
def rrCells (A : Option Addr) (n cap at_ : Nat) (fe : Int) (fa : Nat) : Array Value := #[.slice A n cap, .int .i64 (at_ : Int), .int .i64 fe, .int .i64 (fa : Int)]
theorem RdR.upd {w w' : World} {g : Nat} {s s' : RS} (h : RdR w g s) (hg : w.grownBy w' (some g)) (hb : s'.b = s.b) (hok : s'.ok)
    (hB : ∀ A cap, Blk w g 104 (rrCells A s.b.length cap s.at_ s.fe s.fa) → Blk w' g 104 (rrCells A s.b.length cap s'.at_ s'.fe s'.fa)) : RdR w' g s' := by
  obtain ⟨A, cap, hB', hr, hc, hm⟩ := h.ex
  refine ⟨⟨A, cap, by rw [hb]; exact hB A cap hB', ?_, by rw [hb]; exact hc, hm⟩, hok⟩
  rw [hb]
  exact hr.keep fun b o hlt => World.cell?_of_block (a := ⟨b, o, none⟩) (hg.block b (Nat.lt_trans hlt hB'.lt) (fun e => by have := Option.some.inj e; omega))
theorem RdR.at_ {w : World} {g : Nat} {s : RS} (h : RdR w g s) : w.cell? ⟨g, 1, none⟩ = some (.int .i64 (s.at_ : Int)) := by
  obtain ⟨A, cap, hB', hr, hc, hm⟩ := h.ex
  exact hB'.cell 1
theorem RdR.fe {w : World} {g : Nat} {s : RS} (h : RdR w g s) : w.cell? ⟨g, 2, none⟩ = some (.int .i64 s.fe) := by
  obtain ⟨A, cap, hB', hr, hc, hm⟩ := h.ex
  exact hB'.cell 2
theorem RdR.fa {w : World} {g : Nat} {s : RS} (h : RdR w g s) : w.cell? ⟨g, 3, none⟩ = some (.int .i64 (s.fa : Int)) := by
  obtain ⟨A, cap, hB', hr, hc, hm⟩ := h.ex
  exact hB'.cell 3
theorem RdR.bytes {w : World} {g : Nat} {s : RS} (h : RdR w g s) : ∃ A cap, w.cell? ⟨g, 0, none⟩ = some (.slice A s.b.length cap) := by
  obtain ⟨A, cap, hB', hr, hc, hm⟩ := h.ex
  exact ⟨A, cap, hB'.cell 0⟩
theorem RdR.frz {w : World} {g : Nat} {s : RS} (h : RdR w g s) (i : Nat) : w.frozen? ⟨g, i, none⟩ = false := by
  obtain ⟨A, cap, hB', hr, hc, hm⟩ := h.ex
  exact hB'.frozen i

theorem num3 (s : RS) (lo hi above : Int) (h0 : s.fe = 0) (ha : above ≠ 0) :
    ((getN s.b s.at_).fe ≠ 0 → s.num lo hi above = (0, { s with fe := (getN s.b s.at_).fe, fa := (getN s.b s.at_).fa })) ∧
    ((getN s.b s.at_).fe = 0 → hi < (getN s.b s.at_).n → s.num lo hi above = (0, { s with fe := above, fa := s.at_ })) ∧
    ((getN s.b s.at_).fe = 0 → (getN s.b s.at_).n ≤ hi → (getN s.b s.at_).n < lo → s.num lo hi above = (0, { s with fe := 5, fa := s.at_ })) ∧
    ((getN s.b s.at_).fe = 0 → lo ≤ (getN s.b s.at_).n → (getN s.b s.at_).n ≤ hi → s.num lo hi above = ((getN s.b s.at_).n, { s with at_ := (getN s.b s.at_).next })) := by
  unfold RS.num
  rw [if_neg (by simpa using h0)]
  simp only
  refine ⟨fun h => by rw [if_pos h], fun h h1 => by rw [if_neg (by simpa using h), if_pos h1], fun h h1 h2 => by rw [if_neg (by simpa using h), if_neg (by omega), if_pos h2], fun h h1 h2 => by rw [if_neg (by simpa using h), if_neg (by omega), if_neg (by omega)]⟩
theorem num5 {s : RS} {lo hi : Int} {G : Got} (h : (G.fe ≠ 0 → s.num lo hi 5 = (0, { s with fe := G.fe, fa := G.fa })) ∧ (G.fe = 0 → hi < G.n → s.num lo hi 5 = (0, { s with fe := 5, fa := s.at_ })) ∧
    (G.fe = 0 → G.n ≤ hi → G.n < lo → s.num lo hi 5 = (0, { s with fe := 5, fa := s.at_ })) ∧ (G.fe = 0 → lo ≤ G.n → G.n ≤ hi → s.num lo hi 5 = (G.n, { s with at_ := G.next }))) (h0 : G.fe = 0) (h1 : G.n < lo ∨ hi < G.n) : s.num lo hi 5 = (0, { s with fe := 5, fa := s.at_ }) := by
  by_cases h2 : hi < G.n
  · exact h.2.1 h0 h2
  · exact h.2.2.1 h0 (by omega) (by omega)
theorem Blk.drew {w : World} {g : Nat} {t : TypeId} {cs : Array Value} (h : Blk w g t cs) : Blk w.drew g t cs := h
theorem rend_bad {s : RS} {lo hi above : Int} {g : Nat} {w wz : World} {e : Int} {a : Nat} (h : RdR w g s) (hn : s.num lo hi above = (0, { s with fe := e, fa := a })) (hx : Ext w wz) :
    Ending.returned (.int .i64 0) = .returned (.int .i64 (s.num lo hi above).1) ∧ RdR ((wz.setCell ⟨g, 2, none⟩ (.int .i64 e)).setCell ⟨g, 3, none⟩ (.int .i64 (a : Int))) g (s.num lo hi above).2 ∧
      w.grownBy ((wz.setCell ⟨g, 2, none⟩ (.int .i64 e)).setCell ⟨g, 3, none⟩ (.int .i64 (a : Int))) (some g) := by
  have hok := RS.num_ok h.ok lo hi above
  rw [hn] at hok ⊢
  have GB := only_set (only_set (only_ext (World.grownBy.refl w (some g)) hx) (p := ⟨g, 2, none⟩) (.inl rfl) (.int .i64 e)) (p := ⟨g, 3, none⟩) (.inl rfl) (.int .i64 (a : Int))
  exact ⟨rfl, h.upd (s' := { s with fe := e, fa := a }) GB rfl hok.1 fun A cap B => ((B.ext hx).set_ 2 _).set_ 3 _, GB⟩
theorem rend_ok {s : RS} {lo hi above n : Int} {g : Nat} {w wz : World} {next : Nat} (h : RdR w g s) (hn : s.num lo hi above = (n, { s with at_ := next })) (hx : Ext w wz) :
    Ending.returned (.int .i64 n) = .returned (.int .i64 (s.num lo hi above).1) ∧ RdR (wz.setCell ⟨g, 1, none⟩ (.int .i64 (next : Int))) g (s.num lo hi above).2 ∧
      w.grownBy (wz.setCell ⟨g, 1, none⟩ (.int .i64 (next : Int))) (some g) := by
  have hok := RS.num_ok h.ok lo hi above
  rw [hn] at hok ⊢
  have GB := only_set (only_ext (World.grownBy.refl w (some g)) hx) (p := ⟨g, 1, none⟩) (.inl rfl) (.int .i64 (next : Int))
  exact ⟨rfl, h.upd (s' := { s with at_ := next }) GB rfl hok.1 fun A cap B => (B.ext hx).set_ 1 _, GB⟩

set_option maxRecDepth 100000 in
set_option maxHeartbeats 1000000 in
theorem rint_any (s : RS) (lo hi : Int) (g : Nat) (w : World) (h : RdR w g s) :
    Calls Tryz.prog 53 #[.pointer (some ⟨g, 0, none⟩), .int .i64 lo, .int .i64 hi] w fun e w' =>
      e = .returned (.int .i64 (s.num lo hi 5).1) ∧ RdR w' g (s.num lo hi 5).2 ∧ w.grownBy w' (some g) := by
  have hg := h.lt
  have d2 := h.fe
  have d3 := h.fa
  have d1 := h.at_
  have f1 := h.frz 1
  have f2 := h.frz 2
  have f3 := h.frz 3
  have HK := Lib.hid h
  by_cases hs : s.fe = 0
  case neg =>
    have hb : (s.fe != 0) = true := by simp [hs]
    clear h
    go_enter Tryz.func53, Tryz.ntmps53
    go_wp2
    go_ret
    exact ⟨by rw [RS.num_sticky hs]; rfl, by rw [RS.num_sticky hs]; exact HK.out, World.grownBy.refl _ _⟩
  case pos =>
    obtain ⟨A, cap, hB, hr, hc, hm⟩ := h.ex
    have hok1 := h.ok.1
    have d0 : w.cell? ⟨g, 0, none⟩ = some (.slice A s.b.length cap) := hB.cell 0
    have RR := Lib.hid (fun (W : World) (hx : Ext w W) => (hr.more (Nat.le_of_lt hB.lt)).ext hx)
    have hfe : (s.fe != 0) = false := by simp [hs]
    clear hr hB h
    have HN := Lib.hid (num3 s lo hi 5 hs (by decide))
    generalize hG : getN s.b s.at_ = G at HN
    have HG := Lib.hid hG
    clear hG
    go_enter Tryz.func53, Tryz.ntmps53
    go_wp2_with fail
    go_region_held3 (fun w' => w'.cell? ⟨g, 0, none⟩ = some (.slice A s.b.length cap) ∧ w'.cell? ⟨g, 1, none⟩ = some (.int .i64 (s.at_ : Int))) (first | (with_reducible exact ⟨k4, k5⟩) | (with_reducible exact ⟨al_some k4 _, al_some k5 _⟩) | (with_reducible exact ⟨set_some2 k4 hg, set_some2 k5 hg⟩) | (simp [go_sem, *]; done)) (first | (go_at_call 99; refine (rget_t s.b A cap s.at_ _ G HG (RR.out _ (by first | with_reducible exact (Ext.refl w).drew | with_reducible exact ((Ext.refl w).alloc _).drew)) hc hm hok1).mono ?_; rintro e w1 ⟨rfl, hx1⟩; have X1 : Ext w w1 := Ext.trans (by first | with_reducible exact (Ext.refl w).drew | with_reducible exact ((Ext.refl w).alloc _).drew) hx1; (first | (have B9 : Blk w1 w.heap.size 100 #[.int .i64 0, .int .i64 0] := Blk.ext (Blk.drew (Blk.new w _ _)) hx1; obtain ⟨q9, q9'⟩ := B9.cells) | skip); have k4 := (X1.cell g 0 none hg).trans d0; have k5 := (X1.cell g 1 none hg).trans d1))
    all_goals
      first
      | (have B8 := fault_set B9 (.int .i64 G.fe) (.int .i64 (G.fa : Int))
         have X8 := (X1.set (p := ⟨w.heap.size, 0, none⟩) (Nat.le_refl _) (.int .i64 G.fe)).set (p := ⟨w.heap.size, 1, none⟩) (Nat.le_refl _) (.int .i64 (G.fa : Int))
         have hn9 : w.heap.size ≤ w.heap.size := Nat.le_refl _
         clear q9 q9' hx1 B9 X1 k4 k5
         generalize ((w1.setCell ⟨w.heap.size, 0, none⟩ (.int .i64 G.fe)).setCell ⟨w.heap.size, 1, none⟩ (.int .i64 (G.fa : Int))) = wz at B8 X8 ⊢)
      | (have B8 := Blk.new w1 100 #[.int .i64 G.fe, .int .i64 (G.fa : Int)]
         have X8 := X1.alloc (Obj.cells #[.int .i64 G.fe, .int .i64 (G.fa : Int)] 100)
         have hn9 : w.heap.size ≤ w1.heap.size := X1.size
         clear hx1 X1 k4 k5
         generalize w1.alloc (Obj.cells #[.int .i64 G.fe, .int .i64 (G.fa : Int)] 100) = wz at B8 X8 ⊢)
    all_goals
      have HZ := RdR.ext HK.out X8
      have k1 := HZ.at_
      have k2 := HZ.fe
      have k3 := HZ.fa
      have j1 := HZ.frz 1
      have j2 := HZ.frz 2
      have j3 := HZ.frz 3
      clear HZ
      obtain ⟨q9, q9'⟩ := B8.cells
      go_wp2_with fail
      all_goals first
        | (have hf := ‹(G.fe != 0) = true›; refine bodyPost_ret (results_tmp rfl _ _ _) rfl ?_; exact rend_bad HK.out (HN.out.1 (by simpa using hf)) X8)
        | (have hf := ‹lo ≤ G.n ∧ G.n ≤ hi›; refine bodyPost_ret (results_tmp rfl _ _ _) rfl ?_; exact rend_ok HK.out (HN.out.2.2.2 ‹G.fe = 0› hf.1 hf.2) X8)
        | (have hf := ‹G.n < lo ∨ hi < G.n›; have HQ := num5 HN.out ‹G.fe = 0› hf; refine bodyPost_ret (results_tmp rfl _ _ _) rfl ?_; exact rend_bad (e := 5) (a := s.at_) HK.out HQ ((X8.set (p := ⟨_, 0, none⟩) hn9 _).set (p := ⟨_, 1, none⟩) hn9 _))
        | (have hf := ‹G.n < lo›; have HQ := num5 HN.out ‹G.fe = 0› (.inl hf); refine bodyPost_ret (results_tmp rfl _ _ _) rfl ?_; exact rend_bad (e := 5) (a := s.at_) HK.out HQ ((X8.set (p := ⟨_, 0, none⟩) hn9 _).set (p := ⟨_, 1, none⟩) hn9 _))

set_option maxRecDepth 100000 in
set_option maxHeartbeats 2000000 in
theorem rend_any (s : RS) (g : Nat) (w : World) (h : RdR w g s) :
    Calls Tryz.prog 54 #[.pointer (some ⟨g, 0, none⟩)] w fun e w' => e = .returned (.agg #[.int .i64 s.fin.1, .int .i64 (s.fin.2 : Int)]) ∧ Ext w w' := by
  have hg := h.lt
  have d2 := h.fe
  have d3 := h.fa
  have d1 := h.at_
  obtain ⟨A, cap, d0⟩ := h.bytes
  clear h
  have HB := Blk.new w 100 #[.int .i64 0, .int .i64 0]
  obtain ⟨q9, q9'⟩ := HB.cells
  by_cases hs : s.fe = 0
  · have hb : (s.fe == 0) = true := by simp [hs]
    by_cases ha : s.at_ < s.b.length
    · have hd : decide ((s.at_ : Int) < (s.b.length : Int)) = true := by simpa using ha
      have HF := Lib.hid (show s.fin = (4, s.at_) by unfold RS.fin; rw [if_pos ⟨hs, ha⟩])
      replace hs := Lib.hid hs
      go_enter Tryz.func54, Tryz.ntmps54
      go_wp2_with fail
      go_quiet (fail)
      go_wp2_with fail
      refine bodyPost_ret (results_c rfl rfl (ld_fault (fault_set ((Blk.new w 100 #[.int .i64 0, .int .i64 0]).drewN _) _ _))) rfl ⟨?_, ((((Ext.refl w).alloc _).drewN _).set (Nat.le_refl _) _).set (Nat.le_refl _) _⟩
      rw [HF.out]
    · have hd : decide ((s.at_ : Int) < (s.b.length : Int)) = false := by simpa using ha
      have HF := Lib.hid (show s.fin = (s.fe, s.fa) by unfold RS.fin; rw [if_neg (by omega)])
      replace hs := Lib.hid hs
      go_enter Tryz.func54, Tryz.ntmps54
      go_wp2_with fail
      go_quiet (fail)
      go_wp2_with fail
      refine bodyPost_ret (results_c rfl rfl (ld_fault (fault_set ((Blk.new w 100 #[.int .i64 0, .int .i64 0]).drewN _) _ _))) rfl ⟨?_, ((((Ext.refl w).alloc _).drewN _).set (Nat.le_refl _) _).set (Nat.le_refl _) _⟩
      rw [HF.out]
  · have hb : (s.fe == 0) = false := by simp [hs]
    have HF := Lib.hid (show s.fin = (s.fe, s.fa) by unfold RS.fin; rw [if_neg (by omega)])
    go_enter Tryz.func54, Tryz.ntmps54
    go_wp2_with fail
    go_quiet (fail)
    go_wp2_with fail
    refine bodyPost_ret (results_c rfl rfl (ld_fault (fault_set ((Blk.new w 100 #[.int .i64 0, .int .i64 0]).drewN _) _ _))) rfl ⟨?_, ((((Ext.refl w).alloc _).drewN _).set (Nat.le_refl _) _).set (Nat.le_refl _) _⟩
    rw [HF.out]
end Go.Proofs.YtokakpbpenndlaaGreatDoor
