/-
  slices.SortedFunc of dues: what the iterator gave, sorted by jurisdiction and period.
-/
import Derived.Test.YtokakpbpenndlaaGreatDoorRr08
import Derived.Test.YtokakpbpenndlaaGreatDoorRr09
import Derived.Test.YtokakpbpenndlaaGreatDoorRr10
import Derived.Test.YtokakpbpenndlaaGreatDoorRr35
import Derived.Test.YtokakpbpenndlaaGreatDoorRr02
import Derived.Test.YtokakpbpenndlaaGreatDoorRr11
import Derived.Test.YtokakpbpenndlaaGreatDoorRr05
set_option linter.unusedVariables false
namespace Go.Proofs.YtokakpbpenndlaaGreatDoor
open Go.RowKit Go.Maps Go.Sort Go.Shelf

def dueE (p : Int × Int) : List Value := [.int .i64 p.1, .int .i64 p.2]
theorem dueE_len (p : Int × Int) : (dueE p).length = 2 := rfl
theorem dueE_one (p : Int × Int) : ∀ v ∈ dueE p, v.oneCell' = true := by
  intro v hv
  simp [dueE] at hv
  rcases hv with rfl | rfl <;> rfl
theorem due_flat (d : List (Int × Int)) : flatK dueE 2 d.toArray = (dueCl d).toArray := by
  apply Array.toList_inj.1
  apply List.ext_getElem?
  intro t
  have hl : (dueCl d).length = d.length * 2 := flat_len (f := fun p : Int × Int => dueE p) (fun _ => rfl) d
  by_cases ht : t < d.length * 2
  · have hk : t / 2 < d.length := by omega
    have h1 := flat_get (f := fun p : Int × Int => dueE p) (c := 2) (fun _ => rfl) d (t / 2) (t % 2) hk (by omega)
    rw [show t / 2 * 2 + t % 2 = t by omega] at h1
    rw [show (dueCl d).toArray.toList[t]? = (dueCl d)[t]? by simp]
    have h2 := get_flatK dueE 2 d.toArray t (by simpa using ht)
    have hs : t < (flatK dueE 2 d.toArray).size := by simpa using ht
    rw [getElem!_pos _ t hs] at h2
    rw [Array.getElem?_toList, Array.getElem?_eq_getElem hs, h2]
    rw [show dueCl d = d.flatMap (fun p : Int × Int => dueE p) from rfl, h1]
    have e1 : d.toArray[t / 2]! = d[t / 2] := by simp [hk]
    rw [e1]
    rcases (by omega : t % 2 = 0 ∨ t % 2 = 1) with e | e <;> rw [e] <;> rfl
  · rw [List.getElem?_eq_none (by simp; omega), List.getElem?_eq_none (by simp; omega)]
theorem holds_id {w : World} {g : Nat} {cur : Array Value} {e : TypeId} {xs : List Value} (hb : w.heap[g]? = some (.cells cur e (0, 0))) (ht : cur.toList.take xs.length = xs) : Holds id w g 0 xs.toArray := by
  intro j hj
  have hj' : j < xs.length := by simpa using hj
  refine ⟨?_, by simp [World.frozen?, hb]⟩
  have h1 : (cur.toList.take xs.length)[j]? = xs[j]? := by rw [ht]
  rw [List.getElem?_take_of_lt hj'] at h1
  simp only [World.cell?, hb, Nat.zero_add]
  simp only [Option.isSome_none, Bool.false_eq_true, if_false]
  rw [← Array.getElem?_toList, h1]
  simp [hj']
theorem heap_putId {w : World} {g n : Nat} {os : Array Obj} {cur : Array Value} {e : TypeId} {fr : Nat × Nat} (d : Array Value) (hb : w.heap[g]? = some (.cells cur e fr)) :
    (grow (putRow id (Sort.ahead w n) g 0 d) os).heap[g]? = some (.cells (putCells id 0 d cur) e fr) := by
  have hg : g < w.heap.size := (Array.getElem?_eq_some_iff.1 hb).1
  rw [heap_grow_old _ _ (by simpa using hg)]
  simp [putRow, mapBlock, Sort.ahead, Array.getElem?_modify, hb, onCells]
theorem grownBy_putId {w : World} {g n : Nat} {os : Array Obj} (d : Array Value) : w.grownBy (grow (putRow id (Sort.ahead w n) g 0 d) os) (some g) := by
  refine ⟨rfl, rfl, rfl, by simp, fun k hk hne => ?_⟩
  rw [heap_grow_old _ _ (by simpa using hk)]
  have : g ≠ k := fun e => hne (by rw [e])
  simp [putRow, mapBlock, Sort.ahead, Array.getElem?_modify, this]
theorem take_putId (cur : Array Value) (ts : List Value) (h : ts.length ≤ cur.size) : (putCells id 0 ts.toArray cur).toList.take ts.length = ts := by
  apply List.ext_getElem?
  intro j
  by_cases hj : j < ts.length
  · rw [List.getElem?_take_of_lt hj, Array.getElem?_toList]
    simp [putCells, hj, show j < cur.size by omega]
  · rw [List.getElem?_take_eq_none (by omega), List.getElem?_eq_none (by omega)]

/-- The order of dues. -/
def cmpDue (x y : Int × Int) : Int := if Lib.compareInt x.1 y.1 ≠ 0 then Lib.compareInt x.1 y.1 else Lib.compareInt x.2 y.2
def ltDue (x y : Int × Int) : Bool := decide (x.1 < y.1) || (decide (x.1 = y.1) && decide (x.2 < y.2))
theorem cmp_lt (x y : Int × Int) : ltOf cmpDue x y = ltDue x y := by
  unfold ltOf cmpDue ltDue Lib.compareInt
  by_cases h1 : x.1 < y.1
  · simp [h1]
  · by_cases h2 : y.1 < x.1
    · have : ¬ x.1 = y.1 := by omega
      simp [h1, h2, this]
    · have : x.1 = y.1 := by omega
      by_cases h3 : x.2 < y.2
      · simp [this, h3]
      · by_cases h4 : y.2 < x.2 <;> simp [this, h3, h4]
theorem swoDue : SWO (ltOf cmpDue) where
  irrefl x := by rw [cmp_lt]; simp [ltDue]
  trans x y z h1 h2 := by rw [cmp_lt] at *; simp [ltDue] at *; omega
  ntrans x y z h1 h2 := by rw [cmp_lt] at *; simp [ltDue] at *; omega
theorem totDue (x y : Int × Int) (h1 : ltOf cmpDue x y = false) (h2 : ltOf cmpDue y x = false) : x = y := by
  rw [cmp_lt] at h1 h2
  simp [ltDue] at h1 h2
  obtain ⟨a, b⟩ := x
  obtain ⟨c, d⟩ := y
  simp at h1 h2 ⊢
  omega
end Go.Proofs.YtokakpbpenndlaaGreatDoor

set_option linter.unusedVariables false
namespace Go.Proofs.YtokakpbpenndlaaGreatDoor
open Go.RowKit

theorem ofault_any (e a : Int) (w : World) :
    Calls Tryz.prog 98 #[.int .i64 e, .int .i64 a] w fun r w' => r = .returned (.agg #[.int .i64 e, .int .i64 a]) ∧ Ext w w' := by
  go_enter Tryz.func98, Tryz.ntmps98
  go_wp2
  exact bodyPost_ret (v := .agg #[.int .i64 e, .int .i64 a]) (by simp [results, Tryz.results98, go_sem]) rfl ⟨rfl, (Ext.refl w).alloc _⟩

theorem ld_fault {w : World} {g : Nat} {a b : Value} (h : Blk w g 100 #[a, b]) : (loadVar 100 ⟨g, 0, none⟩).run Tryz.prog w = .ok (.agg #[a, b]) w := by
  have q := h.cell
  simp [go_sem, q]
theorem fault_set {w : World} {g : Nat} {a b : Value} (h : Blk w g 100 #[a, b]) (x y : Value) : Blk ((w.setCell ⟨g, 0, none⟩ x).setCell ⟨g, 1, none⟩ y) g 100 #[x, y] := (h.set_ 0 x).set_ 1 y
def GotV (g : Got) : Value := .tuple #[.int .i64 g.n, .int .i64 (g.next : Int), .agg #[.int .i64 g.fe, .int .i64 (g.fa : Int)]]
def GRel (w : World) (at_ : Nat) (l : List UInt8) (rank i : Value) (wr : World) : Prop :=
  ∃ k r : Nat, k ≤ l.length ∧ k ≤ 9 ∧ r < 128 ^ k ∧ rank = .int .u64 (r : Int) ∧ i = .int .i64 (k : Int) ∧ Ext w wr ∧ Blk wr w.heap.size 100 #[.int .i64 0, .int .i64 0] ∧ getGo at_ l 0 0 = getGo at_ (l.drop k) k r

set_option maxRecDepth 100000 in
set_option maxHeartbeats 4000000 in
theorem oget_any (b : List UInt8) (A : Option Addr) (cap at_ : Nat) (w : World) (hr : Reads w w.heap.size 1 A b.length (bV b)) (hc : b.length ≤ cap) (hm : cap ≤ maxLen) (ha : at_ < b.length) :
    Calls Tryz.prog 135 #[.slice A b.length cap, .int .i64 (at_ : Int)] w fun e w' => e = .returned (GotV (getN b at_)) ∧ Ext w w' := by
  unfold maxLen at hm
  obtain ⟨g, off, rfl, hg, hcl⟩ := hr.2 (by omega)
  have hcap : cap ≠ at_ := by omega
  replace hcl := Lib.hid hcl
  have d1 : decide ((at_ : Int) < 0) = false := by simp
  have d2 : decide (b.length < at_) = false := by simp; omega
  go_enter Tryz.func135, Tryz.ntmps135
  go_wp2_with fail
  go_loopw [7, 23] (fun rank i wr => GRel w at_ (b.drop at_) rank i wr) (fun _ i _ => b.length - at_ - (intOf i).toNat)
  case atStart => exact ⟨0, 0, by omega, by omega, by simp, rfl, rfl, (Ext.refl w).alloc _, Blk.new _ _ _, rfl⟩
  case round =>
    obtain ⟨k, r, hk, hk9, hr9, rfl, rfl, hx, hB, hgo⟩ := hrel
    have hlen : (b.drop at_).length = b.length - at_ := List.length_drop ..
    by_cases hlt : k < b.length - at_
    · have hd : decide ((k : Int) < ((b.length - at_ : Nat) : Int)) = true := by simp; omega
      have hkl : k < (b.drop at_).length := by omega
      obtain ⟨q1, q1'⟩ := hB.cells
      have c0 : w.cell? ⟨g, off + at_ + k, none⟩ = some (.int .u8 (((b.drop at_)[k]).toNat : Int)) := by
        have := hcl.out (at_ + k) (.int .u8 (((b.drop at_)[k]).toNat : Int)) (by simp [bV, List.getElem?_eq_getElem (show at_ + k < b.length by omega)])
        rwa [← Nat.add_assoc] at this
      have c1 := (hx.cell g (off + at_ + k) none hg).trans c0
      have hgo2 := hgo.trans (by rw [List.drop_eq_getElem_cons hkl] : getGo at_ ((b.drop at_).drop k) k r = getGo at_ ((b.drop at_)[k] :: (b.drop at_).drop (k + 1)) k r)
      generalize (b.drop at_)[k] = c at *
      have hc8 : (c.toNat : Int) ≤ 255 := by have := c.toNat_lt; omega
      have HR := Lib.hid hr9
      clear c0 hgo hr9 hlen
      rcases getGo_cons at_ c ((b.drop at_).drop (k + 1)) k r with ⟨⟨h1, h2⟩, e⟩ | ⟨h1, ⟨h2, h3⟩, e⟩ | ⟨h1, h2, h3, e⟩ | ⟨h1, h2, h3, e⟩
      · have HE := Lib.hid (hgo2.trans e)
        clear hgo2 e
        subst h1
        go_wp2_with (go_at_call 98; refine (ofault_any _ _ _).mono ?_; rintro e w1 ⟨rfl, hx1⟩; obtain ⟨p1, p1'⟩ := (hB.ext hx1).cells)
        refine bodyPost_ret (results_ttc rfl rfl (ld_fault (fault_set (hB.ext hx1) _ _))) rfl ⟨?_, ((hx.trans hx1).set (Nat.le_refl _) _).set (Nat.le_refl _) _⟩
        rw [show getN b at_ = _ from HE.out]; simp [GotV]
      · have HE := Lib.hid (hgo2.trans e)
        have hz : ((c.toNat : Int) == 0) = true := by simp [h3]
        have hz2 : decide ((1 : Int) < (c.toNat : Int)) = false := by simp; omega
        have hz3 : decide (0 < k) = true := by simpa using h2
        clear hgo2 e h1 h3
        go_wp2_with (go_at_call 98; refine (ofault_any _ _ _).mono ?_; rintro e w1 ⟨rfl, hx1⟩; obtain ⟨p1, p1'⟩ := (hB.ext hx1).cells)
        all_goals
          refine bodyPost_ret (results_ttc rfl rfl (ld_fault (fault_set (hB.ext hx1) _ _))) rfl ⟨?_, ((hx.trans hx1).set (Nat.le_refl _) _).set (Nat.le_refl _) _⟩
          rw [show getN b at_ = _ from HE.out]; simp [GotV, *]
      · have HE := Lib.hid (hgo2.trans e)
        clear hgo2 e
        by_cases hk : k = 9
        · have h4 : c.toNat ≤ 1 := by omega
          subst hk
          have hz : ((c.toNat : Int) == 0) = false := by rw [beq_eq_false_iff_ne]; omega
          clear h1 h2
          go_wp2_with (go_at_call 98; refine (ofault_any _ _ _).mono ?_; rintro e w1 ⟨rfl, hx1⟩; obtain ⟨p1, p1'⟩ := (hB.ext hx1).cells)
          refine bodyPost_ret (results_ttc rfl rfl (ld_fault (fault_set hB _ _))) rfl ⟨?_, (hx.set (Nat.le_refl _) _).set (Nat.le_refl _) _⟩
          rw [show getN b at_ = _ from HE.out]
          have hu := unz_o _ _ (rank_9 r c.toNat HR.out h4) (rank_lt9 r c.toNat HR.out h4)
          simp only [GotV]
          rw [← hu]
          simp
        · have hkb : ((k : Int) == 9) = false := by rw [beq_eq_false_iff_ne]; omega
          have hk8 : k ≤ 8 := by omega
          by_cases h0 : k = 0
          case' pos => have hz0 : decide (0 < k) = false := by simp [h0]
          case' neg =>
            have hz0 : decide (0 < k) = true := by simp; omega
            have hz : ((c.toNat : Int) == 0) = false := by rw [beq_eq_false_iff_ne]; omega
          all_goals
            clear h1 hk h2 h0
            go_wp2_with (go_at_call 98; refine (ofault_any _ _ _).mono ?_; rintro e w1 ⟨rfl, hx1⟩; obtain ⟨p1, p1'⟩ := (hB.ext hx1).cells)
            refine bodyPost_ret (results_ttc rfl rfl (ld_fault (fault_set hB _ _))) rfl ⟨?_, (hx.set (Nat.le_refl _) _).set (Nat.le_refl _) _⟩
            rw [show getN b at_ = _ from HE.out]
            have hu := unz_o _ _ (rank_o r c.toNat k HR.out (by have := c.toNat_lt; omega) hk8) (rank_lt8 r c.toNat k HR.out hk8)
            simp only [GotV]
            rw [← hu]
            simp
      · have HE := Lib.hid (hgo2.trans e)
        have hk8 : k ≤ 8 := by omega
        have hkb : ((k : Int) == 9) = false := by rw [beq_eq_false_iff_ne]; omega
        have hz : ((c.toNat : Int) == 0) = false := by rw [beq_eq_false_iff_ne]; omega
        by_cases h0 : k = 0
        case' pos => have hz0 : decide (0 < k) = false := by simp [h0]
        case' neg => have hz0 : decide (0 < k) = true := by simp; omega
        all_goals
          clear hgo2 e h1 h2 h0
          go_wp2_with (go_at_call 98; refine (ofault_any _ _ _).mono ?_; rintro e w1 ⟨rfl, hx1⟩; obtain ⟨p1, p1'⟩ := (hB.ext hx1).cells)
          go_roundw
          case rel => exact ⟨k + 1, _, by omega, by omega, rank_lt r c.toNat k HR.out hk8, by rw [rank_o r c.toNat k HR.out (by have := c.toNat_lt; omega) hk8], by go_num, hx, hB, HE.out⟩
          case measure => simp [intOf]; omega
    · have hd : decide ((k : Int) < ((b.length - at_ : Nat) : Int)) = false := by simp; omega
      have hke : k = b.length - at_ := by omega
      have HE := Lib.hid (hgo.trans (by rw [List.drop_eq_nil_of_le (by omega), getGo] : getGo at_ ((b.drop at_).drop k) k r = ⟨0, 0, 4, at_ + k⟩))
      have HR := Lib.hid hr9
      have HK := Lib.hid (show at_ + k = b.length by omega)
      clear hgo hr9 hke
      go_wp2_with (go_at_call 98; refine (ofault_any _ _ _).mono ?_; rintro e w1 ⟨rfl, hx1⟩; obtain ⟨p1, p1'⟩ := (hB.ext hx1).cells)
      refine bodyPost_ret (results_ttc rfl rfl (ld_fault (fault_set (hB.ext hx1) _ _))) rfl ⟨?_, ((hx.trans hx1).set (Nat.le_refl _) _).set (Nat.le_refl _) _⟩
      rw [show getN b at_ = _ from HE.out, HK.out]; simp [GotV]
end Go.Proofs.YtokakpbpenndlaaGreatDoor
