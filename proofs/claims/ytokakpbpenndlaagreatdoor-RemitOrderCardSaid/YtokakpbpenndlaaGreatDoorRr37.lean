/-
  The Gets at the end; the reference's Get.
-/
import Derived.Test.YtokakpbpenndlaaGreatDoorRr36
import Derived.Test.YtokakpbpenndlaaGreatDoorRr05
import Derived.Test.YtokakpbpenndlaaGreatDoorRr18
import Derived.Deep.RegionHeld3
set_option linter.unusedVariables false
namespace Go.Proofs.YtokakpbpenndlaaGreatDoor
open Go.RowKit

set_option maxRecDepth 100000 in
set_option maxHeartbeats 1000000 in
theorem oget_end (b : List UInt8) (A : Option Addr) (cap : Nat) (w : World) (hc : b.length ≤ cap) (hm : cap ≤ maxLen) :
    Calls Tryz.prog 135 #[.slice A b.length cap, .int .i64 (b.length : Int)] w fun e w' => e = .returned (GotV (getN b b.length)) ∧ Ext w w' := by
  unfold maxLen at hm
  have d1 : decide ((b.length : Int) < 0) = false := by simp
  have HE : Hid (getN b b.length = ⟨0, 0, 4, b.length⟩) := by unfold getN; rw [List.drop_length, getGo]; rfl
  go_enter Tryz.func135, Tryz.ntmps135
  go_wp2_with fail
  all_goals
    go_loopw [23] (fun i wr => i = .int .i64 0 ∧ Ext w wr ∧ Blk wr w.heap.size 100 #[.int .i64 0, .int .i64 0]) (fun _ _ => 0)
    case atStart => exact ⟨rfl, (Ext.refl w).alloc _, Blk.new _ _ _⟩
    case round =>
      obtain ⟨rfl, hx, hB⟩ := hrel
      go_wp2_with (go_at_call 98; refine (ofault_any _ _ _).mono ?_; rintro e w1 ⟨rfl, hx1⟩; obtain ⟨p1, p1'⟩ := (hB.ext hx1).cells)
      refine bodyPost_ret (results_ttc rfl rfl (ld_fault (fault_set (hB.ext hx1) _ _))) rfl ⟨?_, ((hx.trans hx1).set (Nat.le_refl _) _).set (Nat.le_refl _) _⟩
      rw [HE.out]; simp [GotV]

theorem oget_all (b : List UInt8) (A : Option Addr) (cap at_ : Nat) (w : World) (hr : Reads w w.heap.size 1 A b.length (bV b)) (hc : b.length ≤ cap) (hm : cap ≤ maxLen) (ha : at_ ≤ b.length) :
    Calls Tryz.prog 135 #[.slice A b.length cap, .int .i64 (at_ : Int)] w fun e w' => e = .returned (GotV (getN b at_)) ∧ Ext w w' := by
  rcases Nat.lt_or_ge at_ b.length with h | h
  · exact oget_any b A cap at_ w hr hc hm h
  · have : at_ = b.length := by omega
    subst this
    exact oget_end b A cap w hc hm

set_option maxRecDepth 100000 in
set_option maxHeartbeats 4000000 in
theorem rget_any (b : List UInt8) (A : Option Addr) (cap at_ : Nat) (w : World) (hr : Reads w w.heap.size 1 A b.length (bV b)) (hc : b.length ≤ cap) (hm : cap ≤ maxLen) (ha : at_ ≤ b.length) :
    Calls Tryz.prog 99 #[.slice A b.length cap, .int .i64 (at_ : Int)] w fun e w' => e = .returned (GotV (getN b at_)) ∧ Ext w w' := by
  unfold maxLen at hm
  have d1 : decide ((at_ : Int) < 0) = false := by simp
  have d2 : decide (b.length < at_) = false := by simp; omega
  go_enter Tryz.func99, Tryz.ntmps99
  go_wp2_with fail
  go_loopw [7, 8] (fun rank i wr => GRel w at_ (b.drop at_) rank i wr) (fun _ i _ => b.length + 1 - at_ - (intOf i).toNat)
  case atStart => exact ⟨0, 0, by omega, by omega, by simp, rfl, rfl, (Ext.refl w).alloc _, Blk.new _ _ _, rfl⟩
  case round =>
    obtain ⟨k, r, hk, hk9, hr9, rfl, rfl, hx, hB, hgo⟩ := hrel
    have hlen : (b.drop at_).length = b.length - at_ := List.length_drop ..
    obtain ⟨q1, q1'⟩ := hB.cells
    by_cases hlt : k < b.length - at_
    · have hkl : k < (b.drop at_).length := by omega
      obtain ⟨g, off, rfl, hg, hcl⟩ := (hr.extB (Nat.le_refl _) hx).2 (by omega)
      have c1 : wr.cell? ⟨g, off + (at_ + k), none⟩ = some (.int .u8 (((b.drop at_)[k]).toNat : Int)) := hcl (at_ + k) (.int .u8 (((b.drop at_)[k]).toNat : Int)) (by simp [bV, List.getElem?_eq_getElem (show at_ + k < b.length by omega)])
      have hgo2 := hgo.trans (by rw [List.drop_eq_getElem_cons hkl] : getGo at_ ((b.drop at_).drop k) k r = getGo at_ ((b.drop at_)[k] :: (b.drop at_).drop (k + 1)) k r)
      generalize (b.drop at_)[k] = c at *
      have hc8 : (c.toNat : Int) ≤ 255 := by have := c.toNat_lt; omega
      have HR := Lib.hid hr9
      clear hgo hr9 hlen hcl
      rcases getGo_cons at_ c ((b.drop at_).drop (k + 1)) k r with ⟨⟨h1, h2⟩, e⟩ | ⟨h1, ⟨h2, h3⟩, e⟩ | ⟨h1, h2, h3, e⟩ | ⟨h1, h2, h3, e⟩
      · have HE := Lib.hid (hgo2.trans e)
        clear hgo2 e
        subst h1
        go_wp2_with fail
        refine bodyPost_ret (results_ttc rfl rfl (ld_fault (fault_set hB _ _))) rfl ⟨?_, (hx.set (Nat.le_refl _) _).set (Nat.le_refl _) _⟩
        rw [show getN b at_ = _ from HE.out]; simp [GotV]
      · have HE := Lib.hid (hgo2.trans e)
        have hz : ((c.toNat : Int) == 0) = true := by simp [h3]
        have hz2 : decide ((1 : Int) < (c.toNat : Int)) = false := by simp; omega
        have hz3 : decide (0 < k) = true := by simpa using h2
        clear hgo2 e h1 h3
        go_wp2_with fail
        all_goals
          refine bodyPost_ret (results_ttc rfl rfl (ld_fault (fault_set hB _ _))) rfl ⟨?_, (hx.set (Nat.le_refl _) _).set (Nat.le_refl _) _⟩
          rw [show getN b at_ = _ from HE.out]; simp [GotV, *]
      · have HE := Lib.hid (hgo2.trans e)
        clear hgo2 e
        by_cases hk : k = 9
        · have h4 : c.toNat ≤ 1 := by omega
          subst hk
          have hz : ((c.toNat : Int) == 0) = false := by rw [beq_eq_false_iff_ne]; omega
          clear h1 h2
          go_wp2_with fail
          all_goals
            refine bodyPost_ret (results_ttc rfl rfl (ld_fault (fault_set hB _ _))) rfl ⟨?_, (hx.set (Nat.le_refl _) _).set (Nat.le_refl _) _⟩
            rw [show getN b at_ = _ from HE.out]
            have hu1 := unz_even _ _ (rank_r9 r c.toNat HR.out h4) (rank_lt9 r c.toNat HR.out h4)
            have hu2 := unz_odd _ _ (rank_r9 r c.toNat HR.out h4) (rank_lt9 r c.toNat HR.out h4)
            simp only [GotV]
            first | (rw [← hu1 (by assumption)]; simp; done) | (rw [← hu2 (by assumption)]; simp; done)
        · have hkb : ((k : Int) == 9) = false := by rw [beq_eq_false_iff_ne]; omega
          have hk8 : k ≤ 8 := by omega
          by_cases h0 : k = 0
          case' pos => have hz0 : decide (0 < k) = false := by simp [h0]
          case' neg =>
            have hz0 : decide (0 < k) = true := by simp; omega
            have hz : ((c.toNat : Int) == 0) = false := by rw [beq_eq_false_iff_ne]; omega
          all_goals
            clear h1 hk h2 h0
            go_wp2_with fail
            all_goals
              refine bodyPost_ret (results_ttc rfl rfl (ld_fault (fault_set hB _ _))) rfl ⟨?_, (hx.set (Nat.le_refl _) _).set (Nat.le_refl _) _⟩
              rw [show getN b at_ = _ from HE.out]
              have hu1 := unz_even _ _ (rank_r r c.toNat k HR.out hk8) (rank_lt8 r c.toNat k HR.out hk8)
              have hu2 := unz_odd _ _ (rank_r r c.toNat k HR.out hk8) (rank_lt8 r c.toNat k HR.out hk8)
              simp only [GotV]
              first | (rw [← hu1 (by assumption)]; simp; done) | (rw [← hu2 (by assumption)]; simp; done)
      · have HE := Lib.hid (hgo2.trans e)
        have hk8 : k ≤ 8 := by omega
        have hkb : ((k : Int) == 9) = false := by rw [beq_eq_false_iff_ne]; omega
        have hz : ((c.toNat : Int) == 0) = false := by rw [beq_eq_false_iff_ne]; omega
        by_cases h0 : k = 0
        case' pos => have hz0 : decide (0 < k) = false := by simp [h0]
        case' neg => have hz0 : decide (0 < k) = true := by simp; omega
        all_goals
          clear hgo2 e h1 h2 h0
          go_wp2_with fail
          go_roundw
          case rel => exact ⟨k + 1, _, by omega, by omega, rank_lt r c.toNat k HR.out hk8, by rw [rank_r r c.toNat k HR.out hk8], by go_num, hx, hB, HE.out⟩
          case measure => simp [intOf]; omega
    · have hke : k = b.length - at_ := by omega
      have HE := Lib.hid (hgo.trans (by rw [List.drop_eq_nil_of_le (by omega), getGo] : getGo at_ ((b.drop at_).drop k) k r = ⟨0, 0, 4, at_ + k⟩))
      have HR := Lib.hid hr9
      have HK := Lib.hid (show at_ + k = b.length by omega)
      clear hgo hr9 hke
      go_wp2_with fail
      refine bodyPost_ret (results_ttc rfl rfl (ld_fault (fault_set hB _ _))) rfl ⟨?_, (hx.set (Nat.le_refl _) _).set (Nat.le_refl _) _⟩
      rw [show getN b at_ = _ from HE.out, HK.out]; simp [GotV]
end Go.Proofs.YtokakpbpenndlaaGreatDoor

set_option linter.unusedVariables false
namespace Go.Proofs.YtokakpbpenndlaaGreatDoor
open Go.RowKit
def markB (i : Nat) : UInt8 := UInt8.ofNat (160 + i % 90)
def lentL (l : List UInt8) : List UInt8 := l ++ [markB l.length, markB (l.length + 1), markB (l.length + 2)]

def lentC (l : List UInt8) (k : Nat) : List Value := bV ((lentL l).take k) ++ reps (l.length + 3 - k) (.int .u8 0)
theorem lentL_len (l : List UInt8) : (lentL l).length = l.length + 3 := by simp [lentL]
theorem lentC_start (l : List UInt8) : splice (reps (l.length + 3) (.int .u8 0)) 0 (bV l) = lentC l l.length := by
  simp [splice, lentC, lentL, reps, bV]
theorem lentC_end (l : List UInt8) : lentC l (l.length + 3) = bV (lentL l) := by
  rw [lentC, ← lentL_len, List.take_length]; simp [reps]
theorem lentL_at (l : List UInt8) (k : Nat) (h1 : l.length ≤ k) (h2 : k < l.length + 3) : (lentL l)[k]'(by rw [lentL_len]; exact h2) = markB k := by
  unfold lentL
  rw [List.getElem_append_right h1]
  rcases Nat.eq_or_lt_of_le h1 with h | h
  · subst h; simp
  · rcases Nat.eq_or_lt_of_le (show l.length + 1 ≤ k by omega) with h' | h'
    · have : k - l.length = 1 := by omega
      simp [h'.symm]
    · have e : k = l.length + 2 := by omega
      subst e
      simp
theorem lentC_next (l : List UInt8) (k : Nat) (h1 : l.length ≤ k) (h2 : k < l.length + 3) (c : Int) (hc : c = ((markB k).toNat : Int)) : (lentC l k).toArray.setIfInBounds k (.int .u8 c) = (lentC l (k + 1)).toArray := by
  subst hc
  have hl : ((lentL l).take k).length = k := by rw [List.length_take, lentL_len]; omega
  have hk : k < (lentL l).length := by rw [lentL_len]; exact h2
  obtain ⟨m, hm⟩ : ∃ m, l.length + 3 - k = m + 1 := ⟨l.length + 2 - k, by omega⟩
  have hm' : l.length + 3 - (k + 1) = m := by omega
  unfold lentC
  rw [hm, hm', List.take_succ_eq_append_getElem hk, lentL_at l k h1 h2, bV_app]
  simp only [reps, List.replicate_succ, List.setIfInBounds_toArray]
  congr 1
  rw [List.set_append_right _ _ (by simp [bV, lentL_len]; omega)]
  simp [bV, lentL_len, Nat.min_eq_left (show k ≤ l.length + 3 by omega)]
def LRel (w : World) (l : List UInt8) (i : Value) (wr : World) : Prop :=
  ∃ k : Nat, l.length ≤ k ∧ k ≤ l.length + 3 ∧ i = .int .i64 (k : Int) ∧ Blk wr w.heap.size 5 (lentC l k).toArray ∧ Ext w wr
theorem mark_val (k : Nat) : (160 + (k : Int) % 90) = ((markB k).toNat : Int) := by
  simp [markB]; omega

set_option maxHeartbeats 400000 in
theorem lent_any (l : List UInt8) (A : Option Addr) (cap : Nat) (w : World) (hr : Reads w w.heap.size 1 A l.length (bV l)) (hm : l.length ≤ 1000000) :
    Calls Tryz.prog 11 #[.slice A l.length cap] w fun e w' => ∃ g, e = .returned (.slice (some ⟨g, 0, none⟩) l.length (l.length + 3)) ∧ w.heap.size ≤ g ∧ Blk w' g 5 (bV (lentL l)).toArray ∧ Ext w w' := by
  have RR := Lib.hid (fun o1 : Obj => hr.ext ((Ext.refl w).alloc o1))
  have hmk := fun W => row_u8.make rfl (l.length + 3) (by omega) (by omega) W
  rw [show ((l.length + 3 : Nat) : Int) = (l.length : Int) + 3 by omega] at hmk
  clear hr
  go_enter Tryz.func11, Tryz.ntmps11
  have HC : ∀ (hp : 0 < (bV l).length), (some ⟨w.heap.size, 0, none⟩ : Option Addr) = some ⟨w.heap.size, 0, none⟩ ∧ ∃ ad, A = some ad ∧ ∀ j v, (bV l)[j]? = some v → (w.alloc (.cells (reps (l.length + 3) (.int .u8 0)).toArray 5)).cell? (ad.add j) = some v := by
    intro hp
    refine ⟨rfl, ?_⟩
    obtain ⟨b, off, rfl, hb, hc⟩ := (RR.out (.cells (reps (l.length + 3) (.int .u8 0)).toArray 5)).2 (by simpa [bV] using hp)
    exact ⟨_, rfl, fun j v hv => by rw [add_flat]; exact hc j v hv⟩
  replace HC := Lib.hid HC
  go_wp2_with (refine wpList_copy_splice rfl (.tmp 9) (.tmp 10) _ _ rfl 5 Tryz.underlying24 (by kernel_rfl) _ _ _ _ _ _ rfl rfl w.heap.size 0 (reps (l.length + 3) (.int .u8 0)) 5 (Blk.new w _ _) (bV l) (by simp [bV]) HC.out (by simp [bV, reps]) (bV_one l) w.heap.size w ((Ext.refl w).alloc _) (Nat.le_refl _) ?_; intro w1 hB1 hx1)
  rw [lentC_start] at hB1
  clear hmk RR HC
  go_loopw [4] (fun i wr => LRel w l i wr) (fun i _ => l.length + 3 - (intOf i).toNat)
  case atStart => exact ⟨l.length, by omega, by omega, rfl, hB1.out, hx1⟩
  case round =>
    obtain ⟨k, hk1, hk2, rfl, hB, hx⟩ := hrel
    clear hB1 hx1
    by_cases hlt : k < l.length + 3
    · have hd : decide ((k : Int) < (l.length : Int) + 3) = true := by simp; omega
      have hs : (lentC l k).toArray.size = l.length + 3 := by simp [lentC, bV, reps, lentL_len]; omega
      obtain ⟨u, hu⟩ : ∃ u, (lentC l k).toArray[k]? = some u := ⟨_, Array.getElem?_eq_getElem (by omega)⟩
      have q1 : wr.cell? ⟨w.heap.size, k, none⟩ = some u := (hB.cell k).trans hu
      have q2 := hB.frozen k
      have HS := Lib.hid hs
      clear hu hs
      go_wp2_with fail
      go_roundw
      case rel => exact ⟨k + 1, by omega, by omega, by go_num, by rw [← lentC_next l k hk1 hlt _ (mark_val k)]; exact hB.set_ k _, hx.set (Nat.le_refl _) _⟩
      case measure => simp [intOf]; omega
    · have hd : decide ((k : Int) < (l.length : Int) + 3) = false := by simp; omega
      have e : k = l.length + 3 := by omega
      subst e
      rw [lentC_end] at hB
      have HB := Lib.hid hB
      clear hB
      go_wp2_with fail
      go_ret
      exact ⟨_, rfl, Nat.le_refl _, HB.out, hx⟩
end Go.Proofs.YtokakpbpenndlaaGreatDoor

set_option linter.unusedVariables false
namespace Go.Proofs.YtokakpbpenndlaaGreatDoor
open Go.RowKit

/-- A row that is written over: only its block turns. -/
def ORel (w : World) (g : Nat) (t : TypeId) (n size : Nat) (p : Value → Prop) (i : Value) (wr : World) : Prop :=
  ∃ k : Nat, k ≤ n ∧ i = .int .i64 (k : Int) ∧ w.grownBy wr (some g) ∧ ∃ cs, Blk wr g t cs ∧ cs.size = size ∧ ∀ u ∈ cs.toList, p u

theorem u8_get {cs : Array Value} (h : ∀ u ∈ cs.toList, u8P u) {k : Nat} (hk : k < cs.size) : ∃ m : Int, cs[k]? = some (.int .u8 m) := by
  obtain ⟨m, hm⟩ := h cs[k] (by simp)
  exact ⟨m, by rw [Array.getElem?_eq_getElem hk, hm]⟩
theorem all_set {cs : Array Value} {p : Value → Prop} (h : ∀ u ∈ cs.toList, p u) {k : Nat} {v : Value} (hv : p v) : ∀ u ∈ (cs.setIfInBounds k v).toList, p u := by
  intro u hu
  simp only [Array.toList_setIfInBounds] at hu
  rcases List.mem_or_eq_of_mem_set hu with hu | rfl
  · exact h u hu
  · exact hv

set_option maxHeartbeats 400000 in
theorem overBytes_some (g n cap : Nat) (cs : Array Value) (w : World) (hB : Blk w g 5 cs) (hs : cs.size = cap) (hp : ∀ u ∈ cs.toList, u8P u) (hn : n ≤ cap) (hm : cap ≤ maxLen) :
    Calls Tryz.prog 21 #[.slice (some ⟨g, 0, none⟩) n cap] w fun e w' => e = .returned (.tuple #[]) ∧ w.grownBy w' (some g) := by
  unfold maxLen at hm
  go_enter Tryz.func21, Tryz.ntmps21
  go_wp2
  go_loopw [3] (fun i wr => ORel w g 5 cap cap u8P i wr) (fun i _ => cap - (intOf i).toNat)
  case atStart => exact ⟨0, by omega, rfl, World.grownBy.refl _ _, cs, hB, hs, hp⟩
  case round =>
    obtain ⟨k, hk, rfl, hx, cs1, hB1, hs1, hp1⟩ := hrel
    clear hB hs hp
    by_cases hlt : k < cap
    · have hd : decide ((k : Int) < (cap : Int)) = true := by simp; omega
      obtain ⟨m, hm1⟩ := u8_get hp1 (by omega : k < cs1.size)
      have q1 : wr.cell? ⟨g, k, none⟩ = some (.int .u8 m) := (hB1.cell k).trans hm1
      have q2 := hB1.frozen k
      have HP := Lib.hid hp1
      have HS := Lib.hid hs1
      clear hm1 hp1 hs1
      go_wp2_with fail
      go_roundw
      case rel => exact ⟨k + 1, by omega, by go_num, only_set hx (.inl rfl) _, _, hB1.set_ k _, by simpa using HS.out, all_set HP.out ⟨_, rfl⟩⟩
      case measure => simp [intOf]; omega
    · have hd : decide ((k : Int) < (cap : Int)) = false := by simp; omega
      have HP := Lib.hid hp1
      have HS := Lib.hid hs1
      clear hp1 hs1
      go_wp2_with fail
      go_end0
      exact ⟨rfl, hx⟩
theorem overBytes_nil (w : World) : Calls Tryz.prog 21 #[.slice none 0 0] w fun e w' => e = .returned (.tuple #[]) ∧ w = w' := by
  go_enter Tryz.func21, Tryz.ntmps21
  go_wp2
  go_loopw [3] (fun i wr => i = .int .i64 0 ∧ w = wr) (fun i _ => 0)
  case atStart => exact ⟨rfl, rfl⟩
  case round =>
    obtain ⟨rfl, rfl⟩ := hrel
    go_wp2
    go_end0
    exact ⟨rfl, rfl⟩
theorem overBytes_any {w : World} {base n : Nat} {v : Value} {xs : List Value} (hown : w.ownsRow base 5 1 v n xs) (hall : AllP w v u8P) :
    Calls Tryz.prog 21 #[v] w fun e w' => e = .returned (.tuple #[]) ∧ w.grownBy w' v.ownBlock := by
  rcases hown.2 with ⟨rfl, rfl⟩ | ⟨g, cap, cur, rfl, _, hh, hnc, hcm, hcs, _⟩
  · exact (overBytes_nil w).mono fun e w' ⟨h1, h2⟩ => ⟨h1, h2 ▸ World.grownBy.refl _ _⟩
  · obtain ⟨cs, t, fr, hc, hp⟩ := hall g rfl
    have hc' := hc
    rw [hh] at hc'
    injection hc' with hc'
    injection hc' with hc' _ _
    subst hc'
    exact overBytes_some g n cap cur w hh (by simpa using hcs) hp hnc hcm

end Go.Proofs.YtokakpbpenndlaaGreatDoor

set_option linter.unusedVariables false
namespace Go.Proofs.YtokakpbpenndlaaGreatDoor
open Go.RowKit

set_option maxHeartbeats 800000 in
theorem kept_any (l : List UInt8) (g : Nat) (A : Option Addr) (c : Nat) (w : World) (hB : Blk w g 5 (bV (lentL l)).toArray) (hr : Reads w w.heap.size 1 A l.length (bV l)) (hm : l.length ≤ 1000000) :
    Calls Tryz.prog 22 #[.slice (some ⟨g, 0, none⟩) l.length (l.length + 3), .slice A l.length c] w fun e w' => e = .returned (.bool true) ∧ Ext w w' := by
  have full : ∀ (W : World) (h : Nat), Blk W h 5 (bV (lentL l)).toArray → Reads W W.heap.size 1 (some ⟨h, 0, none⟩) (l.length + 3) (bV (lentL l)) := fun W h hb =>
    ⟨by simp [bV, lentL], fun _ => ⟨h, 0, rfl, hb.lt, fun j u hu => by rw [Nat.zero_add, hb.cell]; simpa using hu⟩⟩
  have F := Lib.hid full
  clear full
  have R := Lib.hid (fun (W : World) (h : Ext w W) => hr.ext h)
  have RB := Lib.hid hB
  clear hr hB
  have a1 : IntKind.i64.wrap ((l.length : Int) + 3) = (l.length : Int) + 3 := by rw [IntKind.wrap_i64]; omega
  have a2 : (0 : Int) ≤ (l.length : Int) + 3 := by omega
  have a3 : ((l.length : Int) + 3).toNat = l.length + 3 := by omega
  have a4 : (l.length : Int) + 3 ≤ ((l.length + 3 : Nat) : Int) := by omega
  go_enter Tryz.func22, Tryz.ntmps22
  go_wp2_with fail
  go_region_held3 (fun _ => True) (trivial) (first | (go_at_call 11; refine (lent_any l A c _ (R.out _ (Ext.refl w).drew) hm).mono ?_; rintro e w1 ⟨g2, rfl, hg2, hB2, hx2⟩) | (go_at_call 20; refine (sameBytes_any (lentL l) (lentL l) _ _ _ _ _ _ _ (F.out _ _ (Blk.ext (Blk.drewN RB.out 1) hx2)) (F.out _ _ hB2)).mono ?_; rintro e w2 ⟨rfl, rfl⟩))
  go_wp2_with fail
  go_ret
  exact ⟨rfl, (Ext.refl w).drew.trans hx2⟩
end Go.Proofs.YtokakpbpenndlaaGreatDoor
