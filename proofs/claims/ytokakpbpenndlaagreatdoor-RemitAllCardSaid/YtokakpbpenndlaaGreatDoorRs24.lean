/-
  A number read out of bytes: the walks through both Gets.
-/
import Derived.Test.YtokakpbpenndlaaGreatDoorRs02
import Derived.Test.YtokakpbpenndlaaGreatDoorRs23
import Derived.Test.YtokakpbpenndlaaGreatDoorRs05
set_option linter.unusedVariables false
namespace Go.Proofs.YtokakpbpenndlaaGreatDoor
open Go.RowKit

theorem ofault_any (e a : Int) (w : World) :
    Calls Tryz.prog 98 #[.int .i64 e, .int .i64 a] w fun r w' => r = .returned (.agg #[.int .i64 e, .int .i64 a]) ∧ Ext w w' := by
  go_enter Tryz.func98, Tryz.ntmps98
  go_wp2
  exact bodyPost_ret (v := .agg #[.int .i64 e, .int .i64 a]) (by simp [results, Tryz.results98, go_sem]) rfl ⟨rfl, (Ext.refl w).alloc _⟩

theorem ld_fault {w : World} {g : Nat} {a b : Value} (h : Blk w g 100 #[a, b]) : (loadVar 100 ⟨g, 0, none⟩).run Tryz.prog w = .ok (.agg #[a, b]) w := by
  have q := h.cell
  simp [go_sem, q]
theorem fault_set {w : World} {g : Nat} {a b : Value} (h : Blk w g 100 #[a, b]) (x y : Value) : Blk ((w.setCell ⟨g, 0, none⟩ x).setCell ⟨g, 1, none⟩ y) g 100 #[x, y] := (h.set_ 0 x).set_ 1 y
def GotV (g : Got) : Value := .tuple #[.int .i64 g.n, .int .i64 (g.next : Int), .agg #[.int .i64 g.fe, .int .i64 (g.fa : Int)]]
def GRel (w : World) (at_ : Nat) (l : List UInt8) (rank i : Value) (wr : World) : Prop :=
  ∃ k r : Nat, k ≤ l.length ∧ k ≤ 9 ∧ r < 128 ^ k ∧ rank = .int .u64 (r : Int) ∧ i = .int .i64 (k : Int) ∧ Ext w wr ∧ Blk wr w.heap.size 100 #[.int .i64 0, .int .i64 0] ∧ getGo at_ l 0 0 = getGo at_ (l.drop k) k r

set_option maxRecDepth 100000 in
set_option maxHeartbeats 4000000 in
theorem oget_any (b : List UInt8) (A : Option Addr) (cap at_ : Nat) (w : World) (hr : Reads w w.heap.size 1 A b.length (bV b)) (hc : b.length ≤ cap) (hm : cap ≤ maxLen) (ha : at_ < b.length) :
    Calls Tryz.prog 135 #[.slice A b.length cap, .int .i64 (at_ : Int)] w fun e w' => e = .returned (GotV (getN b at_)) ∧ Ext w w' := by
  unfold maxLen at hm
  obtain ⟨g, off, rfl, hg, hcl⟩ := hr.2 (by omega)
  have hcap : cap ≠ at_ := by omega
  replace hcl := Lib.hid hcl
  have d1 : decide ((at_ : Int) < 0) = false := by simp
  have d2 : decide (b.length < at_) = false := by simp; omega
  go_enter Tryz.func135, Tryz.ntmps135
  go_wp2_with fail
  go_loopw [7, 23] (fun rank i wr => GRel w at_ (b.drop at_) rank i wr) (fun _ i _ => b.length - at_ - (intOf i).toNat)
  case atStart => exact ⟨0, 0, by omega, by omega, by simp, rfl, rfl, (Ext.refl w).alloc _, Blk.new _ _ _, rfl⟩
  case round =>
    obtain ⟨k, r, hk, hk9, hr9, rfl, rfl, hx, hB, hgo⟩ := hrel
    have hlen : (b.drop at_).length = b.length - at_ := List.length_drop ..
    by_cases hlt : k < b.length - at_
    · have hd : decide ((k : Int) < ((b.length - at_ : Nat) : Int)) = true := by simp; omega
      have hkl : k < (b.drop at_).length := by omega
      obtain ⟨q1, q1'⟩ := hB.cells
      have c0 : w.cell? ⟨g, off + at_ + k, none⟩ = some (.int .u8 (((b.drop at_)[k]).toNat : Int)) := by
        have := hcl.out (at_ + k) (.int .u8 (((b.drop at_)[k]).toNat : Int)) (by simp [bV, List.getElem?_eq_getElem (show at_ + k < b.length by omega)])
        rwa [← Nat.add_assoc] at this
      have c1 := (hx.cell g (off + at_ + k) none hg).trans c0
      have hgo2 := hgo.trans (by rw [List.drop_eq_getElem_cons hkl] : getGo at_ ((b.drop at_).drop k) k r = getGo at_ ((b.drop at_)[k] :: (b.drop at_).drop (k + 1)) k r)
      generalize (b.drop at_)[k] = c at *
      have hc8 : (c.toNat : Int) ≤ 255 := by have := c.toNat_lt; omega
      have HR := Lib.hid hr9
      clear c0 hgo hr9 hlen
      rcases getGo_cons at_ c ((b.drop at_).drop (k + 1)) k r with ⟨⟨h1, h2⟩, e⟩ | ⟨h1, ⟨h2, h3⟩, e⟩ | ⟨h1, h2, h3, e⟩ | ⟨h1, h2, h3, e⟩
      · have HE := Lib.hid (hgo2.trans e)
        clear hgo2 e
        subst h1
        go_wp2_with (go_at_call 98; refine (ofault_any _ _ _).mono ?_; rintro e w1 ⟨rfl, hx1⟩; obtain ⟨p1, p1'⟩ := (hB.ext hx1).cells)
        refine bodyPost_ret (results_ttc rfl rfl (ld_fault (fault_set (hB.ext hx1) _ _))) rfl ⟨?_, ((hx.trans hx1).set (Nat.le_refl _) _).set (Nat.le_refl _) _⟩
        rw [show getN b at_ = _ from HE.out]; simp [GotV]
      · have HE := Lib.hid (hgo2.trans e)
        have hz : ((c.toNat : Int) == 0) = true := by simp [h3]
        have hz2 : decide ((1 : Int) < (c.toNat : Int)) = false := by simp; omega
        have hz3 : decide (0 < k) = true := by simpa using h2
        clear hgo2 e h1 h3
        go_wp2_with (go_at_call 98; refine (ofault_any _ _ _).mono ?_; rintro e w1 ⟨rfl, hx1⟩; obtain ⟨p1, p1'⟩ := (hB.ext hx1).cells)
        all_goals
          refine bodyPost_ret (results_ttc rfl rfl (ld_fault (fault_set (hB.ext hx1) _ _))) rfl ⟨?_, ((hx.trans hx1).set (Nat.le_refl _) _).set (Nat.le_refl _) _⟩
          rw [show getN b at_ = _ from HE.out]; simp [GotV, *]
      · have HE := Lib.hid (hgo2.trans e)
        clear hgo2 e
        by_cases hk : k = 9
        · have h4 : c.toNat ≤ 1 := by omega
          subst hk
          have hz : ((c.toNat : Int) == 0) = false := by rw [beq_eq_false_iff_ne]; omega
          clear h1 h2
          go_wp2_with (go_at_call 98; refine (ofault_any _ _ _).mono ?_; rintro e w1 ⟨rfl, hx1⟩; obtain ⟨p1, p1'⟩ := (hB.ext hx1).cells)
          refine bodyPost_ret (results_ttc rfl rfl (ld_fault (fault_set hB _ _))) rfl ⟨?_, (hx.set (Nat.le_refl _) _).set (Nat.le_refl _) _⟩
          rw [show getN b at_ = _ from HE.out]
          have hu := unz_o _ _ (rank_9 r c.toNat HR.out h4) (rank_lt9 r c.toNat HR.out h4)
          simp only [GotV]
          rw [← hu]
          simp
        · have hkb : ((k : Int) == 9) = false := by rw [beq_eq_false_iff_ne]; omega
          have hk8 : k ≤ 8 := by omega
          by_cases h0 : k = 0
          case' pos => have hz0 : decide (0 < k) = false := by simp [h0]
          case' neg =>
            have hz0 : decide (0 < k) = true := by simp; omega
            have hz : ((c.toNat : Int) == 0) = false := by rw [beq_eq_false_iff_ne]; omega
          all_goals
            clear h1 hk h2 h0
            go_wp2_with (go_at_call 98; refine (ofault_any _ _ _).mono ?_; rintro e w1 ⟨rfl, hx1⟩; obtain ⟨p1, p1'⟩ := (hB.ext hx1).cells)
            refine bodyPost_ret (results_ttc rfl rfl (ld_fault (fault_set hB _ _))) rfl ⟨?_, (hx.set (Nat.le_refl _) _).set (Nat.le_refl _) _⟩
            rw [show getN b at_ = _ from HE.out]
            have hu := unz_o _ _ (rank_o r c.toNat k HR.out (by have := c.toNat_lt; omega) hk8) (rank_lt8 r c.toNat k HR.out hk8)
            simp only [GotV]
            rw [← hu]
            simp
      · have HE := Lib.hid (hgo2.trans e)
        have hk8 : k ≤ 8 := by omega
        have hkb : ((k : Int) == 9) = false := by rw [beq_eq_false_iff_ne]; omega
        have hz : ((c.toNat : Int) == 0) = false := by rw [beq_eq_false_iff_ne]; omega
        by_cases h0 : k = 0
        case' pos => have hz0 : decide (0 < k) = false := by simp [h0]
        case' neg => have hz0 : decide (0 < k) = true := by simp; omega
        all_goals
          clear hgo2 e h1 h2 h0
          go_wp2_with (go_at_call 98; refine (ofault_any _ _ _).mono ?_; rintro e w1 ⟨rfl, hx1⟩; obtain ⟨p1, p1'⟩ := (hB.ext hx1).cells)
          go_roundw
          case rel => exact ⟨k + 1, _, by omega, by omega, rank_lt r c.toNat k HR.out hk8, by rw [rank_o r c.toNat k HR.out (by have := c.toNat_lt; omega) hk8], by go_num, hx, hB, HE.out⟩
          case measure => simp [intOf]; omega
    · have hd : decide ((k : Int) < ((b.length - at_ : Nat) : Int)) = false := by simp; omega
      have hke : k = b.length - at_ := by omega
      have HE := Lib.hid (hgo.trans (by rw [List.drop_eq_nil_of_le (by omega), getGo] : getGo at_ ((b.drop at_).drop k) k r = ⟨0, 0, 4, at_ + k⟩))
      have HR := Lib.hid hr9
      have HK := Lib.hid (show at_ + k = b.length by omega)
      clear hgo hr9 hke
      go_wp2_with (go_at_call 98; refine (ofault_any _ _ _).mono ?_; rintro e w1 ⟨rfl, hx1⟩; obtain ⟨p1, p1'⟩ := (hB.ext hx1).cells)
      refine bodyPost_ret (results_ttc rfl rfl (ld_fault (fault_set (hB.ext hx1) _ _))) rfl ⟨?_, ((hx.trans hx1).set (Nat.le_refl _) _).set (Nat.le_refl _) _⟩
      rw [show getN b at_ = _ from HE.out, HK.out]; simp [GotV]
end Go.Proofs.YtokakpbpenndlaaGreatDoor

set_option linter.unusedVariables false
namespace Go.Proofs.YtokakpbpenndlaaGreatDoor
open Go.RowKit

set_option maxRecDepth 100000 in
set_option maxHeartbeats 1000000 in
theorem oget_end (b : List UInt8) (A : Option Addr) (cap : Nat) (w : World) (hc : b.length ≤ cap) (hm : cap ≤ maxLen) :
    Calls Tryz.prog 135 #[.slice A b.length cap, .int .i64 (b.length : Int)] w fun e w' => e = .returned (GotV (getN b b.length)) ∧ Ext w w' := by
  unfold maxLen at hm
  have d1 : decide ((b.length : Int) < 0) = false := by simp
  have HE : Hid (getN b b.length = ⟨0, 0, 4, b.length⟩) := by unfold getN; rw [List.drop_length, getGo]; rfl
  go_enter Tryz.func135, Tryz.ntmps135
  go_wp2_with fail
  all_goals
    go_loopw [23] (fun i wr => i = .int .i64 0 ∧ Ext w wr ∧ Blk wr w.heap.size 100 #[.int .i64 0, .int .i64 0]) (fun _ _ => 0)
    case atStart => exact ⟨rfl, (Ext.refl w).alloc _, Blk.new _ _ _⟩
    case round =>
      obtain ⟨rfl, hx, hB⟩ := hrel
      go_wp2_with (go_at_call 98; refine (ofault_any _ _ _).mono ?_; rintro e w1 ⟨rfl, hx1⟩; obtain ⟨p1, p1'⟩ := (hB.ext hx1).cells)
      refine bodyPost_ret (results_ttc rfl rfl (ld_fault (fault_set (hB.ext hx1) _ _))) rfl ⟨?_, ((hx.trans hx1).set (Nat.le_refl _) _).set (Nat.le_refl _) _⟩
      rw [HE.out]; simp [GotV]

theorem oget_all (b : List UInt8) (A : Option Addr) (cap at_ : Nat) (w : World) (hr : Reads w w.heap.size 1 A b.length (bV b)) (hc : b.length ≤ cap) (hm : cap ≤ maxLen) (ha : at_ ≤ b.length) :
    Calls Tryz.prog 135 #[.slice A b.length cap, .int .i64 (at_ : Int)] w fun e w' => e = .returned (GotV (getN b at_)) ∧ Ext w w' := by
  rcases Nat.lt_or_ge at_ b.length with h | h
  · exact oget_any b A cap at_ w hr hc hm h
  · have : at_ = b.length := by omega
    subst this
    exact oget_end b A cap w hc hm

set_option maxRecDepth 100000 in
set_option maxHeartbeats 4000000 in
theorem rget_any (b : List UInt8) (A : Option Addr) (cap at_ : Nat) (w : World) (hr : Reads w w.heap.size 1 A b.length (bV b)) (hc : b.length ≤ cap) (hm : cap ≤ maxLen) (ha : at_ ≤ b.length) :
    Calls Tryz.prog 99 #[.slice A b.length cap, .int .i64 (at_ : Int)] w fun e w' => e = .returned (GotV (getN b at_)) ∧ Ext w w' := by
  unfold maxLen at hm
  have d1 : decide ((at_ : Int) < 0) = false := by simp
  have d2 : decide (b.length < at_) = false := by simp; omega
  go_enter Tryz.func99, Tryz.ntmps99
  go_wp2_with fail
  go_loopw [7, 8] (fun rank i wr => GRel w at_ (b.drop at_) rank i wr) (fun _ i _ => b.length + 1 - at_ - (intOf i).toNat)
  case atStart => exact ⟨0, 0, by omega, by omega, by simp, rfl, rfl, (Ext.refl w).alloc _, Blk.new _ _ _, rfl⟩
  case round =>
    obtain ⟨k, r, hk, hk9, hr9, rfl, rfl, hx, hB, hgo⟩ := hrel
    have hlen : (b.drop at_).length = b.length - at_ := List.length_drop ..
    obtain ⟨q1, q1'⟩ := hB.cells
    by_cases hlt : k < b.length - at_
    · have hkl : k < (b.drop at_).length := by omega
      obtain ⟨g, off, rfl, hg, hcl⟩ := (hr.extB (Nat.le_refl _) hx).2 (by omega)
      have c1 : wr.cell? ⟨g, off + (at_ + k), none⟩ = some (.int .u8 (((b.drop at_)[k]).toNat : Int)) := hcl (at_ + k) (.int .u8 (((b.drop at_)[k]).toNat : Int)) (by simp [bV, List.getElem?_eq_getElem (show at_ + k < b.length by omega)])
      have hgo2 := hgo.trans (by rw [List.drop_eq_getElem_cons hkl] : getGo at_ ((b.drop at_).drop k) k r = getGo at_ ((b.drop at_)[k] :: (b.drop at_).drop (k + 1)) k r)
      generalize (b.drop at_)[k] = c at *
      have hc8 : (c.toNat : Int) ≤ 255 := by have := c.toNat_lt; omega
      have HR := Lib.hid hr9
      clear hgo hr9 hlen hcl
      rcases getGo_cons at_ c ((b.drop at_).drop (k + 1)) k r with ⟨⟨h1, h2⟩, e⟩ | ⟨h1, ⟨h2, h3⟩, e⟩ | ⟨h1, h2, h3, e⟩ | ⟨h1, h2, h3, e⟩
      · have HE := Lib.hid (hgo2.trans e)
        clear hgo2 e
        subst h1
        go_wp2_with fail
        refine bodyPost_ret (results_ttc rfl rfl (ld_fault (fault_set hB _ _))) rfl ⟨?_, (hx.set (Nat.le_refl _) _).set (Nat.le_refl _) _⟩
        rw [show getN b at_ = _ from HE.out]; simp [GotV]
      · have HE := Lib.hid (hgo2.trans e)
        have hz : ((c.toNat : Int) == 0) = true := by simp [h3]
        have hz2 : decide ((1 : Int) < (c.toNat : Int)) = false := by simp; omega
        have hz3 : decide (0 < k) = true := by simpa using h2
        clear hgo2 e h1 h3
        go_wp2_with fail
        all_goals
          refine bodyPost_ret (results_ttc rfl rfl (ld_fault (fault_set hB _ _))) rfl ⟨?_, (hx.set (Nat.le_refl _) _).set (Nat.le_refl _) _⟩
          rw [show getN b at_ = _ from HE.out]; simp [GotV, *]
      · have HE := Lib.hid (hgo2.trans e)
        clear hgo2 e
        by_cases hk : k = 9
        · have h4 : c.toNat ≤ 1 := by omega
          subst hk
          have hz : ((c.toNat : Int) == 0) = false := by rw [beq_eq_false_iff_ne]; omega
          clear h1 h2
          go_wp2_with fail
          all_goals
            refine bodyPost_ret (results_ttc rfl rfl (ld_fault (fault_set hB _ _))) rfl ⟨?_, (hx.set (Nat.le_refl _) _).set (Nat.le_refl _) _⟩
            rw [show getN b at_ = _ from HE.out]
            have hu1 := unz_even _ _ (rank_r9 r c.toNat HR.out h4) (rank_lt9 r c.toNat HR.out h4)
            have hu2 := unz_odd _ _ (rank_r9 r c.toNat HR.out h4) (rank_lt9 r c.toNat HR.out h4)
            simp only [GotV]
            first | (rw [← hu1 (by assumption)]; simp; done) | (rw [← hu2 (by assumption)]; simp; done)
        · have hkb : ((k : Int) == 9) = false := by rw [beq_eq_false_iff_ne]; omega
          have hk8 : k ≤ 8 := by omega
          by_cases h0 : k = 0
          case' pos => have hz0 : decide (0 < k) = false := by simp [h0]
          case' neg =>
            have hz0 : decide (0 < k) = true := by simp; omega
            have hz : ((c.toNat : Int) == 0) = false := by rw [beq_eq_false_iff_ne]; omega
          all_goals
            clear h1 hk h2 h0
            go_wp2_with fail
            all_goals
              refine bodyPost_ret (results_ttc rfl rfl (ld_fault (fault_set hB _ _))) rfl ⟨?_, (hx.set (Nat.le_refl _) _).set (Nat.le_refl _) _⟩
              rw [show getN b at_ = _ from HE.out]
              have hu1 := unz_even _ _ (rank_r r c.toNat k HR.out hk8) (rank_lt8 r c.toNat k HR.out hk8)
              have hu2 := unz_odd _ _ (rank_r r c.toNat k HR.out hk8) (rank_lt8 r c.toNat k HR.out hk8)
              simp only [GotV]
              first | (rw [← hu1 (by assumption)]; simp; done) | (rw [← hu2 (by assumption)]; simp; done)
      · have HE := Lib.hid (hgo2.trans e)
        have hk8 : k ≤ 8 := by omega
        have hkb : ((k : Int) == 9) = false := by rw [beq_eq_false_iff_ne]; omega
        have hz : ((c.toNat : Int) == 0) = false := by rw [beq_eq_false_iff_ne]; omega
        by_cases h0 : k = 0
        case' pos => have hz0 : decide (0 < k) = false := by simp [h0]
        case' neg => have hz0 : decide (0 < k) = true := by simp; omega
        all_goals
          clear hgo2 e h1 h2 h0
          go_wp2_with fail
          go_roundw
          case rel => exact ⟨k + 1, _, by omega, by omega, rank_lt r c.toNat k HR.out hk8, by rw [rank_r r c.toNat k HR.out hk8], by go_num, hx, hB, HE.out⟩
          case measure => simp [intOf]; omega
    · have hke : k = b.length - at_ := by omega
      have HE := Lib.hid (hgo.trans (by rw [List.drop_eq_nil_of_le (by omega), getGo] : getGo at_ ((b.drop at_).drop k) k r = ⟨0, 0, 4, at_ + k⟩))
      have HR := Lib.hid hr9
      have HK := Lib.hid (show at_ + k = b.length by omega)
      clear hgo hr9 hke
      go_wp2_with fail
      refine bodyPost_ret (results_ttc rfl rfl (ld_fault (fault_set hB _ _))) rfl ⟨?_, (hx.set (Nat.le_refl _) _).set (Nat.le_refl _) _⟩
      rw [show getN b at_ = _ from HE.out, HK.out]; simp [GotV]
end Go.Proofs.YtokakpbpenndlaaGreatDoor
