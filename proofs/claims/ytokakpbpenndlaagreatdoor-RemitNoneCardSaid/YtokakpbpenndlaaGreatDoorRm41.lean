/-
  remit: Bytes.
-/
import Derived.Test.YtokakpbpenndlaaGreatDoorRm38
import Derived.Test.YtokakpbpenndlaaGreatDoorRm05
import Derived.Test.YtokakpbpenndlaaGreatDoorRm03
import Derived.Test.YtokakpbpenndlaaGreatDoorRm10
set_option linter.unusedVariables false
namespace Go.Proofs.YtokakpbpenndlaaGreatDoor
open Go.RowKit Go.Maps

set_option maxRecDepth 100000 in
set_option maxHeartbeats 2000000 in
theorem rbytes30_any (r : Rep) (hi : r.i64s) (w : World) : Calls Tryz.prog 12 #[r.V] w fun e w' => ∃ v, e = .returned (.tuple #[v, .int .i64 r.check]) ∧ w'.ownsRow w.heap.size 5 1 v r.bytes.length (bV r.bytes) ∧ Ext w w' ∧ AllP w' v u8P := by
  have X0 := (Ext.refl w).alloc (.cells #[.int .i64 r.j, .int .i64 r.k, .int .i64 r.p, .int .i64 r.t, .int .i64 r.x, .int .i64 r.v, .int .i64 r.s, .int .i64 r.r] 23)
  have B0 := Blk.new w 23 #[.int .i64 r.j, .int .i64 r.k, .int .i64 r.p, .int .i64 r.t, .int .i64 r.x, .int .i64 r.v, .int .i64 r.s, .int .i64 r.r]
  have HI := Lib.hid hi
  have HC := Lib.hid (rrcheck_any r hi.k)
  clear hi
  obtain ⟨C, hC⟩ : ∃ C, r.check = C := ⟨_, rfl⟩
  by_cases h0 : C = 0
  case neg =>
    have hb : (C != 0) = true := by simpa using h0
    have HO := Lib.hid (show r.bytes = [] by unfold Rep.bytes; rw [hC, if_neg h0])
    rw [hC] at HC ⊢
    replace hC := Lib.hid hC
    clear h0
    go_enter Tryz.func12, Tryz.ntmps12
    go_wp2_with fail
    refine (HC.out _).mono ?_
    rintro e w1 ⟨rfl, hx⟩
    go_wp2_with fail
    go_ret2
    refine ⟨_, rfl, ?_, X0.trans hx, AllP.nil _ _ _ _⟩
    rw [HO.out]; exact World.ownsRow_nil _ _ _ _
  subst h0
  have HO := Lib.hid (show r.bytes = putsL r.ints by unfold Rep.bytes; rw [if_pos hC])
  rw [hC] at HC ⊢
  replace hC := Lib.hid hC
  go_enter Tryz.func12, Tryz.ntmps12
  go_wp2_with fail
  refine (HC.out _).mono ?_
  rintro e w1 ⟨rfl, hx⟩
  have X1 := X0.trans hx
  have B1 := B0.ext hx
  clear X0 B0 hx
  generalize hg0 : w.heap.size = g1 at *
  go_wp2_with fail
  refine (rfields_any g1 _).mono ?_
  rintro e w2 ⟨rfl, hx⟩
  have X2 := X1.trans hx
  have B2 := B1.ext hx
  clear X1 B1 hx
  have hL8 : r.ints.length = 8 := rfl
  have HCS := Lib.hid (fun k hk => r.cs_at k hk)
  go_wp2_with fail
  go_loopw [5, 14] (fun o i wr => PutsRel w2 r.ints o i wr) (fun _ i _ => 8 - (intOf i).toNat)
  case atStart => exact ⟨0, by omega, rfl, World.ownsRow_nil _ _ _ _, Ext.refl _, AllP.nil _ _ _ _⟩
  case round =>
    obtain ⟨k, hk, rfl, hown, hx, hall⟩ := hrel
    have hlen2 := putsL_len (r.ints.take k)
    have hlen3 : (r.ints.take k).length ≤ k := List.length_take_le _ _
    by_cases hlt : k < 8
    · have hd : decide ((k : Int) < 8) = true := by simp; omega
      have hk8 : k < r.ints.length := by omega
      have hix := flds_at g1 k hlt
      have hc := ((B2.ext hx).cell k).trans (HCS.out k hk8)
      have hn := HI.out.at_ k hk8
      have hlen := putL_len (r.ints[k]'hk8)
      have HN := Lib.hid (fun (W : World) (v : Value) (n : Nat) (xs : List Value) ho hn hxs hx ha => PutsRel.next (w := w2) (l := r.ints) (k := k) (m := k + 1) (v1 := v) (n := n) (xs := xs) (w1 := W) hk8 ho hn hxs hx ha rfl)
      have hnl : (putsL (r.ints.take k)).length ≤ 1000 := by omega
      generalize r.ints[k]'hk8 = n at *
      generalize putsL (r.ints.take k) = L at *
      clear hlen2 hlen3
      go_wp2_with (first
        | (go_at_call 43; refine (oput_any _ hn.1 hn.2 _).mono ?_; rintro e w3 ⟨v3, rfl, hown1, hx1, _⟩; obtain ⟨A1, c1, rfl, hc1, hm1, hr1⟩ := own_slice hown1)
        | (at_builtin; refine wpl_app row_u8 w2 w3 (.tmp 17) (.tmp 21) rfl rfl rfl (own_ext hown hx1) (hx.trans hx1) rfl hr1 (bV_one _) (by omega) (by unfold maxLen; omega) ?_; intro v4 w4 hg4))
      go_roundw
      case rel => exact HN.out _ _ _ _ hg4.own rfl rfl hg4.ext (hg4.all u8P u8z (u8bb _ _) (hall.ext hx1))
      case measure => simp [intOf]; omega
    · have hd : decide ((k : Int) < 8) = false := by simp; omega
      have HO2 := PutsRel.done (by omega) hown
      clear hown
      go_wp2_with fail
      go_ret2
      refine ⟨_, rfl, ?_, X2.trans hx, hall⟩
      rw [HO.out]
      exact own_base HO2 X2.size
end Go.Proofs.YtokakpbpenndlaaGreatDoor

set_option linter.unusedVariables false
namespace Go.Proofs.YtokakpbpenndlaaGreatDoor
open Go.RowKit

theorem ofault_any (e a : Int) (w : World) :
    Calls Tryz.prog 98 #[.int .i64 e, .int .i64 a] w fun r w' => r = .returned (.agg #[.int .i64 e, .int .i64 a]) ∧ Ext w w' := by
  go_enter Tryz.func98, Tryz.ntmps98
  go_wp2
  exact bodyPost_ret (v := .agg #[.int .i64 e, .int .i64 a]) (by simp [results, Tryz.results98, go_sem]) rfl ⟨rfl, (Ext.refl w).alloc _⟩

theorem ld_fault {w : World} {g : Nat} {a b : Value} (h : Blk w g 100 #[a, b]) : (loadVar 100 ⟨g, 0, none⟩).run Tryz.prog w = .ok (.agg #[a, b]) w := by
  have q := h.cell
  simp [go_sem, q]
theorem fault_set {w : World} {g : Nat} {a b : Value} (h : Blk w g 100 #[a, b]) (x y : Value) : Blk ((w.setCell ⟨g, 0, none⟩ x).setCell ⟨g, 1, none⟩ y) g 100 #[x, y] := (h.set_ 0 x).set_ 1 y
def GotV (g : Got) : Value := .tuple #[.int .i64 g.n, .int .i64 (g.next : Int), .agg #[.int .i64 g.fe, .int .i64 (g.fa : Int)]]
def GRel (w : World) (at_ : Nat) (l : List UInt8) (rank i : Value) (wr : World) : Prop :=
  ∃ k r : Nat, k ≤ l.length ∧ k ≤ 9 ∧ r < 128 ^ k ∧ rank = .int .u64 (r : Int) ∧ i = .int .i64 (k : Int) ∧ Ext w wr ∧ Blk wr w.heap.size 100 #[.int .i64 0, .int .i64 0] ∧ getGo at_ l 0 0 = getGo at_ (l.drop k) k r

set_option maxRecDepth 100000 in
set_option maxHeartbeats 4000000 in
theorem oget_any (b : List UInt8) (A : Option Addr) (cap at_ : Nat) (w : World) (hr : Reads w w.heap.size 1 A b.length (bV b)) (hc : b.length ≤ cap) (hm : cap ≤ maxLen) (ha : at_ < b.length) :
    Calls Tryz.prog 135 #[.slice A b.length cap, .int .i64 (at_ : Int)] w fun e w' => e = .returned (GotV (getN b at_)) ∧ Ext w w' := by
  unfold maxLen at hm
  obtain ⟨g, off, rfl, hg, hcl⟩ := hr.2 (by omega)
  have hcap : cap ≠ at_ := by omega
  replace hcl := Lib.hid hcl
  have d1 : decide ((at_ : Int) < 0) = false := by simp
  have d2 : decide (b.length < at_) = false := by simp; omega
  go_enter Tryz.func135, Tryz.ntmps135
  go_wp2_with fail
  go_loopw [7, 23] (fun rank i wr => GRel w at_ (b.drop at_) rank i wr) (fun _ i _ => b.length - at_ - (intOf i).toNat)
  case atStart => exact ⟨0, 0, by omega, by omega, by simp, rfl, rfl, (Ext.refl w).alloc _, Blk.new _ _ _, rfl⟩
  case round =>
    obtain ⟨k, r, hk, hk9, hr9, rfl, rfl, hx, hB, hgo⟩ := hrel
    have hlen : (b.drop at_).length = b.length - at_ := List.length_drop ..
    by_cases hlt : k < b.length - at_
    · have hd : decide ((k : Int) < ((b.length - at_ : Nat) : Int)) = true := by simp; omega
      have hkl : k < (b.drop at_).length := by omega
      obtain ⟨q1, q1'⟩ := hB.cells
      have c0 : w.cell? ⟨g, off + at_ + k, none⟩ = some (.int .u8 (((b.drop at_)[k]).toNat : Int)) := by
        have := hcl.out (at_ + k) (.int .u8 (((b.drop at_)[k]).toNat : Int)) (by simp [bV, List.getElem?_eq_getElem (show at_ + k < b.length by omega)])
        rwa [← Nat.add_assoc] at this
      have c1 := (hx.cell g (off + at_ + k) none hg).trans c0
      have hgo2 := hgo.trans (by rw [List.drop_eq_getElem_cons hkl] : getGo at_ ((b.drop at_).drop k) k r = getGo at_ ((b.drop at_)[k] :: (b.drop at_).drop (k + 1)) k r)
      generalize (b.drop at_)[k] = c at *
      have hc8 : (c.toNat : Int) ≤ 255 := by have := c.toNat_lt; omega
      have HR := Lib.hid hr9
      clear c0 hgo hr9 hlen
      rcases getGo_cons at_ c ((b.drop at_).drop (k + 1)) k r with ⟨⟨h1, h2⟩, e⟩ | ⟨h1, ⟨h2, h3⟩, e⟩ | ⟨h1, h2, h3, e⟩ | ⟨h1, h2, h3, e⟩
      · have HE := Lib.hid (hgo2.trans e)
        clear hgo2 e
        subst h1
        go_wp2_with (go_at_call 98; refine (ofault_any _ _ _).mono ?_; rintro e w1 ⟨rfl, hx1⟩; obtain ⟨p1, p1'⟩ := (hB.ext hx1).cells)
        refine bodyPost_ret (results_ttc rfl rfl (ld_fault (fault_set (hB.ext hx1) _ _))) rfl ⟨?_, ((hx.trans hx1).set (Nat.le_refl _) _).set (Nat.le_refl _) _⟩
        rw [show getN b at_ = _ from HE.out]; simp [GotV]
      · have HE := Lib.hid (hgo2.trans e)
        have hz : ((c.toNat : Int) == 0) = true := by simp [h3]
        have hz2 : decide ((1 : Int) < (c.toNat : Int)) = false := by simp; omega
        have hz3 : decide (0 < k) = true := by simpa using h2
        clear hgo2 e h1 h3
        go_wp2_with (go_at_call 98; refine (ofault_any _ _ _).mono ?_; rintro e w1 ⟨rfl, hx1⟩; obtain ⟨p1, p1'⟩ := (hB.ext hx1).cells)
        all_goals
          refine bodyPost_ret (results_ttc rfl rfl (ld_fault (fault_set (hB.ext hx1) _ _))) rfl ⟨?_, ((hx.trans hx1).set (Nat.le_refl _) _).set (Nat.le_refl _) _⟩
          rw [show getN b at_ = _ from HE.out]; simp [GotV, *]
      · have HE := Lib.hid (hgo2.trans e)
        clear hgo2 e
        by_cases hk : k = 9
        · have h4 : c.toNat ≤ 1 := by omega
          subst hk
          have hz : ((c.toNat : Int) == 0) = false := by rw [beq_eq_false_iff_ne]; omega
          clear h1 h2
          go_wp2_with (go_at_call 98; refine (ofault_any _ _ _).mono ?_; rintro e w1 ⟨rfl, hx1⟩; obtain ⟨p1, p1'⟩ := (hB.ext hx1).cells)
          refine bodyPost_ret (results_ttc rfl rfl (ld_fault (fault_set hB _ _))) rfl ⟨?_, (hx.set (Nat.le_refl _) _).set (Nat.le_refl _) _⟩
          rw [show getN b at_ = _ from HE.out]
          have hu := unz_o _ _ (rank_9 r c.toNat HR.out h4) (rank_lt9 r c.toNat HR.out h4)
          simp only [GotV]
          rw [← hu]
          simp
        · have hkb : ((k : Int) == 9) = false := by rw [beq_eq_false_iff_ne]; omega
          have hk8 : k ≤ 8 := by omega
          by_cases h0 : k = 0
          case' pos => have hz0 : decide (0 < k) = false := by simp [h0]
          case' neg =>
            have hz0 : decide (0 < k) = true := by simp; omega
            have hz : ((c.toNat : Int) == 0) = false := by rw [beq_eq_false_iff_ne]; omega
          all_goals
            clear h1 hk h2 h0
            go_wp2_with (go_at_call 98; refine (ofault_any _ _ _).mono ?_; rintro e w1 ⟨rfl, hx1⟩; obtain ⟨p1, p1'⟩ := (hB.ext hx1).cells)
            refine bodyPost_ret (results_ttc rfl rfl (ld_fault (fault_set hB _ _))) rfl ⟨?_, (hx.set (Nat.le_refl _) _).set (Nat.le_refl _) _⟩
            rw [show getN b at_ = _ from HE.out]
            have hu := unz_o _ _ (rank_o r c.toNat k HR.out (by have := c.toNat_lt; omega) hk8) (rank_lt8 r c.toNat k HR.out hk8)
            simp only [GotV]
            rw [← hu]
            simp
      · have HE := Lib.hid (hgo2.trans e)
        have hk8 : k ≤ 8 := by omega
        have hkb : ((k : Int) == 9) = false := by rw [beq_eq_false_iff_ne]; omega
        have hz : ((c.toNat : Int) == 0) = false := by rw [beq_eq_false_iff_ne]; omega
        by_cases h0 : k = 0
        case' pos => have hz0 : decide (0 < k) = false := by simp [h0]
        case' neg => have hz0 : decide (0 < k) = true := by simp; omega
        all_goals
          clear hgo2 e h1 h2 h0
          go_wp2_with (go_at_call 98; refine (ofault_any _ _ _).mono ?_; rintro e w1 ⟨rfl, hx1⟩; obtain ⟨p1, p1'⟩ := (hB.ext hx1).cells)
          go_roundw
          case rel => exact ⟨k + 1, _, by omega, by omega, rank_lt r c.toNat k HR.out hk8, by rw [rank_o r c.toNat k HR.out (by have := c.toNat_lt; omega) hk8], by go_num, hx, hB, HE.out⟩
          case measure => simp [intOf]; omega
    · have hd : decide ((k : Int) < ((b.length - at_ : Nat) : Int)) = false := by simp; omega
      have hke : k = b.length - at_ := by omega
      have HE := Lib.hid (hgo.trans (by rw [List.drop_eq_nil_of_le (by omega), getGo] : getGo at_ ((b.drop at_).drop k) k r = ⟨0, 0, 4, at_ + k⟩))
      have HR := Lib.hid hr9
      have HK := Lib.hid (show at_ + k = b.length by omega)
      clear hgo hr9 hke
      go_wp2_with (go_at_call 98; refine (ofault_any _ _ _).mono ?_; rintro e w1 ⟨rfl, hx1⟩; obtain ⟨p1, p1'⟩ := (hB.ext hx1).cells)
      refine bodyPost_ret (results_ttc rfl rfl (ld_fault (fault_set (hB.ext hx1) _ _))) rfl ⟨?_, ((hx.trans hx1).set (Nat.le_refl _) _).set (Nat.le_refl _) _⟩
      rw [show getN b at_ = _ from HE.out, HK.out]; simp [GotV]
end Go.Proofs.YtokakpbpenndlaaGreatDoor
