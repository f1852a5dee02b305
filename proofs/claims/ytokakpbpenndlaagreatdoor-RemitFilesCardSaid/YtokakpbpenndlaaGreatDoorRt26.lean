/-
  The reference's numbers: Even.
-/
import Derived.Test.YtokakpbpenndlaaGreatDoorRt25
import Derived.Test.YtokakpbpenndlaaGreatDoorRt05
import Derived.Test.YtokakpbpenndlaaGreatDoorRt08
set_option linter.unusedVariables false
namespace Go.Proofs.YtokakpbpenndlaaGreatDoor
open Go.RowKit

theorem cmp_up {q r c : Nat} (hr : r < c) : evUp q r c = (decide (0 < cmpN (r + r) c) || (cmpN (r + r) c == 0 && decide (q % 2 = 1))) := by
  unfold evUp cmpN
  rcases Nat.lt_trichotomy (r + r) c with h | h | h
  · rw [if_pos h]
    have e1 : decide (c - r < r) = false := by simp; omega
    have e2 : decide (r = c - r) = false := by simp; omega
    rw [e1, e2]; rfl
  · rw [if_neg (by omega), if_neg (by omega)]
    have e1 : decide (c - r < r) = false := by simp; omega
    have e2 : decide (r = c - r) = true := by simp; omega
    rw [e1, e2]; rfl
  · rw [if_neg (by omega), if_pos h]
    have e1 : decide (c - r < r) = true := by simp; omega
    rw [e1]; rfl
/-- Behind the division. -/
def EvSt (w : World) (g8 : Nat) (P Q : Nat) (z : Int) (zb : Bool) (v9 v10 v11 : Value) (W : World) : Prop :=
  ∃ (g9 : Nat) (W' : World), W' = W ∧ v9 = .pointer (some ⟨g9, 0, none⟩) ∧ v10 = .int .i64 z ∧ v11 = .bool zb ∧ Blk W g9 143 (numC false (digI Q)) ∧ Blk W g8 143 (numC false (digI P)) ∧ g8 < g9 ∧ w.heap.size ≤ g8 ∧ Ext w W
theorem EvSt.put {w W : World} {g8 g9 P Q : Nat} {z : Int} {zb : Bool} {s' : Bool} {f' : Nat → Int} (B9 : Blk W g9 143 (numC s' f')) (B8 : Blk W g8 143 (numC false (digI P))) (h : g8 < g9) (h8 : w.heap.size ≤ g8) (X : Ext w W) :
    EvSt w g8 P Q z zb (.pointer (some ⟨g9, 0, none⟩)) (.int .i64 z) (.bool zb) (((((((((((((W.setCell ⟨g9, 0, none⟩ (.bool false)).setCell ⟨g9, 1, none⟩ (.int .i64 (digI Q 0))).setCell ⟨g9, 2, none⟩ (.int .i64 (digI Q 1))).setCell ⟨g9, 3, none⟩ (.int .i64 (digI Q 2))).setCell ⟨g9, 4, none⟩ (.int .i64 (digI Q 3))).setCell ⟨g9, 5, none⟩ (.int .i64 (digI Q 4))).setCell ⟨g9, 6, none⟩ (.int .i64 (digI Q 5))).setCell ⟨g9, 7, none⟩ (.int .i64 (digI Q 6))).setCell ⟨g9, 8, none⟩ (.int .i64 (digI Q 7))).setCell ⟨g9, 9, none⟩ (.int .i64 (digI Q 8))).setCell ⟨g9, 10, none⟩ (.int .i64 (digI Q 9))).setCell ⟨g9, 11, none⟩ (.int .i64 (digI Q 10))).setCell ⟨g9, 12, none⟩ (.int .i64 (digI Q 11))) :=
  ⟨g9, _, rfl, rfl, rfl, rfl, put13 B9, far13 B8 (by omega), h, h8, ext13 X (by omega)⟩
theorem EvSt.new {w W : World} {g8 P Q : Nat} {z : Int} {zb : Bool} (B8 : Blk W g8 143 (numC false (digI P))) (h8 : w.heap.size ≤ g8) (X : Ext w W) :
    EvSt w g8 P Q z zb (.pointer (some ⟨W.heap.size, 0, none⟩)) (.int .i64 z) (.bool zb) (W.alloc (.cells #[.bool false, .int .i64 (digI Q 0), .int .i64 (digI Q 1), .int .i64 (digI Q 2), .int .i64 (digI Q 3), .int .i64 (digI Q 4), .int .i64 (digI Q 5), .int .i64 (digI Q 6), .int .i64 (digI Q 7), .int .i64 (digI Q 8), .int .i64 (digI Q 9), .int .i64 (digI Q 10), .int .i64 (digI Q 11)] 143)) :=
  ⟨W.heap.size, _, rfl, rfl, rfl, rfl, Blk.new W _ (numC false (digI Q)), B8.alloc _, B8.lt, h8, X.alloc _⟩
set_option maxRecDepth 100000 in
set_option maxHeartbeats 4000000 in
theorem reven_any (a b c : Nat) (ha : a < 9223372036854775808) (hb : b < 9223372036854775808) (hc0 : 0 < c) (hc : c < 9223372036854775808) (hq : evenN a b c < 9223372036854775808) (w : World) :
    Calls Tryz.prog 193 #[.int .i64 (a : Int), .int .i64 (b : Int), .int .i64 (c : Int)] w fun e w' => e = .returned (.tuple #[.int .i64 (evenN a b c : Int), .int .i64 0]) ∧ Ext w w' := by
  have hcz : ((c : Int) == 0) = false := by rw [beq_eq_false_iff_ne]; omega
  have hcn : decide ((c : Int) < 0) = false := by simp
  obtain ⟨E, hE⟩ : ∃ E, evenN a b c = E := ⟨_, rfl⟩
  rw [hE] at hq ⊢
  replace hE := Lib.hid hE
  replace hq := Lib.hid hq
  go_enter Tryz.func193, Tryz.ntmps193
  go_wp2_with fail
  refine (of_any01 a ha _).mono ?_
  rintro e w1 ⟨rfl, hx1⟩
  go_wp2_with fail
  refine (of_any01 b hb _).mono ?_
  rintro e w2 ⟨rfl, hx2⟩
  go_wp2_with fail
  refine (mul_any01 a b (by omega) (by omega) _).mono ?_
  rintro e w3 ⟨rfl, hx3⟩
  have X3 := (hx1.trans hx2).trans hx3
  clear hx1 hx2 hx3
  have hP := mul_lt (m := a) (n := b) (by omega) (by omega)
  have hEv := Lib.hid (show E = if evUp (a * b / c) (a * b % c) c then a * b / c + 1 else a * b / c by rw [← hE.out]; rfl)
  obtain ⟨P, hPe⟩ : ∃ P, a * b = P := ⟨_, rfl⟩
  rw [hPe] at hP hEv ⊢
  replace hPe := Lib.hid hPe
  go_upto_region 4 with (fail)
  have B8 := Blk.new w3 143 (numC false (digI P))
  have X8 := X3.alloc (.cells (numC false (digI P)) 143)
  generalize hW : w3.alloc (.cells (numC false (digI P)) 143) = W4 at B8 X8
  unfold numC at hW
  rw [hW]
  clear hW
  have hg8 : w.heap.size ≤ w3.heap.size := X3.size
  clear X3
  generalize w3.heap.size = g8 at *
  obtain ⟨q8, q8'⟩ := B8.cells
  have l8 := B8.lt
  have HB8 := Lib.hid (fun W (hx : Ext W4 W) => B8.ext hx)
  unfold numC at q8
  have hR : P % c < c := Nat.mod_lt _ hc0
  obtain ⟨Q, hQ⟩ : ∃ Q, P / c = Q := ⟨_, rfl⟩
  obtain ⟨R, hRR⟩ : ∃ R, P % c = R := ⟨_, rfl⟩
  have hQP : Q ≤ P := by rw [← hQ]; exact Nat.div_le_self _ _
  have HPA := Lib.hid (parts_any P c hP hc0 hc)
  rw [hQ, hRR] at HPA hEv
  rw [hRR] at hR
  have hcu := cmp_up (q := Q) hR
  have hQB : Q < 65536 ^ 12 := Nat.lt_of_le_of_lt hQP hP
  clear hQ hRR hP hQP
  obtain ⟨z, hz⟩ : ∃ z, cmpN (R + R) c = z := ⟨_, rfl⟩
  rw [hz] at hcu HPA
  obtain ⟨zb, hzb⟩ : ∃ zb, (!decide (R = 0)) = zb := ⟨_, rfl⟩
  rw [hzb] at HPA
  clear hz hzb hR
  rw [hcu] at hEv
  clear hcu
  replace hQB := Lib.hid hQB
  go_cut [9, 10, 11] (fun v9 v10 v11 wx => EvSt w g8 P Q z zb v9 v10 v11 wx)
  case first =>
    go_region_law (first
      | (go_simp; go_at_call 121; (with_reducible refine (of_any01 c hc W4.drew).mono ?_); rintro e w5 ⟨rfl, hx5⟩; have B5 := HB8.out _ ((Ext.refl W4).drew.trans hx5); have X5 := X8.trans ((Ext.refl W4).drew.trans hx5); obtain ⟨q5, q5'⟩ := B5.cells; have l5 := B5.lt; unfold numC at q5)
      | (go_simp; go_at_call 121; (with_reducible refine (of_any01 c hc (W4.alloc (.cells #[.bool false, .int .i64 0, .int .i64 0, .int .i64 0, .int .i64 0, .int .i64 0, .int .i64 0, .int .i64 0, .int .i64 0, .int .i64 0, .int .i64 0, .int .i64 0, .int .i64 0] 143)).drew).mono ?_); rintro e w5 ⟨rfl, hx5⟩; have X45 : Ext W4 w5 := ((Ext.refl W4).alloc (.cells #[.bool false, .int .i64 0, .int .i64 0, .int .i64 0, .int .i64 0, .int .i64 0, .int .i64 0, .int .i64 0, .int .i64 0, .int .i64 0, .int .i64 0, .int .i64 0, .int .i64 0] 143)).drew.trans hx5; have B5 := HB8.out _ X45; have X5 := X8.trans X45; have B95 : Blk w5 W4.heap.size _ (numC false (fun _ => 0)) := ((Blk.new W4 _ _).ext (Ext.refl _).drew).ext hx5; obtain ⟨q5, q5'⟩ := B5.cells; have l5 := B5.lt; unfold numC at q5)
      | (go_simp; go_at_call 207; (with_reducible refine (HPA.out w5).mono ?_); rintro e w6 ⟨rfl, hx6⟩; have B6 := B5.ext hx6; have X6 := X5.trans hx6; (first | (have B9a := B95.ext hx6; obtain ⟨q9, q9'⟩ := B9a.cells; have l9 := B9a.lt; unfold numC at q9) | skip))
      | (go_simp; go_at_call 207; (with_reducible refine (HPA.out (w5.alloc (.cells #[.bool false, .int .i64 0, .int .i64 0, .int .i64 0, .int .i64 0, .int .i64 0, .int .i64 0, .int .i64 0, .int .i64 0, .int .i64 0, .int .i64 0, .int .i64 0, .int .i64 0] 143))).mono ?_); rintro e w6 ⟨rfl, hx6⟩; have B6 := (B5.alloc (.cells #[.bool false, .int .i64 0, .int .i64 0, .int .i64 0, .int .i64 0, .int .i64 0, .int .i64 0, .int .i64 0, .int .i64 0, .int .i64 0, .int .i64 0, .int .i64 0, .int .i64 0] 143)).ext hx6; have X6 := (X5.alloc (.cells #[.bool false, .int .i64 0, .int .i64 0, .int .i64 0, .int .i64 0, .int .i64 0, .int .i64 0, .int .i64 0, .int .i64 0, .int .i64 0, .int .i64 0, .int .i64 0, .int .i64 0] 143)).trans hx6; have B9b : Blk w6 w5.heap.size _ (numC false (fun _ => 0)) := (Blk.new w5 _ _).ext hx6; obtain ⟨q9, q9'⟩ := B9b.cells; have l9 := B9b.lt; unfold numC at q9))
    all_goals
      go_wp2_with fail
      go_meet
      first
        | with_reducible exact EvSt.put B9a B6 l8 hg8 X6
        | with_reducible exact EvSt.put B9b B6 l5 hg8 X6
        | with_reducible exact EvSt.new B6 hg8 X6
  case rest =>
    obtain ⟨g9, wr, rfl, rfl, rfl, rfl, B9, B8', hlt, hge, XF⟩ := hcut
    clear HB8 q8 q8' l8
    obtain ⟨q9, q9'⟩ := B9.cells
    have l9 := B9.lt
    unfold numC at q9
    have b0 : 0 ≤ digI Q 0 ∧ digI Q 0 < 65536 := by have := dig_lt Q 0; unfold digI; omega
    have hodd : decide (Q % 2 = 1) = (digI Q 0 % 2 == 1) := by
      have e : dig Q 0 % 2 = Q % 2 := by unfold dig; rw [Nat.pow_zero, Nat.div_one]; omega
      rw [Bool.eq_iff_iff, decide_eq_true_eq, beq_iff_eq]
      unfold digI
      omega
    rw [hodd] at hEv
    clear hodd
    obtain ⟨b00, b01⟩ := b0
    obtain ⟨up, hup⟩ : ∃ up, (decide (0 < z) || (z == 0 && digI Q 0 % 2 == 1)) = up := ⟨_, rfl⟩
    rw [hup] at hEv
    have HX := Lib.hid (And.intro B9 (And.intro B8' XF))
    have hmod : (digI Q 0).tmod 2 = digI Q 0 % 2 := Int.tmod_eq_emod_of_nonneg b00
    go_upto_region 5 with (fail)
    go_cut [39] (fun v wx => v = .bool up ∧ wr = wx)
    case first =>
      clear HX XF B9 B8'
      by_cases h1 : 0 < z
      · have g1 : decide (0 < z) = true := by simpa using h1
        rw [g1, Bool.true_or] at hup
        subst hup
        go_wp2_with fail
        go_meet
        exact ⟨rfl, rfl⟩
      have g1 : decide (0 < z) = false := by simpa using h1
      by_cases h2 : z = 0
      · have g2 : (z == 0) = true := by simpa using h2
        rw [g1, g2, Bool.false_or, Bool.true_and] at hup
        replace h2 := Lib.hid h2
        subst hup
        go_wp2_with fail
        go_meet
        exact ⟨by first | rfl | simp, rfl⟩
      · have g2 : (z == 0) = false := by simpa using h2
        rw [g1, g2, Bool.false_or, Bool.false_and] at hup
        subst hup
        go_wp2_with fail
        go_meet
        exact ⟨rfl, rfl⟩
    case rest =>
      obtain ⟨rfl, rfl⟩ := hcut
      clear hup hmod
      go_upto_if 39 with (fail)
      go_cut [40] (fun _ wx => Blk wx g9 143 (numC false (digI E)) ∧ Blk wx g8 143 (numC false (digI P)) ∧ Ext w wx)
      case first =>
        cases up
        · have hE2 := hEv.out
          rw [if_neg (by simp)] at hE2
          have HP := Lib.hid HX.out
          rw [← hE2] at HP
          clear hE2 B9 B8' XF
          go_wp2_with fail
          go_meet
          exact HP.out
        · have hE2 := hEv.out
          rw [if_pos rfl] at hE2
          have hq2 := hq.out
          rw [hE2] at hq2
          replace hE2 := Lib.hid hE2
          have HW := Lib.hid (fun W (hx : Ext wr W) => And.intro (B9.ext hx) (And.intro (B8'.ext hx) (XF.trans hx)))
          clear B9 B8' XF
          go_wp2_with fail
          go_region_law (first
            | (go_simp; go_at_call 121; refine (of_one _).mono ?_; rintro e wb ⟨rfl, hxb⟩; obtain ⟨SB, SB8, SBX⟩ := HW.out _ ((Ext.refl wr).drew.trans hxb); obtain ⟨qb, qb'⟩ := SB.cells; unfold numC at qb)
            | (go_simp; go_at_call 123; refine (plus_same false Q 1 hQB.out (by decide) (by omega) _).mono ?_; rintro e wc ⟨rfl, hxc⟩; rw [Bool.false_and]; have SC := SB.ext hxc; have SC8 := SB8.ext hxc; have SCX := SBX.trans hxc; obtain ⟨qc, qc'⟩ := SC.cells; unfold numC at qc))
          all_goals
            have HP : Hid (Blk (((((((((((((wc.setCell ⟨g9, 0, none⟩ (.bool false)).setCell ⟨g9, 1, none⟩ (.int .i64 (digI (Q + 1) 0))).setCell ⟨g9, 2, none⟩ (.int .i64 (digI (Q + 1) 1))).setCell ⟨g9, 3, none⟩ (.int .i64 (digI (Q + 1) 2))).setCell ⟨g9, 4, none⟩ (.int .i64 (digI (Q + 1) 3))).setCell ⟨g9, 5, none⟩ (.int .i64 (digI (Q + 1) 4))).setCell ⟨g9, 6, none⟩ (.int .i64 (digI (Q + 1) 5))).setCell ⟨g9, 7, none⟩ (.int .i64 (digI (Q + 1) 6))).setCell ⟨g9, 8, none⟩ (.int .i64 (digI (Q + 1) 7))).setCell ⟨g9, 9, none⟩ (.int .i64 (digI (Q + 1) 8))).setCell ⟨g9, 10, none⟩ (.int .i64 (digI (Q + 1) 9))).setCell ⟨g9, 11, none⟩ (.int .i64 (digI (Q + 1) 10))).setCell ⟨g9, 12, none⟩ (.int .i64 (digI (Q + 1) 11))) g9 143 (numC false (digI E)) ∧ Blk (((((((((((((wc.setCell ⟨g9, 0, none⟩ (.bool false)).setCell ⟨g9, 1, none⟩ (.int .i64 (digI (Q + 1) 0))).setCell ⟨g9, 2, none⟩ (.int .i64 (digI (Q + 1) 1))).setCell ⟨g9, 3, none⟩ (.int .i64 (digI (Q + 1) 2))).setCell ⟨g9, 4, none⟩ (.int .i64 (digI (Q + 1) 3))).setCell ⟨g9, 5, none⟩ (.int .i64 (digI (Q + 1) 4))).setCell ⟨g9, 6, none⟩ (.int .i64 (digI (Q + 1) 5))).setCell ⟨g9, 7, none⟩ (.int .i64 (digI (Q + 1) 6))).setCell ⟨g9, 8, none⟩ (.int .i64 (digI (Q + 1) 7))).setCell ⟨g9, 9, none⟩ (.int .i64 (digI (Q + 1) 8))).setCell ⟨g9, 10, none⟩ (.int .i64 (digI (Q + 1) 9))).setCell ⟨g9, 11, none⟩ (.int .i64 (digI (Q + 1) 10))).setCell ⟨g9, 12, none⟩ (.int .i64 (digI (Q + 1) 11))) g8 143 (numC false (digI P)) ∧ Ext w (((((((((((((wc.setCell ⟨g9, 0, none⟩ (.bool false)).setCell ⟨g9, 1, none⟩ (.int .i64 (digI (Q + 1) 0))).setCell ⟨g9, 2, none⟩ (.int .i64 (digI (Q + 1) 1))).setCell ⟨g9, 3, none⟩ (.int .i64 (digI (Q + 1) 2))).setCell ⟨g9, 4, none⟩ (.int .i64 (digI (Q + 1) 3))).setCell ⟨g9, 5, none⟩ (.int .i64 (digI (Q + 1) 4))).setCell ⟨g9, 6, none⟩ (.int .i64 (digI (Q + 1) 5))).setCell ⟨g9, 7, none⟩ (.int .i64 (digI (Q + 1) 6))).setCell ⟨g9, 8, none⟩ (.int .i64 (digI (Q + 1) 7))).setCell ⟨g9, 9, none⟩ (.int .i64 (digI (Q + 1) 8))).setCell ⟨g9, 10, none⟩ (.int .i64 (digI (Q + 1) 9))).setCell ⟨g9, 11, none⟩ (.int .i64 (digI (Q + 1) 10))).setCell ⟨g9, 12, none⟩ (.int .i64 (digI (Q + 1) 11)))) := Lib.hid ⟨by rw [hE2.out]; exact put13 SC, far13 SC8 (by omega), ext13 SCX (by omega)⟩
            go_wp2_with fail
            go_meet
            exact HP.out
      case rest =>
        obtain ⟨C9, C8, CX⟩ := hcut
        clear B9 B8' XF HX q9 q9'
        obtain ⟨q8, q8'⟩ := C8.cells
        obtain ⟨q9, q9'⟩ := C9.cells
        have l9 := C9.lt
        unfold numC at q8 q9
        have hEB : E < 65536 ^ 12 := Nat.lt_of_lt_of_le hq.out (by decide)
        have HT := Lib.hid (told_any E hEB)
        rw [if_pos hq.out, if_pos hq.out] at HT
        have HCD := Lib.hid (carriedD_any false E hEB)
        rw [Bool.false_and] at HCD
        have C9' := Lib.hid (C9.set_ 0 (.bool false))
        have CX' := CX.set (p := ⟨g9, 0, none⟩) (by show w.heap.size ≤ g9; omega) (.bool false)
        clear C8 C9 CX hEB
        go_wp2_with fail
        refine (HCD.out _).mono ?_
        rintro e w7 ⟨rfl, hx7⟩
        go_wp2_with fail
        refine (HT.out _).mono ?_
        rintro e w8 ⟨rfl, hx8⟩
        go_wp2_with fail
        exact bodyPost_ret (results_tmp2 rfl _ _ _) rfl ⟨rfl, (CX'.trans hx7).trans hx8⟩
end Go.Proofs.YtokakpbpenndlaaGreatDoor
