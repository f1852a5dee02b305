/-
  The statement RemitBack: the walk.
-/
import Derived.Test.YtokakpbpenndlaaGreatDoorRn37
import Derived.Test.YtokakpbpenndlaaGreatDoorRn41
import Derived.Test.YtokakpbpenndlaaGreatDoorRn04
import Derived.Deep.DeepCutAuto
import Derived.LaidEql
import Derived.Test.YtokakpbpenndlaaGreatDoorRn32
set_option linter.unusedVariables false
namespace Go.Proofs.YtokakpbpenndlaaGreatDoor
open Go.RowKit Go.Maps

theorem eql_rep (x y : Rep) (r : Bool) (h : r = decide (x = y)) (w : World) : (binOp .eql 23 x.V y.V).run Tryz.prog w = .ok (.bool r) w := by
  obtain ⟨a1, a2, a3, a4, a5, a6, a7, a8⟩ := x
  obtain ⟨b1, b2, b3, b4, b5, b6, b7, b8⟩ := y
  subst h
  by_cases h1 : a1 = b1
  case neg => simp [go_sem, h1]
  by_cases h2 : a2 = b2
  case neg => simp [go_sem, h1, h2]
  by_cases h3 : a3 = b3
  case neg => simp [go_sem, h1, h2, h3]
  by_cases h4 : a4 = b4
  case neg => simp [go_sem, h1, h2, h3, h4]
  by_cases h5 : a5 = b5
  case neg => simp [go_sem, h1, h2, h3, h4, h5]
  by_cases h6 : a6 = b6
  case neg => simp [go_sem, h1, h2, h3, h4, h5, h6]
  by_cases h7 : a7 = b7
  case neg => simp [go_sem, h1, h2, h3, h4, h5, h6, h7]
  by_cases h8 : a8 = b8
  case neg => simp [go_sem, h1, h2, h3, h4, h5, h6, h7, h8]
  subst h1 h2 h3 h4 h5 h6 h7 h8
  simp [go_sem]
theorem neq_rep (x y : Rep) (r : Bool) (h : r = decide (x ≠ y)) (w : World) : (binOp .neq 23 x.V y.V).run Tryz.prog w = .ok (.bool r) w := by
  obtain ⟨a1, a2, a3, a4, a5, a6, a7, a8⟩ := x
  obtain ⟨b1, b2, b3, b4, b5, b6, b7, b8⟩ := y
  subst h
  by_cases h1 : a1 = b1
  case neg => simp [go_sem, h1]
  by_cases h2 : a2 = b2
  case neg => simp [go_sem, h1, h2]
  by_cases h3 : a3 = b3
  case neg => simp [go_sem, h1, h2, h3]
  by_cases h4 : a4 = b4
  case neg => simp [go_sem, h1, h2, h3, h4]
  by_cases h5 : a5 = b5
  case neg => simp [go_sem, h1, h2, h3, h4, h5]
  by_cases h6 : a6 = b6
  case neg => simp [go_sem, h1, h2, h3, h4, h5, h6]
  by_cases h7 : a7 = b7
  case neg => simp [go_sem, h1, h2, h3, h4, h5, h6, h7]
  by_cases h8 : a8 = b8
  case neg => simp [go_sem, h1, h2, h3, h4, h5, h6, h7, h8]
  subst h1 h2 h3 h4 h5 h6 h7 h8
  simp [go_sem]
theorem rep_len {r : Rep} : r.bytes.length ≤ 1000 := by
  unfold Rep.bytes
  split
  · have := putsL_len r.ints
    have h8 : r.ints.length = 8 := rfl
    omega
  · simp
theorem readRep_cases (b : List UInt8) : ((readRep b).2 = 0 ∧ (readRep b).1 = (repP b).1) ∨ readRep b = (Rep.zero, 4) := by
  unfold readRep
  by_cases h : (repP b).2.fin.1 ≠ 0 ∨ (repP b).1.check ≠ 0
  · rw [if_pos h]; exact .inr rfl
  · rw [if_neg h]; exact .inl ⟨rfl, rfl⟩
set_option maxRecDepth 100000 in
set_option maxHeartbeats 4000000 in
theorem remitBack_any (r : Rep) (hi : r.i64s) (b : List UInt8) (B : Option Addr) (cb : Nat) (w : World) (hb : Reads w w.heap.size 1 B b.length (bV b)) (hbm : b.length ≤ maxLen) (ht : Tab10 w) :
    Calls Tryz.prog 4 #[r.V, .slice B b.length cb] w fun e w' => e = .returned (.bool true) ∧ Ext w w' := by
  have X0 := (Ext.refl w).alloc (.cells #[.int .i64 r.j, .int .i64 r.k, .int .i64 r.p, .int .i64 r.t, .int .i64 r.x, .int .i64 r.v, .int .i64 r.s, .int .i64 r.r] 23)
  have B0 := Blk.new w 23 #[.int .i64 r.j, .int .i64 r.k, .int .i64 r.p, .int .i64 r.t, .int .i64 r.x, .int .i64 r.v, .int .i64 r.s, .int .i64 r.r]
  have HI := Lib.hid hi
  have HBy := Lib.hid (fun W (h : Ext w W) => hb.extB (Nat.le_refl _) h |>.more h.size)
  have HT := Lib.hid (fun W (h : Ext w W) => ht.ext h)
  clear ht hb hi
  unfold maxLen at hbm
  go_enter Tryz.func4, Tryz.ntmps4
  go_wp2_with fail
  refine (awake30_any _ (HT.out _ X0)).mono ?_
  rintro e w1 ⟨rfl, hx1⟩
  have X1 := X0.trans hx1
  have B1 := B0.ext hx1
  clear X0 B0 hx1
  by_cases g1 : 200 < b.length
  · have d1 : decide ((200 : Int) < (b.length : Int)) = true := by simp; omega
    go_wp2_with fail
    go_ret
    exact ⟨rfl, X1⟩
  have d1 : decide ((200 : Int) < (b.length : Int)) = false := by simp; omega
  obtain ⟨q, q'⟩ := B1.cells
  go_wp2_with fail
  refine (rbytes30_any r HI.out _).mono ?_
  rintro e w2 ⟨v2, rfl, ho2, hx2, _⟩
  obtain ⟨A2, c2, rfl, l1, l2, hr2⟩ := own_slice ho2
  have X2 := X1.trans hx2
  have B2 := B1.ext hx2
  clear X1 B1 hx2 q q' ho2 d1
  obtain ⟨q, q'⟩ := B2.cells
  go_wp2_with fail
  refine (rrcheck_any r HI.out.k _).mono ?_
  rintro e w3 ⟨rfl, hx3⟩
  have hneq : (r.check != r.check) = false := by simp
  have X3 := X2.trans hx3
  have B3 := B2.ext hx3
  have hr3 := hr2.ext hx3
  clear q q' X2 B2 hr2 hx3
  obtain ⟨q, q'⟩ := B3.cells
  go_upto_if 29 with (fail)
  go_cut [8, 9] (fun _ _ wx => Ext w wx)
  case first =>
    by_cases hc : r.check = 0
    · have hcb : (r.check == 0) = true := by simpa using hc
      have hrd := Lib.hid (rep_put hc HI.out.t HI.out.x HI.out.v)
      have hn := rep_len (r := r)
      have hnq := neq_rep r r false (by simp)
      replace hc := Lib.hid hc
      go_wp2_with fail
      refine (rread30_any r.bytes A2 c2 _ hr3 (by omega)).mono ?_
      rintro e w4 ⟨rfl, hx4⟩
      rw [hrd.out]
      simp only
      have B4 := Blk.new w4 23 #[.int .i64 r.j, .int .i64 r.k, .int .i64 r.p, .int .i64 r.t, .int .i64 r.x, .int .i64 r.v, .int .i64 r.s, .int .i64 r.r]
      have X4 := (X3.trans hx4).alloc (.cells #[.int .i64 r.j, .int .i64 r.k, .int .i64 r.p, .int .i64 r.t, .int .i64 r.x, .int .i64 r.v, .int .i64 r.s, .int .i64 r.r] 23)
      have B34 := (B3.ext hx4).alloc (.cells #[.int .i64 r.j, .int .i64 r.k, .int .i64 r.p, .int .i64 r.t, .int .i64 r.x, .int .i64 r.v, .int .i64 r.s, .int .i64 r.r] 23)
      clear X3 B3 hx4 q q' hr3
      obtain ⟨p, p'⟩ := B34.cells
      go_wp2_with fail
      go_meet
      exact X4
    · have hcb : (r.check == 0) = false := by simpa using hc
      replace hc := Lib.hid hc
      go_wp2_with fail
      go_meet
      exact X3
  clear q q' hr3 B3 X3 l1 l2
  go_wp2_with fail
  refine (rread30_any b B cb _ (HBy.out _ hcut) (by omega)).mono ?_
  rintro e w5 ⟨rfl, hx5⟩
  have X5 := hcut.trans hx5
  rcases readRep_cases b with ⟨h0, h1⟩ | h4
  · obtain ⟨i1, i2⟩ := rep_inv h0
    have i3 : (readRep b).1.i64s := by rw [h1]; exact repP_i64 b
    generalize (readRep b).1 = z at *
    rw [h0]
    replace h0 := Lib.hid h0
    have B6 := Blk.new w5 23 #[.int .i64 z.j, .int .i64 z.k, .int .i64 z.p, .int .i64 z.t, .int .i64 z.x, .int .i64 z.v, .int .i64 z.s, .int .i64 z.r]
    have X6 := X5.alloc (.cells #[.int .i64 z.j, .int .i64 z.k, .int .i64 z.p, .int .i64 z.t, .int .i64 z.x, .int .i64 z.v, .int .i64 z.s, .int .i64 z.r] 23)
    obtain ⟨q, q'⟩ := B6.cells
    have HZ := Lib.hid (rbytes30_any z i3)
    rw [i1, i2] at HZ
    replace i1 := Lib.hid i1
    replace i2 := Lib.hid i2
    replace h1 := Lib.hid h1
    clear hcut hx5 X5
    go_wp2_with fail
    refine (HZ.out _).mono ?_
    rintro e w7 ⟨v7, rfl, ho7, hx7, _⟩
    obtain ⟨A7, c7, rfl, _, _, hr7⟩ := own_slice ho7
    have X7 := X6.trans hx7
    have HB7 := Lib.hid (HBy.out _ X7)
    clear q q' X6 B6 hx7 ho7
    go_wp2_with fail
    refine (sameBytes_any b b A7 B b.length b.length c7 cb _ hr7 HB7.out).mono ?_
    rintro e w8 ⟨rfl, rfl⟩
    have heq : (b == b) = true := by simp
    go_wp2_with fail
    go_ret
    exact ⟨rfl, X7⟩
  · rw [h4]
    have X6 := X5.alloc (.cells #[.int .i64 0, .int .i64 0, .int .i64 0, .int .i64 0, .int .i64 0, .int .i64 0, .int .i64 0, .int .i64 0] 23)
    have B6 := Blk.new w5 23 #[.int .i64 0, .int .i64 0, .int .i64 0, .int .i64 0, .int .i64 0, .int .i64 0, .int .i64 0, .int .i64 0]
    obtain ⟨q, q'⟩ := B6.cells
    have hez := eql_rep Rep.zero Rep.zero true (by simp)
    unfold Rep.V Rep.zero at hez
    unfold Rep.zero
    simp only at hez ⊢
    replace h4 := Lib.hid h4
    go_wp2_with fail
    go_ret
    exact ⟨rfl, X6⟩
end Go.Proofs.YtokakpbpenndlaaGreatDoor

set_option linter.unusedVariables false
namespace Go.Proofs.YtokakpbpenndlaaGreatDoor
open Go.RowKit

set_option maxRecDepth 100000 in
theorem rmonths_any (k : Int) (w : World) : Calls Tryz.prog 119 #[.int .i64 k] w fun e w' => e = .returned (.int .i64 (longI k)) ∧ w = w' := by
  by_cases h1 : k = 1
  · subst h1
    go_enter Tryz.func119, Tryz.ntmps119
    go_wp2
    go_ret
    exact ⟨rfl, rfl⟩
  by_cases h2 : k = 2
  · subst h2
    go_enter Tryz.func119, Tryz.ntmps119
    go_wp2
    go_ret
    exact ⟨rfl, rfl⟩
  by_cases h3 : k = 3
  · subst h3
    go_enter Tryz.func119, Tryz.ntmps119
    go_wp2
    go_ret
    exact ⟨rfl, rfl⟩
  by_cases h4 : k = 4
  · subst h4
    go_enter Tryz.func119, Tryz.ntmps119
    go_wp2
    go_ret
    exact ⟨rfl, rfl⟩
  have HL := Lib.hid (show longI k = 0 by unfold longI; rw [if_neg h1, if_neg h2, if_neg h3, if_neg h4])
  have b1 : (k == 1) = false := by simpa using h1
  have b2 : (k == 2) = false := by simpa using h2
  have b3 : (k == 3) = false := by simpa using h3
  have b4 : (k == 4) = false := by simpa using h4
  go_enter Tryz.func119, Tryz.ntmps119
  go_wp2
  go_ret
  exact ⟨by rw [HL.out]; rfl, rfl⟩
def begI (k p : Int) : Int × Int := if perE k p = 0 then (p * longI k / 12 + 1, p * longI k % 12 + 1) else (0, 0)
set_option maxRecDepth 100000 in
set_option maxHeartbeats 2000000 in
theorem rbegins_any (k p : Int) (w : World) : Calls Tryz.prog 94 #[.int .i64 k, .int .i64 p] w fun e w' => e = .returned (.tuple #[.int .i64 (begI k p).1, .int .i64 (begI k p).2, .int .i64 (perE k p)]) ∧ w = w' := by
  have HC := Lib.hid (rmonths_any k)
  by_cases h0 : longI k = 0
  · have HS := Lib.hid (show perE k p = 2 by unfold perE; rw [if_pos h0])
    have HP := Lib.hid (show begI k p = (0, 0) by unfold begI; rw [HS.out]; rfl)
    rw [h0] at HC
    clear h0
    go_enter Tryz.func94, Tryz.ntmps94
    go_wp2_with fail
    refine (HC.out _).mono ?_
    rintro e w1 ⟨rfl, rfl⟩
    go_wp2_with fail
    go_ret3
    exact ⟨by rw [HS.out, HP.out]; rfl, rfl⟩
  · have hn : longI k = 1 ∨ longI k = 3 ∨ longI k = 6 ∨ longI k = 12 := by
      unfold longI at h0 ⊢
      repeat' split at h0
      all_goals simp_all
    by_cases hp : p < 0 ∨ 119988 / longI k ≤ p
    · have HS := Lib.hid (show perE k p = 5 by unfold perE; rw [if_neg h0, if_pos hp])
      have HP := Lib.hid (show begI k p = (0, 0) by unfold begI; rw [HS.out]; rfl)
      by_cases hp0 : p < 0
      · have d0 : decide (p < 0) = true := by simpa using hp0
        rcases hn with e | e | e | e
        all_goals
          rw [e] at HC
          clear h0 hp hp0 e
          go_enter Tryz.func94, Tryz.ntmps94
          go_wp2_with fail
          refine (HC.out _).mono ?_
          rintro e w1 ⟨rfl, rfl⟩
          go_wp2_with fail
          go_ret3
          exact ⟨by rw [HS.out, HP.out]; rfl, rfl⟩
      · have d0 : decide (p < 0) = false := by simpa using hp0
        have hp1 : 119988 / longI k ≤ p := by omega
        rcases hn with e | e | e | e
        all_goals
          rw [e] at HC hp1
          have d1 := decide_eq_true hp1
          simp only [Int.reduceDiv] at d1
          clear h0 hp hp0 e hp1
          go_enter Tryz.func94, Tryz.ntmps94
          go_wp2_with fail
          refine (HC.out _).mono ?_
          rintro e w1 ⟨rfl, rfl⟩
          go_wp2_with fail
          go_ret3
          exact ⟨by rw [HS.out, HP.out]; rfl, rfl⟩
    · have HS := Lib.hid (show perE k p = 0 by unfold perE; rw [if_neg h0, if_neg hp])
      have HP := Lib.hid (show begI k p = (p * longI k / 12 + 1, p * longI k % 12 + 1) by unfold begI; rw [HS.out]; rfl)
      have hp0 : 0 ≤ p := by omega
      have d0 : decide (p < 0) = false := by simpa using hp0
      have hp1 : p < 119988 / longI k := by omega
      rcases hn with e | e | e | e
      all_goals
        rw [e] at HC hp1 HP
        have hp2 : p < 119988 := by omega
        have d1 := decide_eq_false (Int.not_le.2 hp1)
        simp only [Int.reduceDiv] at hp1 d1
        clear h0 hp e
        go_enter Tryz.func94, Tryz.ntmps94
        go_wp2_with fail
        refine (HC.out _).mono ?_
        rintro e w1 ⟨rfl, rfl⟩
        go_wp2_with fail
        go_ret3
        exact ⟨by rw [HS.out, HP.out]; first | rfl | (rw [Int.mul_one]; rfl) | (rw [Int.mul_ediv_cancel _ (by decide), Int.mul_emod_left]; rfl), rfl⟩
def AhRel (y : Int) (v k : Value) : Prop := ∃ V m : Int, 1 ≤ m ∧ m ≤ y ∧ k = .int .i64 m ∧ v = .int .i64 V
def SomeI (w : World) (e : Ending) (w' : World) : Prop := ∃ n : Int, e = .returned (.int .i64 n) ∧ w = w'
set_option maxRecDepth 100000 in
set_option maxHeartbeats 1000000 in
theorem rahead_any (y : Int) (hy : 1 ≤ y ∧ y ≤ 9999) (w : World) : Calls Tryz.prog 139 #[.int .i64 y] w (SomeI w) := by
  obtain ⟨y1, y2⟩ := hy
  go_enter Tryz.func139, Tryz.ntmps139
  go_wp2_with fail
  go_loop [3, 4] (fun v k => AhRel y v k) (fun _ k => (y - intOf k).toNat)
  case atStart => exact ⟨_, _, by omega, by omega, rfl, rfl⟩
  case round =>
    obtain ⟨V, m, m1, m2, rfl, rfl⟩ := hrel
    by_cases hlt : m < y
    · have hd : decide (m < y) = true := by simpa using hlt
      by_cases hl : leapI m
      · have HL := Lib.hid (rleap_any m (by omega))
        rw [decide_eq_true hl] at HL
        clear hl
        go_wp2_with fail
        refine (HL.out _).mono ?_
        rintro e w1 ⟨rfl, rfl⟩
        go_wp2_with fail
        go_round
        case rel => exact ⟨_, _, by omega, by omega, rfl, rfl⟩
        case measure => simp [intOf]; omega
      · have HL := Lib.hid (rleap_any m (by omega))
        rw [decide_eq_false hl] at HL
        clear hl
        go_wp2_with fail
        refine (HL.out _).mono ?_
        rintro e w1 ⟨rfl, rfl⟩
        go_wp2_with fail
        go_round
        case rel => exact ⟨_, _, by omega, by omega, rfl, rfl⟩
        case measure => simp [intOf]; omega
    · have hd : decide (m < y) = false := by simpa using hlt
      go_wp2_with fail
      go_ret
      exact ⟨V, rfl, rfl⟩
def RdRel (m : Int) (v k : Value) : Prop := ∃ V i : Int, 1 ≤ i ∧ i ≤ m ∧ k = .int .i64 i ∧ v = .int .i64 V
def SomeD (w : World) (e : Ending) (w' : World) : Prop := ∃ n : Int, e = .returned (.tuple #[.int .i64 n, .int .i64 0]) ∧ w = w'
set_option maxRecDepth 100000 in
set_option maxHeartbeats 1000000 in
theorem rday1_any (y m : Int) (hy : 1 ≤ y ∧ y ≤ 9999) (hm : 1 ≤ m ∧ m ≤ 12) (w : World) : Calls Tryz.prog 101 #[.int .i64 y, .int .i64 m, .int .i64 1] w (SomeD w) := by
  have hl := lenI_pos hy hm
  have d1 : decide (lenI y m < 1) = false := by simp; omega
  have HA := Lib.hid (rahead_any y hy)
  obtain ⟨m1, m2⟩ := hm
  clear hl
  go_enter Tryz.func101, Tryz.ntmps101
  go_wp2_with fail
  refine (rlength_any y m _).mono ?_
  rintro e w1 ⟨rfl, rfl⟩
  go_wp2_with fail
  refine (HA.out _).mono ?_
  rintro e w1 ⟨n, rfl, rfl⟩
  go_wp2_with fail
  go_loop [8, 9] (fun v k => RdRel m v k) (fun _ k => (m - intOf k).toNat)
  case atStart => exact ⟨_, _, by omega, by omega, rfl, rfl⟩
  case round =>
    obtain ⟨V, i, i1, i2, rfl, rfl⟩ := hrel
    by_cases hlt : i < m
    · have hd : decide (i < m) = true := by simpa using hlt
      go_wp2_with fail
      refine (rlength_any y i _).mono ?_
      rintro e w1 ⟨rfl, rfl⟩
      go_wp2_with fail
      go_round
      case rel => exact ⟨_, _, by omega, by omega, rfl, rfl⟩
      case measure => simp [intOf]; omega
    · have hd : decide (i < m) = false := by simpa using hlt
      go_wp2_with fail
      go_ret2
      exact ⟨_, rfl, rfl⟩
def SomeF (w : World) (E : Int) (e : Ending) (w' : World) : Prop := ∃ n : Int, e = .returned (.tuple #[.int .i64 n, .int .i64 E]) ∧ w = w'
theorem beg_ok {k p : Int} (h : perE k p = 0) : begI k p = (p * longI k / 12 + 1, p * longI k % 12 + 1) ∧ (1 ≤ (begI k p).1 ∧ (begI k p).1 ≤ 9999) ∧ (1 ≤ (begI k p).2 ∧ (begI k p).2 ≤ 12) := by
  obtain ⟨_, _, _, _, h1, h2⟩ := span_ok h
  have e : begI k p = (p * longI k / 12 + 1, p * longI k % 12 + 1) := by unfold begI; rw [if_pos h]
  rw [e]
  refine ⟨rfl, ?_, ?_⟩ <;> simp only <;> omega
set_option maxRecDepth 100000 in
set_option maxHeartbeats 400000 in
theorem rfirst_any (k p : Int) (w : World) : Calls Tryz.prog 56 #[.int .i64 k, .int .i64 p] w (SomeF w (perE k p)) := by
  have HB := Lib.hid (rbegins_any k p)
  by_cases h : perE k p = 0
  · obtain ⟨_, h1, h2⟩ := beg_ok h
    rw [h] at HB ⊢
    generalize begI k p = b at *
    obtain ⟨y, m⟩ := b
    simp only at h1 h2 HB
    have HD := Lib.hid (rday1_any y m h1 h2)
    clear h h1 h2
    go_enter Tryz.func56, Tryz.ntmps56
    go_wp2_with fail
    refine (HB.out _).mono ?_
    rintro e w1 ⟨rfl, rfl⟩
    go_wp2_with fail
    refine (HD.out _).mono ?_
    rintro e w1 ⟨n, rfl, rfl⟩
    go_wp2_with fail
    go_ret2
    exact ⟨n, rfl, rfl⟩
  · have hb : (perE k p != 0) = true := by simpa using h
    clear h
    generalize perE k p = E at *
    go_enter Tryz.func56, Tryz.ntmps56
    go_wp2_with fail
    refine (HB.out _).mono ?_
    rintro e w1 ⟨rfl, rfl⟩
    go_wp2_with fail
    go_ret2
    exact ⟨0, rfl, rfl⟩
end Go.Proofs.YtokakpbpenndlaaGreatDoor
