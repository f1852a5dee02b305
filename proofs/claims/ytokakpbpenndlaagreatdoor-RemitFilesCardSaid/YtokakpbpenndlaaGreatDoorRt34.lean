/-
  The reference's periods: months, begins, First (its error); its days ahead of a date.
-/
import Derived.Test.YtokakpbpenndlaaGreatDoorRt23
set_option linter.unusedVariables false
namespace Go.Proofs.YtokakpbpenndlaaGreatDoor
open Go.RowKit

set_option maxRecDepth 100000 in
theorem rmonths_any (k : Int) (w : World) : Calls Tryz.prog 119 #[.int .i64 k] w fun e w' => e = .returned (.int .i64 (longI k)) ∧ w = w' := by
  by_cases h1 : k = 1
  · subst h1
    go_enter Tryz.func119, Tryz.ntmps119
    go_wp2
    go_ret
    exact ⟨rfl, rfl⟩
  by_cases h2 : k = 2
  · subst h2
    go_enter Tryz.func119, Tryz.ntmps119
    go_wp2
    go_ret
    exact ⟨rfl, rfl⟩
  by_cases h3 : k = 3
  · subst h3
    go_enter Tryz.func119, Tryz.ntmps119
    go_wp2
    go_ret
    exact ⟨rfl, rfl⟩
  by_cases h4 : k = 4
  · subst h4
    go_enter Tryz.func119, Tryz.ntmps119
    go_wp2
    go_ret
    exact ⟨rfl, rfl⟩
  have HL := Lib.hid (show longI k = 0 by unfold longI; rw [if_neg h1, if_neg h2, if_neg h3, if_neg h4])
  have b1 : (k == 1) = false := by simpa using h1
  have b2 : (k == 2) = false := by simpa using h2
  have b3 : (k == 3) = false := by simpa using h3
  have b4 : (k == 4) = false := by simpa using h4
  go_enter Tryz.func119, Tryz.ntmps119
  go_wp2
  go_ret
  exact ⟨by rw [HL.out]; rfl, rfl⟩
def begI (k p : Int) : Int × Int := if perE k p = 0 then (p * longI k / 12 + 1, p * longI k % 12 + 1) else (0, 0)
set_option maxRecDepth 100000 in
set_option maxHeartbeats 2000000 in
theorem rbegins_any (k p : Int) (w : World) : Calls Tryz.prog 94 #[.int .i64 k, .int .i64 p] w fun e w' => e = .returned (.tuple #[.int .i64 (begI k p).1, .int .i64 (begI k p).2, .int .i64 (perE k p)]) ∧ w = w' := by
  have HC := Lib.hid (rmonths_any k)
  by_cases h0 : longI k = 0
  · have HS := Lib.hid (show perE k p = 2 by unfold perE; rw [if_pos h0])
    have HP := Lib.hid (show begI k p = (0, 0) by unfold begI; rw [HS.out]; rfl)
    rw [h0] at HC
    clear h0
    go_enter Tryz.func94, Tryz.ntmps94
    go_wp2_with fail
    refine (HC.out _).mono ?_
    rintro e w1 ⟨rfl, rfl⟩
    go_wp2_with fail
    go_ret3
    exact ⟨by rw [HS.out, HP.out]; rfl, rfl⟩
  · have hn : longI k = 1 ∨ longI k = 3 ∨ longI k = 6 ∨ longI k = 12 := by
      unfold longI at h0 ⊢
      repeat' split at h0
      all_goals simp_all
    by_cases hp : p < 0 ∨ 119988 / longI k ≤ p
    · have HS := Lib.hid (show perE k p = 5 by unfold perE; rw [if_neg h0, if_pos hp])
      have HP := Lib.hid (show begI k p = (0, 0) by unfold begI; rw [HS.out]; rfl)
      by_cases hp0 : p < 0
      · have d0 : decide (p < 0) = true := by simpa using hp0
        rcases hn with e | e | e | e
        all_goals
          rw [e] at HC
          clear h0 hp hp0 e
          go_enter Tryz.func94, Tryz.ntmps94
          go_wp2_with fail
          refine (HC.out _).mono ?_
          rintro e w1 ⟨rfl, rfl⟩
          go_wp2_with fail
          go_ret3
          exact ⟨by rw [HS.out, HP.out]; rfl, rfl⟩
      · have d0 : decide (p < 0) = false := by simpa using hp0
        have hp1 : 119988 / longI k ≤ p := by omega
        rcases hn with e | e | e | e
        all_goals
          rw [e] at HC hp1
          have d1 := decide_eq_true hp1
          simp only [Int.reduceDiv] at d1
          clear h0 hp hp0 e hp1
          go_enter Tryz.func94, Tryz.ntmps94
          go_wp2_with fail
          refine (HC.out _).mono ?_
          rintro e w1 ⟨rfl, rfl⟩
          go_wp2_with fail
          go_ret3
          exact ⟨by rw [HS.out, HP.out]; rfl, rfl⟩
    · have HS := Lib.hid (show perE k p = 0 by unfold perE; rw [if_neg h0, if_neg hp])
      have HP := Lib.hid (show begI k p = (p * longI k / 12 + 1, p * longI k % 12 + 1) by unfold begI; rw [HS.out]; rfl)
      have hp0 : 0 ≤ p := by omega
      have d0 : decide (p < 0) = false := by simpa using hp0
      have hp1 : p < 119988 / longI k := by omega
      rcases hn with e | e | e | e
      all_goals
        rw [e] at HC hp1 HP
        have hp2 : p < 119988 := by omega
        have d1 := decide_eq_false (Int.not_le.2 hp1)
        simp only [Int.reduceDiv] at hp1 d1
        clear h0 hp e
        go_enter Tryz.func94, Tryz.ntmps94
        go_wp2_with fail
        refine (HC.out _).mono ?_
        rintro e w1 ⟨rfl, rfl⟩
        go_wp2_with fail
        go_ret3
        exact ⟨by rw [HS.out, HP.out]; first | rfl | (rw [Int.mul_one]; rfl) | (rw [Int.mul_ediv_cancel _ (by decide), Int.mul_emod_left]; rfl), rfl⟩
def AhRel (y : Int) (v k : Value) : Prop := ∃ V m : Int, 1 ≤ m ∧ m ≤ y ∧ k = .int .i64 m ∧ v = .int .i64 V
def SomeI (w : World) (e : Ending) (w' : World) : Prop := ∃ n : Int, e = .returned (.int .i64 n) ∧ w = w'
set_option maxRecDepth 100000 in
set_option maxHeartbeats 1000000 in
theorem rahead_any (y : Int) (hy : 1 ≤ y ∧ y ≤ 9999) (w : World) : Calls Tryz.prog 139 #[.int .i64 y] w (SomeI w) := by
  obtain ⟨y1, y2⟩ := hy
  go_enter Tryz.func139, Tryz.ntmps139
  go_wp2_with fail
  go_loop [3, 4] (fun v k => AhRel y v k) (fun _ k => (y - intOf k).toNat)
  case atStart => exact ⟨_, _, by omega, by omega, rfl, rfl⟩
  case round =>
    obtain ⟨V, m, m1, m2, rfl, rfl⟩ := hrel
    by_cases hlt : m < y
    · have hd : decide (m < y) = true := by simpa using hlt
      by_cases hl : leapI m
      · have HL := Lib.hid (rleap_any m (by omega))
        rw [decide_eq_true hl] at HL
        clear hl
        go_wp2_with fail
        refine (HL.out _).mono ?_
        rintro e w1 ⟨rfl, rfl⟩
        go_wp2_with fail
        go_round
        case rel => exact ⟨_, _, by omega, by omega, rfl, rfl⟩
        case measure => simp [intOf]; omega
      · have HL := Lib.hid (rleap_any m (by omega))
        rw [decide_eq_false hl] at HL
        clear hl
        go_wp2_with fail
        refine (HL.out _).mono ?_
        rintro e w1 ⟨rfl, rfl⟩
        go_wp2_with fail
        go_round
        case rel => exact ⟨_, _, by omega, by omega, rfl, rfl⟩
        case measure => simp [intOf]; omega
    · have hd : decide (m < y) = false := by simpa using hlt
      go_wp2_with fail
      go_ret
      exact ⟨V, rfl, rfl⟩
def RdRelD (m : Int) (v k : Value) : Prop := ∃ V i : Int, 1 ≤ i ∧ i ≤ m ∧ k = .int .i64 i ∧ v = .int .i64 V
def SomeD (w : World) (e : Ending) (w' : World) : Prop := ∃ n : Int, e = .returned (.tuple #[.int .i64 n, .int .i64 0]) ∧ w = w'
set_option maxRecDepth 100000 in
set_option maxHeartbeats 1000000 in
theorem rday1_any (y m : Int) (hy : 1 ≤ y ∧ y ≤ 9999) (hm : 1 ≤ m ∧ m ≤ 12) (w : World) : Calls Tryz.prog 101 #[.int .i64 y, .int .i64 m, .int .i64 1] w (SomeD w) := by
  have hl := lenI_pos hy hm
  have d1 : decide (lenI y m < 1) = false := by simp; omega
  have HA := Lib.hid (rahead_any y hy)
  obtain ⟨m1, m2⟩ := hm
  clear hl
  go_enter Tryz.func101, Tryz.ntmps101
  go_wp2_with fail
  refine (rlength_any y m _).mono ?_
  rintro e w1 ⟨rfl, rfl⟩
  go_wp2_with fail
  refine (HA.out _).mono ?_
  rintro e w1 ⟨n, rfl, rfl⟩
  go_wp2_with fail
  go_loop [8, 9] (fun v k => RdRelD m v k) (fun _ k => (m - intOf k).toNat)
  case atStart => exact ⟨_, _, by omega, by omega, rfl, rfl⟩
  case round =>
    obtain ⟨V, i, i1, i2, rfl, rfl⟩ := hrel
    by_cases hlt : i < m
    · have hd : decide (i < m) = true := by simpa using hlt
      go_wp2_with fail
      refine (rlength_any y i _).mono ?_
      rintro e w1 ⟨rfl, rfl⟩
      go_wp2_with fail
      go_round
      case rel => exact ⟨_, _, by omega, by omega, rfl, rfl⟩
      case measure => simp [intOf]; omega
    · have hd : decide (i < m) = false := by simpa using hlt
      go_wp2_with fail
      go_ret2
      exact ⟨_, rfl, rfl⟩
def SomeF (w : World) (E : Int) (e : Ending) (w' : World) : Prop := ∃ n : Int, e = .returned (.tuple #[.int .i64 n, .int .i64 E]) ∧ w = w'
theorem beg_ok {k p : Int} (h : perE k p = 0) : begI k p = (p * longI k / 12 + 1, p * longI k % 12 + 1) ∧ (1 ≤ (begI k p).1 ∧ (begI k p).1 ≤ 9999) ∧ (1 ≤ (begI k p).2 ∧ (begI k p).2 ≤ 12) := by
  obtain ⟨_, _, _, _, h1, h2⟩ := span_ok h
  have e : begI k p = (p * longI k / 12 + 1, p * longI k % 12 + 1) := by unfold begI; rw [if_pos h]
  rw [e]
  refine ⟨rfl, ?_, ?_⟩ <;> simp only <;> omega
set_option maxRecDepth 100000 in
set_option maxHeartbeats 400000 in
theorem rfirst_any (k p : Int) (w : World) : Calls Tryz.prog 56 #[.int .i64 k, .int .i64 p] w (SomeF w (perE k p)) := by
  have HB := Lib.hid (rbegins_any k p)
  by_cases h : perE k p = 0
  · obtain ⟨_, h1, h2⟩ := beg_ok h
    rw [h] at HB ⊢
    generalize begI k p = b at *
    obtain ⟨y, m⟩ := b
    simp only at h1 h2 HB
    have HD := Lib.hid (rday1_any y m h1 h2)
    clear h h1 h2
    go_enter Tryz.func56, Tryz.ntmps56
    go_wp2_with fail
    refine (HB.out _).mono ?_
    rintro e w1 ⟨rfl, rfl⟩
    go_wp2_with fail
    refine (HD.out _).mono ?_
    rintro e w1 ⟨n, rfl, rfl⟩
    go_wp2_with fail
    go_ret2
    exact ⟨n, rfl, rfl⟩
  · have hb : (perE k p != 0) = true := by simpa using h
    clear h
    generalize perE k p = E at *
    go_enter Tryz.func56, Tryz.ntmps56
    go_wp2_with fail
    refine (HB.out _).mono ?_
    rintro e w1 ⟨rfl, rfl⟩
    go_wp2_with fail
    go_ret2
    exact ⟨0, rfl, rfl⟩
end Go.Proofs.YtokakpbpenndlaaGreatDoor

set_option linter.unusedVariables false
namespace Go.Proofs.YtokakpbpenndlaaGreatDoor
open Go.RowKit Go.Maps

theorem year_le {y day : Int} (hd : day ≤ 3652058) (h : ysI y ≤ day) : y ≤ 9999 := by
  by_cases h1 : y ≤ 9999
  · exact h1
  · have h2 := ysI_lt (y := 9999) (z := y) (by omega)
    have h3 : ysI 9999 = 3651694 := by unfold ysI; omega
    rw [h3] at h2
    split at h2 <;> omega
def YrRel (w : World) (day : Int) (v0 v4 : Value) (wr : World) : Prop := ∃ y L : Int, v0 = .int .i64 L ∧ v4 = .int .i64 y ∧ 0 ≤ L ∧ ysI y = day - L ∧ 1 ≤ y ∧ w = wr
def MoRel (w : World) (y L : Int) (v0 v6 : Value) (wr : World) : Prop := ∃ m : Nat, m < 12 ∧ v6 = .int .i64 ((m : Int) + 1) ∧ v0 = .int .i64 (L - msI y m) ∧ 0 ≤ L - msI y m ∧ w = wr
set_option maxRecDepth 100000 in
set_option maxHeartbeats 4000000 in
theorem rdate_any (day : Int) (hd : 0 ≤ day ∧ day ≤ 3652058) (w : World) : Calls Tryz.prog 120 #[.int .i64 day] w fun e w' => ∃ (y l : Int) (m : Nat), e = .returned (.tuple #[.agg #[.int .i64 y, .int .i64 ((m : Int) + 1), .int .i64 (l + 1)], .int .i64 0]) ∧ DateIs day y m l ∧ Ext w w' := by
  obtain ⟨d0, d1⟩ := hd
  have e0 : decide (day < 0) = false := decide_eq_false (by omega)
  have e1 : decide (3652058 < day) = false := decide_eq_false (by omega)
  have X0 := (Ext.refl w).alloc (.cells #[.int .i64 0, .int .i64 0, .int .i64 0] 188)
  have B2 := Blk.new w 188 #[.int .i64 0, .int .i64 0, .int .i64 0]
  have hs : ysI (day / 146097 * 400 + 1) = day - day % 146097 := by unfold ysI; omega
  have hs1 : 1 ≤ day / 146097 * 400 + 1 := by omega
  have hs2 : 0 ≤ day % 146097 := by omega
  have hs3 : day % 146097 < 146097 := by omega
  go_enter Tryz.func120, Tryz.ntmps120
  go_wp2_with fail
  generalize w.alloc (.cells #[.int .i64 0, .int .i64 0, .int .i64 0] 188) = W at *
  have H0 := Lib.hid (show YrRel W day (.int .i64 (day % 146097)) (.int .i64 (day / 146097 * 400 + 1)) W from ⟨_, _, rfl, rfl, hs2, hs, hs1, rfl⟩)
  clear hs hs1 hs2 hs3 e0 e1
  have HX0 := Lib.hid X0
  have HB2 := Lib.hid B2
  clear X0 B2
  go_loopw [0, 4] (fun a b wr => YrRel W day a b wr) (fun a _ _ => (intOf a).toNat)
  case atStart => exact H0.out
  case round =>
    clear H0
    obtain ⟨y, L, rfl, rfl, hL, hy, hy1, rfl⟩ := hrel
    have hy2 := year_le d1 (by rw [hy]; omega : ysI y ≤ day)
    have hsu := ysI_succ y
    have hL2 : L ≤ 3652058 := by
      have : 0 ≤ ysI y := by unfold ysI; omega
      omega
    by_cases hl : leapI y
    · have HLp := Lib.hid (rleap_any y ⟨hy1, hy2⟩ W)
      rw [decide_eq_true hl] at HLp
      rw [if_pos hl] at hsu
      by_cases h : L < 366
      · have hlt : decide (L < 366) = true := decide_eq_true h
        obtain ⟨m0, HD⟩ := DateIs.mk' ⟨d0, d1⟩ hy hL (by rw [if_pos hl]; exact h)
        have hyb := HD.hy
        have HMK := Lib.hid (fun (m : Nat) (hm : m < 12) (a : 0 ≤ L - msI y m) (b : L - msI y m < lenI y ((m : Int) + 1)) => (show DateIs day y m (L - msI y m) from ⟨hyb, hm, by rw [show (((m + 1 : Nat)) : Int) = (m : Int) + 1 by omega]; exact ⟨a, b⟩, by omega⟩))
        have HM12 := Lib.hid (show L < msI y 12 from by rw [msI_year hyb]; simpa [hl] using h)
        have HH := Lib.hid (show MoRel W y L (.int .i64 L) (.int .i64 ((0 : Int) + 1)) W from ⟨0, by omega, rfl, by simp [msI], by simp [msI]; exact hL, rfl⟩)
        have hL3 : L ≤ 366 := by omega
        clear HD hl hsu h hy
        go_wp2_with fail
        refine HLp.out.mono ?_
        rintro e w1 ⟨rfl, rfl⟩
        go_wp2_with fail
        go_loopw [0, 6] (fun a b wr => MoRel W y L a b wr) (fun a _ _ => (intOf a).toNat)
        case atStart => exact HH.out
        case round =>
          clear HH
          obtain ⟨m, hm, rfl, rfl, hn, rfl⟩ := hrel
          have hmb := msI_bd y m
          have hl28 := lenI_pos hyb (m := (m : Int) + 1) (by omega)
          have hl31 := lenI_bd y ((m : Int) + 1)
          have hms : msI y (m + 1) = msI y m + lenI y ((m : Int) + 1) := by show msI y m + lenI y ((m + 1 : Nat) : Int) = _; rw [show (((m + 1 : Nat)) : Int) = (m : Int) + 1 by omega]
          by_cases hge : lenI y ((m : Int) + 1) ≤ L - msI y m
          · have hm1 : m + 1 < 12 := by
              by_cases h : m + 1 < 12
              · exact h
              · have e : m + 1 = 12 := by omega
                rw [e] at hms
                have := HM12.out
                omega
            have HN := Lib.hid (show MoRel W y L (.int .i64 (L - msI y m - lenI y ((m : Int) + 1))) (.int .i64 ((m : Int) + 1 + 1)) W from ⟨m + 1, hm1, by congr 1, by rw [hms]; congr 1; omega, by rw [hms]; omega, rfl⟩)
            have hdd : decide (lenI y ((m : Int) + 1) ≤ L - msI y m) = true := decide_eq_true hge
            clear hms
            go_wp2_with fail
            refine (rlength_any y ((m : Int) + 1) _).mono ?_
            rintro e w' ⟨rfl, rfl⟩
            go_wp2_with fail
            refine (rlength_any y ((m : Int) + 1) _).mono ?_
            rintro e w' ⟨rfl, rfl⟩
            go_wp2_with fail
            go_roundw
            case rel => exact HN.out
            case measure => simp [intOf]; omega
          · have hdd : decide (lenI y ((m : Int) + 1) ≤ L - msI y m) = false := decide_eq_false hge
            have HI := Lib.hid (HMK.out m hm hn (by omega))
            obtain ⟨q, q'⟩ := HB2.out.cells
            have l2 := HB2.out.lt
            clear hms
            go_wp2_with fail
            refine (rlength_any y ((m : Int) + 1) _).mono ?_
            rintro e w' ⟨rfl, rfl⟩
            go_wp2_with fail
            refine bodyPost_ret (results_ct rfl rfl (ld_date (put3' HB2.out))) rfl ⟨y, L - msI y m, m, rfl, HI.out, ?_⟩
            exact ((HX0.out.set (p := ⟨w.heap.size, 0, none⟩) (Nat.le_refl _) _).set (p := ⟨w.heap.size, 1, none⟩) (Nat.le_refl _) _).set (p := ⟨w.heap.size, 2, none⟩) (Nat.le_refl _) _
      · have hlt : decide (L < 366) = false := decide_eq_false h
        have HN := Lib.hid (show YrRel W day (.int .i64 (L - 366)) (.int .i64 (y + 1)) W from ⟨y + 1, L - 366, rfl, rfl, by omega, by omega, by omega, rfl⟩)
        clear hl hsu hy
        have hge := Int.not_lt.1 h
        clear h
        go_wp2_with fail
        refine HLp.out.mono ?_
        rintro e w1 ⟨rfl, rfl⟩
        go_wp2_with fail
        go_roundw
        case rel => exact HN.out
        case measure => simp [intOf]; omega
    · have HLp := Lib.hid (rleap_any y ⟨hy1, hy2⟩ W)
      rw [decide_eq_false hl] at HLp
      rw [if_neg hl] at hsu
      by_cases h : L < 365
      · have hlt : decide (L < 365) = true := decide_eq_true h
        obtain ⟨m0, HD⟩ := DateIs.mk' ⟨d0, d1⟩ hy hL (by rw [if_neg hl]; exact h)
        have hyb := HD.hy
        have HMK := Lib.hid (fun (m : Nat) (hm : m < 12) (a : 0 ≤ L - msI y m) (b : L - msI y m < lenI y ((m : Int) + 1)) => (show DateIs day y m (L - msI y m) from ⟨hyb, hm, by rw [show (((m + 1 : Nat)) : Int) = (m : Int) + 1 by omega]; exact ⟨a, b⟩, by omega⟩))
        have HM12 := Lib.hid (show L < msI y 12 from by rw [msI_year hyb]; simpa [hl] using h)
        have HH := Lib.hid (show MoRel W y L (.int .i64 L) (.int .i64 ((0 : Int) + 1)) W from ⟨0, by omega, rfl, by simp [msI], by simp [msI]; exact hL, rfl⟩)
        have hL3 : L ≤ 366 := by omega
        clear HD hl hsu h hy
        go_wp2_with fail
        refine HLp.out.mono ?_
        rintro e w1 ⟨rfl, rfl⟩
        go_wp2_with fail
        go_loopw [0, 6] (fun a b wr => MoRel W y L a b wr) (fun a _ _ => (intOf a).toNat)
        case atStart => exact HH.out
        case round =>
          clear HH
          obtain ⟨m, hm, rfl, rfl, hn, rfl⟩ := hrel
          have hmb := msI_bd y m
          have hl28 := lenI_pos hyb (m := (m : Int) + 1) (by omega)
          have hl31 := lenI_bd y ((m : Int) + 1)
          have hms : msI y (m + 1) = msI y m + lenI y ((m : Int) + 1) := by show msI y m + lenI y ((m + 1 : Nat) : Int) = _; rw [show (((m + 1 : Nat)) : Int) = (m : Int) + 1 by omega]
          by_cases hge : lenI y ((m : Int) + 1) ≤ L - msI y m
          · have hm1 : m + 1 < 12 := by
              by_cases h : m + 1 < 12
              · exact h
              · have e : m + 1 = 12 := by omega
                rw [e] at hms
                have := HM12.out
                omega
            have HN := Lib.hid (show MoRel W y L (.int .i64 (L - msI y m - lenI y ((m : Int) + 1))) (.int .i64 ((m : Int) + 1 + 1)) W from ⟨m + 1, hm1, by congr 1, by rw [hms]; congr 1; omega, by rw [hms]; omega, rfl⟩)
            have hdd : decide (lenI y ((m : Int) + 1) ≤ L - msI y m) = true := decide_eq_true hge
            clear hms
            go_wp2_with fail
            refine (rlength_any y ((m : Int) + 1) _).mono ?_
            rintro e w' ⟨rfl, rfl⟩
            go_wp2_with fail
            refine (rlength_any y ((m : Int) + 1) _).mono ?_
            rintro e w' ⟨rfl, rfl⟩
            go_wp2_with fail
            go_roundw
            case rel => exact HN.out
            case measure => simp [intOf]; omega
          · have hdd : decide (lenI y ((m : Int) + 1) ≤ L - msI y m) = false := decide_eq_false hge
            have HI := Lib.hid (HMK.out m hm hn (by omega))
            obtain ⟨q, q'⟩ := HB2.out.cells
            have l2 := HB2.out.lt
            clear hms
            go_wp2_with fail
            refine (rlength_any y ((m : Int) + 1) _).mono ?_
            rintro e w' ⟨rfl, rfl⟩
            go_wp2_with fail
            refine bodyPost_ret (results_ct rfl rfl (ld_date (put3' HB2.out))) rfl ⟨y, L - msI y m, m, rfl, HI.out, ?_⟩
            exact ((HX0.out.set (p := ⟨w.heap.size, 0, none⟩) (Nat.le_refl _) _).set (p := ⟨w.heap.size, 1, none⟩) (Nat.le_refl _) _).set (p := ⟨w.heap.size, 2, none⟩) (Nat.le_refl _) _
      · have hlt : decide (L < 365) = false := decide_eq_false h
        have HN := Lib.hid (show YrRel W day (.int .i64 (L - 365)) (.int .i64 (y + 1)) W from ⟨y + 1, L - 365, rfl, rfl, by omega, by omega, by omega, rfl⟩)
        clear hl hsu hy
        have hge := Int.not_lt.1 h
        clear h
        go_wp2_with fail
        refine HLp.out.mono ?_
        rintro e w1 ⟨rfl, rfl⟩
        go_wp2_with fail
        go_roundw
        case rel => exact HN.out
        case measure => simp [intOf]; omega
set_option maxRecDepth 100000 in
set_option maxHeartbeats 2000000 in
theorem rof_any (k day : Int) (hk : 1 ≤ k ∧ k ≤ 4) (hd : 0 ≤ day ∧ day ≤ 3652058) (w : World) : Calls Tryz.prog 76 #[.int .i64 k, .int .i64 day] w fun e w' => e = .returned (.tuple #[.int .i64 (ofI k day), .int .i64 0]) ∧ Ext w w' := by
  have HC := Lib.hid (rmonths_any k w)
  have hn := longI_of hk
  have HO := Lib.hid (show ofI k day = monI day / longI k from rfl)
  rcases hn with e | e | e | e
  all_goals
    rw [e] at HC HO
    clear e
    go_enter Tryz.func76, Tryz.ntmps76
    go_wp2_with fail
    refine HC.out.mono ?_
    rintro e w1 ⟨rfl, rfl⟩
    go_wp2_with fail
    refine (rdate_any day hd _).mono ?_
    rintro e w2 ⟨y, l, m, rfl, HD, hx2⟩
    have hm := monI_of HD
    have hy := HD.hy
    have hm12 := HD.hm
    rw [hm] at HO
    have B8 := Blk.new w2 188 #[.int .i64 y, .int .i64 ((m : Int) + 1), .int .i64 (l + 1)]
    obtain ⟨q, q'⟩ := B8.cells
    clear HD hm
    obtain ⟨y1, y2⟩ := hy
    go_wp2_with fail
    go_ret2
    refine ⟨?_, hx2.alloc _⟩
    rw [HO.out]
    first | rfl | (congr 4; omega) | (simp; omega)
end Go.Proofs.YtokakpbpenndlaaGreatDoor
