/-
  civil: Day; period: span, First.
-/
import Derived.Test.YtokakpbpenndlaaDoorRp37
import Derived.Test.YtokakpbpenndlaaDoorRp10
set_option linter.unusedVariables false
namespace Go.Proofs.YtokakpbpenndlaaDoor
open Go.RowKit

theorem ysI_bd {y : Int} (hy : 1 ≤ y ∧ y ≤ 9999) : 0 ≤ ysI y ∧ ysI y ≤ 3651694 := by unfold ysI; omega
theorem msI_bd (y : Int) : ∀ n : Nat, 0 ≤ msI y n ∧ msI y n ≤ 31 * (n : Int)
  | 0 => by simp [msI]
  | n + 1 => by
    have h1 := msI_bd y n
    have h2 := lenI_bd y ((n + 1 : Nat) : Int)
    show 0 ≤ msI y n + lenI y ((n + 1 : Nat) : Int) ∧ msI y n + lenI y ((n + 1 : Nat) : Int) ≤ _
    omega
/-- P3.1: the day of a date. -/
def dayI (y m d : Int) : Int × Int := if d < 1 ∨ lenI y m < d then (0, 2) else (ysI y + msI y (m - 1).toNat + d - 1, 0)
def DayRel (y m d : Int) (v i : Value) : Prop := ∃ k : Nat, (k : Int) + 1 ≤ m ∧ i = .int .i64 ((k : Int) + 1) ∧ v = .int .i64 (ysI y + msI y k + d - 1)
theorem DayRel.next {y m d : Int} {k : Nat} {v : Int} (hk : (k : Int) + 1 < m) (hv : v = ysI y + msI y k + d - 1 + lenI y ((k : Int) + 1)) : DayRel y m d (.int .i64 v) (.int .i64 ((k : Int) + 1 + 1)) := by
  refine ⟨k + 1, by omega, by rw [show (((k + 1 : Nat) : Int)) = (k : Int) + 1 by omega], ?_⟩
  rw [hv]
  have : msI y (k + 1) = msI y k + lenI y ((k + 1 : Nat) : Int) := rfl
  rw [this, show (((k + 1 : Nat) : Int)) = (k : Int) + 1 by omega]
  congr 1
  omega
set_option maxRecDepth 100000 in
set_option maxHeartbeats 2000000 in
theorem cday_any (y m d : Int) (w : World) : Calls Tryd.prog 41 #[.int .i64 y, .int .i64 m, .int .i64 d] w fun e w' => e = .returned (.tuple #[.int .i64 (dayI y m d).1, .int .i64 (dayI y m d).2]) ∧ w = w' := by
  by_cases h0 : d < 1
  · have HD := Lib.hid (show dayI y m d = (0, 2) by unfold dayI; rw [if_pos (.inl h0)])
    go_enter Tryd.func41, Tryd.ntmps41
    go_wp2_with fail
    go_ret2
    exact ⟨by rw [HD.out]; rfl, rfl⟩
  by_cases h1 : lenI y m < d
  · have HD := Lib.hid (show dayI y m d = (0, 2) by unfold dayI; rw [if_pos (.inr h1)])
    have d0 : decide (d < 1) = false := by simpa using h0
    have d1 : decide (lenI y m < d) = true := by simpa using h1
    clear h0 h1
    go_enter Tryd.func41, Tryd.ntmps41
    go_wp2_with fail
    refine (clength_any y m _).mono ?_
    rintro e w' ⟨rfl, rfl⟩
    go_wp2_with fail
    go_ret2
    exact ⟨by rw [HD.out]; rfl, rfl⟩
  have HD := Lib.hid (show dayI y m d = (ysI y + msI y (m - 1).toNat + d - 1, 0) by unfold dayI; rw [if_neg (by omega)])
  have d0 : decide (d < 1) = false := by simpa using h0
  have d1 : decide (lenI y m < d) = false := by simpa using h1
  have hlb := lenI_bd y m
  have hym : (1 ≤ y ∧ y ≤ 9999) ∧ (1 ≤ m ∧ m ≤ 12) := by
    by_cases hc : y < 1 ∨ 9999 < y ∨ m < 1 ∨ 12 < m
    · have : lenI y m = 0 := by unfold lenI; rw [if_pos hc]
      omega
    · omega
  obtain ⟨⟨y1, y2⟩, m1, m2⟩ := hym
  have hd31 : d ≤ 31 := by omega
  have hd1 : 1 ≤ d := by omega
  have yb := ysI_bd ⟨y1, y2⟩
  have HY := Lib.hid (show 365 * (y - 1) + (y - 1) / 4 - (y - 1) / 100 + (y - 1) / 400 + d - 1 = ysI y + msI y 0 + d - 1 by unfold ysI; simp [msI])
  clear h0 h1 hlb
  go_enter Tryd.func41, Tryd.ntmps41
  go_wp2_with fail
  refine (clength_any y m _).mono ?_
  rintro e w' ⟨rfl, rfl⟩
  go_wp2_with fail
  go_loop [9, 10] (fun v i => DayRel y m d v i) (fun _ i => (m - intOf i).toNat)
  case atStart => exact ⟨0, by omega, rfl, by rw [← HY.out]⟩
  case round =>
    obtain ⟨k, hk, rfl, rfl⟩ := hrel
    have hb := msI_bd y k
    have lb := lenI_bd y ((k : Int) + 1)
    have hk11 : k ≤ 11 := by omega
    by_cases hlt : (k : Int) + 1 < m
    · have hd : decide ((k : Int) + 1 < m) = true := by simpa using hlt
      go_wp2_with fail
      refine (clength_any y ((k : Int) + 1) _).mono ?_
      rintro e w' ⟨rfl, rfl⟩
      go_wp2_with fail
      go_round
      case rel => exact DayRel.next hlt rfl
      case measure => simp [intOf]; omega
    · have hd : decide ((k : Int) + 1 < m) = false := by simpa using hlt
      have hkm : (m - 1).toNat = k := by omega
      rw [hkm] at HD
      go_wp2_with fail
      go_ret2
      exact ⟨by rw [HD.out]; rfl, rfl⟩
/-- What a period's span is. -/
def spanI (k p : Int) : Int × Int := if perE k p = 0 then (p * longI k, longI k) else (0, 0)
set_option maxRecDepth 100000 in
set_option maxHeartbeats 2000000 in
theorem pspan_any (k p : Int) (hk : i64 k) (w : World) : Calls Tryd.prog 40 #[.int .i64 k, .int .i64 p] w fun e w' => e = .returned (.tuple #[.int .i64 (spanI k p).1, .int .i64 (spanI k p).2, .int .i64 (perE k p)]) ∧ Ext w w' := by
  by_cases h0 : longI k = 0
  · have HS := Lib.hid (show perE k p = 2 by unfold perE; rw [if_pos h0])
    have HP := Lib.hid (show spanI k p = (0, 0) by unfold spanI; rw [HS.out]; rfl)
    have HC := Lib.hid (plong_any k hk w)
    rw [h0] at HC
    rw [show decide ((0 : Int) ≠ 0) = false by decide] at HC
    clear h0
    go_enter Tryd.func40, Tryd.ntmps40
    go_wp2_with fail
    refine HC.out.mono ?_
    rintro e w1 ⟨rfl, hx⟩
    go_wp2_with fail
    go_ret3
    exact ⟨by rw [HS.out, HP.out]; rfl, hx⟩
  · have hn : longI k = 1 ∨ longI k = 3 ∨ longI k = 6 ∨ longI k = 12 := by
      unfold longI at h0 ⊢
      repeat' split at h0
      all_goals simp_all
    have HC := Lib.hid (plong_any k hk w)
    rw [show decide (longI k ≠ 0) = true by simpa using h0] at HC
    by_cases hp : p < 0 ∨ 119988 / longI k ≤ p
    · have HS := Lib.hid (show perE k p = 5 by unfold perE; rw [if_neg h0, if_pos hp])
      have HP := Lib.hid (show spanI k p = (0, 0) by unfold spanI; rw [HS.out]; rfl)
      by_cases hp0 : p < 0
      · have d0 : decide (p < 0) = true := by simpa using hp0
        rcases hn with e | e | e | e
        all_goals
          rw [e] at HC
          clear h0 hp hp0 e
          go_enter Tryd.func40, Tryd.ntmps40
          go_wp2_with fail
          refine HC.out.mono ?_
          rintro e w1 ⟨rfl, hx⟩
          go_wp2_with fail
          go_ret3
          exact ⟨by rw [HS.out, HP.out]; rfl, hx⟩
      · have d0 : decide (p < 0) = false := by simpa using hp0
        have hp1 : 119988 / longI k ≤ p := by omega
        rcases hn with e | e | e | e
        all_goals
          rw [e] at HC hp1
          have d1 := decide_eq_true hp1
          simp only [Int.reduceDiv] at d1
          clear h0 hp hp0 e hp1
          go_enter Tryd.func40, Tryd.ntmps40
          go_wp2_with fail
          refine HC.out.mono ?_
          rintro e w1 ⟨rfl, hx⟩
          go_wp2_with fail
          go_ret3
          exact ⟨by rw [HS.out, HP.out]; rfl, hx⟩
    · have HS := Lib.hid (show perE k p = 0 by unfold perE; rw [if_neg h0, if_neg hp])
      have HP := Lib.hid (show spanI k p = (p * longI k, longI k) by unfold spanI; rw [HS.out]; rfl)
      have hp0 : 0 ≤ p := by omega
      have d0 : decide (p < 0) = false := by simpa using hp0
      have hp1 : p < 119988 / longI k := by omega
      rcases hn with e | e | e | e
      all_goals
        rw [e] at HC hp1 HP
        have hp2 : p < 119988 := by omega
        have d1 := decide_eq_false (Int.not_le.2 hp1)
        simp only [Int.reduceDiv] at hp1 d1
        clear h0 hp e
        go_enter Tryd.func40, Tryd.ntmps40
        go_wp2_with fail
        refine HC.out.mono ?_
        rintro e w1 ⟨rfl, hx⟩
        go_wp2_with fail
        go_ret3
        exact ⟨by rw [HS.out, HP.out]; first | rfl | (rw [Int.mul_one]; rfl), hx⟩
end Go.Proofs.YtokakpbpenndlaaDoor

set_option linter.unusedVariables false
namespace Go.Proofs.YtokakpbpenndlaaDoor
open Go.RowKit

theorem span_ok {k p : Int} (h : perE k p = 0) : (longI k = 1 ∨ longI k = 3 ∨ longI k = 6 ∨ longI k = 12) ∧ 0 ≤ p ∧ p < 119988 ∧ (spanI k p).1 = p * longI k ∧ 0 ≤ p * longI k ∧ p * longI k < 119988 := by
  have hs : (spanI k p).1 = p * longI k := by unfold spanI; rw [if_pos h]
  unfold perE at h
  by_cases h0 : longI k = 0
  · rw [if_pos h0] at h; cases h
  rw [if_neg h0] at h
  by_cases hp : p < 0 ∨ 119988 / longI k ≤ p
  · rw [if_pos hp] at h; cases h
  have hn : longI k = 1 ∨ longI k = 3 ∨ longI k = 6 ∨ longI k = 12 := by
    unfold longI at h0 ⊢
    repeat' split at h0
    all_goals simp_all
  refine ⟨hn, by omega, ?_, hs, ?_, ?_⟩
  all_goals rcases hn with e | e | e | e <;> rw [e] at hp <;> (try rw [e]) <;> omega
set_option maxRecDepth 100000 in
set_option maxHeartbeats 2000000 in
theorem pfirst_any (k p : Int) (hk : i64 k) (w : World) : Calls Tryd.prog 22 #[.int .i64 k, .int .i64 p] w fun e w' => ∃ n : Int, e = .returned (.tuple #[.int .i64 n, .int .i64 (perE k p)]) ∧ Ext w w' := by
  by_cases h : perE k p = 0
  · obtain ⟨_, _, _, hs, h1, h2⟩ := span_ok h
    have HS := Lib.hid (pspan_any k p hk w)
    rw [hs, h] at HS
    have HE := Lib.hid h
    generalize p * longI k = m at *
    have HD := Lib.hid (show (dayI (m / 12 + 1) (m % 12 + 1) 1).2 = 0 by
      have := lenI_pos (y := m / 12 + 1) (m := m % 12 + 1) (by omega) (by omega)
      unfold dayI
      rw [if_neg (by omega)])
    clear hs h
    go_enter Tryd.func22, Tryd.ntmps22
    go_wp2_with fail
    refine HS.out.mono ?_
    rintro e w1 ⟨rfl, hx⟩
    go_wp2_with fail
    refine (cday_any _ _ _ _).mono ?_
    rintro e w2 ⟨rfl, rfl⟩
    rw [HD.out]
    go_wp2_with fail
    go_ret2
    exact ⟨_, by rw [HE.out]; rfl, hx⟩
  · have HS := Lib.hid (pspan_any k p hk w)
    have hb : (perE k p != 0) = true := by simpa using h
    clear h
    generalize perE k p = E at *
    go_enter Tryd.func22, Tryd.ntmps22
    go_wp2_with fail
    refine HS.out.mono ?_
    rintro e w1 ⟨rfl, hx⟩
    go_wp2_with fail
    go_ret2
    exact ⟨0, rfl, hx⟩
theorem ld_date {w : World} {g : Nat} {a b c : Value} (h : Blk w g 109 #[a, b, c]) : (loadVar 109 ⟨g, 0, none⟩).run Tryd.prog w = .ok (.agg #[a, b, c]) w := by
  have q := h.cell
  simp [go_sem, q]
theorem put3' {w : World} {g : Nat} {t : TypeId} {a b c a' b' c' : Value} (h : Blk w g t #[a, b, c]) : Blk (((w.setCell ⟨g, 0, none⟩ a').setCell ⟨g, 1, none⟩ b').setCell ⟨g, 2, none⟩ c') g t #[a', b', c'] := by
  have := ((h.set_ 0 a').set_ 1 b').set_ 2 c'
  simpa using this
/-- Where the search for the month stands. -/
def DtRel (w : World) (y L : Int) (g : Nat) (v : Value) (wr : World) : Prop := ∃ m : Nat, m < 12 ∧ v = .int .i64 (L - msI y m) ∧ 0 ≤ L - msI y m ∧ Blk wr g 109 #[.int .i64 y, .int .i64 ((m : Int) + 1), .int .i64 0] ∧ Blk wr w.heap.size 109 #[.int .i64 0, .int .i64 0, .int .i64 0] ∧ Ext w wr
set_option maxRecDepth 100000 in
set_option maxHeartbeats 4000000 in
theorem cdate_any (day : Int) (hd : 0 ≤ day ∧ day ≤ 3652058) (w : World) : Calls Tryd.prog 43 #[.int .i64 day] w fun e w' => ∃ (y l : Int) (m : Nat), e = .returned (.tuple #[.agg #[.int .i64 y, .int .i64 ((m : Int) + 1), .int .i64 (l + 1)], .int .i64 0]) ∧ DateIs day y m l ∧ Ext w w' := by
  have hv : decide (0 ≤ day ∧ day ≤ 3652058) = true := decide_eq_true hd
  have HV := Lib.hid (cvalid_any day)
  rw [hv] at HV
  obtain ⟨d0, d1⟩ := hd
  clear hv
  go_enter Tryd.func43, Tryd.ntmps43
  go_wp2_with fail
  refine (HV.out _).mono ?_
  rintro e w1 ⟨rfl, rfl⟩
  go_wp2_with fail
  have HYO := year_of (day := day) (q := day / 146097) (r := day % 146097) (by omega) (by omega) rfl rfl rfl rfl rfl
  generalize 400 * (day / 146097) + 100 * min (day % 146097 / 36524) 3 + 4 * ((day % 146097 - min (day % 146097 / 36524) 3 * 36524) / 1461) + min ((day % 146097 - min (day % 146097 / 36524) 3 * 36524) % 1461 / 365) 3 + 1 = y at HYO ⊢
  generalize (day % 146097 - min (day % 146097 / 36524) 3 * 36524) % 1461 - 365 * min ((day % 146097 - min (day % 146097 / 36524) 3 * 36524) % 1461 / 365) 3 = L at HYO ⊢
  obtain ⟨h1, h2, h3⟩ := HYO
  obtain ⟨m0, HD⟩ := DateIs.mk' ⟨d0, d1⟩ h1 h2 h3
  have hy := HD.hy
  rw [← msI_year hy] at h3
  have H0 : DtRel w y L (w.heap.size + 1) (.int .i64 L) ((w.alloc (.cells #[.int .i64 0, .int .i64 0, .int .i64 0] 109)).alloc (.cells #[.int .i64 y, .int .i64 1, .int .i64 0] 109)) :=
    ⟨0, by omega, by simp [msI], by simp [msI]; exact h2, by have := Blk.new (w.alloc (.cells #[.int .i64 0, .int .i64 0, .int .i64 0] 109)) 109 #[.int .i64 y, .int .i64 1, .int .i64 0]; simpa using this, (Blk.new w _ _).alloc _, ((Ext.refl w).alloc _).alloc _⟩
  have hg9 : w.heap.size < w.heap.size + 1 := by omega
  have hgn : w.heap.size ≠ w.heap.size + 1 := by omega
  generalize (w.alloc (.cells #[.int .i64 0, .int .i64 0, .int .i64 0] 109)).alloc (.cells #[.int .i64 y, .int .i64 1, .int .i64 0] 109) = W at H0 ⊢
  obtain ⟨g9, hg⟩ : ∃ g9, w.heap.size + 1 = g9 := ⟨_, rfl⟩
  rw [hg] at H0 hg9 hgn ⊢
  clear hg
  have HH := Lib.hid H0
  have HMK := Lib.hid (fun (m : Nat) (hm : m < 12) (a : 0 ≤ L - msI y m) (b : L - msI y m < lenI y ((m : Int) + 1)) => (show DateIs day y m (L - msI y m) from ⟨hy, hm, by rw [show (((m + 1 : Nat)) : Int) = (m : Int) + 1 by omega]; exact ⟨a, b⟩, by omega⟩))
  have HL := Lib.hid h3
  have hL372 : L ≤ 372 := by have := msI_bd y 12; omega
  clear H0 HD h1 h3 HV
  go_loopw [5] (fun v wr => DtRel w y L g9 v wr) (fun v _ => (intOf v).toNat)
  case atStart => exact HH.out
  case round =>
    clear HH
    obtain ⟨m, hm, rfl, hn, hB, hB2, hx⟩ := hrel
    have hmb := msI_bd y m
    have hl28 := lenI_pos hy (m := (m : Int) + 1) (by omega)
    have hl31 := lenI_bd y ((m : Int) + 1)
    have hms : msI y (m + 1) = msI y m + lenI y ((m : Int) + 1) := by show msI y m + lenI y ((m + 1 : Nat) : Int) = _; rw [show (((m + 1 : Nat)) : Int) = (m : Int) + 1 by omega]
    have hlt9 := hB.lt
    by_cases hge : lenI y ((m : Int) + 1) ≤ L - msI y m
    · have hm1 : m + 1 < 12 := by
        by_cases h : m + 1 < 12
        · exact h
        · have e : m + 1 = 12 := by omega
          rw [e] at hms
          have := HL.out
          omega
      have HN := Lib.hid (fun (W : World) (v : Int) (hv : v = L - msI y m - lenI y ((m : Int) + 1)) (h1 : Blk W g9 109 #[.int .i64 y, .int .i64 ((m : Int) + 1 + 1), .int .i64 0]) (h2 : Blk W w.heap.size 109 #[.int .i64 0, .int .i64 0, .int .i64 0]) (h3 : Ext w W) =>
        (show DtRel w y L g9 (.int .i64 v) W from ⟨m + 1, hm1, by rw [hms, hv]; congr 1; omega, by rw [hms]; omega, by rw [show (((m + 1 : Nat)) : Int) = (m : Int) + 1 by omega]; exact h1, h2, h3⟩))
      clear hms
      have hd : decide (lenI y ((m : Int) + 1) ≤ L - msI y m) = true := decide_eq_true hge
      obtain ⟨q, q'⟩ := hB.cells
      have HB := Lib.hid hB
      clear hB
      go_wp2_with fail
      refine (clength_any y ((m : Int) + 1) _).mono ?_
      rintro e w' ⟨rfl, rfl⟩
      go_wp2_with fail
      refine (clength_any y ((m : Int) + 1) _).mono ?_
      rintro e w' ⟨rfl, rfl⟩
      go_wp2_with fail
      go_roundw
      case rel => exact HN.out _ _ rfl (by have := HB.out.set_ 1 (.int .i64 ((m : Int) + 1 + 1)); simpa using this) (hB2.far (p := ⟨g9, 1, none⟩) hgn _) (hx.set (p := ⟨g9, 1, none⟩) (Nat.le_of_lt hg9) _)
      case measure => simp [intOf]; omega
    · have hd : decide (lenI y ((m : Int) + 1) ≤ L - msI y m) = false := decide_eq_false hge
      have HI := Lib.hid (HMK.out m hm hn (by omega))
      obtain ⟨q, q'⟩ := hB.cells
      have HB := Lib.hid hB
      obtain ⟨r, r'⟩ := hB2.cells
      have lt2 := hB2.lt
      have HB2 := Lib.hid hB2
      clear hB hms hB2
      go_wp2_with fail
      refine (clength_any y ((m : Int) + 1) _).mono ?_
      rintro e w' ⟨rfl, rfl⟩
      go_wp2_with fail
      have B9 := HB2.out.far (p := ⟨g9, 2, none⟩) hgn (.int .i64 (L - msI y m + 1))
      refine bodyPost_ret (results_ct rfl rfl (ld_date (put3' B9))) rfl ⟨y, L - msI y m, m, rfl, HI.out, ?_⟩
      exact ((((hx.set (p := ⟨g9, 2, none⟩) (Nat.le_of_lt hg9) _).set (p := ⟨w.heap.size, 0, none⟩) (Nat.le_refl _) _).set (p := ⟨w.heap.size, 1, none⟩) (Nat.le_refl _) _).set (p := ⟨w.heap.size, 2, none⟩) (Nat.le_refl _) _)
theorem longI_of {k : Int} (hk : 1 ≤ k ∧ k ≤ 4) : longI k = 1 ∨ longI k = 3 ∨ longI k = 6 ∨ longI k = 12 := by
  have : k = 1 ∨ k = 2 ∨ k = 3 ∨ k = 4 := by omega
  rcases this with h | h | h | h <;> subst h <;> simp [longI]
set_option maxRecDepth 100000 in
set_option maxHeartbeats 2000000 in
theorem pof_any (k day : Int) (hk : 1 ≤ k ∧ k ≤ 4) (hd : 0 ≤ day ∧ day ≤ 3652058) (w : World) : Calls Tryd.prog 24 #[.int .i64 k, .int .i64 day] w fun e w' => e = .returned (.tuple #[.int .i64 (ofI k day), .int .i64 0]) ∧ Ext w w' := by
  have HC := Lib.hid (plong_any k (by unfold i64; omega) w)
  have hn := longI_of hk
  rw [show decide (longI k ≠ 0) = true by simp; omega] at HC
  have HO := Lib.hid (show ofI k day = monI day / longI k from rfl)
  rcases hn with e | e | e | e
  all_goals
    rw [e] at HC HO
    clear e
    go_enter Tryd.func24, Tryd.ntmps24
    go_wp2_with fail
    refine HC.out.mono ?_
    rintro e w1 ⟨rfl, hx⟩
    go_wp2_with fail
    refine (cdate_any day hd _).mono ?_
    rintro e w2 ⟨y, l, m, rfl, HD, hx2⟩
    have hm := monI_of HD
    have hy := HD.hy
    have hm12 := HD.hm
    rw [hm] at HO
    have B8 := Blk.new w2 109 #[.int .i64 y, .int .i64 ((m : Int) + 1), .int .i64 (l + 1)]
    obtain ⟨q, q'⟩ := B8.cells
    clear HD hm
    obtain ⟨y1, y2⟩ := hy
    go_wp2_with fail
    go_ret2
    refine ⟨?_, ((Ext.trans hx hx2).alloc _)⟩
    rw [HO.out]
    first | rfl | (congr 4; omega) | (simp; omega)
end Go.Proofs.YtokakpbpenndlaaDoor
