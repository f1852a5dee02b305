/-
  remit: Check, fields.
-/
import Derived.Test.YtokakpbpenndlaaGreatDoorRq35
import Derived.Test.YtokakpbpenndlaaGreatDoorRq05
import Derived.StillTailTactics
import Derived.Laws.BytesArg
import Derived.Deep.QuietTactic
import Derived.IntWalk
import Derived.Outline
set_option linter.unusedVariables false
namespace Go.Proofs.YtokakpbpenndlaaGreatDoor
open Go.RowKit

set_option maxRecDepth 100000 in
set_option maxHeartbeats 2000000 in
theorem rrcheck_any (r : Rep) (hk : i64 r.k) (w : World) : Calls Tryz.prog 18 #[r.V] w fun e w' => e = .returned (.int .i64 r.check) ∧ Ext w w' := by
  obtain ⟨j, k, p, t, x, v, s, b⟩ := r
  simp only at hk
  have X0 := (Ext.refl w).alloc (.cells #[.int .i64 j, .int .i64 k, .int .i64 p, .int .i64 t, .int .i64 x, .int .i64 v, .int .i64 s, .int .i64 b] 23)
  have B0 := Blk.new w 23 #[.int .i64 j, .int .i64 k, .int .i64 p, .int .i64 t, .int .i64 x, .int .i64 v, .int .i64 s, .int .i64 b]
  have HP := Lib.hid (pfirst_any k p hk)
  obtain ⟨C, hC⟩ : ∃ C, (⟨j, k, p, t, x, v, s, b⟩ : Rep).check = C := ⟨_, rfl⟩
  rw [hC]
  unfold Rep.check at hC
  simp only at hC
  obtain ⟨E, hE⟩ : ∃ E, perE k p = E := ⟨_, rfl⟩
  rw [hE] at hC HP
  replace hE := Lib.hid hE
  by_cases h0 : E = 0
  case neg =>
    rw [if_pos (.inl h0)] at hC
    have hb : (E != 0) = true := by simpa using h0
    subst hC
    clear h0
    go_enter Tryz.func18, Tryz.ntmps18
    go_wp2_with fail
    refine (HP.out _).mono ?_
    rintro e w1 ⟨n, rfl, hx⟩
    go_wp2_with fail
    go_ret
    exact ⟨rfl, X0.trans hx⟩
  have hb : (E != 0) = false := by simp [h0]
  by_cases hbad : j < 1 ∨ 1099511627775 < j ∨ s < 0 ∨ 2147483647 < s ∨ b < 0 ∨ 2147483647 < b
  · rw [if_pos (.inr hbad)] at hC
    subst hC
    replace h0 := Lib.hid h0
    rcases (show decide (j < 1) = true ∨ (decide (j < 1) = false ∧ decide (1099511627775 < j) = true) ∨ (decide (j < 1) = false ∧ decide (1099511627775 < j) = false ∧ decide (s < 0) = true) ∨ (decide (j < 1) = false ∧ decide (1099511627775 < j) = false ∧ decide (s < 0) = false ∧ decide (2147483647 < s) = true) ∨
      (decide (j < 1) = false ∧ decide (1099511627775 < j) = false ∧ decide (s < 0) = false ∧ decide (2147483647 < s) = false ∧ decide (b < 0) = true) ∨ (decide (j < 1) = false ∧ decide (1099511627775 < j) = false ∧ decide (s < 0) = false ∧ decide (2147483647 < s) = false ∧ decide (b < 0) = false ∧ decide (2147483647 < b) = true) by
      simp only [decide_eq_true_eq, decide_eq_false_iff_not]; omega) with h1 | ⟨h1, h2⟩ | ⟨h1, h2, h3⟩ | ⟨h1, h2, h3, h4⟩ | ⟨h1, h2, h3, h4, h5⟩ | ⟨h1, h2, h3, h4, h5, h6⟩
    all_goals
      clear hbad
      go_enter Tryz.func18, Tryz.ntmps18
      go_wp2_with fail
      refine (HP.out _).mono ?_
      rintro e w1 ⟨n, rfl, hx⟩
      have B1 := B0.ext hx
      obtain ⟨q, q'⟩ := B1.cells
      go_wp2_with fail
      go_ret
      exact ⟨rfl, X0.trans hx⟩
  · rw [if_neg (by omega)] at hC
    subst hC
    have h1 : decide (j < 1) = false := by simp; omega
    have h2 : decide (1099511627775 < j) = false := by simp; omega
    have h3 : decide (s < 0) = false := by simp; omega
    have h4 : decide (2147483647 < s) = false := by simp; omega
    have h5 : decide (b < 0) = false := by simp; omega
    have h6 : decide (2147483647 < b) = false := by simp; omega
    replace h0 := Lib.hid h0
    clear hbad
    go_enter Tryz.func18, Tryz.ntmps18
    go_wp2_with fail
    refine (HP.out _).mono ?_
    rintro e w1 ⟨n, rfl, hx⟩
    have B1 := B0.ext hx
    obtain ⟨q, q'⟩ := B1.cells
    go_wp2_with fail
    go_ret
    exact ⟨rfl, X0.trans hx⟩
abbrev fldsV (g : Nat) : Value := .agg #[.pointer (some ⟨g, 0, none⟩), .pointer (some ⟨g, 1, none⟩), .pointer (some ⟨g, 2, none⟩), .pointer (some ⟨g, 3, none⟩), .pointer (some ⟨g, 4, none⟩), .pointer (some ⟨g, 5, none⟩), .pointer (some ⟨g, 6, none⟩), .pointer (some ⟨g, 7, none⟩)]
theorem flds_at (g : Nat) : ∀ k : Nat, k < 8 → ∀ W, (Instr.index 88 (fldsV g) (.int .i64 (k : Int))).run Tryz.prog W = .ok (.pointer (some ⟨g, k, none⟩)) W
  | 0, _, _ => by kernel_rfl
  | 1, _, _ => by kernel_rfl
  | 2, _, _ => by kernel_rfl
  | 3, _, _ => by kernel_rfl
  | 4, _, _ => by kernel_rfl
  | 5, _, _ => by kernel_rfl
  | 6, _, _ => by kernel_rfl
  | 7, _, _ => by kernel_rfl
  | k + 8, h, _ => absurd h (by omega)
theorem ld_flds {w : World} {g : Nat} {a b c d e f i j : Value} (h : Blk w g 88 #[a, b, c, d, e, f, i, j]) : (loadVar 88 ⟨g, 0, none⟩).run Tryz.prog w = .ok (.agg #[a, b, c, d, e, f, i, j]) w := by
  have q := h.cell
  simp [go_sem, q]
set_option maxRecDepth 100000 in
set_option maxHeartbeats 400000 in
theorem rfields_any (g : Nat) (w : World) : Calls Tryz.prog 42 #[.pointer (some ⟨g, 0, none⟩)] w fun e w' => e = .returned (fldsV g) ∧ Ext w w' := by
  have X0 := (Ext.refl w).alloc (.cells #[.pointer none, .pointer none, .pointer none, .pointer none, .pointer none, .pointer none, .pointer none, .pointer none] 88)
  have B0 := Blk.new w 88 #[.pointer none, .pointer none, .pointer none, .pointer none, .pointer none, .pointer none, .pointer none, .pointer none]
  have hge := Nat.le_refl w.heap.size
  go_enter Tryz.func42, Tryz.ntmps42
  go_wp2_with fail
  generalize hg2 : w.heap.size = g2 at *
  generalize w.alloc (.cells #[.pointer none, .pointer none, .pointer none, .pointer none, .pointer none, .pointer none, .pointer none, .pointer none] 88) = W1 at *
  have hg3 : w.heap.size ≤ g2 := by omega
  replace hg2 := Lib.hid hg2
  obtain ⟨q, q'⟩ := B0.cells
  have lg := B0.lt
  go_still_tail 24, (by kernel_rfl)
  go_wp2_with fail
  exact bodyPost_ret (results_c rfl rfl (ld_flds (Blk.ext (put8 B0) (Ext.refl _).drew))) rfl ⟨rfl, (ext8 X0 hg3 _ _ _ _ _ _ _ _).drew⟩
end Go.Proofs.YtokakpbpenndlaaGreatDoor

set_option linter.unusedVariables false
namespace Go.Proofs.YtokakpbpenndlaaGreatDoor
open Go.RowKit

/-- A number below 10,000 in two digits. -/
def twoL (n : Int) : List UInt8 := [UInt8.ofNat (48 + n / 10 % 10).toNat, UInt8.ofNat (48 + n % 10).toNat]
set_option maxRecDepth 100000 in
theorem ptwo_any (n : Int) (hn : 0 ≤ n ∧ n ≤ 9999) (w : World) : Calls Tryz.prog 129 #[.int .i64 n] w fun e w' => e = .returned (.string ⟨(twoL n).toArray⟩) ∧ Ext w w' := by
  obtain ⟨n0, n1⟩ := hn
  have B := Blk.new w 5 #[.int .u8 (48 + n / 10 % 10), .int .u8 (48 + n % 10)]
  have hcv := run_convert_bytes_arg (P := Tryz.prog) (w.alloc (.cells #[.int .u8 (48 + n / 10 % 10), .int .u8 (48 + n % 10)] 5)) 24 5 Tryz.underlying24 Tryz.underlying5 w.heap.size 0 2 2 [48 + n / 10 % 10, 48 + n % 10] rfl (fun i hi => by
    rw [Nat.zero_add, B.cell]
    have : i = 0 ∨ i = 1 := by omega
    rcases this with rfl | rfl <;> rfl) 9 Tryz.underlying9
  clear B
  go_enter Tryz.func129, Tryz.ntmps129
  go_wp2_with fail
  go_ret
  exact ⟨by simp only [strOfNums, twoL, List.map, Array.getD]; rfl, (Ext.refl w).alloc _⟩
theorem bytes_app (a b : List UInt8) : (⟨a.toArray⟩ ++ ⟨b.toArray⟩ : ByteArray) = ⟨(a ++ b).toArray⟩ := by
  apply ByteArray.ext
  simp [ByteArray.data_append]
theorem ret_str {a b : ByteArray} (h : a = b) : Ending.returned (.string a) = .returned (.string b) := by rw [h]
/-- P4.2: a period's text (of a period that may be). -/
def perTextN (k m n : Int) : List UInt8 :=
  twoL ((m / 12 + 1) / 100) ++ twoL (m / 12 + 1) ++
    (if k = 1 then [45, 77] ++ twoL (m % 12 / n + 1) else if k = 2 then [45, 81] ++ (twoL (m % 12 / n + 1)).drop 1 else if k = 3 then [45, 72] ++ (twoL (m % 12 / n + 1)).drop 1 else [])
def perText (k p : Int) : List UInt8 := perTextN k (p * longI k) (longI k)
set_option maxRecDepth 100000 in
set_option maxHeartbeats 1000000 in
theorem pstring_any (k p : Int) (hk : i64 k) (h : perE k p = 0) (w : World) : Calls Tryz.prog 89 #[.agg #[.int .i64 k, .int .i64 p]] w fun e w' => e = .returned (.string ⟨(perText k p).toArray⟩) ∧ Ext w w' := by
  obtain ⟨hn, p0, p1, hs, h1, h2⟩ := span_ok h
  have hk4 : k = 1 ∨ k = 2 ∨ k = 3 ∨ k = 4 := by
    unfold perE longI at h
    by_cases e1 : k = 1
    · omega
    by_cases e2 : k = 2
    · omega
    by_cases e3 : k = 3
    · omega
    by_cases e4 : k = 4
    · omega
    rw [if_neg e1, if_neg e2, if_neg e3, if_neg e4, if_pos rfl] at h
    cases h
  have hs2 : (spanI k p).2 = longI k := by unfold spanI; rw [if_pos h]
  have HS := Lib.hid (pspan_any k p hk)
  rw [hs, hs2, h] at HS
  have HT := Lib.hid (show perText k p = perTextN k (p * longI k) (longI k) from rfl)
  have X0 := (Ext.refl w).alloc (.cells #[.int .i64 k, .int .i64 p] 161)
  generalize p * longI k = m at *
  clear hs hs2 h hn
  rcases hk4 with rfl | rfl | rfl | rfl
  · have HT2 := Lib.hid (HT.out.trans (show perTextN 1 m (longI 1) = twoL ((m / 12 + 1) / 100) ++ twoL (m / 12 + 1) ++ ([45, 77] ++ twoL (m % 12 + 1)) from by unfold perTextN; rw [show longI 1 = 1 from rfl, Int.ediv_one]; rfl))
    have HS2 := Lib.hid (show ∀ w, Calls Tryz.prog 88 #[.int .i64 1, .int .i64 p] w fun e w' => e = .returned (.tuple #[.int .i64 m, .int .i64 1, .int .i64 0]) ∧ Ext w w' from HS.out)
    have B0 := Blk.new w 161 #[.int .i64 1, .int .i64 p]
    have hy : 1 ≤ m / 12 + 1 ∧ m / 12 + 1 ≤ 9999 := by omega
    have ha : 1 ≤ m % 12 + 1 ∧ m % 12 + 1 ≤ 12 := by omega
    clear HT HS
    go_enter Tryz.func89, Tryz.ntmps89
    go_wp2_with fail
    refine (HS2.out _).mono ?_
    rintro e w1 ⟨rfl, hx⟩
    have X1 := X0.trans hx
    have B1 := B0.ext hx
    obtain ⟨q, q'⟩ := B1.cells
    go_wp2_with fail
    go_quiet (fail)
    generalize m / 12 + 1 = y at *
    generalize m % 12 + 1 = a at *
    obtain ⟨y1, y2⟩ := hy
    obtain ⟨a1, a2⟩ := ha
    go_wp2_with fail
    refine (ptwo_any (y / 100) (by omega) _).mono ?_
    rintro e w2 ⟨rfl, hx2⟩
    go_wp2_with fail
    refine (ptwo_any y (by omega) _).mono ?_
    rintro e w3 ⟨rfl, hx3⟩
    have X3 := ((X1.drewN _).trans hx2).trans hx3
    have B3 := ((B1.drewN _).ext hx2).ext hx3
    clear q q' B0 B1 X0 X1 hx hx2 hx3
    obtain ⟨q, q'⟩ := B3.cells
    go_wp2_with fail
    refine (ptwo_any a (by omega) _).mono ?_
    rintro e w4 ⟨rfl, hx4⟩
    have htl : (twoL a).length = 2 := rfl
    go_wp2_with fail
    go_ret
    exact ⟨ret_str (by rw [HT2.out]; apply ByteArray.ext; simp [ByteArray.data_append, twoL]), X3.trans hx4⟩
  · have HT2 := Lib.hid (HT.out.trans (show perTextN 2 m (longI 2) = twoL ((m / 12 + 1) / 100) ++ twoL (m / 12 + 1) ++ ([45, 81] ++ (twoL (m % 12 / 3 + 1)).drop 1) from rfl))
    have HS2 := Lib.hid (show ∀ w, Calls Tryz.prog 88 #[.int .i64 2, .int .i64 p] w fun e w' => e = .returned (.tuple #[.int .i64 m, .int .i64 3, .int .i64 0]) ∧ Ext w w' from HS.out)
    have B0 := Blk.new w 161 #[.int .i64 2, .int .i64 p]
    have hy : 1 ≤ m / 12 + 1 ∧ m / 12 + 1 ≤ 9999 := by omega
    have ha : 1 ≤ m % 12 / 3 + 1 ∧ m % 12 / 3 + 1 ≤ 12 := by omega
    clear HT HS
    go_enter Tryz.func89, Tryz.ntmps89
    go_wp2_with fail
    refine (HS2.out _).mono ?_
    rintro e w1 ⟨rfl, hx⟩
    have X1 := X0.trans hx
    have B1 := B0.ext hx
    obtain ⟨q, q'⟩ := B1.cells
    go_wp2_with fail
    go_quiet (fail)
    generalize m / 12 + 1 = y at *
    generalize m % 12 / 3 + 1 = a at *
    obtain ⟨y1, y2⟩ := hy
    obtain ⟨a1, a2⟩ := ha
    go_wp2_with fail
    refine (ptwo_any (y / 100) (by omega) _).mono ?_
    rintro e w2 ⟨rfl, hx2⟩
    go_wp2_with fail
    refine (ptwo_any y (by omega) _).mono ?_
    rintro e w3 ⟨rfl, hx3⟩
    have X3 := ((X1.drewN _).trans hx2).trans hx3
    have B3 := ((B1.drewN _).ext hx2).ext hx3
    clear q q' B0 B1 X0 X1 hx hx2 hx3
    obtain ⟨q, q'⟩ := B3.cells
    go_wp2_with fail
    refine (ptwo_any a (by omega) _).mono ?_
    rintro e w4 ⟨rfl, hx4⟩
    have htl : (twoL a).length = 2 := rfl
    go_wp2_with fail
    go_ret
    exact ⟨ret_str (by rw [HT2.out]; apply ByteArray.ext; simp [ByteArray.data_append, ByteArray.data_extract, twoL]), X3.trans hx4⟩
  · have HT2 := Lib.hid (HT.out.trans (show perTextN 3 m (longI 3) = twoL ((m / 12 + 1) / 100) ++ twoL (m / 12 + 1) ++ ([45, 72] ++ (twoL (m % 12 / 6 + 1)).drop 1) from rfl))
    have HS2 := Lib.hid (show ∀ w, Calls Tryz.prog 88 #[.int .i64 3, .int .i64 p] w fun e w' => e = .returned (.tuple #[.int .i64 m, .int .i64 6, .int .i64 0]) ∧ Ext w w' from HS.out)
    have B0 := Blk.new w 161 #[.int .i64 3, .int .i64 p]
    have hy : 1 ≤ m / 12 + 1 ∧ m / 12 + 1 ≤ 9999 := by omega
    have ha : 1 ≤ m % 12 / 6 + 1 ∧ m % 12 / 6 + 1 ≤ 12 := by omega
    clear HT HS
    go_enter Tryz.func89, Tryz.ntmps89
    go_wp2_with fail
    refine (HS2.out _).mono ?_
    rintro e w1 ⟨rfl, hx⟩
    have X1 := X0.trans hx
    have B1 := B0.ext hx
    obtain ⟨q, q'⟩ := B1.cells
    go_wp2_with fail
    go_quiet (fail)
    generalize m / 12 + 1 = y at *
    generalize m % 12 / 6 + 1 = a at *
    obtain ⟨y1, y2⟩ := hy
    obtain ⟨a1, a2⟩ := ha
    go_wp2_with fail
    refine (ptwo_any (y / 100) (by omega) _).mono ?_
    rintro e w2 ⟨rfl, hx2⟩
    go_wp2_with fail
    refine (ptwo_any y (by omega) _).mono ?_
    rintro e w3 ⟨rfl, hx3⟩
    have X3 := ((X1.drewN _).trans hx2).trans hx3
    have B3 := ((B1.drewN _).ext hx2).ext hx3
    clear q q' B0 B1 X0 X1 hx hx2 hx3
    obtain ⟨q, q'⟩ := B3.cells
    go_wp2_with fail
    refine (ptwo_any a (by omega) _).mono ?_
    rintro e w4 ⟨rfl, hx4⟩
    have htl : (twoL a).length = 2 := rfl
    go_wp2_with fail
    go_ret
    exact ⟨ret_str (by rw [HT2.out]; apply ByteArray.ext; simp [ByteArray.data_append, ByteArray.data_extract, twoL]), X3.trans hx4⟩
  · have HT2 := Lib.hid (HT.out.trans (show perTextN 4 m (longI 4) = twoL ((m / 12 + 1) / 100) ++ twoL (m / 12 + 1) ++ [] from rfl))
    have HS2 := Lib.hid (show ∀ w, Calls Tryz.prog 88 #[.int .i64 4, .int .i64 p] w fun e w' => e = .returned (.tuple #[.int .i64 m, .int .i64 12, .int .i64 0]) ∧ Ext w w' from HS.out)
    have B0 := Blk.new w 161 #[.int .i64 4, .int .i64 p]
    have hy : 1 ≤ m / 12 + 1 ∧ m / 12 + 1 ≤ 9999 := by omega
    have ha : 1 ≤ m % 12 / 12 + 1 ∧ m % 12 / 12 + 1 ≤ 12 := by omega
    clear HT HS
    go_enter Tryz.func89, Tryz.ntmps89
    go_wp2_with fail
    refine (HS2.out _).mono ?_
    rintro e w1 ⟨rfl, hx⟩
    have X1 := X0.trans hx
    have B1 := B0.ext hx
    obtain ⟨q, q'⟩ := B1.cells
    go_wp2_with fail
    go_quiet (fail)
    generalize m / 12 + 1 = y at *
    generalize m % 12 / 12 + 1 = a at *
    obtain ⟨y1, y2⟩ := hy
    obtain ⟨a1, a2⟩ := ha
    go_wp2_with fail
    refine (ptwo_any (y / 100) (by omega) _).mono ?_
    rintro e w2 ⟨rfl, hx2⟩
    go_wp2_with fail
    refine (ptwo_any y (by omega) _).mono ?_
    rintro e w3 ⟨rfl, hx3⟩
    have X3 := ((X1.drewN _).trans hx2).trans hx3
    have B3 := ((B1.drewN _).ext hx2).ext hx3
    clear q q' B0 B1 X0 X1 hx hx2 hx3
    obtain ⟨q, q'⟩ := B3.cells
    go_wp2_with fail
    go_ret
    exact ⟨ret_str (by rw [HT2.out]; apply ByteArray.ext; simp [ByteArray.data_append, twoL]), X3⟩
theorem ptext_any (k p : Int) (hk : i64 k) (h : perE k p = 0) (w : World) : Calls Tryz.prog 46 #[.int .i64 k, .int .i64 p] w fun e w' => e = .returned (.tuple #[.string ⟨(perText k p).toArray⟩, .int .i64 0]) ∧ Ext w w' := by
  have HS := Lib.hid (pspan_any k p hk)
  rw [h] at HS
  have HP := Lib.hid (pstring_any k p hk h)
  clear h
  go_enter Tryz.func46, Tryz.ntmps46
  go_wp2_with fail
  refine (HS.out _).mono ?_
  rintro e w1 ⟨rfl, hx⟩
  go_wp2_with fail
  refine (HP.out _).mono ?_
  rintro e w2 ⟨rfl, hx2⟩
  go_wp2_with fail
  go_ret2
  exact ⟨rfl, Ext.trans hx hx2⟩
end Go.Proofs.YtokakpbpenndlaaGreatDoor
