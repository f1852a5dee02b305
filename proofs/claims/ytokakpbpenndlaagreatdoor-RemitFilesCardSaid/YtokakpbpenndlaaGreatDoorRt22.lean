/-
  civil: leap, valid, Length (the program's and the reference's).
-/
import Derived.Test.YtokakpbpenndlaaGreatDoorRt05
import Derived.Test.YtokakpbpenndlaaGreatDoorProg
import Derived.Test.YtokakpbpenndlaaGreatDoorRt09
import Derived.Maps.Own
import Derived.Maps.OwnOps
import Derived.Maps.OwnSet
set_option linter.unusedVariables false
namespace Go.Proofs.YtokakpbpenndlaaGreatDoor
open Go.RowKit

theorem cleap_any (y : Int) (hy : 1 ≤ y ∧ y ≤ 9999) (w : World) : Calls Tryz.prog 167 #[.int .i64 y] w fun e w' => e = .returned (.bool (decide (leapI y))) ∧ w = w' := by
  have e1 : y.tmod 4 = y % 4 := Int.tmod_eq_emod_of_nonneg (by omega)
  have e2 : y.tmod 100 = y % 100 := Int.tmod_eq_emod_of_nonneg (by omega)
  have e3 : y.tmod 400 = y % 400 := Int.tmod_eq_emod_of_nonneg (by omega)
  go_enter Tryz.func167, Tryz.ntmps167
  go_wp2
  all_goals (go_ret; exact ⟨ret_bool (by first | (simp_all [leapI]; done) | (simp_all [leapI]; rfl)), rfl⟩)
theorem rleap_any (y : Int) (hy : 1 ≤ y ∧ y ≤ 9999) (w : World) : Calls Tryz.prog 153 #[.int .i64 y] w fun e w' => e = .returned (.bool (decide (leapI y))) ∧ w = w' := by
  have e1 : y.tmod 4 = y % 4 := Int.tmod_eq_emod_of_nonneg (by omega)
  have e2 : y.tmod 100 = y % 100 := Int.tmod_eq_emod_of_nonneg (by omega)
  have e3 : y.tmod 400 = y % 400 := Int.tmod_eq_emod_of_nonneg (by omega)
  go_enter Tryz.func153, Tryz.ntmps153
  go_wp2
  all_goals (go_ret; exact ⟨ret_bool (by first | (simp_all [leapI]; done) | (simp_all [leapI]; rfl)), rfl⟩)
theorem cvalid_any (d : Int) (w : World) : Calls Tryz.prog 152 #[.int .i64 d] w fun e w' => e = .returned (.bool (decide (0 ≤ d ∧ d ≤ 3652058))) ∧ w = w' := by
  go_enter Tryz.func152, Tryz.ntmps152
  go_wp2
  all_goals (go_ret; exact ⟨ret_bool (by first | (simp; done) | (simp; omega)), rfl⟩)
end Go.Proofs.YtokakpbpenndlaaGreatDoor

set_option linter.unusedVariables false
namespace Go.Proofs.YtokakpbpenndlaaGreatDoor
open Go.RowKit

set_option maxHeartbeats 1000000 in
theorem rlength_any (y m : Int) (w : World) : Calls Tryz.prog 138 #[.int .i64 y, .int .i64 m] w fun e w' => e = .returned (.int .i64 (lenI y m)) ∧ w = w' := by
  by_cases h : y < 1 ∨ 9999 < y ∨ m < 1 ∨ 12 < m
  · have hl : lenI y m = 0 := by unfold lenI; rw [if_pos h]
    rw [hl]
    go_enter Tryz.func138, Tryz.ntmps138
    go_wp2
    all_goals first | (go_ret; exact ⟨rfl, rfl⟩) | (exfalso; omega)
  · have hy : 1 ≤ y ∧ y ≤ 9999 := by omega
    have hm : 1 ≤ m ∧ m ≤ 12 := by omega
    have b1 : ¬ y < 1 := by omega
    have b2 : ¬ 9999 < y := by omega
    have b3 : ¬ m < 1 := by omega
    have b4 : ¬ 12 < m := by omega
    have : m = 1 ∨ m = 2 ∨ m = 3 ∨ m = 4 ∨ m = 5 ∨ m = 6 ∨ m = 7 ∨ m = 8 ∨ m = 9 ∨ m = 10 ∨ m = 11 ∨ m = 12 := by omega
    by_cases hl : leapI y
    all_goals
      rcases this with e | e | e | e | e | e | e | e | e | e | e | e <;> subst e
    all_goals
      go_enter Tryz.func138, Tryz.ntmps138
      go_wp2_with (go_at_call 153; refine (rleap_any _ hy _).mono ?_; rintro e w' ⟨rfl, rfl⟩)
      all_goals first | (go_ret; exact ⟨by simp [lenI, b1, b2, hl], rfl⟩) | (exfalso; simp_all; done)
end Go.Proofs.YtokakpbpenndlaaGreatDoor

set_option linter.unusedVariables false
namespace Go.Proofs.YtokakpbpenndlaaGreatDoor
open Go.RowKit

abbrev lenA : Value := .agg #[.int .i64 0, .int .i64 31, .int .i64 28, .int .i64 31, .int .i64 30, .int .i64 31, .int .i64 30, .int .i64 31, .int .i64 31, .int .i64 30, .int .i64 31, .int .i64 30, .int .i64 31]
theorem lenA_at (y m : Int) (hy : 1 ≤ y ∧ y ≤ 9999) (hm : 1 ≤ m ∧ m ≤ 12) (h : ¬ (m = 2 ∧ leapI y)) (w : World) : (Instr.index 228 lenA (.int .i64 m)).run Tryz.prog w = .ok (.int .i64 (lenI y m)) w := by
  have b1 : ¬ y < 1 := by omega
  have b2 : ¬ 9999 < y := by omega
  have : m = 1 ∨ m = 2 ∨ m = 3 ∨ m = 4 ∨ m = 5 ∨ m = 6 ∨ m = 7 ∨ m = 8 ∨ m = 9 ∨ m = 10 ∨ m = 11 ∨ m = 12 := by omega
  rcases this with rfl | rfl | rfl | rfl | rfl | rfl | rfl | rfl | rfl | rfl | rfl | rfl
  · have i : (Instr.index 228 lenA (.int .i64 1)).run Tryz.prog w = .ok (.int .i64 31) w := by kernel_rfl
    rw [i, show lenI y 1 = 31 by simp [lenI, b1, b2]]
  · have hl : ¬ leapI y := fun c => h ⟨rfl, c⟩
    have i : (Instr.index 228 lenA (.int .i64 2)).run Tryz.prog w = .ok (.int .i64 28) w := by kernel_rfl
    rw [i, show lenI y 2 = 28 by simp [lenI, b1, b2, hl]]
  · have i : (Instr.index 228 lenA (.int .i64 3)).run Tryz.prog w = .ok (.int .i64 31) w := by kernel_rfl
    rw [i, show lenI y 3 = 31 by simp [lenI, b1, b2]]
  · have i : (Instr.index 228 lenA (.int .i64 4)).run Tryz.prog w = .ok (.int .i64 30) w := by kernel_rfl
    rw [i, show lenI y 4 = 30 by simp [lenI, b1, b2]]
  · have i : (Instr.index 228 lenA (.int .i64 5)).run Tryz.prog w = .ok (.int .i64 31) w := by kernel_rfl
    rw [i, show lenI y 5 = 31 by simp [lenI, b1, b2]]
  · have i : (Instr.index 228 lenA (.int .i64 6)).run Tryz.prog w = .ok (.int .i64 30) w := by kernel_rfl
    rw [i, show lenI y 6 = 30 by simp [lenI, b1, b2]]
  · have i : (Instr.index 228 lenA (.int .i64 7)).run Tryz.prog w = .ok (.int .i64 31) w := by kernel_rfl
    rw [i, show lenI y 7 = 31 by simp [lenI, b1, b2]]
  · have i : (Instr.index 228 lenA (.int .i64 8)).run Tryz.prog w = .ok (.int .i64 31) w := by kernel_rfl
    rw [i, show lenI y 8 = 31 by simp [lenI, b1, b2]]
  · have i : (Instr.index 228 lenA (.int .i64 9)).run Tryz.prog w = .ok (.int .i64 30) w := by kernel_rfl
    rw [i, show lenI y 9 = 30 by simp [lenI, b1, b2]]
  · have i : (Instr.index 228 lenA (.int .i64 10)).run Tryz.prog w = .ok (.int .i64 31) w := by kernel_rfl
    rw [i, show lenI y 10 = 31 by simp [lenI, b1, b2]]
  · have i : (Instr.index 228 lenA (.int .i64 11)).run Tryz.prog w = .ok (.int .i64 30) w := by kernel_rfl
    rw [i, show lenI y 11 = 30 by simp [lenI, b1, b2]]
  · have i : (Instr.index 228 lenA (.int .i64 12)).run Tryz.prog w = .ok (.int .i64 31) w := by kernel_rfl
    rw [i, show lenI y 12 = 31 by simp [lenI, b1, b2]]
set_option maxRecDepth 100000 in
set_option maxHeartbeats 1000000 in
theorem clength_any (y m : Int) (w : World) : Calls Tryz.prog 137 #[.int .i64 y, .int .i64 m] w fun e w' => e = .returned (.int .i64 (lenI y m)) ∧ w = w' := by
  by_cases h : y < 1 ∨ 9999 < y ∨ m < 1 ∨ 12 < m
  · have hl : lenI y m = 0 := by unfold lenI; rw [if_pos h]
    rw [hl]
    go_enter Tryz.func137, Tryz.ntmps137
    go_wp2
    all_goals first | (go_ret; exact ⟨rfl, rfl⟩) | (exfalso; omega)
  · have hy : 1 ≤ y ∧ y ≤ 9999 := by omega
    have hm : 1 ≤ m ∧ m ≤ 12 := by omega
    have d1 : decide (y < 1) = false := by simp; omega
    have d2 : decide (9999 < y) = false := by simp; omega
    have d3 : decide (m < 1) = false := by simp; omega
    have d4 : decide (12 < m) = false := by simp; omega
    by_cases hc : m = 2 ∧ leapI y
    · obtain ⟨rfl, hl⟩ := hc
      have b1 : ¬ y < 1 := by omega
      have b2 : ¬ 9999 < y := by omega
      have HR := Lib.hid (show lenI y 2 = 29 by simp [lenI, b1, b2, hl])
      have hle := Lib.hid (cleap_any y hy)
      rw [show decide (leapI y) = true by simpa using hl] at hle
      replace hle := Lib.hid hle.out
      clear h hl b1 b2
      go_enter Tryz.func137, Tryz.ntmps137
      go_wp2_with fail
      refine (hle.out _).mono ?_
      rintro e w' ⟨rfl, rfl⟩
      go_wp2_with fail
      go_ret
      exact ⟨by rw [HR.out]; rfl, rfl⟩
    · have hix := lenA_at y m hy hm hc
      by_cases h2 : m = 2
      · subst h2
        have hl : decide (leapI y) = false := by simpa using hc
        have hle := Lib.hid (cleap_any y hy)
        rw [hl] at hle
        replace hle := Lib.hid hle.out
        clear h hl hc
        generalize lenI y 2 = L at *
        go_enter Tryz.func137, Tryz.ntmps137
        go_wp2_with fail
        refine (hle.out _).mono ?_
        rintro e w' ⟨rfl, rfl⟩
        go_wp2_with fail
        go_ret
        exact ⟨rfl, rfl⟩
      · have hb : (m == 2) = false := by simpa using h2
        clear h hc h2
        generalize lenI y m = L at *
        go_enter Tryz.func137, Tryz.ntmps137
        go_wp2_with fail
        go_ret
        exact ⟨rfl, rfl⟩
end Go.Proofs.YtokakpbpenndlaaGreatDoor

set_option linter.unusedVariables false
namespace Go.Proofs.YtokakpbpenndlaaGreatDoor
open Go.RowKit Go.Maps

theorem keyedI : Keyed Tryz.prog 3 := int_keyed Tryz.underlying3
theorem zeroI (w : World) : (zeroValue 3).run Tryz.prog w = .ok (.int .i64 0) w := by kernel_rfl
def longD : DataW Unit := ((((DataW.map []).put (.int .i64 1) (.lit (.int .i64 1))).put (.int .i64 2) (.lit (.int .i64 3))).put (.int .i64 3) (.lit (.int .i64 6))).put (.int .i64 4) (.lit (.int .i64 12))
theorem longD_at (k c : Int) (h : longD.atKey (.int .i64 k) (.lit (.int .i64 0)) = .lit (.int .i64 c)) : c = longI k ∧ Maps.has longD (.int .i64 k) = decide (longI k ≠ 0) := by
  by_cases h1 : k = 1
  · subst h1; have e : longD.atKey (.int .i64 1) (.lit (.int .i64 0)) = .lit (.int .i64 1) := rfl; rw [e] at h; injection h with h; injection h with _ h; exact ⟨h.symm, rfl⟩
  by_cases h2 : k = 2
  · subst h2; have e : longD.atKey (.int .i64 2) (.lit (.int .i64 0)) = .lit (.int .i64 3) := rfl; rw [e] at h; injection h with h; injection h with _ h; exact ⟨h.symm, rfl⟩
  by_cases h3 : k = 3
  · subst h3; have e : longD.atKey (.int .i64 3) (.lit (.int .i64 0)) = .lit (.int .i64 6) := rfl; rw [e] at h; injection h with h; injection h with _ h; exact ⟨h.symm, rfl⟩
  by_cases h4 : k = 4
  · subst h4; have e : longD.atKey (.int .i64 4) (.lit (.int .i64 0)) = .lit (.int .i64 12) := rfl; rw [e] at h; injection h with h; injection h with _ h; exact ⟨h.symm, rfl⟩
  have hl : longI k = 0 := by unfold longI; rw [if_neg h1, if_neg h2, if_neg h3, if_neg h4]
  have ne : ∀ n : Int, k ≠ n → (Lit.int .i64 k) ≠ Lit.int .i64 n := fun n hn e => hn (by injection e)
  have e : longD.atKey (.int .i64 k) (.lit (.int .i64 0)) = .lit (.int .i64 0) := by
    unfold longD
    rw [atKey_put_other (ne 4 h4), atKey_put_other (ne 3 h3), atKey_put_other (ne 2 h2), atKey_put_other (ne 1 h1)]
    rfl
  rw [e] at h
  injection h with h
  injection h with _ h
  rw [hl]
  refine ⟨h.symm, ?_⟩
  unfold longD
  rw [has_put_other (ne 4 h4), has_put_other (ne 3 h3), has_put_other (ne 2 h2), has_put_other (ne 1 h1)]
  rfl
/-- An entry of a map's literal. -/
theorem wpList_insert_own {H : Type} {P : Program} (w : World) {ops : Array Oper} {rest : List Oper} {o : Oper} {a : Act} {Q : Exit → Act → World → Prop}
    (hg : o.guard = none) (m x v : Operand) (t : TypeId) (hop : o.op = Op.insert t m x v)
    (k e : TypeId) (K : Keyed P k) (ht : P.underlying t = some (.map k e)) (R : Value → Option (DataW H × List MemPlace)) (b n : Nat) (D : DataW H)
    (hm : a.eval m = .map (some b)) (hown : w.ownsMap P k R b n D) (hn : n < maxLen) (key val : Value) (kl : Lit) (hx : a.eval x = key) (hv : a.eval v = val) (hkey : keyOf P k key = some kl)
    (d : DataW H) (ps : List MemPlace) (hval : R val = some (d, ps))
    (hK : ∀ w', w'.ownsMap P k R b (n + 1) (D.put kl d) → w.grownBy w' (some b) → wpList P ops Q rest (a.put o.dst undef) w') :
    wpList P ops Q (o :: rest) a w := by
  refine wpList_plain hg fun K' hK' => ?_
  obtain ⟨w', hrun, r1, r2⟩ := hown.update K ht hn hkey hval
  unfold Oper.wp
  simp [execOp, hop, hm, hx, hv, hrun, Result.andThen]
  exact hK' _ _ (hK w' r1 r2)
set_option maxRecDepth 100000 in
set_option maxHeartbeats 2000000 in
theorem plong_any (k : Int) (hk : i64 k) (w : World) : Calls Tryz.prog 113 #[.int .i64 k] w fun e w' => e = .returned (.tuple #[.int .i64 (longI k), .bool (decide (longI k ≠ 0))]) ∧ Ext w w' := by
  have hmm := @run_makeMap Tryz.prog
  have h0 := World.ownsMap_made w Tryz.prog 3 (plainElem (H := Unit) Tryz.prog 3)
  have HK := Lib.hid (fun n (h : i64 n) => keyOf_int_mk Tryz.underlying3 (i64_wf h))
  have hke := Lib.hid hk
  clear hk
  go_enter Tryz.func113, Tryz.ntmps113
  go_wp2_with (first
    | (refine wpList_insert_own _ rfl _ _ _ 215 rfl 3 3 keyedI Tryz.underlying215 _ w.heap.size 3 _ rfl h3 (by unfold maxLen; omega) _ _ _ rfl rfl (HK.out _ (by unfold i64; omega)) _ [] (plainElem_int Tryz.underlying3 rfl) ?_; intro w4 h4 g4)
    | (refine wpList_insert_own _ rfl _ _ _ 215 rfl 3 3 keyedI Tryz.underlying215 _ w.heap.size 2 _ rfl h2 (by unfold maxLen; omega) _ _ _ rfl rfl (HK.out _ (by unfold i64; omega)) _ [] (plainElem_int Tryz.underlying3 rfl) ?_; intro w3 h3 g3)
    | (refine wpList_insert_own _ rfl _ _ _ 215 rfl 3 3 keyedI Tryz.underlying215 _ w.heap.size 1 _ rfl h1 (by unfold maxLen; omega) _ _ _ rfl rfl (HK.out _ (by unfold i64; omega)) _ [] (plainElem_int Tryz.underlying3 rfl) ?_; intro w2 h2 g2)
    | (refine wpList_insert_own _ rfl _ _ _ 215 rfl 3 3 keyedI Tryz.underlying215 _ w.heap.size 0 _ rfl h0 (by unfold maxLen; omega) _ _ _ rfl rfl (HK.out _ (by unfold i64; omega)) _ [] (plainElem_int Tryz.underlying3 rfl) ?_; intro w1 h1 g1)
    | (at_lookup; refine wpList_lookup_own_ok_int _ rfl _ _ 215 rfl 3 3 .i64 keyedI Tryz.underlying215 Tryz.underlying3 (zeroI _) w.heap.size 4 _ rfl h4 _ _ rfl (HK.out _ hke.out) ?_; intro c hat hwc))
  go_ret2
  obtain ⟨ec, eh⟩ := longD_at k c hat
  subst ec
  have eb : ∀ j, some w.heap.size = some j → w.heap.size ≤ j := fun j hj => by cases hj; exact Nat.le_refl _
  exact ⟨by rw [← eh]; rfl, (((((Ext.refl w).alloc (.map #[] 0)).grown g1 eb).grown g2 eb).grown g3 eb).grown g4 eb⟩
end Go.Proofs.YtokakpbpenndlaaGreatDoor

set_option linter.unusedVariables false
namespace Go.Proofs.YtokakpbpenndlaaGreatDoor
open Go.RowKit

theorem ysI_bd {y : Int} (hy : 1 ≤ y ∧ y ≤ 9999) : 0 ≤ ysI y ∧ ysI y ≤ 3651694 := by unfold ysI; omega
theorem msI_bd (y : Int) : ∀ n : Nat, 0 ≤ msI y n ∧ msI y n ≤ 31 * (n : Int)
  | 0 => by simp [msI]
  | n + 1 => by
    have h1 := msI_bd y n
    have h2 := lenI_bd y ((n + 1 : Nat) : Int)
    show 0 ≤ msI y n + lenI y ((n + 1 : Nat) : Int) ∧ msI y n + lenI y ((n + 1 : Nat) : Int) ≤ _
    omega
/-- P3.1: the day of a date. -/
def dayI (y m d : Int) : Int × Int := if d < 1 ∨ lenI y m < d then (0, 2) else (ysI y + msI y (m - 1).toNat + d - 1, 0)
def DayRel (y m d : Int) (v i : Value) : Prop := ∃ k : Nat, (k : Int) + 1 ≤ m ∧ i = .int .i64 ((k : Int) + 1) ∧ v = .int .i64 (ysI y + msI y k + d - 1)
theorem DayRel.next {y m d : Int} {k : Nat} {v : Int} (hk : (k : Int) + 1 < m) (hv : v = ysI y + msI y k + d - 1 + lenI y ((k : Int) + 1)) : DayRel y m d (.int .i64 v) (.int .i64 ((k : Int) + 1 + 1)) := by
  refine ⟨k + 1, by omega, by rw [show (((k + 1 : Nat) : Int)) = (k : Int) + 1 by omega], ?_⟩
  rw [hv]
  have : msI y (k + 1) = msI y k + lenI y ((k + 1 : Nat) : Int) := rfl
  rw [this, show (((k + 1 : Nat) : Int)) = (k : Int) + 1 by omega]
  congr 1
  omega
set_option maxRecDepth 100000 in
set_option maxHeartbeats 2000000 in
theorem cday_any (y m d : Int) (w : World) : Calls Tryz.prog 100 #[.int .i64 y, .int .i64 m, .int .i64 d] w fun e w' => e = .returned (.tuple #[.int .i64 (dayI y m d).1, .int .i64 (dayI y m d).2]) ∧ w = w' := by
  by_cases h0 : d < 1
  · have HD := Lib.hid (show dayI y m d = (0, 2) by unfold dayI; rw [if_pos (.inl h0)])
    go_enter Tryz.func100, Tryz.ntmps100
    go_wp2_with fail
    go_ret2
    exact ⟨by rw [HD.out]; rfl, rfl⟩
  by_cases h1 : lenI y m < d
  · have HD := Lib.hid (show dayI y m d = (0, 2) by unfold dayI; rw [if_pos (.inr h1)])
    have d0 : decide (d < 1) = false := by simpa using h0
    have d1 : decide (lenI y m < d) = true := by simpa using h1
    clear h0 h1
    go_enter Tryz.func100, Tryz.ntmps100
    go_wp2_with fail
    refine (clength_any y m _).mono ?_
    rintro e w' ⟨rfl, rfl⟩
    go_wp2_with fail
    go_ret2
    exact ⟨by rw [HD.out]; rfl, rfl⟩
  have HD := Lib.hid (show dayI y m d = (ysI y + msI y (m - 1).toNat + d - 1, 0) by unfold dayI; rw [if_neg (by omega)])
  have d0 : decide (d < 1) = false := by simpa using h0
  have d1 : decide (lenI y m < d) = false := by simpa using h1
  have hlb := lenI_bd y m
  have hym : (1 ≤ y ∧ y ≤ 9999) ∧ (1 ≤ m ∧ m ≤ 12) := by
    by_cases hc : y < 1 ∨ 9999 < y ∨ m < 1 ∨ 12 < m
    · have : lenI y m = 0 := by unfold lenI; rw [if_pos hc]
      omega
    · omega
  obtain ⟨⟨y1, y2⟩, m1, m2⟩ := hym
  have hd31 : d ≤ 31 := by omega
  have hd1 : 1 ≤ d := by omega
  have yb := ysI_bd ⟨y1, y2⟩
  have HY := Lib.hid (show 365 * (y - 1) + (y - 1) / 4 - (y - 1) / 100 + (y - 1) / 400 + d - 1 = ysI y + msI y 0 + d - 1 by unfold ysI; simp [msI])
  clear h0 h1 hlb
  go_enter Tryz.func100, Tryz.ntmps100
  go_wp2_with fail
  refine (clength_any y m _).mono ?_
  rintro e w' ⟨rfl, rfl⟩
  go_wp2_with fail
  go_loop [9, 10] (fun v i => DayRel y m d v i) (fun _ i => (m - intOf i).toNat)
  case atStart => exact ⟨0, by omega, rfl, by rw [← HY.out]⟩
  case round =>
    obtain ⟨k, hk, rfl, rfl⟩ := hrel
    have hb := msI_bd y k
    have lb := lenI_bd y ((k : Int) + 1)
    have hk11 : k ≤ 11 := by omega
    by_cases hlt : (k : Int) + 1 < m
    · have hd : decide ((k : Int) + 1 < m) = true := by simpa using hlt
      go_wp2_with fail
      refine (clength_any y ((k : Int) + 1) _).mono ?_
      rintro e w' ⟨rfl, rfl⟩
      go_wp2_with fail
      go_round
      case rel => exact DayRel.next hlt rfl
      case measure => simp [intOf]; omega
    · have hd : decide ((k : Int) + 1 < m) = false := by simpa using hlt
      have hkm : (m - 1).toNat = k := by omega
      rw [hkm] at HD
      go_wp2_with fail
      go_ret2
      exact ⟨by rw [HD.out]; rfl, rfl⟩
/-- What a period's span is. -/
def spanI (k p : Int) : Int × Int := if perE k p = 0 then (p * longI k, longI k) else (0, 0)
set_option maxRecDepth 100000 in
set_option maxHeartbeats 2000000 in
theorem pspan_any (k p : Int) (hk : i64 k) (w : World) : Calls Tryz.prog 88 #[.int .i64 k, .int .i64 p] w fun e w' => e = .returned (.tuple #[.int .i64 (spanI k p).1, .int .i64 (spanI k p).2, .int .i64 (perE k p)]) ∧ Ext w w' := by
  by_cases h0 : longI k = 0
  · have HS := Lib.hid (show perE k p = 2 by unfold perE; rw [if_pos h0])
    have HP := Lib.hid (show spanI k p = (0, 0) by unfold spanI; rw [HS.out]; rfl)
    have HC := Lib.hid (plong_any k hk w)
    rw [h0] at HC
    rw [show decide ((0 : Int) ≠ 0) = false by decide] at HC
    clear h0
    go_enter Tryz.func88, Tryz.ntmps88
    go_wp2_with fail
    refine HC.out.mono ?_
    rintro e w1 ⟨rfl, hx⟩
    go_wp2_with fail
    go_ret3
    exact ⟨by rw [HS.out, HP.out]; rfl, hx⟩
  · have hn : longI k = 1 ∨ longI k = 3 ∨ longI k = 6 ∨ longI k = 12 := by
      unfold longI at h0 ⊢
      repeat' split at h0
      all_goals simp_all
    have HC := Lib.hid (plong_any k hk w)
    rw [show decide (longI k ≠ 0) = true by simpa using h0] at HC
    by_cases hp : p < 0 ∨ 119988 / longI k ≤ p
    · have HS := Lib.hid (show perE k p = 5 by unfold perE; rw [if_neg h0, if_pos hp])
      have HP := Lib.hid (show spanI k p = (0, 0) by unfold spanI; rw [HS.out]; rfl)
      by_cases hp0 : p < 0
      · have d0 : decide (p < 0) = true := by simpa using hp0
        rcases hn with e | e | e | e
        all_goals
          rw [e] at HC
          clear h0 hp hp0 e
          go_enter Tryz.func88, Tryz.ntmps88
          go_wp2_with fail
          refine HC.out.mono ?_
          rintro e w1 ⟨rfl, hx⟩
          go_wp2_with fail
          go_ret3
          exact ⟨by rw [HS.out, HP.out]; rfl, hx⟩
      · have d0 : decide (p < 0) = false := by simpa using hp0
        have hp1 : 119988 / longI k ≤ p := by omega
        rcases hn with e | e | e | e
        all_goals
          rw [e] at HC hp1
          have d1 := decide_eq_true hp1
          simp only [Int.reduceDiv] at d1
          clear h0 hp hp0 e hp1
          go_enter Tryz.func88, Tryz.ntmps88
          go_wp2_with fail
          refine HC.out.mono ?_
          rintro e w1 ⟨rfl, hx⟩
          go_wp2_with fail
          go_ret3
          exact ⟨by rw [HS.out, HP.out]; rfl, hx⟩
    · have HS := Lib.hid (show perE k p = 0 by unfold perE; rw [if_neg h0, if_neg hp])
      have HP := Lib.hid (show spanI k p = (p * longI k, longI k) by unfold spanI; rw [HS.out]; rfl)
      have hp0 : 0 ≤ p := by omega
      have d0 : decide (p < 0) = false := by simpa using hp0
      have hp1 : p < 119988 / longI k := by omega
      rcases hn with e | e | e | e
      all_goals
        rw [e] at HC hp1 HP
        have hp2 : p < 119988 := by omega
        have d1 := decide_eq_false (Int.not_le.2 hp1)
        simp only [Int.reduceDiv] at hp1 d1
        clear h0 hp e
        go_enter Tryz.func88, Tryz.ntmps88
        go_wp2_with fail
        refine HC.out.mono ?_
        rintro e w1 ⟨rfl, hx⟩
        go_wp2_with fail
        go_ret3
        exact ⟨by rw [HS.out, HP.out]; first | rfl | (rw [Int.mul_one]; rfl), hx⟩
end Go.Proofs.YtokakpbpenndlaaGreatDoor
