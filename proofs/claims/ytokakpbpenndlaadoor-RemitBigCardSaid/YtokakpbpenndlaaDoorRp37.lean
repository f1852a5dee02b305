/-
  civil: leap, valid, Length (the program's and the reference's).
-/
import Derived.Test.YtokakpbpenndlaaDoorRp02
import Derived.Test.YtokakpbpenndlaaDoorProg
import Derived.Test.YtokakpbpenndlaaDoorRp13
import Derived.Maps.Own
import Derived.Maps.OwnOps
import Derived.Maps.OwnSet
set_option linter.unusedVariables false
namespace Go.Proofs.YtokakpbpenndlaaDoor
open Go.RowKit

theorem cleap_any (y : Int) (hy : 1 ≤ y ∧ y ≤ 9999) (w : World) : Calls Tryd.prog 67 #[.int .i64 y] w fun e w' => e = .returned (.bool (decide (leapI y))) ∧ w = w' := by
  have e1 : y.tmod 4 = y % 4 := Int.tmod_eq_emod_of_nonneg (by omega)
  have e2 : y.tmod 100 = y % 100 := Int.tmod_eq_emod_of_nonneg (by omega)
  have e3 : y.tmod 400 = y % 400 := Int.tmod_eq_emod_of_nonneg (by omega)
  go_enter Tryd.func67, Tryd.ntmps67
  go_wp2
  all_goals (go_ret; exact ⟨ret_bool (by first | (simp_all [leapI]; done) | (simp_all [leapI]; rfl)), rfl⟩)
theorem cvalid_any (d : Int) (w : World) : Calls Tryd.prog 59 #[.int .i64 d] w fun e w' => e = .returned (.bool (decide (0 ≤ d ∧ d ≤ 3652058))) ∧ w = w' := by
  go_enter Tryd.func59, Tryd.ntmps59
  go_wp2
  all_goals (go_ret; exact ⟨ret_bool (by first | (simp; done) | (simp; omega)), rfl⟩)
end Go.Proofs.YtokakpbpenndlaaDoor

set_option linter.unusedVariables false
namespace Go.Proofs.YtokakpbpenndlaaDoor
open Go.RowKit
end Go.Proofs.YtokakpbpenndlaaDoor

set_option linter.unusedVariables false
namespace Go.Proofs.YtokakpbpenndlaaDoor
open Go.RowKit

abbrev lenA : Value := .agg #[.int .i64 0, .int .i64 31, .int .i64 28, .int .i64 31, .int .i64 30, .int .i64 31, .int .i64 30, .int .i64 31, .int .i64 31, .int .i64 30, .int .i64 31, .int .i64 30, .int .i64 31]
theorem lenA_at (y m : Int) (hy : 1 ≤ y ∧ y ≤ 9999) (hm : 1 ≤ m ∧ m ≤ 12) (h : ¬ (m = 2 ∧ leapI y)) (w : World) : (Instr.index 139 lenA (.int .i64 m)).run Tryd.prog w = .ok (.int .i64 (lenI y m)) w := by
  have b1 : ¬ y < 1 := by omega
  have b2 : ¬ 9999 < y := by omega
  have : m = 1 ∨ m = 2 ∨ m = 3 ∨ m = 4 ∨ m = 5 ∨ m = 6 ∨ m = 7 ∨ m = 8 ∨ m = 9 ∨ m = 10 ∨ m = 11 ∨ m = 12 := by omega
  rcases this with rfl | rfl | rfl | rfl | rfl | rfl | rfl | rfl | rfl | rfl | rfl | rfl
  · have i : (Instr.index 139 lenA (.int .i64 1)).run Tryd.prog w = .ok (.int .i64 31) w := by kernel_rfl
    rw [i, show lenI y 1 = 31 by simp [lenI, b1, b2]]
  · have hl : ¬ leapI y := fun c => h ⟨rfl, c⟩
    have i : (Instr.index 139 lenA (.int .i64 2)).run Tryd.prog w = .ok (.int .i64 28) w := by kernel_rfl
    rw [i, show lenI y 2 = 28 by simp [lenI, b1, b2, hl]]
  · have i : (Instr.index 139 lenA (.int .i64 3)).run Tryd.prog w = .ok (.int .i64 31) w := by kernel_rfl
    rw [i, show lenI y 3 = 31 by simp [lenI, b1, b2]]
  · have i : (Instr.index 139 lenA (.int .i64 4)).run Tryd.prog w = .ok (.int .i64 30) w := by kernel_rfl
    rw [i, show lenI y 4 = 30 by simp [lenI, b1, b2]]
  · have i : (Instr.index 139 lenA (.int .i64 5)).run Tryd.prog w = .ok (.int .i64 31) w := by kernel_rfl
    rw [i, show lenI y 5 = 31 by simp [lenI, b1, b2]]
  · have i : (Instr.index 139 lenA (.int .i64 6)).run Tryd.prog w = .ok (.int .i64 30) w := by kernel_rfl
    rw [i, show lenI y 6 = 30 by simp [lenI, b1, b2]]
  · have i : (Instr.index 139 lenA (.int .i64 7)).run Tryd.prog w = .ok (.int .i64 31) w := by kernel_rfl
    rw [i, show lenI y 7 = 31 by simp [lenI, b1, b2]]
  · have i : (Instr.index 139 lenA (.int .i64 8)).run Tryd.prog w = .ok (.int .i64 31) w := by kernel_rfl
    rw [i, show lenI y 8 = 31 by simp [lenI, b1, b2]]
  · have i : (Instr.index 139 lenA (.int .i64 9)).run Tryd.prog w = .ok (.int .i64 30) w := by kernel_rfl
    rw [i, show lenI y 9 = 30 by simp [lenI, b1, b2]]
  · have i : (Instr.index 139 lenA (.int .i64 10)).run Tryd.prog w = .ok (.int .i64 31) w := by kernel_rfl
    rw [i, show lenI y 10 = 31 by simp [lenI, b1, b2]]
  · have i : (Instr.index 139 lenA (.int .i64 11)).run Tryd.prog w = .ok (.int .i64 30) w := by kernel_rfl
    rw [i, show lenI y 11 = 30 by simp [lenI, b1, b2]]
  · have i : (Instr.index 139 lenA (.int .i64 12)).run Tryd.prog w = .ok (.int .i64 31) w := by kernel_rfl
    rw [i, show lenI y 12 = 31 by simp [lenI, b1, b2]]
set_option maxRecDepth 100000 in
set_option maxHeartbeats 1000000 in
theorem clength_any (y m : Int) (w : World) : Calls Tryd.prog 58 #[.int .i64 y, .int .i64 m] w fun e w' => e = .returned (.int .i64 (lenI y m)) ∧ w = w' := by
  by_cases h : y < 1 ∨ 9999 < y ∨ m < 1 ∨ 12 < m
  · have hl : lenI y m = 0 := by unfold lenI; rw [if_pos h]
    rw [hl]
    go_enter Tryd.func58, Tryd.ntmps58
    go_wp2
    all_goals first | (go_ret; exact ⟨rfl, rfl⟩) | (exfalso; omega)
  · have hy : 1 ≤ y ∧ y ≤ 9999 := by omega
    have hm : 1 ≤ m ∧ m ≤ 12 := by omega
    have d1 : decide (y < 1) = false := by simp; omega
    have d2 : decide (9999 < y) = false := by simp; omega
    have d3 : decide (m < 1) = false := by simp; omega
    have d4 : decide (12 < m) = false := by simp; omega
    by_cases hc : m = 2 ∧ leapI y
    · obtain ⟨rfl, hl⟩ := hc
      have b1 : ¬ y < 1 := by omega
      have b2 : ¬ 9999 < y := by omega
      have HR := Lib.hid (show lenI y 2 = 29 by simp [lenI, b1, b2, hl])
      have hle := Lib.hid (cleap_any y hy)
      rw [show decide (leapI y) = true by simpa using hl] at hle
      replace hle := Lib.hid hle.out
      clear h hl b1 b2
      go_enter Tryd.func58, Tryd.ntmps58
      go_wp2_with fail
      refine (hle.out _).mono ?_
      rintro e w' ⟨rfl, rfl⟩
      go_wp2_with fail
      go_ret
      exact ⟨by rw [HR.out]; rfl, rfl⟩
    · have hix := lenA_at y m hy hm hc
      by_cases h2 : m = 2
      · subst h2
        have hl : decide (leapI y) = false := by simpa using hc
        have hle := Lib.hid (cleap_any y hy)
        rw [hl] at hle
        replace hle := Lib.hid hle.out
        clear h hl hc
        generalize lenI y 2 = L at *
        go_enter Tryd.func58, Tryd.ntmps58
        go_wp2_with fail
        refine (hle.out _).mono ?_
        rintro e w' ⟨rfl, rfl⟩
        go_wp2_with fail
        go_ret
        exact ⟨rfl, rfl⟩
      · have hb : (m == 2) = false := by simpa using h2
        clear h hc h2
        generalize lenI y m = L at *
        go_enter Tryd.func58, Tryd.ntmps58
        go_wp2_with fail
        go_ret
        exact ⟨rfl, rfl⟩
end Go.Proofs.YtokakpbpenndlaaDoor

set_option linter.unusedVariables false
namespace Go.Proofs.YtokakpbpenndlaaDoor
open Go.RowKit Go.Maps

theorem keyedI : Keyed Tryd.prog 3 := int_keyed Tryd.underlying3
theorem zeroI (w : World) : (zeroValue 3).run Tryd.prog w = .ok (.int .i64 0) w := by kernel_rfl
def longD : DataW Unit := ((((DataW.map []).put (.int .i64 1) (.lit (.int .i64 1))).put (.int .i64 2) (.lit (.int .i64 3))).put (.int .i64 3) (.lit (.int .i64 6))).put (.int .i64 4) (.lit (.int .i64 12))
theorem longD_at (k c : Int) (h : longD.atKey (.int .i64 k) (.lit (.int .i64 0)) = .lit (.int .i64 c)) : c = longI k ∧ Maps.has longD (.int .i64 k) = decide (longI k ≠ 0) := by
  by_cases h1 : k = 1
  · subst h1; have e : longD.atKey (.int .i64 1) (.lit (.int .i64 0)) = .lit (.int .i64 1) := rfl; rw [e] at h; injection h with h; injection h with _ h; exact ⟨h.symm, rfl⟩
  by_cases h2 : k = 2
  · subst h2; have e : longD.atKey (.int .i64 2) (.lit (.int .i64 0)) = .lit (.int .i64 3) := rfl; rw [e] at h; injection h with h; injection h with _ h; exact ⟨h.symm, rfl⟩
  by_cases h3 : k = 3
  · subst h3; have e : longD.atKey (.int .i64 3) (.lit (.int .i64 0)) = .lit (.int .i64 6) := rfl; rw [e] at h; injection h with h; injection h with _ h; exact ⟨h.symm, rfl⟩
  by_cases h4 : k = 4
  · subst h4; have e : longD.atKey (.int .i64 4) (.lit (.int .i64 0)) = .lit (.int .i64 12) := rfl; rw [e] at h; injection h with h; injection h with _ h; exact ⟨h.symm, rfl⟩
  have hl : longI k = 0 := by unfold longI; rw [if_neg h1, if_neg h2, if_neg h3, if_neg h4]
  have ne : ∀ n : Int, k ≠ n → (Lit.int .i64 k) ≠ Lit.int .i64 n := fun n hn e => hn (by injection e)
  have e : longD.atKey (.int .i64 k) (.lit (.int .i64 0)) = .lit (.int .i64 0) := by
    unfold longD
    rw [atKey_put_other (ne 4 h4), atKey_put_other (ne 3 h3), atKey_put_other (ne 2 h2), atKey_put_other (ne 1 h1)]
    rfl
  rw [e] at h
  injection h with h
  injection h with _ h
  rw [hl]
  refine ⟨h.symm, ?_⟩
  unfold longD
  rw [has_put_other (ne 4 h4), has_put_other (ne 3 h3), has_put_other (ne 2 h2), has_put_other (ne 1 h1)]
  rfl
/-- An entry of a map's literal. -/
theorem wpList_insert_own {H : Type} {P : Program} (w : World) {ops : Array Oper} {rest : List Oper} {o : Oper} {a : Act} {Q : Exit → Act → World → Prop}
    (hg : o.guard = none) (m x v : Operand) (t : TypeId) (hop : o.op = Op.insert t m x v)
    (k e : TypeId) (K : Keyed P k) (ht : P.underlying t = some (.map k e)) (R : Value → Option (DataW H × List MemPlace)) (b n : Nat) (D : DataW H)
    (hm : a.eval m = .map (some b)) (hown : w.ownsMap P k R b n D) (hn : n < maxLen) (key val : Value) (kl : Lit) (hx : a.eval x = key) (hv : a.eval v = val) (hkey : keyOf P k key = some kl)
    (d : DataW H) (ps : List MemPlace) (hval : R val = some (d, ps))
    (hK : ∀ w', w'.ownsMap P k R b (n + 1) (D.put kl d) → w.grownBy w' (some b) → wpList P ops Q rest (a.put o.dst undef) w') :
    wpList P ops Q (o :: rest) a w := by
  refine wpList_plain hg fun K' hK' => ?_
  obtain ⟨w', hrun, r1, r2⟩ := hown.update K ht hn hkey hval
  unfold Oper.wp
  simp [execOp, hop, hm, hx, hv, hrun, Result.andThen]
  exact hK' _ _ (hK w' r1 r2)
set_option maxRecDepth 100000 in
set_option maxHeartbeats 2000000 in
theorem plong_any (k : Int) (hk : i64 k) (w : World) : Calls Tryd.prog 42 #[.int .i64 k] w fun e w' => e = .returned (.tuple #[.int .i64 (longI k), .bool (decide (longI k ≠ 0))]) ∧ Ext w w' := by
  have hmm := @run_makeMap Tryd.prog
  have h0 := World.ownsMap_made w Tryd.prog 3 (plainElem (H := Unit) Tryd.prog 3)
  have HK := Lib.hid (fun n (h : i64 n) => keyOf_int_mk Tryd.underlying3 (i64_wf h))
  have hke := Lib.hid hk
  clear hk
  go_enter Tryd.func42, Tryd.ntmps42
  go_wp2_with (first
    | (refine wpList_insert_own _ rfl _ _ _ 135 rfl 3 3 keyedI Tryd.underlying135 _ w.heap.size 3 _ rfl h3 (by unfold maxLen; omega) _ _ _ rfl rfl (HK.out _ (by unfold i64; omega)) _ [] (plainElem_int Tryd.underlying3 rfl) ?_; intro w4 h4 g4)
    | (refine wpList_insert_own _ rfl _ _ _ 135 rfl 3 3 keyedI Tryd.underlying135 _ w.heap.size 2 _ rfl h2 (by unfold maxLen; omega) _ _ _ rfl rfl (HK.out _ (by unfold i64; omega)) _ [] (plainElem_int Tryd.underlying3 rfl) ?_; intro w3 h3 g3)
    | (refine wpList_insert_own _ rfl _ _ _ 135 rfl 3 3 keyedI Tryd.underlying135 _ w.heap.size 1 _ rfl h1 (by unfold maxLen; omega) _ _ _ rfl rfl (HK.out _ (by unfold i64; omega)) _ [] (plainElem_int Tryd.underlying3 rfl) ?_; intro w2 h2 g2)
    | (refine wpList_insert_own _ rfl _ _ _ 135 rfl 3 3 keyedI Tryd.underlying135 _ w.heap.size 0 _ rfl h0 (by unfold maxLen; omega) _ _ _ rfl rfl (HK.out _ (by unfold i64; omega)) _ [] (plainElem_int Tryd.underlying3 rfl) ?_; intro w1 h1 g1)
    | (at_lookup; refine wpList_lookup_own_ok_int _ rfl _ _ 135 rfl 3 3 .i64 keyedI Tryd.underlying135 Tryd.underlying3 (zeroI _) w.heap.size 4 _ rfl h4 _ _ rfl (HK.out _ hke.out) ?_; intro c hat hwc))
  go_ret2
  obtain ⟨ec, eh⟩ := longD_at k c hat
  subst ec
  have eb : ∀ j, some w.heap.size = some j → w.heap.size ≤ j := fun j hj => by cases hj; exact Nat.le_refl _
  exact ⟨by rw [← eh]; rfl, (((((Ext.refl w).alloc (.map #[] 0)).grown g1 eb).grown g2 eb).grown g3 eb).grown g4 eb⟩
end Go.Proofs.YtokakpbpenndlaaDoor
