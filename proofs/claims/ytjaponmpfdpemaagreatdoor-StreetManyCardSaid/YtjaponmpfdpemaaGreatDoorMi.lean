/-
  apportionlaw18: StreetMany (printed by tools/genMi.py).
-/
import Derived.Test.YtjaponmpfdpemaaGreatDoorMs
import Derived.Test.YtjaponmpfdpemaaGreatDoorMc
import Derived.Test.YtjaponmpfdpemaaGreatDoorCq
set_option linter.unusedSimpArgs false
set_option linter.unusedVariables false
namespace Go.Proofs.YtjaponmpfdpemaaGreatDoor
open Go.RowKit
def manyS (k : Nat) : Sr := ⟨[78, 89], [65], [], [79, 65, 75], [], [], (k : Int) + 1, (k : Int) + 1, 3, 0, 0, 0, 0⟩
def manyL (k : Nat) : List Sr := (List.range k).map manyS
theorem manyL_len (k : Nat) : (manyL k).length = k := by simp [manyL]
theorem manyL_sh (k : Nat) : ∀ s ∈ manyL k, SrS s 1000 := fun s hs => by
 unfold manyL at hs
 obtain ⟨i, _, rfl⟩ := List.mem_map.1 hs
 constructor <;> simp [manyS]
theorem manyL_succ (k : Nat) : srCells (manyL (k + 1)) = srCells (manyL k) ++ srL (manyS k) := by
 unfold manyL
 rw [List.range_succ, List.map_append, srCells_app]
 simp [srCells]
theorem manyL_zero : srCells (manyL 0) = [] := rfl
def manyC (n : Int) : Nat := if 0 ≤ n then (498 + n % 5).toNat else 0
theorem manyC_le (n : Int) : manyC n ≤ 502 := by unfold manyC; split <;> omega
theorem ft_eq (x y : Int) (w : World) : (binOp .eql 36 (.agg #[.int .i64 x, .int .i64 y]) (.agg #[.int .i64 x, .int .i64 y])).run Tryz.prog w = .ok (.bool true) w := by simp [go_sem]
def MnAt (w : World) (n : Int) (vl i : Value) (wr : World) : Prop := ∃ k : Nat, k ≤ manyC n ∧ i = .int .i64 (k : Int) ∧ wr.ownsRow w.heap.size 25 13 vl k (srCells (manyL k)) ∧ Ext w wr
set_option maxRecDepth 100000 in
set_option maxHeartbeats 4000000 in
theorem streetMany_any (n : Int) (W : World) (hS : Std W) : Calls Tryz.prog 4 #[.int .i64 n] W fun e w' => e = .returned (.bool true) ∧ Ext W w' := by
 have HW := Lib.hid (fun w (hx : Ext W w) => l18awake_any w (hS.ext hx))
 have HN := Lib.hid (fun (k : Nat) (hk : k ≤ 1000) A cap w (hr : Reads w w.heap.size 13 A k (srCells (manyL k))) (hx : Ext W w) => srnew_two (manyL k) (manyL_sh k) k (manyL_len k) A cap w hr hk (hS.ext hx))
 have HR := Lib.hid (fun (k : Nat) (hk : k ≤ 1000) A cap w (hr : Reads w w.heap.size 13 A k (srCells (manyL k))) => (show Calls Tryz.prog 18 #[.slice A k cap] w fun e w' => e = .returned (.agg #[.int .i64 (newR (manyL k)).1, .int .i64 (newR (manyL k)).2]) ∧ Ext w w' by
  have h := rsrnew_any (manyL k) (manyL_sh k) A cap w (by rw [manyL_len]; exact hr) (by rw [manyL_len]; exact hk)
  rw [manyL_len] at h
  exact h))
 have R0 := Lib.hid (show MnAt W n (.slice none 0 0) (.int .i64 ((0 : Nat) : Int)) W from ⟨0, Nat.zero_le _, rfl, by rw [manyL_zero]; exact World.ownsRow_nil _ _ _ _, Ext.refl W⟩)
 have hC := manyC_le n
 clear hS
 go_enter Tryz.func4, Tryz.ntmps4
 go_wp2_with fail
 go_loopw [3, 4] (fun vl i wr => MnAt W n vl i wr) (fun vl i _ => manyC n - (intOf i).toNat)
 case atStart => exact R0.out
 case round =>
  clear R0
  obtain ⟨k, hk, rfl, ho, hx⟩ := hrel
  have m1 : -4 ≤ Int.tmod n 5 ∧ Int.tmod n 5 ≤ 4 := by
   have h1 := Int.tmod_lt_of_pos n (b := 5) (by decide)
   have h2 : -Int.tmod n 5 < 5 := by
    have := Int.tmod_lt_of_pos (-n) (b := 5) (by decide)
    rwa [Int.neg_tmod] at this
   omega
  have hm : 0 ≤ n → Int.tmod n 5 = n % 5 := fun h => Int.tmod_eq_emod_of_nonneg h
  have hCn : (0 ≤ n → (manyC n : Int) = 498 + Int.tmod n 5) ∧ (¬ 0 ≤ n → manyC n = 0) := by
   unfold manyC
   refine ⟨fun h => ?_, fun h => by rw [if_neg h]⟩
   rw [if_pos h, hm h]
   omega
  clear hm
  obtain ⟨m, hmm⟩ : ∃ m, Int.tmod n 5 = m := ⟨_, rfl⟩
  rw [hmm] at m1 hCn
  have i1 : IntKind.i64.wrap (498 + m) = 498 + m := by rw [IntKind.wrap_i64]; omega
  by_cases hn : 0 ≤ n
  ·have hCm := hCn.1 hn
   have d2 : decide (0 ≤ n) = true := decide_eq_true hn
   by_cases hlt : k < manyC n
   ·have d1 : decide ((k : Int) < 498 + m) = true := decide_eq_true (by omega)
    have i2 : IntKind.i64.wrap ((k : Int) + 1) = (k : Int) + 1 := by rw [IntKind.wrap_i64]; omega
    obtain ⟨A1, c1, rfl, hnc, hcm, _⟩ := own_slice ho
    have HE := Lib.hid (fun v' W' (h1 : W'.ownsRow W.heap.size 25 13 v' (k + 1) (srCells (manyL k) ++ srL (manyS k))) (h2 : Ext W W') => (show MnAt W n v' (.int .i64 ((k + 1 : Nat) : Int)) W' from ⟨k + 1, by omega, rfl, by rw [manyL_succ]; exact h1, h2⟩))
    replace hx := Lib.hid hx
    replace ho := Lib.hid ho
    clear hCn HW HN HR hcm hn
    go_wp2_with (at_builtin; refine wpl_app1 row_sr W wr (.tmp 18) (.tmp 24) rfl rfl rfl ho.out hx.out rfl rfl rfl (by simp [Value.oneCell']) (by omega) (by unfold maxLen; omega) ?_; intro v' w' hg; have HG := Lib.hid hg; clear hg)
    have hE := Lib.hid (HE.out _ _ HG.out.own HG.out.ext)
    go_roundw
    case rel => first | exact hE.out | (repeat (with_reducible apply Exists.intro); exact ⟨hE.out, rfl⟩)
    case measure => simp [intOf]; omega
   ·have d1 : decide ((k : Int) < 498 + m) = false := decide_eq_false (by omega)
    obtain ⟨A1, c1, rfl, hnc, hcm, hrd⟩ := own_slice ho
    have HN1 := Lib.hid (HN.out _ (by omega) A1 c1 wr hrd hx)
    have HRd := Lib.hid (fun w' (hy : Ext wr w') => HR.out _ (by omega) A1 c1 w' (hrd.ext hy))
    have X1 := Lib.hid hx
    clear HN HR ho hx hrd hCn
    obtain ⟨L, hL⟩ : ∃ L, newR (manyL k) = L := ⟨_, rfl⟩
    rw [hL] at HN1 HRd
    obtain ⟨f1, f2⟩ := L
    dsimp only at HN1 HRd
    clear hL
    go_wp2_with fail
    refine HN1.out.mono ?_
    rintro e w3 ⟨v6, rfl, hy, hT⟩
    have hv : (f1 = 0 ∧ ∃ tb, v6 = .pointer (some ⟨tb, 0, none⟩)) ∨ (f1 ≠ 0 ∧ v6 = .pointer none) := by
     rcases hT with ⟨h0, tb, e, _⟩ | ⟨h0, e⟩
     ·exact .inl ⟨h0, tb, e⟩
     ·exact .inr ⟨h0, e⟩
    have Y5 := Lib.hid (hy.alloc (.cells #[.int .i64 f1, .int .i64 f2] 36))
    have B6 := Lib.hid (Blk.new w3 36 #[.int .i64 f1, .int .i64 f2])
    clear hy HN1 hT
    go_upto_region 7 with (fail)
    generalize w3.alloc (.cells #[.int .i64 f1, .int .i64 f2] 36) = w5 at *
    generalize w3.heap.size = g6 at *
    have X5 := Lib.hid (X1.out.trans Y5.out)
    have HNr := Lib.hid (fun w (hx : Ext w5 w) => HRd.out w (Y5.out.trans hx))
    have HQ := Lib.hid (fun w' (hx : Ext w5 w') => (show w'.cell? ⟨g6, 0, none⟩ = some (.int .i64 f1) ∧ w'.cell? ⟨g6, 1, none⟩ = some (.int .i64 f2) from ⟨(B6.out.ext hx).cell 0, (B6.out.ext hx).cell 1⟩))
    have hfe := fun w => ft_eq f1 f2 w
    clear Y5 B6 HRd
    rcases hv with ⟨hf, tb, rfl⟩ | ⟨hf, rfl⟩
    ·have b1 : (f1 != 0) = false := by simp [hf]
     clear hf
     refine region_lex (fun w' => (w'.cell? ⟨g6, 0, none⟩ = some (.int .i64 f1) ∧ w'.cell? ⟨g6, 1, none⟩ = some (.int .i64 f2)) ∧ Ext w5 w') (by kernel_rfl) (by kernel_rfl) (⟨HQ.out _ (Ext.refl w5).drew, (Ext.refl w5).drew⟩) ?_
     refine StL.y (some 31) ?cv1_0 (fun wo hSw => ?ch1_0) ?cr1_0
     case ch1_0 => (try dsimp only at hSw); go_simp; try with_reducible rfl
     try simp only [Act.put, nrm]
     refine StL.y (some 32) ?cv1_1 (fun wo hSw => ?ch1_1) ?cr1_1
     case ch1_1 => (try dsimp only at hSw); go_simp; try with_reducible rfl
     try simp only [Act.put, nrm]
     refine StL.cons (dst := (some 33)) (v := .agg #[.int .i64 f1, .int .i64 f2]) rfl (Steady.of_wpD (dst := (some 33)) (by rfl) (by rfl) (by rfl) (fun wo hSw K hK => ?ch1_2)) ?cr1_2
     case ch1_2 =>
      (try dsimp only at hSw)
      go_simp
      refine (HNr.out _ hSw.2).mono ?_
      rintro e w8 ⟨rfl, hx8⟩
      exact hK _ ⟨HQ.out _ (hSw.2.trans hx8), hSw.2.trans hx8⟩
     try simp only [Act.put, nrm]
     refine StL.y (some 34) ?cv1_3 (fun wo hSw => ?ch1_3) ?cr1_3
     case ch1_3 => (try dsimp only at hSw); go_simp; try with_reducible rfl
     try simp only [Act.put, nrm]
     refine StL.y (some 35) ?cv1_4 (fun wo hSw => ?ch1_4) ?cr1_4
     case ch1_4 => (try dsimp only at hSw); go_simp; try with_reducible rfl
     try simp only [Act.put, nrm]
     refine StL.y (some 36) ?cv1_5 (fun wo hSw => ?ch1_5) ?cr1_5
     case ch1_5 => (try dsimp only at hSw); go_simp; try with_reducible rfl
     try simp only [Act.put, nrm]
     refine StL.y (some 37) ?cv1_6 (fun wo hSw => ?ch1_6) ?cr1_6
     case ch1_6 => (try dsimp only at hSw); go_simp; try with_reducible rfl
     try simp only [Act.put, nrm]
     refine StL.y (some 38) ?cv1_7 (fun wo hSw => ?ch1_7) ?cr1_7
     case ch1_7 => (try dsimp only at hSw); go_simp; try with_reducible rfl
     try simp only [Act.put, nrm]
     refine StL.y (some 39) ?cv1_8 (fun wo hSw => ?ch1_8) ?cr1_8
     case ch1_8 => (try dsimp only at hSw); go_simp; try with_reducible rfl
     try simp only [Act.put, nrm]
     refine StL.y (some 40) ?cv1_9 (fun wo hSw => ?ch1_9) ?cr1_9
     case ch1_9 => (try dsimp only at hSw); go_simp; try with_reducible rfl
     try simp only [Act.put, nrm]
     refine StL.y (some 41) ?cv1_10 (fun wo hSw => ?ch1_10) ?cr1_10
     case ch1_10 => (try dsimp only at hSw); go_simp; try with_reducible rfl
     try simp only [Act.put, nrm]
     refine StL.y (some 42) ?cv1_11 (fun wo hSw => ?ch1_11) ?cr1_11
     case ch1_11 => (try dsimp only at hSw); go_simp; try with_reducible rfl
     try simp only [Act.put, nrm]
     refine StL.y (some 43) ?cv1_12 (fun wo hSw => ?ch1_12) ?cr1_12
     case ch1_12 => (try dsimp only at hSw); go_simp; try with_reducible rfl
     try simp only [Act.put, nrm]
     refine StL.cons (dst := (some 44)) (v := .bool true) rfl (Steady.of_wpD (dst := (some 44)) (by rfl) (by rfl) (by rfl) (fun wo hSw K hK => ?ch1_13)) ?cr1_13
     case ch1_13 =>
      (try dsimp only at hSw)
      go_simp
      refine (HW.out _ (X5.out.trans hSw.2)).mono ?_
      rintro e w8 ⟨rfl, hx8⟩
      exact hK _ ⟨HQ.out _ (hSw.2.trans hx8), hSw.2.trans hx8⟩
     try simp only [Act.put, nrm]
     refine StL.y (some 45) ?cv1_14 (fun wo hSw => ?ch1_14) ?cr1_14
     case ch1_14 => (try dsimp only at hSw); go_simp; try with_reducible rfl
     try simp only [Act.put, nrm]
     refine StL.y (some 2) ?cv1_15 (fun wo hSw => ?ch1_15) ?cr1_15
     case ch1_15 => (try dsimp only at hSw); go_simp; try with_reducible rfl
     try simp only [Act.put, nrm]
     refine StL.done (fun wz hSw => ?_)
     have XZ := Lib.hid (X5.out.trans hSw.2)
     clear hSw HQ HNr X5 HW
     go_wp2_with fail
     go_ret
     exact ⟨by simp, XZ.out⟩
    ·have b1 : (f1 != 0) = true := by simpa using hf
     clear hf
     refine region_lex (fun w' => (w'.cell? ⟨g6, 0, none⟩ = some (.int .i64 f1) ∧ w'.cell? ⟨g6, 1, none⟩ = some (.int .i64 f2)) ∧ Ext w5 w') (by kernel_rfl) (by kernel_rfl) (⟨HQ.out _ (Ext.refl w5).drew, (Ext.refl w5).drew⟩) ?_
     refine StL.y (some 31) ?cv2_0 (fun wo hSw => ?ch2_0) ?cr2_0
     case ch2_0 => (try dsimp only at hSw); go_simp; try with_reducible rfl
     try simp only [Act.put, nrm]
     refine StL.y (some 32) ?cv2_1 (fun wo hSw => ?ch2_1) ?cr2_1
     case ch2_1 => (try dsimp only at hSw); go_simp; try with_reducible rfl
     try simp only [Act.put, nrm]
     refine StL.cons (dst := (some 33)) (v := .agg #[.int .i64 f1, .int .i64 f2]) rfl (Steady.of_wpD (dst := (some 33)) (by rfl) (by rfl) (by rfl) (fun wo hSw K hK => ?ch2_2)) ?cr2_2
     case ch2_2 =>
      (try dsimp only at hSw)
      go_simp
      refine (HNr.out _ hSw.2).mono ?_
      rintro e w8 ⟨rfl, hx8⟩
      exact hK _ ⟨HQ.out _ (hSw.2.trans hx8), hSw.2.trans hx8⟩
     try simp only [Act.put, nrm]
     refine StL.y (some 34) ?cv2_3 (fun wo hSw => ?ch2_3) ?cr2_3
     case ch2_3 => (try dsimp only at hSw); go_simp; try with_reducible rfl
     try simp only [Act.put, nrm]
     refine StL.y (some 35) ?cv2_4 (fun wo hSw => ?ch2_4) ?cr2_4
     case ch2_4 => (try dsimp only at hSw); go_simp; try with_reducible rfl
     try simp only [Act.put, nrm]
     refine StL.y (some 36) ?cv2_5 (fun wo hSw => ?ch2_5) ?cr2_5
     case ch2_5 => (try dsimp only at hSw); go_simp; try with_reducible rfl
     try simp only [Act.put, nrm]
     refine StL.y (some 37) ?cv2_6 (fun wo hSw => ?ch2_6) ?cr2_6
     case ch2_6 => (try dsimp only at hSw); go_simp; try with_reducible rfl
     try simp only [Act.put, nrm]
     refine StL.y (some 38) ?cv2_7 (fun wo hSw => ?ch2_7) ?cr2_7
     case ch2_7 => (try dsimp only at hSw); go_simp; try with_reducible rfl
     try simp only [Act.put, nrm]
     refine StL.y (some 39) ?cv2_8 (fun wo hSw => ?ch2_8) ?cr2_8
     case ch2_8 => (try dsimp only at hSw); go_simp; try with_reducible rfl
     try simp only [Act.put, nrm]
     refine StL.y (some 40) ?cv2_9 (fun wo hSw => ?ch2_9) ?cr2_9
     case ch2_9 => (try dsimp only at hSw); go_simp; try with_reducible rfl
     try simp only [Act.put, nrm]
     refine StL.y (some 41) ?cv2_10 (fun wo hSw => ?ch2_10) ?cr2_10
     case ch2_10 => (try dsimp only at hSw); go_simp; try with_reducible rfl
     try simp only [Act.put, nrm]
     refine StL.y (some 42) ?cv2_11 (fun wo hSw => ?ch2_11) ?cr2_11
     case ch2_11 => (try dsimp only at hSw); go_simp; try with_reducible rfl
     try simp only [Act.put, nrm]
     refine StL.y (some 43) ?cv2_12 (fun wo hSw => ?ch2_12) ?cr2_12
     case ch2_12 => (try dsimp only at hSw); go_simp; try with_reducible rfl
     try simp only [Act.put, nrm]
     refine StL.cons (dst := (some 44)) (v := .bool true) rfl (Steady.of_wpD (dst := (some 44)) (by rfl) (by rfl) (by rfl) (fun wo hSw K hK => ?ch2_13)) ?cr2_13
     case ch2_13 =>
      (try dsimp only at hSw)
      go_simp
      refine (HW.out _ (X5.out.trans hSw.2)).mono ?_
      rintro e w8 ⟨rfl, hx8⟩
      exact hK _ ⟨HQ.out _ (hSw.2.trans hx8), hSw.2.trans hx8⟩
     try simp only [Act.put, nrm]
     refine StL.y (some 45) ?cv2_14 (fun wo hSw => ?ch2_14) ?cr2_14
     case ch2_14 => (try dsimp only at hSw); go_simp; try with_reducible rfl
     try simp only [Act.put, nrm]
     refine StL.y (some 2) ?cv2_15 (fun wo hSw => ?ch2_15) ?cr2_15
     case ch2_15 => (try dsimp only at hSw); go_simp; try with_reducible rfl
     try simp only [Act.put, nrm]
     refine StL.done (fun wz hSw => ?_)
     have XZ := Lib.hid (X5.out.trans hSw.2)
     clear hSw HQ HNr X5 HW
     go_wp2_with fail
     go_ret
     exact ⟨by simp, XZ.out⟩
  ·have hC0 := hCn.2 hn
   have d1 : decide ((k : Int) < 498 + m) = true := decide_eq_true (by omega)
   have d2 : decide (0 ≤ n) = false := decide_eq_false hn
   obtain ⟨A1, c1, rfl, hnc, hcm, hrd⟩ := own_slice ho
   have HN1 := Lib.hid (HN.out _ (by omega) A1 c1 wr hrd hx)
   have HRd := Lib.hid (fun w' (hy : Ext wr w') => HR.out _ (by omega) A1 c1 w' (hrd.ext hy))
   have X1 := Lib.hid hx
   clear HN HR ho hx hrd hCn
   obtain ⟨L, hL⟩ : ∃ L, newR (manyL k) = L := ⟨_, rfl⟩
   rw [hL] at HN1 HRd
   obtain ⟨f1, f2⟩ := L
   dsimp only at HN1 HRd
   clear hL
   go_wp2_with fail
   refine HN1.out.mono ?_
   rintro e w3 ⟨v6, rfl, hy, hT⟩
   have hv : (f1 = 0 ∧ ∃ tb, v6 = .pointer (some ⟨tb, 0, none⟩)) ∨ (f1 ≠ 0 ∧ v6 = .pointer none) := by
    rcases hT with ⟨h0, tb, e, _⟩ | ⟨h0, e⟩
    ·exact .inl ⟨h0, tb, e⟩
    ·exact .inr ⟨h0, e⟩
   have Y5 := Lib.hid (hy.alloc (.cells #[.int .i64 f1, .int .i64 f2] 36))
   have B6 := Lib.hid (Blk.new w3 36 #[.int .i64 f1, .int .i64 f2])
   clear hy HN1 hT
   go_upto_region 7 with (fail)
   generalize w3.alloc (.cells #[.int .i64 f1, .int .i64 f2] 36) = w5 at *
   generalize w3.heap.size = g6 at *
   have X5 := Lib.hid (X1.out.trans Y5.out)
   have HNr := Lib.hid (fun w (hx : Ext w5 w) => HRd.out w (Y5.out.trans hx))
   have HQ := Lib.hid (fun w' (hx : Ext w5 w') => (show w'.cell? ⟨g6, 0, none⟩ = some (.int .i64 f1) ∧ w'.cell? ⟨g6, 1, none⟩ = some (.int .i64 f2) from ⟨(B6.out.ext hx).cell 0, (B6.out.ext hx).cell 1⟩))
   have hfe := fun w => ft_eq f1 f2 w
   clear Y5 B6 HRd
   rcases hv with ⟨hf, tb, rfl⟩ | ⟨hf, rfl⟩
   ·have b1 : (f1 != 0) = false := by simp [hf]
    clear hf
    refine region_lex (fun w' => (w'.cell? ⟨g6, 0, none⟩ = some (.int .i64 f1) ∧ w'.cell? ⟨g6, 1, none⟩ = some (.int .i64 f2)) ∧ Ext w5 w') (by kernel_rfl) (by kernel_rfl) (⟨HQ.out _ (Ext.refl w5).drew, (Ext.refl w5).drew⟩) ?_
    refine StL.y (some 31) ?cv3_0 (fun wo hSw => ?ch3_0) ?cr3_0
    case ch3_0 => (try dsimp only at hSw); go_simp; try with_reducible rfl
    try simp only [Act.put, nrm]
    refine StL.y (some 32) ?cv3_1 (fun wo hSw => ?ch3_1) ?cr3_1
    case ch3_1 => (try dsimp only at hSw); go_simp; try with_reducible rfl
    try simp only [Act.put, nrm]
    refine StL.cons (dst := (some 33)) (v := .agg #[.int .i64 f1, .int .i64 f2]) rfl (Steady.of_wpD (dst := (some 33)) (by rfl) (by rfl) (by rfl) (fun wo hSw K hK => ?ch3_2)) ?cr3_2
    case ch3_2 =>
     (try dsimp only at hSw)
     go_simp
     refine (HNr.out _ hSw.2).mono ?_
     rintro e w8 ⟨rfl, hx8⟩
     exact hK _ ⟨HQ.out _ (hSw.2.trans hx8), hSw.2.trans hx8⟩
    try simp only [Act.put, nrm]
    refine StL.y (some 34) ?cv3_3 (fun wo hSw => ?ch3_3) ?cr3_3
    case ch3_3 => (try dsimp only at hSw); go_simp; try with_reducible rfl
    try simp only [Act.put, nrm]
    refine StL.y (some 35) ?cv3_4 (fun wo hSw => ?ch3_4) ?cr3_4
    case ch3_4 => (try dsimp only at hSw); go_simp; try with_reducible rfl
    try simp only [Act.put, nrm]
    refine StL.y (some 36) ?cv3_5 (fun wo hSw => ?ch3_5) ?cr3_5
    case ch3_5 => (try dsimp only at hSw); go_simp; try with_reducible rfl
    try simp only [Act.put, nrm]
    refine StL.y (some 37) ?cv3_6 (fun wo hSw => ?ch3_6) ?cr3_6
    case ch3_6 => (try dsimp only at hSw); go_simp; try with_reducible rfl
    try simp only [Act.put, nrm]
    refine StL.y (some 38) ?cv3_7 (fun wo hSw => ?ch3_7) ?cr3_7
    case ch3_7 => (try dsimp only at hSw); go_simp; try with_reducible rfl
    try simp only [Act.put, nrm]
    refine StL.y (some 39) ?cv3_8 (fun wo hSw => ?ch3_8) ?cr3_8
    case ch3_8 => (try dsimp only at hSw); go_simp; try with_reducible rfl
    try simp only [Act.put, nrm]
    refine StL.y (some 40) ?cv3_9 (fun wo hSw => ?ch3_9) ?cr3_9
    case ch3_9 => (try dsimp only at hSw); go_simp; try with_reducible rfl
    try simp only [Act.put, nrm]
    refine StL.y (some 41) ?cv3_10 (fun wo hSw => ?ch3_10) ?cr3_10
    case ch3_10 => (try dsimp only at hSw); go_simp; try with_reducible rfl
    try simp only [Act.put, nrm]
    refine StL.y (some 42) ?cv3_11 (fun wo hSw => ?ch3_11) ?cr3_11
    case ch3_11 => (try dsimp only at hSw); go_simp; try with_reducible rfl
    try simp only [Act.put, nrm]
    refine StL.y (some 43) ?cv3_12 (fun wo hSw => ?ch3_12) ?cr3_12
    case ch3_12 => (try dsimp only at hSw); go_simp; try with_reducible rfl
    try simp only [Act.put, nrm]
    refine StL.cons (dst := (some 44)) (v := .bool true) rfl (Steady.of_wpD (dst := (some 44)) (by rfl) (by rfl) (by rfl) (fun wo hSw K hK => ?ch3_13)) ?cr3_13
    case ch3_13 =>
     (try dsimp only at hSw)
     go_simp
     refine (HW.out _ (X5.out.trans hSw.2)).mono ?_
     rintro e w8 ⟨rfl, hx8⟩
     exact hK _ ⟨HQ.out _ (hSw.2.trans hx8), hSw.2.trans hx8⟩
    try simp only [Act.put, nrm]
    refine StL.y (some 45) ?cv3_14 (fun wo hSw => ?ch3_14) ?cr3_14
    case ch3_14 => (try dsimp only at hSw); go_simp; try with_reducible rfl
    try simp only [Act.put, nrm]
    refine StL.y (some 2) ?cv3_15 (fun wo hSw => ?ch3_15) ?cr3_15
    case ch3_15 => (try dsimp only at hSw); go_simp; try with_reducible rfl
    try simp only [Act.put, nrm]
    refine StL.done (fun wz hSw => ?_)
    have XZ := Lib.hid (X5.out.trans hSw.2)
    clear hSw HQ HNr X5 HW
    go_wp2_with fail
    go_ret
    exact ⟨by simp, XZ.out⟩
   ·have b1 : (f1 != 0) = true := by simpa using hf
    clear hf
    refine region_lex (fun w' => (w'.cell? ⟨g6, 0, none⟩ = some (.int .i64 f1) ∧ w'.cell? ⟨g6, 1, none⟩ = some (.int .i64 f2)) ∧ Ext w5 w') (by kernel_rfl) (by kernel_rfl) (⟨HQ.out _ (Ext.refl w5).drew, (Ext.refl w5).drew⟩) ?_
    refine StL.y (some 31) ?cv4_0 (fun wo hSw => ?ch4_0) ?cr4_0
    case ch4_0 => (try dsimp only at hSw); go_simp; try with_reducible rfl
    try simp only [Act.put, nrm]
    refine StL.y (some 32) ?cv4_1 (fun wo hSw => ?ch4_1) ?cr4_1
    case ch4_1 => (try dsimp only at hSw); go_simp; try with_reducible rfl
    try simp only [Act.put, nrm]
    refine StL.cons (dst := (some 33)) (v := .agg #[.int .i64 f1, .int .i64 f2]) rfl (Steady.of_wpD (dst := (some 33)) (by rfl) (by rfl) (by rfl) (fun wo hSw K hK => ?ch4_2)) ?cr4_2
    case ch4_2 =>
     (try dsimp only at hSw)
     go_simp
     refine (HNr.out _ hSw.2).mono ?_
     rintro e w8 ⟨rfl, hx8⟩
     exact hK _ ⟨HQ.out _ (hSw.2.trans hx8), hSw.2.trans hx8⟩
    try simp only [Act.put, nrm]
    refine StL.y (some 34) ?cv4_3 (fun wo hSw => ?ch4_3) ?cr4_3
    case ch4_3 => (try dsimp only at hSw); go_simp; try with_reducible rfl
    try simp only [Act.put, nrm]
    refine StL.y (some 35) ?cv4_4 (fun wo hSw => ?ch4_4) ?cr4_4
    case ch4_4 => (try dsimp only at hSw); go_simp; try with_reducible rfl
    try simp only [Act.put, nrm]
    refine StL.y (some 36) ?cv4_5 (fun wo hSw => ?ch4_5) ?cr4_5
    case ch4_5 => (try dsimp only at hSw); go_simp; try with_reducible rfl
    try simp only [Act.put, nrm]
    refine StL.y (some 37) ?cv4_6 (fun wo hSw => ?ch4_6) ?cr4_6
    case ch4_6 => (try dsimp only at hSw); go_simp; try with_reducible rfl
    try simp only [Act.put, nrm]
    refine StL.y (some 38) ?cv4_7 (fun wo hSw => ?ch4_7) ?cr4_7
    case ch4_7 => (try dsimp only at hSw); go_simp; try with_reducible rfl
    try simp only [Act.put, nrm]
    refine StL.y (some 39) ?cv4_8 (fun wo hSw => ?ch4_8) ?cr4_8
    case ch4_8 => (try dsimp only at hSw); go_simp; try with_reducible rfl
    try simp only [Act.put, nrm]
    refine StL.y (some 40) ?cv4_9 (fun wo hSw => ?ch4_9) ?cr4_9
    case ch4_9 => (try dsimp only at hSw); go_simp; try with_reducible rfl
    try simp only [Act.put, nrm]
    refine StL.y (some 41) ?cv4_10 (fun wo hSw => ?ch4_10) ?cr4_10
    case ch4_10 => (try dsimp only at hSw); go_simp; try with_reducible rfl
    try simp only [Act.put, nrm]
    refine StL.y (some 42) ?cv4_11 (fun wo hSw => ?ch4_11) ?cr4_11
    case ch4_11 => (try dsimp only at hSw); go_simp; try with_reducible rfl
    try simp only [Act.put, nrm]
    refine StL.y (some 43) ?cv4_12 (fun wo hSw => ?ch4_12) ?cr4_12
    case ch4_12 => (try dsimp only at hSw); go_simp; try with_reducible rfl
    try simp only [Act.put, nrm]
    refine StL.cons (dst := (some 44)) (v := .bool true) rfl (Steady.of_wpD (dst := (some 44)) (by rfl) (by rfl) (by rfl) (fun wo hSw K hK => ?ch4_13)) ?cr4_13
    case ch4_13 =>
     (try dsimp only at hSw)
     go_simp
     refine (HW.out _ (X5.out.trans hSw.2)).mono ?_
     rintro e w8 ⟨rfl, hx8⟩
     exact hK _ ⟨HQ.out _ (hSw.2.trans hx8), hSw.2.trans hx8⟩
    try simp only [Act.put, nrm]
    refine StL.y (some 45) ?cv4_14 (fun wo hSw => ?ch4_14) ?cr4_14
    case ch4_14 => (try dsimp only at hSw); go_simp; try with_reducible rfl
    try simp only [Act.put, nrm]
    refine StL.y (some 2) ?cv4_15 (fun wo hSw => ?ch4_15) ?cr4_15
    case ch4_15 => (try dsimp only at hSw); go_simp; try with_reducible rfl
    try simp only [Act.put, nrm]
    refine StL.done (fun wz hSw => ?_)
    have XZ := Lib.hid (X5.out.trans hSw.2)
    clear hSw HQ HNr X5 HW
    go_wp2_with fail
    go_ret
    exact ⟨by simp, XZ.out⟩
end Go.Proofs.YtjaponmpfdpemaaGreatDoor
