/-
  The reference's numbers: carried.
-/
import Derived.Test.YtehkmngbknbbaaaRj05
import Derived.Deep.QuietTactic
import Derived.StillTailTactics
import Derived.IntWalk
set_option linter.unusedVariables false
namespace Go.Proofs.Ytehkmngbknbbaaa
open Go.RowKit

theorem allZ_dig {S : Nat} (h : S < 65536 ^ 12) : allZ (digI S) = decide (S = 0) := by
  rw [Bool.eq_iff_iff, allZ_iff, decide_eq_true_eq]
  constructor
  · intro ha
    have h1 := sumD_dig12 h
    rw [sumD_congr (g := fun _ => 0) (k := 12) (fun i hi => by have := ha i hi; unfold digI at this; omega)] at h1
    have : ∀ k, sumD (fun _ => 0) k = 0 := by
      intro k
      induction k with
      | zero => rfl
      | succ k ih => rw [sumD, ih]; simp
    rw [this] at h1
    exact h1.symm
  · intro h0 i _
    subst h0
    simp [digI, dig]
/-- Where the carrying stands. -/
def CarRel (w : World) (s : Bool) (f : Nat → Nat) (i : Value) (wr : World) : Prop :=
  ∃ k : Nat, k ≤ 11 ∧ i = .int .i64 (k : Int) ∧ Blk wr w.heap.size 169 (numC s (fun j => ((cst f k j : Nat) : Int))) ∧ Blk wr (w.heap.size + 1) 169 (numC false (fun _ => 0)) ∧ Ext w wr
theorem CarRel.next {w W : World} {s : Bool} {f : Nat → Nat} {k m : Nat} (hk : k < 11) {x y : Int} (hx : x = ((cst f k (k + 1) : Nat) : Int) + ((cst f k k : Nat) : Int) / 65536) (hy : y = ((cst f k k : Nat) : Int) % 65536)
    (B : Blk W w.heap.size 169 ((numC s (fun j => ((cst f k j : Nat) : Int))).setIfInBounds (1 + (k + 1)) (.int .i64 x) |>.setIfInBounds (1 + k) (.int .i64 y))) (B2 : Blk W (w.heap.size + 1) 169 (numC false (fun _ => 0))) (hX : Ext w W) (e : m = k + 1) : CarRel w s f (.int .i64 (m : Int)) W := by
  subst e hx hy
  rw [numC_set _ _ _ (k + 1) (by omega), numC_set _ _ _ k (by omega)] at B
  refine ⟨k + 1, by omega, rfl, ?_, B2, hX⟩
  rw [cst_step]
  have e : (fun j => ((upd (upd (cst f k) (k + 1) (cst f k (k + 1) + cst f k k / 65536)) k (cst f k k % 65536) j : Nat) : Int)) = updI (updI (fun j => ((cst f k j : Nat) : Int)) (k + 1) (((cst f k (k + 1) : Nat) : Int) + ((cst f k k : Nat) : Int) / 65536)) k (((cst f k k : Nat) : Int) % 65536) := by
    funext j
    unfold upd updI
    split
    · simp
    · split
      · simp
      · rfl
  rw [e]
  exact B
set_option maxRecDepth 100000 in
set_option maxHeartbeats 1000000 in
theorem carried_any (s : Bool) (f : Nat → Nat) (hf : ∀ i, f i ≤ 1152921504606846976) (hS : sumD f 12 < 65536 ^ 12) (w : World) :
    Calls Try.prog 115 #[numV s (fun i => (f i : Int))] w fun e w' => e = .returned (numV (s && decide (sumD f 12 ≠ 0)) (digI (sumD f 12))) ∧ Ext w w' := by
  have B1 := (Blk.new w 169 (numC s (fun i => (f i : Int)))).alloc (.cells (numC false (fun _ => 0)) 169)
  have B2 : Blk ((w.alloc (.cells (numC s (fun i => (f i : Int))) 169)).alloc (.cells (numC false (fun _ => 0)) 169)) (w.heap.size + 1) 169 (numC false (fun _ => 0)) := by
    have := Blk.new (w.alloc (.cells (numC s (fun i => (f i : Int))) 169)) 169 (numC false (fun _ => 0))
    simpa using this
  have X0 := ((Ext.refl w).alloc (.cells (numC s (fun i => (f i : Int))) 169)).alloc (.cells (numC false (fun _ => 0)) 169)
  have H0 := Lib.hid (show CarRel w s f (.int .i64 ((0 : Nat) : Int)) _ from ⟨0, by omega, rfl, by rw [cst_0]; exact B1, B2, X0⟩)
  clear B1 B2 X0
  have HS := Lib.hid hS
  obtain ⟨S, hSS⟩ : ∃ S, sumD f 12 = S := ⟨_, rfl⟩
  rw [hSS]
  replace hSS := Lib.hid hSS
  have HF := Lib.hid hf
  clear hS hf
  go_enter Try.func115, Try.ntmps115
  go_wp2_with fail
  go_loopw [3] (fun i wr => CarRel w s f i wr) (fun i _ => 11 - (intOf i).toNat)
  case atStart => exact H0.out
  case round =>
    clear H0
    obtain ⟨k, hk, rfl, hB, hB2, hx⟩ := hrel
    by_cases hlt : k < 11
    · have hd : decide ((k : Int) < 11) = true := by simp; omega
      have c1 := (hB.cell (1 + k)).trans (numC_at s _ k (by omega))
      have c2 := (hB.cell (1 + (k + 1))).trans (numC_at s _ (k + 1) (by omega))
      have fz := hB.frozen
      have b1 := cst_bd (by decide) HF.out k k
      have b2 := cst_bd (by decide) HF.out k (k + 1)
      have HN := Lib.hid (fun (W : World) (x y : Int) hx' hy B B2 hX => CarRel.next (w := w) (W := W) (s := s) (f := f) (x := x) (y := y) (m := k + 1) hlt hx' hy B B2 hX rfl)
      have hB' := Lib.hid hB
      have hB2' := Lib.hid hB2
      clear hB hB2
      generalize cst f k k = a at *
      generalize cst f k (k + 1) = b at *
      have lb := (hB'.out).lt
      have e1 : IntKind.i64.wrap ((k : Int) + 1) = (k : Int) + 1 := IntWalk.i64_in _ (by omega)
      have e2 : (0 : Int) ≤ (k : Int) + 1 := by omega
      have e3 : ((k : Int) + 1).toNat = k + 1 := by omega
      have e4 : (k : Int) + 1 < 12 := by omega
      have e5 : (k : Int) < 12 := by omega
      have a1 : (0 : Int) ≤ (a : Int) := by omega
      have a2 : (a : Int).tdiv 65536 = (a : Int) / 65536 := Int.tdiv_eq_ediv_of_nonneg a1
      have a3 : IntKind.i64.wrap ((b : Int) + (a : Int) / 65536) = (b : Int) + (a : Int) / 65536 := IntWalk.i64_in _ (by omega)
      go_wp2_with fail
      go_still_tail 15, (by kernel_rfl)
      go_wp2_with fail
      go_roundw
      case rel =>
        have g1 : w.heap.size + 1 ≠ w.heap.size := by omega
        have := HN.out _ _ _ rfl rfl (((hB'.out.set_ (1 + (k + 1)) (.int .i64 ((b : Int) + (a : Int) / 65536))).set_ (1 + k) (.int .i64 ((a : Int) % 65536))).ext (Ext.refl _).drew) (((hB2'.out.far (p := ⟨w.heap.size, 1 + (k + 1), none⟩) g1 _).far (p := ⟨w.heap.size, 1 + k, none⟩) g1 _).ext (Ext.refl _).drew) (((hx.set (p := ⟨w.heap.size, 1 + (k + 1), none⟩) (Nat.le_refl _) _).set (p := ⟨w.heap.size, 1 + k, none⟩) (Nat.le_refl _) _).drew)
        first | exact this | (simpa using this)
      case measure => simp [intOf]; omega
    · have hk11 : k = 11 := by omega
      subst hk11
      have hC := numC_congr (s := s) (f := fun j => ((cst f 11 j : Nat) : Int)) (g := digI (sumD f 12)) (fun i hi => by show ((cst f 11 i : Nat) : Int) = _; rw [cst_end HS.out hi]; rfl)
      rw [hC] at hB
      have hz := allZ_dig HS.out
      rw [hSS.out] at hz hB
      clear HF hC
      obtain ⟨q, q'⟩ := hB.cells
      unfold numC at q
      go_wp2_with fail
      refine (zero_any s (digI S) _).mono ?_
      rintro e w2 ⟨rfl, hx2⟩
      rw [hz]
      replace hz := Lib.hid hz
      have B3 := hB.ext hx2
      have B4 := hB2.ext hx2
      have X3 := hx.trans hx2
      clear q q' hB hB2 hx hx2
      obtain ⟨q, q'⟩ := B3.cells
      obtain ⟨p, p'⟩ := B4.cells
      unfold numC at q p
      have g1 : w.heap.size + 1 ≠ w.heap.size := by omega
      by_cases h0 : S = 0
      · have hd0 : decide (S = 0) = true := by simpa using h0
        have hd1 : decide (S ≠ 0) = false := by simpa using h0
        rw [hd0]
        replace hd1 := Lib.hid hd1
        replace h0 := Lib.hid h0
        go_wp2_with fail
        exact bodyPost_ret (results_c rfl rfl (ld_num (put13 (s := false) (f := digI S) (B4.far (p := ⟨w.heap.size, 0, none⟩) g1 _)))) rfl ⟨by rw [hd1.out, Bool.and_false], ext13 (X3.set (p := ⟨w.heap.size, 0, none⟩) (Nat.le_refl _) _) (by omega)⟩
      · have hd0 : decide (S = 0) = false := by simpa using h0
        have hd1 : decide (S ≠ 0) = true := by simpa using h0
        rw [hd0]
        replace hd1 := Lib.hid hd1
        replace h0 := Lib.hid h0
        go_wp2_with fail
        exact bodyPost_ret (results_c rfl rfl (ld_num (put13 (s := s) (f := digI S) B4))) rfl ⟨by rw [hd1.out, Bool.and_true], ext13 X3 (by omega)⟩
end Go.Proofs.Ytehkmngbknbbaaa
