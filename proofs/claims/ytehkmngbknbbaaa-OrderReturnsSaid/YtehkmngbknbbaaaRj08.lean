/-
  The reference's numbers: a difference; products.
-/
import Derived.Test.YtehkmngbknbbaaaRj07
set_option linter.unusedVariables false
namespace Go.Proofs.Ytehkmngbknbbaaa
open Go.RowKit

theorem cmpN_ge {m n : Nat} (h : n ≤ m) : 0 ≤ cmpN m n := by unfold cmpN; split; omega; split <;> omega
def subF (m n k : Nat) : Nat → Int := fun j => if j < k then digI (m - n) j else if j = k then digI m j - (brw m n j : Int) else digI m j
theorem subF_0 (m n : Nat) : subF m n 0 = digI m := by
  funext j
  unfold subF
  rw [if_neg (by omega)]
  split
  · next h => subst h; rw [brw_0]; simp
  · rfl
theorem subF_end {m n : Nat} {i : Nat} (hi : i < 12) : subF m n 12 i = digI (m - n) i := by
  unfold subF
  rw [if_pos hi]
theorem subF_k (m n k : Nat) : subF m n k k = digI m k - (brw m n k : Int) := by
  unfold subF
  rw [if_neg (by omega), if_pos rfl]
theorem subF_up (m n k : Nat) : subF m n k (k + 1) = digI m (k + 1) := by
  unfold subF
  rw [if_neg (by omega), if_neg (by omega)]
theorem subF_no {m n : Nat} (h : n ≤ m) (k : Nat) (hb : brw m n (k + 1) = 0) : subF m n (k + 1) = updI (subF m n k) k (digI m k - (brw m n k : Int) - digI n k) := by
  have hd := sub_dig h k
  rw [hb] at hd
  funext j
  unfold updI
  by_cases h1 : j = k
  · subst h1
    rw [if_pos rfl]
    unfold subF
    rw [if_pos (by omega)]
    unfold digI
    omega
  rw [if_neg h1]
  unfold subF
  by_cases h2 : j < k
  · rw [if_pos (by omega), if_pos h2]
  · rw [if_neg (by omega), if_neg h2, if_neg h1]
    by_cases h3 : j = k + 1
    · subst h3; rw [if_pos rfl, hb]; simp
    · rw [if_neg h3]
theorem subF_yes {m n : Nat} (h : n ≤ m) (k : Nat) (hb : brw m n (k + 1) = 1) : subF m n (k + 1) = updI (updI (updI (subF m n k) k (digI m k - (brw m n k : Int) - digI n k)) k (digI m k - (brw m n k : Int) - digI n k + 65536)) (k + 1) (digI m (k + 1) - 1) := by
  have hd := sub_dig h k
  rw [hb] at hd
  funext j
  unfold updI
  by_cases h3 : j = k + 1
  · subst h3
    rw [if_pos rfl]
    unfold subF
    rw [if_neg (by omega), if_pos rfl, hb]
    rfl
  rw [if_neg h3]
  by_cases h1 : j = k
  · subst h1
    rw [if_pos rfl]
    unfold subF
    rw [if_pos (by omega)]
    unfold digI
    omega
  rw [if_neg h1, if_neg h1]
  unfold subF
  by_cases h2 : j < k
  · rw [if_pos (by omega), if_pos h2]
  · rw [if_neg (by omega), if_neg h3, if_neg h2, if_neg h1]
theorem sub_sign {m n : Nat} (h : n ≤ m) (k : Nat) : (brw m n (k + 1) = 1 → digI m k - (brw m n k : Int) - digI n k < 0) ∧ (brw m n (k + 1) = 0 → 0 ≤ digI m k - (brw m n k : Int) - digI n k) := by
  have hd := sub_dig h k
  have := dig_lt (m - n) k
  unfold digI
  constructor
  · intro hb; rw [hb] at hd; omega
  · intro hb; rw [hb] at hd; omega
/-- Where the subtracting stands. -/
def SubRel (w : World) (s s' : Bool) (m n : Nat) (i : Value) (wr : World) : Prop :=
  ∃ k : Nat, k ≤ 12 ∧ i = .int .i64 (k : Int) ∧ Blk wr w.heap.size 169 (numC s (subF m n k)) ∧ Blk wr (w.heap.size + 1) 169 (numC s' (digI n)) ∧ Blk wr (w.heap.size + 1 + 1) 169 (numC false (fun _ => 0)) ∧ Ext w wr
set_option maxRecDepth 100000 in
set_option maxHeartbeats 2000000 in
/-- A sum of two of two signs, the first one not smaller. -/
theorem plus_diff (s s' : Bool) (m n : Nat) (hm : m < 65536 ^ 12) (hnm : n ≤ m) (hss : (s == s') = false) (w : World) :
    Calls Try.prog 113 #[numV s (digI m), numV s' (digI n)] w fun e w' => e = .returned (numV (s && decide (m - n ≠ 0)) (digI (m - n))) ∧ Ext w w' := by
  have hn : n < 65536 ^ 12 := Nat.lt_of_le_of_lt hnm hm
  have B1 := ((Blk.new w 169 (numC s (digI m))).alloc (.cells (numC s' (digI n)) 169)).alloc (.cells (numC false (fun _ => 0)) 169)
  have B2 := (Blk.two12 w 169 169 (numC s (digI m)) (numC s' (digI n))).alloc (.cells (numC false (fun _ => 0)) 169)
  have B3 : Blk (((w.alloc (.cells (numC s (digI m)) 169)).alloc (.cells (numC s' (digI n)) 169)).alloc (.cells (numC false (fun _ => 0)) 169)) (w.heap.size + 1 + 1) 169 (numC false (fun _ => 0)) := by
    have := Blk.two12 (w.alloc (.cells (numC s (digI m)) 169)) 169 169 (numC s' (digI n)) (numC false (fun _ => 0))
    simpa using this
  have X0 := (((Ext.refl w).alloc (.cells (numC s (digI m)) 169)).alloc (.cells (numC s' (digI n)) 169)).alloc (.cells (numC false (fun _ => 0)) 169)
  have HC := Lib.hid (carriedD_any s (m - n) (by omega))
  have HZ := Lib.hid (size_any s s' m n hm hn)
  have hc0 := cmpN_ge hnm
  obtain ⟨c, hc⟩ : ∃ c, cmpN m n = c := ⟨_, rfl⟩
  rw [hc] at hc0
  replace hc := Lib.hid hc
  have hdc : decide (c < 0) = false := by simp; omega
  have HM := Lib.hid hm
  obtain ⟨sg, hsg⟩ : ∃ sg, (s && decide (m - n ≠ 0)) = sg := ⟨_, rfl⟩
  replace hsg := Lib.hid hsg
  obtain ⟨q, q'⟩ := B1.cells
  obtain ⟨p, p'⟩ := B2.cells
  unfold numC at q p
  have H0 := Lib.hid (fun W (hx : Ext _ W) => (show SubRel w s s' m n (.int .i64 ((0 : Nat) : Int)) W from ⟨0, by omega, rfl, by rw [subF_0]; exact B1.ext hx, B2.ext hx, B3.ext hx, X0.trans hx⟩))
  clear hm hn B1 B2 B3 X0 q q' p p'
  go_enter Try.func113, Try.ntmps113
  go_wp2_with fail
  refine (HZ.out _).mono ?_
  rintro e w1 ⟨rfl, hx1⟩
  rw [hc.out]
  have H1 := Lib.hid (H0.out _ hx1)
  clear H0 HZ hx1
  go_wp2_with fail
  go_loopw [6] (fun i wr => SubRel w s s' m n i wr) (fun i _ => 12 - (intOf i).toNat)
  case atStart => exact H1.out
  case round =>
    clear H1
    obtain ⟨k, hk, rfl, hB, hB2, hB3, hx⟩ := hrel
    have g1 : w.heap.size + 1 ≠ w.heap.size := by omega
    have g2 : w.heap.size + 1 + 1 ≠ w.heap.size := by omega
    by_cases hlt : k < 12
    · have hd : decide ((k : Int) < 12) = true := by simp; omega
      have c1 := (hB.cell (1 + k)).trans (numC_at s _ k hlt)
      rw [subF_k] at c1
      have c2 := (hB2.cell (1 + k)).trans (numC_at s' _ k hlt)
      have fz := hB.frozen
      have b1 : 0 ≤ digI m k ∧ digI m k < 65536 := by have := dig_lt m k; unfold digI; omega
      have b2 : 0 ≤ digI n k ∧ digI n k < 65536 := by have := dig_lt n k; unfold digI; omega
      have b3 := brw_le m n k
      have hsn := sub_sign hnm k
      have lb := hB.lt
      have e5 : (k : Int) < 12 := by omega
      obtain ⟨b10, b11⟩ := b1
      obtain ⟨b20, b21⟩ := b2
      by_cases hb : brw m n (k + 1) = 0
      · have hv := hsn.2 hb
        have HF := subF_no hnm k hb
        have HN := Lib.hid (fun (W : World) (B : Blk W w.heap.size 169 ((numC s (subF m n k)).setIfInBounds (1 + k) (.int .i64 (digI m k - (brw m n k : Int) - digI n k)))) B2 B3 hX => (show SubRel w s s' m n (.int .i64 ((k + 1 : Nat) : Int)) W from ⟨k + 1, by omega, rfl, by rw [numC_set _ _ _ k hlt, ← HF] at B; exact B, B2, B3, hX⟩))
        have hB' := Lib.hid hB
        have hB2' := Lib.hid hB2
        have hB3' := Lib.hid hB3
        clear hB hB2 hB3 HF hsn
        replace hb := Lib.hid hb
        generalize brw m n k = z at *
        obtain ⟨a, ha⟩ : ∃ a, digI m k - (z : Int) = a := ⟨_, rfl⟩
        rw [ha] at c1 hv HN
        have ab : -1 ≤ a ∧ a < 65536 := by omega
        replace ha := Lib.hid ha
        obtain ⟨ab0, ab1⟩ := ab
        generalize digI n k = b at *
        have a1 : IntKind.i64.wrap (a - b) = a - b := IntWalk.i64_in _ (by omega)
        have hdv : decide (a - b < 0) = false := by simp; omega
        go_wp2_with fail
        go_still_tail 11, (by kernel_rfl)
        go_wp2_with fail
        go_roundw
        case rel =>
          have := HN.out _ ((hB'.out.set_ (1 + k) (.int .i64 (a - b))).ext (Ext.refl _).drew) ((hB2'.out.far (p := ⟨w.heap.size, 1 + k, none⟩) g1 _).ext (Ext.refl _).drew) ((hB3'.out.far (p := ⟨w.heap.size, 1 + k, none⟩) g2 _).ext (Ext.refl _).drew) ((hx.set (p := ⟨w.heap.size, 1 + k, none⟩) (Nat.le_refl _) _).drew)
          first | exact this | (simpa using this)
        case measure => simp [intOf] <;> omega
      · have hb1 : brw m n (k + 1) = 1 := by have := brw_le m n (k + 1); omega
        have hk11 : k < 11 := by
          rcases Nat.lt_or_ge k 11 with h | h
          · exact h
          · have : k = 11 := by omega
            subst this
            rw [brw_12 hnm HM.out] at hb1
            cases hb1
        have hv := hsn.1 hb1
        have c3 := (hB.cell (1 + (k + 1))).trans (numC_at s _ (k + 1) (by omega))
        rw [subF_up] at c3
        have HF := subF_yes hnm k hb1
        have HN := Lib.hid (fun (W : World) (B : Blk W w.heap.size 169 ((((numC s (subF m n k)).setIfInBounds (1 + k) (.int .i64 (digI m k - (brw m n k : Int) - digI n k))).setIfInBounds (1 + k) (.int .i64 (digI m k - (brw m n k : Int) - digI n k + 65536))).setIfInBounds (1 + (k + 1)) (.int .i64 (digI m (k + 1) - 1)))) B2 B3 hX => (show SubRel w s s' m n (.int .i64 ((k + 1 : Nat) : Int)) W from ⟨k + 1, by omega, rfl, by rw [numC_set _ _ _ k hlt, numC_set _ _ _ k hlt, numC_set _ _ _ (k + 1) (by omega), ← HF] at B; exact B, B2, B3, hX⟩))
        have hB' := Lib.hid hB
        have hB2' := Lib.hid hB2
        have hB3' := Lib.hid hB3
        have b3n : 0 ≤ digI m (k + 1) ∧ digI m (k + 1) < 65536 := by have := dig_lt m (k + 1); unfold digI; omega
        clear hB hB2 hB3 HF hsn
        replace hb := Lib.hid hb
        replace hb1 := Lib.hid hb1
        generalize brw m n k = z at *
        obtain ⟨a, ha⟩ : ∃ a, digI m k - (z : Int) = a := ⟨_, rfl⟩
        rw [ha] at c1 hv HN
        have ab : -1 ≤ a ∧ a < 65536 := by omega
        replace ha := Lib.hid ha
        generalize digI n k = b at *
        generalize digI m (k + 1) = c' at *
        have a1 : IntKind.i64.wrap (a - b) = a - b := IntWalk.i64_in _ (by omega)
        have hdv : decide (a - b < 0) = true := by simp; omega
        have hd11 : decide ((k : Int) < 11) = true := by simp; omega
        obtain ⟨b30, b31⟩ := b3n
        obtain ⟨ab0, ab1⟩ := ab
        go_wp2_with fail
        go_still_tail 11, (by kernel_rfl)
        go_wp2_with fail
        go_roundw
        case rel =>
          have := HN.out _ ((((hB'.out.set_ (1 + k) (.int .i64 (a - b))).set_ (1 + k) (.int .i64 (a - b + 65536))).set_ (1 + (k + 1)) (.int .i64 (c' - 1))).ext (Ext.refl _).drew) ((((hB2'.out.far (p := ⟨w.heap.size, 1 + k, none⟩) g1 _).far (p := ⟨w.heap.size, 1 + k, none⟩) g1 _).far (p := ⟨w.heap.size, 1 + (k + 1), none⟩) g1 _).ext (Ext.refl _).drew) ((((hB3'.out.far (p := ⟨w.heap.size, 1 + k, none⟩) g2 _).far (p := ⟨w.heap.size, 1 + k, none⟩) g2 _).far (p := ⟨w.heap.size, 1 + (k + 1), none⟩) g2 _).ext (Ext.refl _).drew) ((((hx.set (p := ⟨w.heap.size, 1 + k, none⟩) (Nat.le_refl _) _).set (p := ⟨w.heap.size, 1 + k, none⟩) (Nat.le_refl _) _).set (p := ⟨w.heap.size, 1 + (k + 1), none⟩) (Nat.le_refl _) _).drew)
          first | exact this | (simpa using this)
        case measure => simp [intOf] <;> omega
    · have hk12 : k = 12 := by omega
      subst hk12
      rw [numC_congr (s := s) (g := digI (m - n)) (fun i hi => subF_end hi)] at hB
      obtain ⟨q, q'⟩ := hB.cells
      unfold numC at q
      go_wp2_with fail
      refine (HC.out _).mono ?_
      rintro e w2 ⟨rfl, hx2⟩
      rw [hsg.out]
      have B3 := hB3.ext hx2
      obtain ⟨p, p'⟩ := B3.cells
      unfold numC at p
      have X3 := hx.trans hx2
      clear q q' hB hB2 hB3
      go_wp2_with fail
      exact bodyPost_ret (results_c rfl rfl (ld_num (put13 (s := sg) (f := digI (m - n)) B3))) rfl ⟨by rw [hsg.out], ext13 X3 (by omega)⟩
end Go.Proofs.Ytehkmngbknbbaaa
