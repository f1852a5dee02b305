/-
  The reference's numbers: a difference; products.
-/
import Derived.Test.YtokakpbpenndlaaGreatDoorRt03
set_option linter.unusedVariables false
namespace Go.Proofs.YtokakpbpenndlaaGreatDoor
open Go.RowKit

theorem cmpN_ge {m n : Nat} (h : n ≤ m) : 0 ≤ cmpN m n := by unfold cmpN; split; omega; split <;> omega
def subF (m n k : Nat) : Nat → Int := fun j => if j < k then digI (m - n) j else if j = k then digI m j - (brw m n j : Int) else digI m j
theorem subF_0 (m n : Nat) : subF m n 0 = digI m := by
  funext j
  unfold subF
  rw [if_neg (by omega)]
  split
  · next h => subst h; rw [brw_0]; simp
  · rfl
theorem subF_end {m n : Nat} {i : Nat} (hi : i < 12) : subF m n 12 i = digI (m - n) i := by
  unfold subF
  rw [if_pos hi]
theorem subF_k (m n k : Nat) : subF m n k k = digI m k - (brw m n k : Int) := by
  unfold subF
  rw [if_neg (by omega), if_pos rfl]
theorem subF_up (m n k : Nat) : subF m n k (k + 1) = digI m (k + 1) := by
  unfold subF
  rw [if_neg (by omega), if_neg (by omega)]
theorem subF_no {m n : Nat} (h : n ≤ m) (k : Nat) (hb : brw m n (k + 1) = 0) : subF m n (k + 1) = updI (subF m n k) k (digI m k - (brw m n k : Int) - digI n k) := by
  have hd := sub_dig h k
  rw [hb] at hd
  funext j
  unfold updI
  by_cases h1 : j = k
  · subst h1
    rw [if_pos rfl]
    unfold subF
    rw [if_pos (by omega)]
    unfold digI
    omega
  rw [if_neg h1]
  unfold subF
  by_cases h2 : j < k
  · rw [if_pos (by omega), if_pos h2]
  · rw [if_neg (by omega), if_neg h2, if_neg h1]
    by_cases h3 : j = k + 1
    · subst h3; rw [if_pos rfl, hb]; simp
    · rw [if_neg h3]
theorem subF_yes {m n : Nat} (h : n ≤ m) (k : Nat) (hb : brw m n (k + 1) = 1) : subF m n (k + 1) = updI (updI (updI (subF m n k) k (digI m k - (brw m n k : Int) - digI n k)) k (digI m k - (brw m n k : Int) - digI n k + 65536)) (k + 1) (digI m (k + 1) - 1) := by
  have hd := sub_dig h k
  rw [hb] at hd
  funext j
  unfold updI
  by_cases h3 : j = k + 1
  · subst h3
    rw [if_pos rfl]
    unfold subF
    rw [if_neg (by omega), if_pos rfl, hb]
    rfl
  rw [if_neg h3]
  by_cases h1 : j = k
  · subst h1
    rw [if_pos rfl]
    unfold subF
    rw [if_pos (by omega)]
    unfold digI
    omega
  rw [if_neg h1, if_neg h1]
  unfold subF
  by_cases h2 : j < k
  · rw [if_pos (by omega), if_pos h2]
  · rw [if_neg (by omega), if_neg h3, if_neg h2, if_neg h1]
theorem sub_sign {m n : Nat} (h : n ≤ m) (k : Nat) : (brw m n (k + 1) = 1 → digI m k - (brw m n k : Int) - digI n k < 0) ∧ (brw m n (k + 1) = 0 → 0 ≤ digI m k - (brw m n k : Int) - digI n k) := by
  have hd := sub_dig h k
  have := dig_lt (m - n) k
  unfold digI
  constructor
  · intro hb; rw [hb] at hd; omega
  · intro hb; rw [hb] at hd; omega
/-- Where the subtracting stands. -/
def SubRel (w : World) (s s' : Bool) (m n : Nat) (i : Value) (wr : World) : Prop :=
  ∃ k : Nat, k ≤ 12 ∧ i = .int .i64 (k : Int) ∧ Blk wr w.heap.size 143 (numC s (subF m n k)) ∧ Blk wr (w.heap.size + 1) 143 (numC s' (digI n)) ∧ Blk wr (w.heap.size + 1 + 1) 143 (numC false (fun _ => 0)) ∧ Ext w wr
set_option maxRecDepth 100000 in
set_option maxHeartbeats 2000000 in
/-- A sum of two of two signs, the first one not smaller. -/
theorem plus_diff (s s' : Bool) (m n : Nat) (hm : m < 65536 ^ 12) (hnm : n ≤ m) (hss : (s == s') = false) (w : World) :
    Calls Tryz.prog 123 #[numV s (digI m), numV s' (digI n)] w fun e w' => e = .returned (numV (s && decide (m - n ≠ 0)) (digI (m - n))) ∧ Ext w w' := by
  have hn : n < 65536 ^ 12 := Nat.lt_of_le_of_lt hnm hm
  have B1 := ((Blk.new w 143 (numC s (digI m))).alloc (.cells (numC s' (digI n)) 143)).alloc (.cells (numC false (fun _ => 0)) 143)
  have B2 := (Blk.two12 w 143 143 (numC s (digI m)) (numC s' (digI n))).alloc (.cells (numC false (fun _ => 0)) 143)
  have B3 : Blk (((w.alloc (.cells (numC s (digI m)) 143)).alloc (.cells (numC s' (digI n)) 143)).alloc (.cells (numC false (fun _ => 0)) 143)) (w.heap.size + 1 + 1) 143 (numC false (fun _ => 0)) := by
    have := Blk.two12 (w.alloc (.cells (numC s (digI m)) 143)) 143 143 (numC s' (digI n)) (numC false (fun _ => 0))
    simpa using this
  have X0 := (((Ext.refl w).alloc (.cells (numC s (digI m)) 143)).alloc (.cells (numC s' (digI n)) 143)).alloc (.cells (numC false (fun _ => 0)) 143)
  have HC := Lib.hid (carriedD_any s (m - n) (by omega))
  have HZ := Lib.hid (size_any s s' m n hm hn)
  have hc0 := cmpN_ge hnm
  obtain ⟨c, hc⟩ : ∃ c, cmpN m n = c := ⟨_, rfl⟩
  rw [hc] at hc0
  replace hc := Lib.hid hc
  have hdc : decide (c < 0) = false := by simp; omega
  have HM := Lib.hid hm
  obtain ⟨sg, hsg⟩ : ∃ sg, (s && decide (m - n ≠ 0)) = sg := ⟨_, rfl⟩
  replace hsg := Lib.hid hsg
  obtain ⟨q, q'⟩ := B1.cells
  obtain ⟨p, p'⟩ := B2.cells
  unfold numC at q p
  have H0 := Lib.hid (fun W (hx : Ext _ W) => (show SubRel w s s' m n (.int .i64 ((0 : Nat) : Int)) W from ⟨0, by omega, rfl, by rw [subF_0]; exact B1.ext hx, B2.ext hx, B3.ext hx, X0.trans hx⟩))
  clear hm hn B1 B2 B3 X0 q q' p p'
  go_enter Tryz.func123, Tryz.ntmps123
  go_wp2_with fail
  refine (HZ.out _).mono ?_
  rintro e w1 ⟨rfl, hx1⟩
  rw [hc.out]
  have H1 := Lib.hid (H0.out _ hx1)
  clear H0 HZ hx1
  go_wp2_with fail
  go_loopw [6] (fun i wr => SubRel w s s' m n i wr) (fun i _ => 12 - (intOf i).toNat)
  case atStart => exact H1.out
  case round =>
    clear H1
    obtain ⟨k, hk, rfl, hB, hB2, hB3, hx⟩ := hrel
    have g1 : w.heap.size + 1 ≠ w.heap.size := by omega
    have g2 : w.heap.size + 1 + 1 ≠ w.heap.size := by omega
    by_cases hlt : k < 12
    · have hd : decide ((k : Int) < 12) = true := by simp; omega
      have c1 := (hB.cell (1 + k)).trans (numC_at s _ k hlt)
      rw [subF_k] at c1
      have c2 := (hB2.cell (1 + k)).trans (numC_at s' _ k hlt)
      have fz := hB.frozen
      have b1 : 0 ≤ digI m k ∧ digI m k < 65536 := by have := dig_lt m k; unfold digI; omega
      have b2 : 0 ≤ digI n k ∧ digI n k < 65536 := by have := dig_lt n k; unfold digI; omega
      have b3 := brw_le m n k
      have hsn := sub_sign hnm k
      have lb := hB.lt
      have e5 : (k : Int) < 12 := by omega
      obtain ⟨b10, b11⟩ := b1
      obtain ⟨b20, b21⟩ := b2
      by_cases hb : brw m n (k + 1) = 0
      · have hv := hsn.2 hb
        have HF := subF_no hnm k hb
        have HN := Lib.hid (fun (W : World) (B : Blk W w.heap.size 143 ((numC s (subF m n k)).setIfInBounds (1 + k) (.int .i64 (digI m k - (brw m n k : Int) - digI n k)))) B2 B3 hX => (show SubRel w s s' m n (.int .i64 ((k + 1 : Nat) : Int)) W from ⟨k + 1, by omega, rfl, by rw [numC_set _ _ _ k hlt, ← HF] at B; exact B, B2, B3, hX⟩))
        have hB' := Lib.hid hB
        have hB2' := Lib.hid hB2
        have hB3' := Lib.hid hB3
        clear hB hB2 hB3 HF hsn
        replace hb := Lib.hid hb
        generalize brw m n k = z at *
        obtain ⟨a, ha⟩ : ∃ a, digI m k - (z : Int) = a := ⟨_, rfl⟩
        rw [ha] at c1 hv HN
        have ab : -1 ≤ a ∧ a < 65536 := by omega
        replace ha := Lib.hid ha
        obtain ⟨ab0, ab1⟩ := ab
        generalize digI n k = b at *
        have a1 : IntKind.i64.wrap (a - b) = a - b := IntWalk.i64_in _ (by omega)
        have hdv : decide (a - b < 0) = false := by simp; omega
        go_wp2_with fail
        go_still_tail 11, (by kernel_rfl)
        go_wp2_with fail
        go_roundw
        case rel =>
          have := HN.out _ ((hB'.out.set_ (1 + k) (.int .i64 (a - b))).ext (Ext.refl _).drew) ((hB2'.out.far (p := ⟨w.heap.size, 1 + k, none⟩) g1 _).ext (Ext.refl _).drew) ((hB3'.out.far (p := ⟨w.heap.size, 1 + k, none⟩) g2 _).ext (Ext.refl _).drew) ((hx.set (p := ⟨w.heap.size, 1 + k, none⟩) (Nat.le_refl _) _).drew)
          first | exact this | (simpa using this)
        case measure => simp [intOf] <;> omega
      · have hb1 : brw m n (k + 1) = 1 := by have := brw_le m n (k + 1); omega
        have hk11 : k < 11 := by
          rcases Nat.lt_or_ge k 11 with h | h
          · exact h
          · have : k = 11 := by omega
            subst this
            rw [brw_12 hnm HM.out] at hb1
            cases hb1
        have hv := hsn.1 hb1
        have c3 := (hB.cell (1 + (k + 1))).trans (numC_at s _ (k + 1) (by omega))
        rw [subF_up] at c3
        have HF := subF_yes hnm k hb1
        have HN := Lib.hid (fun (W : World) (B : Blk W w.heap.size 143 ((((numC s (subF m n k)).setIfInBounds (1 + k) (.int .i64 (digI m k - (brw m n k : Int) - digI n k))).setIfInBounds (1 + k) (.int .i64 (digI m k - (brw m n k : Int) - digI n k + 65536))).setIfInBounds (1 + (k + 1)) (.int .i64 (digI m (k + 1) - 1)))) B2 B3 hX => (show SubRel w s s' m n (.int .i64 ((k + 1 : Nat) : Int)) W from ⟨k + 1, by omega, rfl, by rw [numC_set _ _ _ k hlt, numC_set _ _ _ k hlt, numC_set _ _ _ (k + 1) (by omega), ← HF] at B; exact B, B2, B3, hX⟩))
        have hB' := Lib.hid hB
        have hB2' := Lib.hid hB2
        have hB3' := Lib.hid hB3
        have b3n : 0 ≤ digI m (k + 1) ∧ digI m (k + 1) < 65536 := by have := dig_lt m (k + 1); unfold digI; omega
        clear hB hB2 hB3 HF hsn
        replace hb := Lib.hid hb
        replace hb1 := Lib.hid hb1
        generalize brw m n k = z at *
        obtain ⟨a, ha⟩ : ∃ a, digI m k - (z : Int) = a := ⟨_, rfl⟩
        rw [ha] at c1 hv HN
        have ab : -1 ≤ a ∧ a < 65536 := by omega
        replace ha := Lib.hid ha
        generalize digI n k = b at *
        generalize digI m (k + 1) = c' at *
        have a1 : IntKind.i64.wrap (a - b) = a - b := IntWalk.i64_in _ (by omega)
        have hdv : decide (a - b < 0) = true := by simp; omega
        have hd11 : decide ((k : Int) < 11) = true := by simp; omega
        obtain ⟨b30, b31⟩ := b3n
        obtain ⟨ab0, ab1⟩ := ab
        go_wp2_with fail
        go_still_tail 11, (by kernel_rfl)
        go_wp2_with fail
        go_roundw
        case rel =>
          have := HN.out _ ((((hB'.out.set_ (1 + k) (.int .i64 (a - b))).set_ (1 + k) (.int .i64 (a - b + 65536))).set_ (1 + (k + 1)) (.int .i64 (c' - 1))).ext (Ext.refl _).drew) ((((hB2'.out.far (p := ⟨w.heap.size, 1 + k, none⟩) g1 _).far (p := ⟨w.heap.size, 1 + k, none⟩) g1 _).far (p := ⟨w.heap.size, 1 + (k + 1), none⟩) g1 _).ext (Ext.refl _).drew) ((((hB3'.out.far (p := ⟨w.heap.size, 1 + k, none⟩) g2 _).far (p := ⟨w.heap.size, 1 + k, none⟩) g2 _).far (p := ⟨w.heap.size, 1 + (k + 1), none⟩) g2 _).ext (Ext.refl _).drew) ((((hx.set (p := ⟨w.heap.size, 1 + k, none⟩) (Nat.le_refl _) _).set (p := ⟨w.heap.size, 1 + k, none⟩) (Nat.le_refl _) _).set (p := ⟨w.heap.size, 1 + (k + 1), none⟩) (Nat.le_refl _) _).drew)
          first | exact this | (simpa using this)
        case measure => simp [intOf] <;> omega
    · have hk12 : k = 12 := by omega
      subst hk12
      rw [numC_congr (s := s) (g := digI (m - n)) (fun i hi => subF_end hi)] at hB
      obtain ⟨q, q'⟩ := hB.cells
      unfold numC at q
      go_wp2_with fail
      refine (HC.out _).mono ?_
      rintro e w2 ⟨rfl, hx2⟩
      rw [hsg.out]
      have B3 := hB3.ext hx2
      obtain ⟨p, p'⟩ := B3.cells
      unfold numC at p
      have X3 := hx.trans hx2
      clear q q' hB hB2 hB3
      go_wp2_with fail
      exact bodyPost_ret (results_c rfl rfl (ld_num (put13 (s := sg) (f := digI (m - n)) B3))) rfl ⟨by rw [hsg.out], ext13 X3 (by omega)⟩
end Go.Proofs.YtokakpbpenndlaaGreatDoor

set_option linter.unusedVariables false
namespace Go.Proofs.YtokakpbpenndlaaGreatDoor
open Go.RowKit

theorem and_16 (n : Nat) (h : n < 18446744073709551616) : bits BinOp.and IntKind.u64 (n : Int) 65535 = ((n % 65536 : Nat) : Int) := by
  rw [u64_and _ _ (by omega) (by omega) (by omega) (by omega)]
  have : (65535 : Int).toNat = 2 ^ 16 - 1 := rfl
  rw [this, Int.toNat_natCast, Nat.and_two_pow_sub_one_eq_mod]
theorem dig_and (n k : Nat) (h : n < 9223372036854775808) (D : Int) (hD : D = ((n / 65536 ^ k : Nat) : Int)) : wrap64 (bits BinOp.and IntKind.u64 D 65535) = digI n k := by
  subst hD
  have hl : n / 65536 ^ k ≤ n := Nat.div_le_self _ _
  rw [and_16 _ (by omega)]
  unfold digI dig RowKit.wrap64
  omega
def OfRel (w : World) (n : Nat) (i : Value) (wr : World) : Prop :=
  ∃ k : Nat, k ≤ 4 ∧ i = .int .i64 (k : Int) ∧ Blk wr w.heap.size 143 (numC false (fun _ => 0)) ∧ Blk wr (w.heap.size + 1) 143 (numC false (fun j => if j < k then digI n j else 0)) ∧ Ext w wr
theorem OfRel.next {w W : World} {n k j : Nat} (hk : k < 12) (hk4 : k < 4)
    (B : Blk W w.heap.size 143 (numC false (fun _ => 0))) (B2 : Blk W (w.heap.size + 1) 143 ((numC false (fun j => if j < k then digI n j else 0)).setIfInBounds (1 + k) (.int .i64 (digI n k)))) (hX : Ext w W) (e : j = k + 1) : OfRel w n (.int .i64 (j : Int)) W := by
  subst e
  rw [numC_set _ _ _ k hk] at B2
  refine ⟨k + 1, by omega, rfl, B, ?_, hX⟩
  rw [show (fun j => if j < k + 1 then digI n j else 0) = updI (fun j => if j < k then digI n j else 0) k (digI n k) from ?_]
  · exact B2
  funext j
  unfold updI
  dsimp only
  by_cases h1 : j = k
  · subst h1; rw [if_pos (by omega), if_pos rfl]
  · rw [if_neg h1]
    by_cases h2 : j < k
    · rw [if_pos (by omega), if_pos h2]
    · rw [if_neg (by omega), if_neg h2]
theorem dig_hi {n : Nat} (h : n < 65536 ^ 4) {i : Nat} (hi : 4 ≤ i) : dig n i = 0 := by
  unfold dig
  rw [Nat.div_eq_of_lt (Nat.lt_of_lt_of_le h (Nat.pow_le_pow_right (by decide) hi))]
set_option maxRecDepth 100000 in
set_option maxHeartbeats 1000000 in
theorem of_any01 (n : Nat) (hn : n < 9223372036854775808) (w : World) :
    Calls Tryz.prog 121 #[.int .i64 (n : Int)] w fun e w' => e = .returned (numV false (digI n)) ∧ Ext w w' := by
  have B1 := (Blk.new w 143 (numC false (fun _ => 0))).alloc (.cells (numC false (fun _ => 0)) 143)
  have B2 := Blk.two12 w 143 143 (numC false (fun _ => 0)) (numC false (fun _ => 0))
  have X0 := ((Ext.refl w).alloc (.cells (numC false (fun _ => 0)) 143)).alloc (.cells (numC false (fun _ => 0)) 143)
  have H0 := Lib.hid (show OfRel w n (.int .i64 ((0 : Nat) : Int)) _ from ⟨0, by omega, rfl, B1, B2, X0⟩)
  have hd0 : decide ((n : Int) < 0) = false := by simp
  clear B1 B2 X0
  go_enter Tryz.func121, Tryz.ntmps121
  go_wp2_with fail
  go_loopw [5] (fun i wr => OfRel w n i wr) (fun i _ => 4 - (intOf i).toNat)
  case atStart => exact H0.out
  case round =>
    clear H0
    obtain ⟨k, hk, rfl, hB, hB2, hx⟩ := hrel
    have g1 : w.heap.size ≠ w.heap.size + 1 := by omega
    have g2 : w.heap.size ≤ w.heap.size + 1 := by omega
    rcases k with _ | _ | _ | _ | k
    · have hd := hB2.frozen
      have c1 := hB2.cell
      have HN := Lib.hid (OfRel.next (n := n) (k := 0) (j := 1) (by decide) (by decide) (hB.far (p := ⟨w.heap.size + 1, 1, none⟩) g1 (.int .i64 (digI n 0))) (hB2.set_ 1 (.int .i64 (digI n 0))) (hx.set (p := ⟨w.heap.size + 1, 1, none⟩) g2 (.int .i64 (digI n 0))) rfl)
      have e := Lib.hid (dig_and n 0 hn (n : Int) (by rw [show (65536 : Nat) ^ 0 = 1 by decide]; omega))
      clear hB hB2 hx
      go_wp2_with fail
      go_roundw
      case rel =>
        rw [e.out]
        exact HN.out
      case measure => simp [intOf]
    · have hd := hB2.frozen
      have c1 := hB2.cell
      have HN := Lib.hid (OfRel.next (n := n) (k := 1) (j := 2) (by decide) (by decide) (hB.far (p := ⟨w.heap.size + 1, 2, none⟩) g1 (.int .i64 (digI n 1))) (hB2.set_ 2 (.int .i64 (digI n 1))) (hx.set (p := ⟨w.heap.size + 1, 2, none⟩) g2 (.int .i64 (digI n 1))) rfl)
      have e := Lib.hid (dig_and n 1 hn ((n : Int) / 65536) (by rw [show (65536 : Nat) ^ 1 = 65536 by decide]; omega))
      clear hB hB2 hx
      go_wp2_with fail
      go_roundw
      case rel =>
        rw [e.out]
        exact HN.out
      case measure => simp [intOf]
    · have hd := hB2.frozen
      have c1 := hB2.cell
      have HN := Lib.hid (OfRel.next (n := n) (k := 2) (j := 3) (by decide) (by decide) (hB.far (p := ⟨w.heap.size + 1, 3, none⟩) g1 (.int .i64 (digI n 2))) (hB2.set_ 3 (.int .i64 (digI n 2))) (hx.set (p := ⟨w.heap.size + 1, 3, none⟩) g2 (.int .i64 (digI n 2))) rfl)
      have e := Lib.hid (dig_and n 2 hn ((n : Int) / 4294967296) (by rw [show (65536 : Nat) ^ 2 = 4294967296 by decide]; omega))
      clear hB hB2 hx
      go_wp2_with fail
      go_roundw
      case rel =>
        rw [e.out]
        exact HN.out
      case measure => simp [intOf]
    · have hd := hB2.frozen
      have c1 := hB2.cell
      have HN := Lib.hid (OfRel.next (n := n) (k := 3) (j := 4) (by decide) (by decide) (hB.far (p := ⟨w.heap.size + 1, 4, none⟩) g1 (.int .i64 (digI n 3))) (hB2.set_ 4 (.int .i64 (digI n 3))) (hx.set (p := ⟨w.heap.size + 1, 4, none⟩) g2 (.int .i64 (digI n 3))) rfl)
      have e := Lib.hid (dig_and n 3 hn ((n : Int) / 281474976710656) (by rw [show (65536 : Nat) ^ 3 = 281474976710656 by decide]; omega))
      clear hB hB2 hx
      go_wp2_with fail
      go_roundw
      case rel =>
        rw [e.out]
        exact HN.out
      case measure => simp [intOf]
    · have hk4 : k = 0 := by omega
      subst hk4
      rw [numC_congr (s := false) (f := fun j => if j < 4 then digI n j else 0) (g := digI n) (fun i _ => by
        split
        · rfl
        · rw [digI, dig_hi (by omega) (by omega)]; rfl)] at hB2
      obtain ⟨q, q'⟩ := hB2.cells
      obtain ⟨p, p'⟩ := hB.cells
      unfold numC at q p
      go_wp2_with fail
      exact bodyPost_ret (results_c rfl rfl (ld_num (put13 (s := false) (f := digI n) hB))) rfl ⟨rfl, ext13 hx (by omega)⟩

theorem sumD_upd (f : Nat → Nat) (k v : Nat) : ∀ n, k < n → sumD (upd f k v) n + f k * 65536 ^ k = sumD f n + v * 65536 ^ k
  | 0, h => absurd h (by omega)
  | n + 1, h => by
    rw [sumD, sumD]
    by_cases hk : k = n
    · subst hk
      have e1 : sumD (upd f k v) k = sumD f k := sumD_congr fun i hi => by unfold upd; rw [if_neg (by omega)]
      have e2 : upd f k v k = v := by unfold upd; rw [if_pos rfl]
      rw [e1, e2]
      omega
    · have e2 : upd f k v n = f n := by unfold upd; rw [if_neg (by omega)]
      have := sumD_upd f k v n (by omega)
      rw [e2]
      omega
/-- Where the multiplying stands. -/
structure MulSt (w : World) (sx sy z : Bool) (m n i k : Nat) (F : Nat → Nat) (wr : World) : Prop where
  b0 : Blk wr w.heap.size 143 (numC sx (digI m))
  b1 : Blk wr (w.heap.size + 1) 143 (numC sy (digI n))
  b2 : Blk wr (w.heap.size + 1 + 1) 143 (numC false (fun _ => 0))
  b3 : Blk wr (w.heap.size + 1 + 1 + 1) 143 (numC z (fun j => (F j : Int)))
  bd : ∀ j, F j ≤ (4 * i + k) * 4294967296
  sm : sumD F 12 = (m % 65536 ^ i) * n + dig m i * (n % 65536 ^ k) * 65536 ^ i
  ext : Ext w wr
def MulO (w : World) (sx sy z : Bool) (m n : Nat) (v : Value) (wr : World) : Prop := ∃ (i : Nat) (F : Nat → Nat), i ≤ 4 ∧ v = .int .i64 (i : Int) ∧ MulSt w sx sy z m n i 0 F wr
def MulI (w : World) (sx sy z : Bool) (m n i : Nat) (v : Value) (wr : World) : Prop := ∃ (k : Nat) (F : Nat → Nat), k ≤ 4 ∧ v = .int .i64 (k : Int) ∧ MulSt w sx sy z m n i k F wr
theorem MulSt.turn {w wr : World} {sx sy z : Bool} {m n i : Nat} {F : Nat → Nat} (h : MulSt w sx sy z m n i 4 F wr) (hn : n < 65536 ^ 4) : MulSt w sx sy z m n (i + 1) 0 F wr := by
  refine ⟨h.b0, h.b1, h.b2, h.b3, fun j => by have := h.bd j; omega, ?_, h.ext⟩
  rw [h.sm, mod_step m i, Nat.mod_eq_of_lt hn, Nat.pow_zero, Nat.mod_one, Nat.mul_zero, Nat.zero_mul, Nat.add_zero, Nat.add_mul, Nat.mul_right_comm]
theorem bd_next {x q k p : Nat} (h : x ≤ (q + k) * 4294967296) (hp : p ≤ 4294836225) : x + p ≤ (q + (k + 1)) * 4294967296 := by omega
theorem MulSt.next {w wr W : World} {sx sy z : Bool} {m n i k : Nat} {F : Nat → Nat} (h : MulSt w sx sy z m n i k F wr) (hi : i < 4) (hk : k < 4) {v : Int} (hv : v = (F (i + k) : Int) + digI m i * digI n k)
    (hW : Ext (wr.setCell ⟨w.heap.size + 1 + 1 + 1, 1 + (i + k), none⟩ (.int .i64 v)) W) : MulSt w sx sy z m n i (k + 1) (upd F (i + k) (F (i + k) + dig m i * dig n k)) W := by
  have g0 : w.heap.size ≠ w.heap.size + 1 + 1 + 1 := by omega
  have g1 : w.heap.size + 1 ≠ w.heap.size + 1 + 1 + 1 := by omega
  have g2 : w.heap.size + 1 + 1 ≠ w.heap.size + 1 + 1 + 1 := by omega
  have hp : dig m i * dig n k ≤ 4294836225 := Nat.le_trans (Nat.mul_le_mul (show dig m i ≤ 65535 by have := dig_lt m i; omega) (show dig n k ≤ 65535 by have := dig_lt n k; omega)) (by decide)
  refine ⟨(h.b0.far (p := ⟨w.heap.size + 1 + 1 + 1, 1 + (i + k), none⟩) g0 _).ext hW, (h.b1.far (p := ⟨w.heap.size + 1 + 1 + 1, 1 + (i + k), none⟩) g1 _).ext hW, (h.b2.far (p := ⟨w.heap.size + 1 + 1 + 1, 1 + (i + k), none⟩) g2 _).ext hW, ?_, ?_, ?_, (h.ext.set (p := ⟨w.heap.size + 1 + 1 + 1, 1 + (i + k), none⟩) (by show w.heap.size ≤ w.heap.size + 1 + 1 + 1; omega) _).trans hW⟩
  · have := (h.b3.set_ (1 + (i + k)) (.int .i64 v)).ext hW
    rw [numC_set _ _ _ (i + k) (by omega)] at this
    rw [show (fun j => ((upd F (i + k) (F (i + k) + dig m i * dig n k) j : Nat) : Int)) = updI (fun j => (F j : Int)) (i + k) v from ?_]
    · exact this
    funext j
    unfold upd updI
    split
    · rw [hv]; simp [digI]
    · rfl
  · intro j
    have b1 := h.bd (i + k)
    have b2 := h.bd j
    clear h hW hv
    unfold upd
    split
    · exact bd_next b1 hp
    · exact bd_next b2 (Nat.zero_le _)
  · have hs := sumD_upd F (i + k) (F (i + k) + dig m i * dig n k) 12 (by omega)
    rw [h.sm, Nat.add_mul] at hs
    rw [mod_step n k, Nat.mul_add, Nat.add_mul]
    have e : dig m i * (dig n k * 65536 ^ k) * 65536 ^ i = dig m i * dig n k * 65536 ^ (i + k) := by
      rw [Nat.pow_add, Nat.mul_comm (65536 ^ i)]
      simp only [Nat.mul_assoc]
    omega
theorem mul_lt {m n : Nat} (hm : m < 65536 ^ 4) (hn : n < 65536 ^ 4) : m * n < 65536 ^ 12 := by
  have : m * n ≤ 65536 ^ 4 * 65536 ^ 4 := Nat.mul_le_mul (by omega) (by omega)
  have e : (65536 : Nat) ^ 4 * 65536 ^ 4 < 65536 ^ 12 := by decide
  omega
set_option maxRecDepth 100000 in
set_option maxHeartbeats 2000000 in
theorem mul_any01 (m n : Nat) (hm : m < 65536 ^ 4) (hn : n < 65536 ^ 4) (w : World) :
    Calls Tryz.prog 206 #[numV false (digI m), numV false (digI n)] w fun e w' => e = .returned (numV false (digI (m * n))) ∧ Ext w w' := by
  have B0 := (((Blk.new w 143 (numC false (digI m))).alloc (.cells (numC false (digI n)) 143)).alloc (.cells (numC false (fun _ => 0)) 143)).alloc (.cells (numC false (fun _ => 0)) 143)
  have B1 := ((Blk.two12 w 143 143 (numC false (digI m)) (numC false (digI n))).alloc (.cells (numC false (fun _ => 0)) 143)).alloc (.cells (numC false (fun _ => 0)) 143)
  have B2 := (Blk.two12 (w.alloc (.cells (numC false (digI m)) 143)) 143 143 (numC false (digI n)) (numC false (fun _ => 0))).alloc (.cells (numC false (fun _ => 0)) 143)
  have B3 := Blk.two12 ((w.alloc (.cells (numC false (digI m)) 143)).alloc (.cells (numC false (digI n)) 143)) 143 143 (numC false (fun _ => 0)) (numC false (fun _ => 0))
  have X0 := ((((Ext.refl w).alloc (.cells (numC false (digI m)) 143)).alloc (.cells (numC false (digI n)) 143)).alloc (.cells (numC false (fun _ => 0)) 143)).alloc (.cells (numC false (fun _ => 0)) 143)
  have e1 : (w.alloc (.cells (numC false (digI m)) 143)).heap.size = w.heap.size + 1 := by simp
  have e2 : ((w.alloc (.cells (numC false (digI m)) 143)).alloc (.cells (numC false (digI n)) 143)).heap.size = w.heap.size + 1 + 1 := by simp
  rw [e1] at B2
  rw [e2] at B3
  have H0 := Lib.hid (show MulO w false false false m n (.int .i64 ((0 : Nat) : Int)) _ from ⟨0, fun _ => 0, by omega, rfl, B0, B1, B2, B3, fun _ => by omega, by simp [sumD, Nat.mod_one], X0⟩)
  have HC := Lib.hid (fun F (h1 : ∀ j, F j ≤ 1152921504606846976) (h2 : sumD F 12 = m * n) => (show ∀ w, Calls Tryz.prog 154 #[numV false (fun i => (F i : Int))] w _ from carried_any false F h1 (by rw [h2]; exact mul_lt hm hn)))
  replace hm := Lib.hid hm
  replace hn := Lib.hid hn
  clear B0 B1 B2 B3 X0 e1 e2
  go_enter Tryz.func206, Tryz.ntmps206
  go_wp2_with fail
  go_loopw [6, 7] (fun v _ wr => MulO w false false false m n v wr) (fun v _ _ => 4 - (intOf v).toNat)
  case atStart => exact H0.out
  case round =>
    clear H0
    obtain ⟨i, F0, hi, rfl, hS⟩ := hrel
    by_cases hlt : i < 4
    · have hd : decide ((i : Int) < 4) = true := by simp; omega
      have HS := Lib.hid hS
      clear hS
      go_wp2_with fail
      obtain ⟨wo, rfl⟩ : ∃ wo : World, wo = wr := ⟨_, rfl⟩
      go_loopw [7] (fun v wr => MulI w false false false m n i v wr) (fun v _ => 4 - (intOf v).toNat)
      case atStart => exact ⟨0, F0, by omega, rfl, HS.out⟩
      case round =>
        clear HS
        obtain ⟨k, F, hk, rfl, hS⟩ := hrel
        by_cases hlk : k < 4
        · have hdk : decide ((k : Int) < 4) = true := by simp; omega
          have c1 := (hS.b0.cell (1 + i)).trans (numC_at false _ i (by omega))
          have c2 := (hS.b1.cell (1 + k)).trans (numC_at false _ k (by omega))
          have c3 := (hS.b3.cell (1 + (i + k))).trans (numC_at false _ (i + k) (by omega))
          have fz := hS.b3.frozen
          have lb := hS.b3.lt
          have bF := hS.bd (i + k)
          have HN := Lib.hid (fun (W : World) (v : Int) hv hW => hS.next (W := W) hlt hlk (v := v) hv hW)
          have b1 : 0 ≤ digI m i ∧ digI m i < 65536 := by have := dig_lt m i; unfold digI; omega
          have b2 : 0 ≤ digI n k ∧ digI n k < 65536 := by have := dig_lt n k; unfold digI; omega
          have bF2 : F (i + k) ≤ 20 * 4294967296 := Nat.le_trans bF (Nat.mul_le_mul_right _ (by omega))
          clear hS bF
          generalize digI m i = a at *
          generalize digI n k = b at *
          generalize F (i + k) = c at *
          obtain ⟨b10, b11⟩ := b1
          obtain ⟨b20, b21⟩ := b2
          have p0 : 0 ≤ a * b := Int.mul_nonneg b10 b20
          have p1 : a * b ≤ 65535 * 65535 := Int.mul_le_mul (by omega) (by omega) b20 (by omega)
          have e1 : IntKind.i64.wrap (a * b) = a * b := IntWalk.i64_in _ (by omega)
          have e2 : IntKind.i64.wrap ((c : Int) + a * b) = (c : Int) + a * b := IntWalk.i64_in _ (by omega)
          have e3 : IntKind.i64.wrap ((i : Int) + (k : Int)) = (i : Int) + (k : Int) := IntWalk.i64_in _ (by omega)
          have e4 : (0 : Int) ≤ (i : Int) + (k : Int) := by omega
          have e5 : ((i : Int) + (k : Int)).toNat = i + k := by omega
          have e6 : (i : Int) + (k : Int) < 12 := by omega
          have e7 : (i : Int) < 12 := by omega
          have e8 : (k : Int) < 12 := by omega
          go_wp2_with fail
          go_still_tail 21, (by kernel_rfl)
          go_wp2_with fail
          go_roundw
          case rel => exact ⟨k + 1, _, by omega, rfl, HN.out _ _ rfl (Ext.refl _).drew⟩
          case measure => simp [intOf] <;> omega
        · have hk4 : k = 4 := by omega
          subst hk4
          have HT := Lib.hid (hS.turn hn.out)
          clear hS
          go_wp2_with fail
          go_roundw
          case rel => exact ⟨i + 1, F, by omega, rfl, HT.out⟩
          case measure => simp [intOf] <;> omega
    · have hi4 : i = 4 := by omega
      subst hi4
      have hF := hS.bd
      have hsm := hS.sm
      rw [Nat.mod_eq_of_lt hm.out, Nat.pow_zero, Nat.mod_one, Nat.mul_zero, Nat.zero_mul, Nat.add_zero] at hsm
      have HK := Lib.hid (HC.out F0 (fun j => by have := hF j; omega) hsm)
      obtain ⟨q, q'⟩ := hS.b3.cells
      unfold numC at q
      have HB2 := Lib.hid (fun W (hx : Ext wr W) => hS.b2.ext hx)
      have hx := hS.ext
      clear hS hF
      replace hsm := Lib.hid hsm
      go_wp2_with fail
      refine (HK.out _).mono ?_
      rintro e w2 ⟨rfl, hx2⟩
      rw [hsm.out, Bool.false_and]
      have B3 := HB2.out _ hx2
      obtain ⟨p, p'⟩ := B3.cells
      unfold numC at p
      have X3 := hx.trans hx2
      clear q q' hx hx2
      go_wp2_with fail
      exact bodyPost_ret (results_c rfl rfl (ld_num (put13 (s := false) (f := digI (m * n)) B3))) rfl ⟨rfl, ext13 X3 (by omega)⟩
end Go.Proofs.YtokakpbpenndlaaGreatDoor
