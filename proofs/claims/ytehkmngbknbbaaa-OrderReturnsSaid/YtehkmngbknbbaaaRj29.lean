/-
  The reference's Sum.
-/
import Derived.Test.YtehkmngbknbbaaaRj10
import Derived.Test.YtehkmngbknbbaaaRj11
import Derived.Test.YtehkmngbknbbaaaRj27
import Derived.Test.YtehkmngbknbbaaaRj28
set_option linter.unusedVariables false
namespace Go.Proofs.Ytehkmngbknbbaaa
open Go.RowKit

theorem sumL_pos {l : List Int} (h : ∀ n ∈ l, 0 ≤ n ∧ n ≤ 4611686018427387904) : ∀ k, k ≤ l.length → 0 ≤ sumL (l.take k) ∧ sumL (l.take k) ≤ 4611686018427387904 * (k : Int) := by
  intro k
  induction k with
  | zero => intro _; simp [sumL]
  | succ k ih =>
    intro hk
    have h1 := ih (by omega)
    have h2 := h _ (List.getElem_mem (show k < l.length by omega))
    rw [sumL_take l k (by omega)]
    omega
def RSumRel (w : World) (l : List Int) (i : Value) (wr : World) : Prop :=
  ∃ k : Nat, k ≤ l.length ∧ i = .int .i64 (k : Int) ∧ Blk wr w.heap.size 169 (numC false (digI (sumL (l.take k)).toNat)) ∧ Ext w wr
set_option maxRecDepth 100000 in
set_option maxHeartbeats 2000000 in
theorem rsum_any (l : List Int) (A : Option Addr) (cap : Nat) (w : World) (hr : Reads w w.heap.size 1 A l.length (iV l)) (hi : ∀ n ∈ l, 0 ≤ n ∧ n ≤ 4611686018427387904) (hm : l.length ≤ 1000000) :
    Calls Try.prog 89 #[.slice A l.length cap] w fun e w' => e = .returned (.tuple #[.int .i64 (sumI l).1, .int .i64 (sumI l).2]) ∧ Ext w w' := by
  have hp := sumL_pos hi
  have X0 := (Ext.refl w).alloc (.cells (numC false (fun _ => 0)) 169)
  have B0 := Blk.new w 169 (numC false (fun _ => 0))
  have z : digI 0 = fun _ => 0 := by funext i; simp [digI, dig]
  have H0 := Lib.hid (show RSumRel w l (.int .i64 ((0 : Nat) : Int)) _ from ⟨0, by omega, rfl, by rw [List.take_zero]; show Blk _ _ _ (numC false (digI 0)); rw [z]; exact B0, X0⟩)
  have HR := Lib.hid (fun W (hx : Ext w W) => hr.extB (Nat.le_refl _) hx)
  clear X0 B0 z hr
  replace hp := Lib.hid hp
  replace hi := Lib.hid hi
  obtain ⟨T, hT⟩ : ∃ T, sumI l = T := ⟨_, rfl⟩
  obtain ⟨T1, T2⟩ := T
  rw [hT]
  replace hT := Lib.hid hT
  go_enter Try.func89, Try.ntmps89
  go_wp2_with fail
  go_loopw [5] (fun i wr => RSumRel w l i wr) (fun i _ => l.length - (intOf i).toNat)
  case atStart => exact H0.out
  case round =>
    clear H0
    obtain ⟨k, hk, rfl, hB, hx⟩ := hrel
    have hp1 := hp.out k hk
    have hk6 : (k : Int) ≤ 1000000 := by omega
    have hS : (sumL (l.take k)).toNat < 65536 ^ 8 := by
      have : (65536 : Nat) ^ 8 = 340282366920938463463374607431768211456 := by decide
      omega
    by_cases hlt : k < l.length
    · have hd : decide ((k : Int) < (l.length : Int)) = true := by simp; omega
      have hn := hi.out _ (List.getElem_mem hlt)
      obtain ⟨b, off, rfl, hb, c1⟩ := reads_int (HR.out wr hx) hlt rfl
      have hst := sumL_take l k hlt
      obtain ⟨m, hm1⟩ := Int.eq_ofNat_of_zero_le hn.1
      rw [hm1] at c1 hst hn
      have hmb : m < 9223372036854775808 := by omega
      have hnx : (sumL (l.take (k + 1))).toNat = (sumL (l.take k)).toNat + m := by rw [hst]; omega
      have HN := Lib.hid (fun W (B : Blk W w.heap.size 169 (numC false (digI ((sumL (l.take k)).toNat + m)))) (hX : Ext w W) => (show RSumRel w l (.int .i64 ((k + 1 : Nat) : Int)) W from ⟨k + 1, by omega, rfl, by rw [hnx]; exact B, hX⟩))
      clear hst hnx hp1 hn
      replace hm1 := Lib.hid hm1
      generalize (sumL (l.take k)).toNat = S at *
      have hS2 : S < 65536 ^ 12 ∧ m < 65536 ^ 12 ∧ S + m < 65536 ^ 12 := by
        have e1 : (65536 : Nat) ^ 8 = 340282366920938463463374607431768211456 := by decide
        have e2 : (65536 : Nat) ^ 12 = 6277101735386680763835789423207666416102355444464034512896 := by decide
        omega
      replace hS2 := Lib.hid hS2
      obtain ⟨q, q'⟩ := hB.cells
      have lb := hB.lt
      unfold numC at q
      have hlb : b < wr.heap.size := Nat.lt_of_lt_of_le hb hx.size
      have HS := Lib.hid (fun W (h : Ext wr W) => And.intro (hB.ext h) (hx.trans h))
      have HC := Lib.hid (fun W (h : Ext wr W) => (h.cell b (off + k) none hlb).trans c1)
      clear hB hS
      go_wp2_with fail
      go_region_law (first
        | (go_simp; go_at_call 110; refine (of_any01 m hmb _).mono ?_; rintro e wb ⟨rfl, hxb⟩; obtain ⟨SB, SX⟩ := HS.out _ ((Ext.refl wr).drew.trans hxb); have cb := HC.out _ ((Ext.refl wr).drew.trans hxb); obtain ⟨qb, qb'⟩ := SB.cells; unfold numC at qb)
        | (go_simp; go_at_call 113; refine (plus_same false S m hS2.out.1 hS2.out.2.1 hS2.out.2.2 _).mono ?_; rintro e wc ⟨rfl, hxc⟩; rw [Bool.false_and]; have SC := SB.ext hxc; have SCX := SX.trans hxc; obtain ⟨qc, qc'⟩ := SC.cells; unfold numC at qc))
      all_goals
        have HP := Lib.hid (HN.out _ (put13 (s := false) (f := digI (S + m)) SC) (ext13 SCX (Nat.le_refl _)))
        go_wp2_with fail
        go_roundw
        case rel => exact HP.out
        case measure => simp [intOf] <;> omega
    · have hkl : k = l.length := by omega
      have hd : decide ((k : Int) < (l.length : Int)) = false := by simp; omega
      rw [hkl, List.take_length] at hB hp1 hS
      have hS2 : (sumL l).toNat < 65536 ^ 12 := Nat.lt_of_lt_of_le hS (Nat.pow_le_pow_right (by decide) (by decide))
      have HT := Lib.hid (told_any (sumL l).toNat hS2)
      have hE : T1 = (if (sumL l).toNat < 9223372036854775808 then ((sumL l).toNat : Int) else 0) ∧ T2 = (if (sumL l).toNat < 9223372036854775808 then 0 else 5) := by
        have := hT.out
        unfold sumI at this
        by_cases hl : (sumL l).toNat < 9223372036854775808
        · rw [if_pos (by omega)] at this
          injection this with h1 h2
          rw [if_pos hl, if_pos hl]
          exact ⟨by omega, h2.symm⟩
        · rw [if_neg (by omega)] at this
          injection this with h1 h2
          rw [if_neg hl, if_neg hl]
          exact ⟨h1.symm, h2.symm⟩
      rw [← hE.1, ← hE.2] at HT
      obtain ⟨q, q'⟩ := hB.cells
      unfold numC at q
      clear hE hp1 hS hS2 hB
      go_wp2_with fail
      refine (HT.out _).mono ?_
      rintro e w5 ⟨rfl, hx5⟩
      go_wp2_with fail
      exact bodyPost_ret (results_tmp2 rfl _ _ _) rfl ⟨rfl, hx.trans hx5⟩
end Go.Proofs.Ytehkmngbknbbaaa
