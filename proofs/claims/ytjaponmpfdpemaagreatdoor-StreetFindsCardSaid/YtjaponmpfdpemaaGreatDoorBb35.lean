/-
  The reference's numbers: of an int; products.
-/
import Derived.Test.YtjaponmpfdpemaaGreatDoorBb34
import Derived.Deep.DeepCutAuto
set_option linter.unusedSimpArgs false
set_option linter.unusedVariables false
namespace Go.Proofs.YtjaponmpfdpemaaGreatDoor
open Go.RowKit
theorem and_16 (n : Nat) (h : n < 18446744073709551616) : bits BinOp.and IntKind.u64 (n : Int) 65535 = ((n % 65536 : Nat) : Int) := by
 rw [u64_and _ _ (by omega) (by omega) (by omega) (by omega)]
 have : (65535 : Int).toNat = 2 ^ 16 - 1 := rfl
 rw [this, Int.toNat_natCast, Nat.and_two_pow_sub_one_eq_mod]
theorem dig_and (n k : Nat) (h : n < 9223372036854775808) (D : Int) (hD : D = ((n / 65536 ^ k : Nat) : Int)) : wrap64 (bits BinOp.and IntKind.u64 D 65535) = digI n k := by
 subst hD
 have hl : n / 65536 ^ k ≤ n := Nat.div_le_self _ _
 rw [and_16 _ (by omega)]
 unfold digI dig RowKit.wrap64
 omega
def OfRel (w : World) (n : Nat) (i : Value) (wr : World) : Prop :=
 ∃ k : Nat, k ≤ 4 ∧ i = .int .i64 (k : Int) ∧ Blk wr w.heap.size 153 (numC false (fun _ => 0)) ∧ Blk wr (w.heap.size + 1) 153 (numC false (fun j => if j < k then digI n j else 0)) ∧ Ext w wr
theorem OfRel.next {w W : World} {n k j : Nat} (hk : k < 12) (hk4 : k < 4)
  (B : Blk W w.heap.size 153 (numC false (fun _ => 0))) (B2 : Blk W (w.heap.size + 1) 153 ((numC false (fun j => if j < k then digI n j else 0)).setIfInBounds (1 + k) (.int .i64 (digI n k)))) (hX : Ext w W) (e : j = k + 1) : OfRel w n (.int .i64 (j : Int)) W := by
 subst e
 rw [numC_set _ _ _ k hk] at B2
 refine ⟨k + 1, by omega, rfl, B, ?_, hX⟩
 rw [show (fun j => if j < k + 1 then digI n j else 0) = updI (fun j => if j < k then digI n j else 0) k (digI n k) from ?_]
 ·exact B2
 funext j
 unfold updI
 dsimp only
 by_cases h1 : j = k
 ·subst h1; rw [if_pos (by omega), if_pos rfl]
 ·rw [if_neg h1]
  by_cases h2 : j < k
  ·rw [if_pos (by omega), if_pos h2]
  ·rw [if_neg (by omega), if_neg h2]
theorem dig_hi {n : Nat} (h : n < 65536 ^ 4) {i : Nat} (hi : 4 ≤ i) : dig n i = 0 := by
 unfold dig
 rw [Nat.div_eq_of_lt (Nat.lt_of_lt_of_le h (Nat.pow_le_pow_right (by decide) hi))]
set_option maxRecDepth 100000 in
set_option maxHeartbeats 1000000 in
theorem of_any01 (n : Nat) (hn : n < 9223372036854775808) (w : World) :
  Calls Tryz.prog 101 #[.int .i64 (n : Int)] w fun e w' => e = .returned (numV false (digI n)) ∧ Ext w w' := by
 have B1 := (Blk.new w 153 (numC false (fun _ => 0))).alloc (.cells (numC false (fun _ => 0)) 153)
 have B2 := Blk.two12 w 153 153 (numC false (fun _ => 0)) (numC false (fun _ => 0))
 have X0 := ((Ext.refl w).alloc (.cells (numC false (fun _ => 0)) 153)).alloc (.cells (numC false (fun _ => 0)) 153)
 have H0 := Lib.hid (show OfRel w n (.int .i64 ((0 : Nat) : Int)) _ from ⟨0, by omega, rfl, B1, B2, X0⟩)
 have hd0 : decide ((n : Int) < 0) = false := by simp
 clear B1 B2 X0
 go_enter Tryz.func101, Tryz.ntmps101
 go_wp2_with fail
 go_loopw [5] (fun i wr => OfRel w n i wr) (fun i _ => 4 - (intOf i).toNat)
 case atStart => exact H0.out
 case round =>
  clear H0
  obtain ⟨k, hk, rfl, hB, hB2, hx⟩ := hrel
  have g1 : w.heap.size ≠ w.heap.size + 1 := by omega
  have g2 : w.heap.size ≤ w.heap.size + 1 := by omega
  rcases k with _ | _ | _ | _ | k
  ·have hd := hB2.frozen
   have c1 := hB2.cell
   have HN := Lib.hid (OfRel.next (n := n) (k := 0) (j := 1) (by decide) (by decide) (hB.far (p := ⟨w.heap.size + 1, 1, none⟩) g1 (.int .i64 (digI n 0))) (hB2.set_ 1 (.int .i64 (digI n 0))) (hx.set (p := ⟨w.heap.size + 1, 1, none⟩) g2 (.int .i64 (digI n 0))) rfl)
   have e := Lib.hid (dig_and n 0 hn (n : Int) (by rw [show (65536 : Nat) ^ 0 = 1 by decide]; omega))
   clear hB hB2 hx
   go_wp2_with fail
   go_roundw
   case rel =>
    rw [e.out]
    exact HN.out
   case measure => simp [intOf]
  ·have hd := hB2.frozen
   have c1 := hB2.cell
   have HN := Lib.hid (OfRel.next (n := n) (k := 1) (j := 2) (by decide) (by decide) (hB.far (p := ⟨w.heap.size + 1, 2, none⟩) g1 (.int .i64 (digI n 1))) (hB2.set_ 2 (.int .i64 (digI n 1))) (hx.set (p := ⟨w.heap.size + 1, 2, none⟩) g2 (.int .i64 (digI n 1))) rfl)
   have e := Lib.hid (dig_and n 1 hn ((n : Int) / 65536) (by rw [show (65536 : Nat) ^ 1 = 65536 by decide]; omega))
   clear hB hB2 hx
   go_wp2_with fail
   go_roundw
   case rel =>
    rw [e.out]
    exact HN.out
   case measure => simp [intOf]
  ·have hd := hB2.frozen
   have c1 := hB2.cell
   have HN := Lib.hid (OfRel.next (n := n) (k := 2) (j := 3) (by decide) (by decide) (hB.far (p := ⟨w.heap.size + 1, 3, none⟩) g1 (.int .i64 (digI n 2))) (hB2.set_ 3 (.int .i64 (digI n 2))) (hx.set (p := ⟨w.heap.size + 1, 3, none⟩) g2 (.int .i64 (digI n 2))) rfl)
   have e := Lib.hid (dig_and n 2 hn ((n : Int) / 4294967296) (by rw [show (65536 : Nat) ^ 2 = 4294967296 by decide]; omega))
   clear hB hB2 hx
   go_wp2_with fail
   go_roundw
   case rel =>
    rw [e.out]
    exact HN.out
   case measure => simp [intOf]
  ·have hd := hB2.frozen
   have c1 := hB2.cell
   have HN := Lib.hid (OfRel.next (n := n) (k := 3) (j := 4) (by decide) (by decide) (hB.far (p := ⟨w.heap.size + 1, 4, none⟩) g1 (.int .i64 (digI n 3))) (hB2.set_ 4 (.int .i64 (digI n 3))) (hx.set (p := ⟨w.heap.size + 1, 4, none⟩) g2 (.int .i64 (digI n 3))) rfl)
   have e := Lib.hid (dig_and n 3 hn ((n : Int) / 281474976710656) (by rw [show (65536 : Nat) ^ 3 = 281474976710656 by decide]; omega))
   clear hB hB2 hx
   go_wp2_with fail
   go_roundw
   case rel =>
    rw [e.out]
    exact HN.out
   case measure => simp [intOf]
  ·have hk4 : k = 0 := by omega
   subst hk4
   rw [numC_congr (s := false) (f := fun j => if j < 4 then digI n j else 0) (g := digI n) (fun i _ => by
    split
    ·rfl
    ·rw [digI, dig_hi (by omega) (by omega)]; rfl)] at hB2
   obtain ⟨q, q'⟩ := hB2.cells
   obtain ⟨p, p'⟩ := hB.cells
   unfold numC at q p
   go_wp2_with fail
   exact bodyPost_ret (results_c rfl rfl (ld_num (put13 (s := false) (f := digI n) hB))) rfl ⟨rfl, ext13 hx (by omega)⟩
theorem sumD_upd (f : Nat → Nat) (k v : Nat) : ∀ n, k < n → sumD (upd f k v) n + f k * 65536 ^ k = sumD f n + v * 65536 ^ k
 | 0, h => absurd h (by omega)
 | n + 1, h => by
  rw [sumD, sumD]
  by_cases hk : k = n
  ·subst hk
   have e1 : sumD (upd f k v) k = sumD f k := sumD_congr fun i hi => by unfold upd; rw [if_neg (by omega)]
   have e2 : upd f k v k = v := by unfold upd; rw [if_pos rfl]
   rw [e1, e2]
   omega
  ·have e2 : upd f k v n = f n := by unfold upd; rw [if_neg (by omega)]
   have := sumD_upd f k v n (by omega)
   rw [e2]
   omega
structure MulSt (w : World) (sx sy z : Bool) (m n i k : Nat) (F : Nat → Nat) (wr : World) : Prop where
 b0 : Blk wr w.heap.size 153 (numC sx (digI m))
 b1 : Blk wr (w.heap.size + 1) 153 (numC sy (digI n))
 b2 : Blk wr (w.heap.size + 1 + 1) 153 (numC false (fun _ => 0))
 b3 : Blk wr (w.heap.size + 1 + 1 + 1) 153 (numC z (fun j => (F j : Int)))
 bd : ∀ j, F j ≤ (4 * i + k) * 4294967296
 sm : sumD F 12 = (m % 65536 ^ i) * n + dig m i * (n % 65536 ^ k) * 65536 ^ i
 ext : Ext w wr
def MulO (w : World) (sx sy z : Bool) (m n : Nat) (v : Value) (wr : World) : Prop := ∃ (i : Nat) (F : Nat → Nat), i ≤ 4 ∧ v = .int .i64 (i : Int) ∧ MulSt w sx sy z m n i 0 F wr
def MulI (w : World) (sx sy z : Bool) (m n i : Nat) (v : Value) (wr : World) : Prop := ∃ (k : Nat) (F : Nat → Nat), k ≤ 4 ∧ v = .int .i64 (k : Int) ∧ MulSt w sx sy z m n i k F wr
theorem MulSt.turn {w wr : World} {sx sy z : Bool} {m n i : Nat} {F : Nat → Nat} (h : MulSt w sx sy z m n i 4 F wr) (hn : n < 65536 ^ 4) : MulSt w sx sy z m n (i + 1) 0 F wr := by
 refine ⟨h.b0, h.b1, h.b2, h.b3, fun j => by have := h.bd j; omega, ?_, h.ext⟩
 rw [h.sm, mod_step m i, Nat.mod_eq_of_lt hn, Nat.pow_zero, Nat.mod_one, Nat.mul_zero, Nat.zero_mul, Nat.add_zero, Nat.add_mul, Nat.mul_right_comm]
theorem bd_next {x q k p : Nat} (h : x ≤ (q + k) * 4294967296) (hp : p ≤ 4294836225) : x + p ≤ (q + (k + 1)) * 4294967296 := by omega
theorem MulSt.next {w wr W : World} {sx sy z : Bool} {m n i k : Nat} {F : Nat → Nat} (h : MulSt w sx sy z m n i k F wr) (hi : i < 4) (hk : k < 4) {v : Int} (hv : v = (F (i + k) : Int) + digI m i * digI n k)
  (hW : Ext (wr.setCell ⟨w.heap.size + 1 + 1 + 1, 1 + (i + k), none⟩ (.int .i64 v)) W) : MulSt w sx sy z m n i (k + 1) (upd F (i + k) (F (i + k) + dig m i * dig n k)) W := by
 have g0 : w.heap.size ≠ w.heap.size + 1 + 1 + 1 := by omega
 have g1 : w.heap.size + 1 ≠ w.heap.size + 1 + 1 + 1 := by omega
 have g2 : w.heap.size + 1 + 1 ≠ w.heap.size + 1 + 1 + 1 := by omega
 have hp : dig m i * dig n k ≤ 4294836225 := Nat.le_trans (Nat.mul_le_mul (show dig m i ≤ 65535 by have := dig_lt m i; omega) (show dig n k ≤ 65535 by have := dig_lt n k; omega)) (by decide)
 refine ⟨(h.b0.far (p := ⟨w.heap.size + 1 + 1 + 1, 1 + (i + k), none⟩) g0 _).ext hW, (h.b1.far (p := ⟨w.heap.size + 1 + 1 + 1, 1 + (i + k), none⟩) g1 _).ext hW, (h.b2.far (p := ⟨w.heap.size + 1 + 1 + 1, 1 + (i + k), none⟩) g2 _).ext hW, ?_, ?_, ?_, (h.ext.set (p := ⟨w.heap.size + 1 + 1 + 1, 1 + (i + k), none⟩) (by show w.heap.size ≤ w.heap.size + 1 + 1 + 1; omega) _).trans hW⟩
 ·have := (h.b3.set_ (1 + (i + k)) (.int .i64 v)).ext hW
  rw [numC_set _ _ _ (i + k) (by omega)] at this
  rw [show (fun j => ((upd F (i + k) (F (i + k) + dig m i * dig n k) j : Nat) : Int)) = updI (fun j => (F j : Int)) (i + k) v from ?_]
  ·exact this
  funext j
  unfold upd updI
  split
  ·rw [hv]; simp [digI]
  ·rfl
 ·intro j
  have b1 := h.bd (i + k)
  have b2 := h.bd j
  clear h hW hv
  unfold upd
  split
  ·exact bd_next b1 hp
  ·exact bd_next b2 (Nat.zero_le _)
 ·have hs := sumD_upd F (i + k) (F (i + k) + dig m i * dig n k) 12 (by omega)
  rw [h.sm, Nat.add_mul] at hs
  rw [mod_step n k, Nat.mul_add, Nat.add_mul]
  have e : dig m i * (dig n k * 65536 ^ k) * 65536 ^ i = dig m i * dig n k * 65536 ^ (i + k) := by
   rw [Nat.pow_add, Nat.mul_comm (65536 ^ i)]
   simp only [Nat.mul_assoc]
  omega
theorem mul_lt {m n : Nat} (hm : m < 65536 ^ 4) (hn : n < 65536 ^ 4) : m * n < 65536 ^ 12 := by
 have : m * n ≤ 65536 ^ 4 * 65536 ^ 4 := Nat.mul_le_mul (by omega) (by omega)
 have e : (65536 : Nat) ^ 4 * 65536 ^ 4 < 65536 ^ 12 := by decide
 omega
set_option maxRecDepth 100000 in
set_option maxHeartbeats 2000000 in
theorem mul_any01 (m n : Nat) (hm : m < 65536 ^ 4) (hn : n < 65536 ^ 4) (w : World) :
  Calls Tryz.prog 102 #[numV false (digI m), numV false (digI n)] w fun e w' => e = .returned (numV false (digI (m * n))) ∧ Ext w w' := by
 have B0 := (((Blk.new w 153 (numC false (digI m))).alloc (.cells (numC false (digI n)) 153)).alloc (.cells (numC false (fun _ => 0)) 153)).alloc (.cells (numC false (fun _ => 0)) 153)
 have B1 := ((Blk.two12 w 153 153 (numC false (digI m)) (numC false (digI n))).alloc (.cells (numC false (fun _ => 0)) 153)).alloc (.cells (numC false (fun _ => 0)) 153)
 have B2 := (Blk.two12 (w.alloc (.cells (numC false (digI m)) 153)) 153 153 (numC false (digI n)) (numC false (fun _ => 0))).alloc (.cells (numC false (fun _ => 0)) 153)
 have B3 := Blk.two12 ((w.alloc (.cells (numC false (digI m)) 153)).alloc (.cells (numC false (digI n)) 153)) 153 153 (numC false (fun _ => 0)) (numC false (fun _ => 0))
 have X0 := ((((Ext.refl w).alloc (.cells (numC false (digI m)) 153)).alloc (.cells (numC false (digI n)) 153)).alloc (.cells (numC false (fun _ => 0)) 153)).alloc (.cells (numC false (fun _ => 0)) 153)
 have e1 : (w.alloc (.cells (numC false (digI m)) 153)).heap.size = w.heap.size + 1 := by simp
 have e2 : ((w.alloc (.cells (numC false (digI m)) 153)).alloc (.cells (numC false (digI n)) 153)).heap.size = w.heap.size + 1 + 1 := by simp
 rw [e1] at B2
 rw [e2] at B3
 have H0 := Lib.hid (show MulO w false false false m n (.int .i64 ((0 : Nat) : Int)) _ from ⟨0, fun _ => 0, by omega, rfl, B0, B1, B2, B3, fun _ => by omega, by simp [sumD, Nat.mod_one], X0⟩)
 have HC := Lib.hid (fun F (h1 : ∀ j, F j ≤ 1152921504606846976) (h2 : sumD F 12 = m * n) => (show ∀ w, Calls Tryz.prog 107 #[numV false (fun i => (F i : Int))] w _ from carried_any false F h1 (by rw [h2]; exact mul_lt hm hn)))
 replace hm := Lib.hid hm
 replace hn := Lib.hid hn
 clear B0 B1 B2 B3 X0 e1 e2
 go_enter Tryz.func102, Tryz.ntmps102
 go_wp2_with fail
 go_loopw [6, 7] (fun v _ wr => MulO w false false false m n v wr) (fun v _ _ => 4 - (intOf v).toNat)
 case atStart => exact H0.out
 case round =>
  clear H0
  obtain ⟨i, F0, hi, rfl, hS⟩ := hrel
  by_cases hlt : i < 4
  ·have hd : decide ((i : Int) < 4) = true := by simp; omega
   have HS := Lib.hid hS
   clear hS
   go_wp2_with fail
   obtain ⟨wo, rfl⟩ : ∃ wo : World, wo = wr := ⟨_, rfl⟩
   go_loopw [7] (fun v wr => MulI w false false false m n i v wr) (fun v _ => 4 - (intOf v).toNat)
   case atStart => exact ⟨0, F0, by omega, rfl, HS.out⟩
   case round =>
    clear HS
    obtain ⟨k, F, hk, rfl, hS⟩ := hrel
    by_cases hlk : k < 4
    ·have hdk : decide ((k : Int) < 4) = true := by simp; omega
     have c1 := (hS.b0.cell (1 + i)).trans (numC_at false _ i (by omega))
     have c2 := (hS.b1.cell (1 + k)).trans (numC_at false _ k (by omega))
     have c3 := (hS.b3.cell (1 + (i + k))).trans (numC_at false _ (i + k) (by omega))
     have fz := hS.b3.frozen
     have lb := hS.b3.lt
     have bF := hS.bd (i + k)
     have HN := Lib.hid (fun (W : World) (v : Int) hv hW => hS.next (W := W) hlt hlk (v := v) hv hW)
     have b1 : 0 ≤ digI m i ∧ digI m i < 65536 := by have := dig_lt m i; unfold digI; omega
     have b2 : 0 ≤ digI n k ∧ digI n k < 65536 := by have := dig_lt n k; unfold digI; omega
     have bF2 : F (i + k) ≤ 20 * 4294967296 := Nat.le_trans bF (Nat.mul_le_mul_right _ (by omega))
     clear hS bF
     generalize digI m i = a at *
     generalize digI n k = b at *
     generalize F (i + k) = c at *
     obtain ⟨b10, b11⟩ := b1
     obtain ⟨b20, b21⟩ := b2
     have p0 : 0 ≤ a * b := Int.mul_nonneg b10 b20
     have p1 : a * b ≤ 65535 * 65535 := Int.mul_le_mul (by omega) (by omega) b20 (by omega)
     have e1 : IntKind.i64.wrap (a * b) = a * b := IntWalk.i64_in _ (by omega)
     have e2 : IntKind.i64.wrap ((c : Int) + a * b) = (c : Int) + a * b := IntWalk.i64_in _ (by omega)
     have e3 : IntKind.i64.wrap ((i : Int) + (k : Int)) = (i : Int) + (k : Int) := IntWalk.i64_in _ (by omega)
     have e4 : (0 : Int) ≤ (i : Int) + (k : Int) := by omega
     have e5 : ((i : Int) + (k : Int)).toNat = i + k := by omega
     have e6 : (i : Int) + (k : Int) < 12 := by omega
     have e7 : (i : Int) < 12 := by omega
     have e8 : (k : Int) < 12 := by omega
     go_wp2_with fail
     go_still_tail 21, (by kernel_rfl)
     go_wp2_with fail
     go_roundw
     case rel => exact ⟨k + 1, _, by omega, rfl, HN.out _ _ rfl (Ext.refl _).drew⟩
     case measure => simp [intOf] <;> omega
    ·have hk4 : k = 4 := by omega
     subst hk4
     have HT := Lib.hid (hS.turn hn.out)
     clear hS
     go_wp2_with fail
     go_roundw
     case rel => exact ⟨i + 1, F, by omega, rfl, HT.out⟩
     case measure => simp [intOf] <;> omega
  ·have hi4 : i = 4 := by omega
   subst hi4
   have hF := hS.bd
   have hsm := hS.sm
   rw [Nat.mod_eq_of_lt hm.out, Nat.pow_zero, Nat.mod_one, Nat.mul_zero, Nat.zero_mul, Nat.add_zero] at hsm
   have HK := Lib.hid (HC.out F0 (fun j => by have := hF j; omega) hsm)
   obtain ⟨q, q'⟩ := hS.b3.cells
   unfold numC at q
   have HB2 := Lib.hid (fun W (hx : Ext wr W) => hS.b2.ext hx)
   have hx := hS.ext
   clear hS hF
   replace hsm := Lib.hid hsm
   go_wp2_with fail
   refine (HK.out _).mono ?_
   rintro e w2 ⟨rfl, hx2⟩
   rw [hsm.out, Bool.false_and]
   have B3 := HB2.out _ hx2
   obtain ⟨p, p'⟩ := B3.cells
   unfold numC at p
   have X3 := hx.trans hx2
   clear q q' hx hx2
   go_wp2_with fail
   exact bodyPost_ret (results_c rfl rfl (ld_num (put13 (s := false) (f := digI (m * n)) B3))) rfl ⟨rfl, ext13 X3 (by omega)⟩
end Go.Proofs.YtjaponmpfdpemaaGreatDoor
set_option linter.unusedSimpArgs false
set_option linter.unusedVariables false
namespace Go.Proofs.YtjaponmpfdpemaaGreatDoor
open Go.RowKit
theorem sumD_hi (f : Nat → Nat) (a : Nat) : ∀ b, (∀ j, a ≤ j → j < a + b → f j = 0) → sumD f (a + b) = sumD f a
 | 0, _ => rfl
 | b + 1, h => by
  have h1 := sumD_hi f a b fun j h1 h2 => h j h1 (by omega)
  have h2 := h (a + b) (by omega) (by omega)
  rw [← Nat.add_assoc, sumD, h1, h2, Nat.zero_mul, Nat.add_zero]
theorem small_of_digs {n : Nat} (h : n < 65536 ^ 12) (hz : ∀ j, 4 ≤ j → j < 12 → dig n j = 0) : n < 65536 ^ 4 := by
 have h1 : sumD (dig n) (4 + 8) = n := sumD_dig12 h
 have h2 := sumD_hi (dig n) 4 8 hz
 have h3 := sumD_lt (f := dig n) (k := 4) fun i _ => dig_lt n i
 exact Nat.lt_of_le_of_lt (Nat.le_of_eq (h1.symm.trans h2)) h3
theorem four_digs {n : Nat} (h : n < 65536 ^ 4) : digI n 0 + digI n 1 * 65536 + digI n 2 * 4294967296 + digI n 3 * 281474976710656 = (n : Int) := by
 have h1 := sumD_dig n 4
 rw [Nat.mod_eq_of_lt h] at h1
 simp only [sumD] at h1
 unfold digI
 omega
def IntRel (n : Nat) (w : World) (i : Value) (wr : World) : Prop :=
 ∃ k : Nat, 4 ≤ k ∧ k ≤ 12 ∧ i = .int .i64 (k : Int) ∧ (∀ j, 4 ≤ j → j < k → dig n j = 0) ∧ w = wr
set_option maxRecDepth 100000 in
set_option maxHeartbeats 1000000 in
theorem int_any01 (n : Nat) (hn : n < 65536 ^ 12) (w : World) :
  Calls Tryz.prog 137 #[numV false (digI n)] w fun e w' => e = .returned (.tuple #[.int .i64 (if n < 9223372036854775808 then (n : Int) else 0), .bool (decide (n < 9223372036854775808))]) ∧ Ext w w' := by
 have B := Blk.new w 153 (numC false (digI n))
 have X0 := (Ext.refl w).alloc (.cells (numC false (digI n)) 153)
 obtain ⟨W1, hW1⟩ : ∃ W1, w.alloc (.cells (numC false (digI n)) 153) = W1 := ⟨_, rfl⟩
 have HW := Lib.hid hW1
 rw [hW1] at B X0
 obtain ⟨E, hE⟩ : ∃ E : Int × Bool, ((if n < 9223372036854775808 then (n : Int) else 0), decide (n < 9223372036854775808)) = E := ⟨_, rfl⟩
 obtain ⟨E1, E2⟩ := E
 injection hE with hE1 hE2
 rw [hE1, hE2]
 replace hE1 := Lib.hid hE1
 replace hE2 := Lib.hid hE2
 clear hW1
 unfold numC at HW
 go_enter Tryz.func137, Tryz.ntmps137
 go_wp2_with fail
 rw [HW.out]
 clear HW
 have hn' := Lib.hid hn
 clear hn
 go_loopw [4] (fun i wr => IntRel n W1 i wr) (fun i _ => 12 - (intOf i).toNat)
 case atStart => exact ⟨4, by omega, by omega, rfl, fun j h1 h2 => by omega, rfl⟩
 case round =>
  obtain ⟨k, hk4, hk, rfl, hz, rfl⟩ := hrel
  by_cases hlt : k < 12
  ·have hd : decide ((k : Int) < 12) = true := by simp; omega
   have c1 := (B.cell (1 + k)).trans (numC_at false _ k hlt)
   have e5 : (k : Int) < 12 := by omega
   by_cases hdz : dig n k = 0
   ·have hD : digI n k = 0 := by unfold digI; omega
    rw [hD] at c1
    have HN := Lib.hid (show IntRel n W1 (.int .i64 ((k + 1 : Nat) : Int)) W1 from ⟨k + 1, by omega, by omega, rfl, fun j h1 h2 => by
     rcases Nat.lt_or_ge j k with h | h
     ·exact hz j h1 h
     ·rw [show j = k by omega]; exact hdz, rfl⟩)
    clear hz hD
    replace hdz := Lib.hid hdz
    go_wp2_with fail
    go_roundw
    case rel => exact HN.out
    case measure => simp [intOf] <;> omega
   ·have hD : (digI n k != 0) = true := by rw [bne_iff_ne]; unfold digI; omega
    have hbig : 9223372036854775808 ≤ n := by
     rcases Nat.lt_or_ge n 9223372036854775808 with h | h
     ·exact absurd (dig_hi (n := n) (by omega) hk4) hdz
     ·exact h
    have e1 : E1 = 0 := by rw [← hE1.out, if_neg (by omega)]
    have e2 : E2 = false := by rw [← hE2.out]; simp; omega
    replace e1 := Lib.hid e1
    replace e2 := Lib.hid e2
    replace hdz := Lib.hid hdz
    clear hz
    go_wp2_with fail
    go_ret2
    exact ⟨by rw [e1.out, e2.out]; rfl, X0⟩
  ·have hk12 : k = 12 := by omega
   subst hk12
   have hs := small_of_digs hn'.out hz
   have h4 := four_digs hs
   have d0 : 0 ≤ digI n 0 ∧ digI n 0 < 65536 := by have := dig_lt n 0; unfold digI; omega
   have d1 : 0 ≤ digI n 1 ∧ digI n 1 < 65536 := by have := dig_lt n 1; unfold digI; omega
   have d2 : 0 ≤ digI n 2 ∧ digI n 2 < 65536 := by have := dig_lt n 2; unfold digI; omega
   have d3 : 0 ≤ digI n 3 ∧ digI n 3 < 65536 := by have := dig_lt n 3; unfold digI; omega
   obtain ⟨q, q'⟩ := B.cells
   unfold numC at q
   clear hz hs
   generalize digI n 0 = a0 at *
   generalize digI n 1 = a1 at *
   generalize digI n 2 = a2 at *
   generalize digI n 3 = a3 at *
   obtain ⟨d00, d01⟩ := d0
   obtain ⟨d10, d11⟩ := d1
   obtain ⟨d20, d21⟩ := d2
   obtain ⟨d30, d31⟩ := d3
   replace h4 := Lib.hid h4
   go_upto_region 7 with (fail)
   rw [h4.out]
   have hb0 : (0 : Int) ≤ (n : Int) := Int.natCast_nonneg n
   by_cases hl : n < 9223372036854775808
   ·have hd2 : decide ((9223372036854775808 : Int) ≤ (n : Int)) = false := by simp; omega
    have e1 : E1 = (n : Int) := by rw [← hE1.out, if_pos hl]
    have e2 : E2 = true := by rw [← hE2.out]; simpa using hl
    replace e1 := Lib.hid e1
    replace e2 := Lib.hid e2
    have hb1 : (n : Int) < 9223372036854775808 := by omega
    go_wp2_with fail
    go_ret2
    exact ⟨by rw [e1.out, e2.out]; rfl, X0⟩
   ·have hd2 : decide ((9223372036854775808 : Int) ≤ (n : Int)) = true := by simp; omega
    have e1 : E1 = 0 := by rw [← hE1.out, if_neg hl]
    have e2 : E2 = false := by rw [← hE2.out]; simpa using hl
    replace e1 := Lib.hid e1
    replace e2 := Lib.hid e2
    go_wp2_with fail
    go_ret2
    exact ⟨by rw [e1.out, e2.out]; rfl, X0⟩
set_option maxRecDepth 100000 in
set_option maxHeartbeats 1000000 in
theorem told_any (n : Nat) (hn : n < 65536 ^ 12) (w : World) :
  Calls Tryz.prog 106 #[numV false (digI n)] w fun e w' => e = .returned (.tuple #[.int .i64 (if n < 9223372036854775808 then (n : Int) else 0), .int .i64 (if n < 9223372036854775808 then 0 else 5)]) ∧ Ext w w' := by
 have X0 := (Ext.refl w).alloc (.cells (numC false (digI n)) 153)
 have HI := Lib.hid (int_any01 n hn)
 unfold numC at X0
 by_cases hl : n < 9223372036854775808
 ·have e1 : (if n < 9223372036854775808 then (n : Int) else 0) = (n : Int) := if_pos hl
  have e2 : (if n < 9223372036854775808 then (0 : Int) else 5) = 0 := if_pos hl
  have e3 : decide (n < 9223372036854775808) = true := by simpa using hl
  rw [e1, e2]
  have HJ := HI.out
  rw [e1, e3] at HJ
  replace HJ := Lib.hid HJ
  clear HI e1 e2 e3 hn
  go_enter Tryz.func106, Tryz.ntmps106
  go_wp2_with fail
  refine (HJ.out _).mono ?_
  rintro e w1 ⟨rfl, hx1⟩
  go_wp2_with fail
  go_ret2
  exact ⟨rfl, X0.trans hx1⟩
 ·have e1 : (if n < 9223372036854775808 then (n : Int) else 0) = 0 := if_neg hl
  have e2 : (if n < 9223372036854775808 then (0 : Int) else 5) = 5 := if_neg hl
  have e3 : decide (n < 9223372036854775808) = false := by simpa using hl
  rw [e1, e2]
  have HJ := HI.out
  rw [e1, e3] at HJ
  replace HJ := Lib.hid HJ
  clear HI e1 e2 e3 hn
  go_enter Tryz.func106, Tryz.ntmps106
  go_wp2_with fail
  refine (HJ.out _).mono ?_
  rintro e w1 ⟨rfl, hx1⟩
  go_wp2_with fail
  go_ret2
  exact ⟨rfl, X0.trans hx1⟩
end Go.Proofs.YtjaponmpfdpemaaGreatDoor
