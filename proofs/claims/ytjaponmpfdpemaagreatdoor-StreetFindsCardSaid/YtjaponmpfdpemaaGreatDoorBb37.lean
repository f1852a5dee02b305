/-
  The reference's numbers: Even.
-/
import Derived.Test.YtjaponmpfdpemaaGreatDoorBb36
import Derived.Test.YtjaponmpfdpemaaGreatDoorBb35
import Derived.Test.YtjaponmpfdpemaaGreatDoorBb10
import Derived.Deep.DeepCutAuto
import Derived.Deep.RegionHeld3
set_option linter.unusedSimpArgs false
set_option linter.unusedVariables false
namespace Go.Proofs.YtjaponmpfdpemaaGreatDoor
open Go.RowKit
def EvSt (w : World) (g8 : Nat) (P Q : Nat) (z : Int) (zb : Bool) (v9 v10 v11 : Value) (W : World) : Prop :=
 ∃ (g9 : Nat) (W' : World), W' = W ∧ v9 = .pointer (some ⟨g9, 0, none⟩) ∧ v10 = .int .i64 z ∧ v11 = .bool zb ∧ Blk W g9 153 (numC false (digI Q)) ∧ Blk W g8 153 (numC false (digI P)) ∧ g8 < g9 ∧ w.heap.size ≤ g8 ∧ Ext w W
theorem EvSt.put {w W : World} {g8 g9 P Q : Nat} {z : Int} {zb : Bool} {s' : Bool} {f' : Nat → Int} (B9 : Blk W g9 153 (numC s' f')) (B8 : Blk W g8 153 (numC false (digI P))) (h : g8 < g9) (h8 : w.heap.size ≤ g8) (X : Ext w W) :
  EvSt w g8 P Q z zb (.pointer (some ⟨g9, 0, none⟩)) (.int .i64 z) (.bool zb) (((((((((((((W.setCell ⟨g9, 0, none⟩ (.bool false)).setCell ⟨g9, 1, none⟩ (.int .i64 (digI Q 0))).setCell ⟨g9, 2, none⟩ (.int .i64 (digI Q 1))).setCell ⟨g9, 3, none⟩ (.int .i64 (digI Q 2))).setCell ⟨g9, 4, none⟩ (.int .i64 (digI Q 3))).setCell ⟨g9, 5, none⟩ (.int .i64 (digI Q 4))).setCell ⟨g9, 6, none⟩ (.int .i64 (digI Q 5))).setCell ⟨g9, 7, none⟩ (.int .i64 (digI Q 6))).setCell ⟨g9, 8, none⟩ (.int .i64 (digI Q 7))).setCell ⟨g9, 9, none⟩ (.int .i64 (digI Q 8))).setCell ⟨g9, 10, none⟩ (.int .i64 (digI Q 9))).setCell ⟨g9, 11, none⟩ (.int .i64 (digI Q 10))).setCell ⟨g9, 12, none⟩ (.int .i64 (digI Q 11))) :=
 ⟨g9, _, rfl, rfl, rfl, rfl, put13 B9, far13 B8 (by omega), h, h8, ext13 X (by omega)⟩
theorem EvSt.new {w W : World} {g8 P Q : Nat} {z : Int} {zb : Bool} (B8 : Blk W g8 153 (numC false (digI P))) (h8 : w.heap.size ≤ g8) (X : Ext w W) :
  EvSt w g8 P Q z zb (.pointer (some ⟨W.heap.size, 0, none⟩)) (.int .i64 z) (.bool zb) (W.alloc (.cells #[.bool false, .int .i64 (digI Q 0), .int .i64 (digI Q 1), .int .i64 (digI Q 2), .int .i64 (digI Q 3), .int .i64 (digI Q 4), .int .i64 (digI Q 5), .int .i64 (digI Q 6), .int .i64 (digI Q 7), .int .i64 (digI Q 8), .int .i64 (digI Q 9), .int .i64 (digI Q 10), .int .i64 (digI Q 11)] 153)) :=
 ⟨W.heap.size, _, rfl, rfl, rfl, rfl, Blk.new W _ (numC false (digI Q)), B8.alloc _, B8.lt, h8, X.alloc _⟩
end Go.Proofs.YtjaponmpfdpemaaGreatDoor
set_option linter.unusedSimpArgs false
set_option linter.unusedVariables false
namespace Go.Proofs.YtjaponmpfdpemaaGreatDoor
open Go.RowKit
def OfRelN (w : World) (n : Nat) (i : Value) (wr : World) : Prop :=
 ∃ k : Nat, k ≤ 4 ∧ i = .int .i64 (k : Int) ∧ Blk wr w.heap.size 153 (numC false (fun _ => 0)) ∧ Blk wr (w.heap.size + 1) 153 (numC true (fun j => if j < k then digI n j else 0)) ∧ Ext w wr
theorem OfRelN.next {w W : World} {n k j : Nat} (hk : k < 12) (hk4 : k < 4)
  (B : Blk W w.heap.size 153 (numC false (fun _ => 0))) (B2 : Blk W (w.heap.size + 1) 153 ((numC true (fun j => if j < k then digI n j else 0)).setIfInBounds (1 + k) (.int .i64 (digI n k)))) (hX : Ext w W) (e : j = k + 1) : OfRelN w n (.int .i64 (j : Int)) W := by
 subst e
 rw [numC_set _ _ _ k hk] at B2
 refine ⟨k + 1, by omega, rfl, B, ?_, hX⟩
 rw [show (fun j => if j < k + 1 then digI n j else 0) = updI (fun j => if j < k then digI n j else 0) k (digI n k) from ?_]
 ·exact B2
 funext j
 unfold updI
 dsimp only
 by_cases h1 : j = k
 ·subst h1; rw [if_pos (by omega), if_pos rfl]
 ·rw [if_neg h1]
  by_cases h2 : j < k
  ·rw [if_pos (by omega), if_pos h2]
  ·rw [if_neg (by omega), if_neg h2]
set_option maxRecDepth 100000 in
set_option maxHeartbeats 1000000 in
theorem of_neg (n : Nat) (h0 : 0 < n) (hn : n < 9223372036854775808) (w : World) :
  Calls Tryz.prog 101 #[.int .i64 (-(n : Int))] w fun e w' => e = .returned (numV true (digI n)) ∧ Ext w w' := by
 have B1 := (Blk.new w 153 (numC false (fun _ => 0))).alloc (.cells (numC true (fun _ => 0)) 153)
 have B2 := Blk.two12 w 153 153 (numC false (fun _ => 0)) (numC true (fun _ => 0))
 have X0 := ((Ext.refl w).alloc (.cells (numC false (fun _ => 0)) 153)).alloc (.cells (numC true (fun _ => 0)) 153)
 have H0 := Lib.hid (show OfRelN w n (.int .i64 ((0 : Nat) : Int)) _ from ⟨0, by omega, rfl, B1, B2, X0⟩)
 have hd0 : decide (-(n : Int) < 0) = true := decide_eq_true (by omega)
 have hu1 : IntKind.u64.wrap (-(n : Int)) = 18446744073709551616 - (n : Int) := by rw [IntKind.wrap_u64]; omega
 have hu2 : IntKind.u64.wrap (-(18446744073709551616 - (n : Int))) = (n : Int) := by rw [IntKind.wrap_u64]; omega
 replace h0 := Lib.hid h0
 clear B1 B2 X0
 go_enter Tryz.func101, Tryz.ntmps101
 go_wp2_with fail
 go_loopw [5] (fun i wr => OfRelN w n i wr) (fun i _ => 4 - (intOf i).toNat)
 case atStart => exact H0.out
 case round =>
  clear H0
  obtain ⟨k, hk, rfl, hB, hB2, hx⟩ := hrel
  have g1 : w.heap.size ≠ w.heap.size + 1 := by omega
  have g2 : w.heap.size ≤ w.heap.size + 1 := by omega
  rcases k with _ | _ | _ | _ | k
  ·have hd := hB2.frozen
   have c1 := hB2.cell
   have HN := Lib.hid (OfRelN.next (n := n) (k := 0) (j := 1) (by decide) (by decide) (hB.far (p := ⟨w.heap.size + 1, 1, none⟩) g1 (.int .i64 (digI n 0))) (hB2.set_ 1 (.int .i64 (digI n 0))) (hx.set (p := ⟨w.heap.size + 1, 1, none⟩) g2 (.int .i64 (digI n 0))) rfl)
   have e := Lib.hid (dig_and n 0 hn (n : Int) (by rw [show (65536 : Nat) ^ 0 = 1 by decide]; omega))
   clear hB hB2 hx
   go_wp2_with fail
   go_roundw
   case rel =>
    rw [e.out]
    exact HN.out
   case measure => simp [intOf]
  ·have hd := hB2.frozen
   have c1 := hB2.cell
   have HN := Lib.hid (OfRelN.next (n := n) (k := 1) (j := 2) (by decide) (by decide) (hB.far (p := ⟨w.heap.size + 1, 2, none⟩) g1 (.int .i64 (digI n 1))) (hB2.set_ 2 (.int .i64 (digI n 1))) (hx.set (p := ⟨w.heap.size + 1, 2, none⟩) g2 (.int .i64 (digI n 1))) rfl)
   have e := Lib.hid (dig_and n 1 hn ((n : Int) / 65536) (by rw [show (65536 : Nat) ^ 1 = 65536 by decide]; omega))
   clear hB hB2 hx
   go_wp2_with fail
   go_roundw
   case rel =>
    rw [e.out]
    exact HN.out
   case measure => simp [intOf]
  ·have hd := hB2.frozen
   have c1 := hB2.cell
   have HN := Lib.hid (OfRelN.next (n := n) (k := 2) (j := 3) (by decide) (by decide) (hB.far (p := ⟨w.heap.size + 1, 3, none⟩) g1 (.int .i64 (digI n 2))) (hB2.set_ 3 (.int .i64 (digI n 2))) (hx.set (p := ⟨w.heap.size + 1, 3, none⟩) g2 (.int .i64 (digI n 2))) rfl)
   have e := Lib.hid (dig_and n 2 hn ((n : Int) / 4294967296) (by rw [show (65536 : Nat) ^ 2 = 4294967296 by decide]; omega))
   clear hB hB2 hx
   go_wp2_with fail
   go_roundw
   case rel =>
    rw [e.out]
    exact HN.out
   case measure => simp [intOf]
  ·have hd := hB2.frozen
   have c1 := hB2.cell
   have HN := Lib.hid (OfRelN.next (n := n) (k := 3) (j := 4) (by decide) (by decide) (hB.far (p := ⟨w.heap.size + 1, 4, none⟩) g1 (.int .i64 (digI n 3))) (hB2.set_ 4 (.int .i64 (digI n 3))) (hx.set (p := ⟨w.heap.size + 1, 4, none⟩) g2 (.int .i64 (digI n 3))) rfl)
   have e := Lib.hid (dig_and n 3 hn ((n : Int) / 281474976710656) (by rw [show (65536 : Nat) ^ 3 = 281474976710656 by decide]; omega))
   clear hB hB2 hx
   go_wp2_with fail
   go_roundw
   case rel =>
    rw [e.out]
    exact HN.out
   case measure => simp [intOf]
  ·have hk4 : k = 0 := by omega
   subst hk4
   rw [numC_congr (s := true) (f := fun j => if j < 4 then digI n j else 0) (g := digI n) (fun i _ => by
    split
    ·rfl
    ·rw [digI, dig_hi (by omega) (by omega)]; rfl)] at hB2
   obtain ⟨q, q'⟩ := hB2.cells
   obtain ⟨p, p'⟩ := hB.cells
   unfold numC at q p
   go_wp2_with fail
   exact bodyPost_ret (results_c rfl rfl (ld_num (put13 (s := true) (f := digI n) hB))) rfl ⟨rfl, ext13 hx (by omega)⟩
set_option maxRecDepth 100000 in
set_option maxHeartbeats 2000000 in
theorem mul_neg (m n : Nat) (hm : m < 65536 ^ 4) (hn : n < 65536 ^ 4) (w : World) :
  Calls Tryz.prog 102 #[numV true (digI m), numV false (digI n)] w fun e w' => e = .returned (numV (decide (m * n ≠ 0)) (digI (m * n))) ∧ Ext w w' := by
 have B0 := (((Blk.new w 153 (numC true (digI m))).alloc (.cells (numC false (digI n)) 153)).alloc (.cells (numC false (fun _ => 0)) 153)).alloc (.cells (numC true (fun _ => 0)) 153)
 have B1 := ((Blk.two12 w 153 153 (numC true (digI m)) (numC false (digI n))).alloc (.cells (numC false (fun _ => 0)) 153)).alloc (.cells (numC true (fun _ => 0)) 153)
 have B2 := (Blk.two12 (w.alloc (.cells (numC true (digI m)) 153)) 153 153 (numC false (digI n)) (numC false (fun _ => 0))).alloc (.cells (numC true (fun _ => 0)) 153)
 have B3 := Blk.two12 ((w.alloc (.cells (numC true (digI m)) 153)).alloc (.cells (numC false (digI n)) 153)) 153 153 (numC false (fun _ => 0)) (numC true (fun _ => 0))
 have X0 := ((((Ext.refl w).alloc (.cells (numC true (digI m)) 153)).alloc (.cells (numC false (digI n)) 153)).alloc (.cells (numC false (fun _ => 0)) 153)).alloc (.cells (numC true (fun _ => 0)) 153)
 have e1 : (w.alloc (.cells (numC true (digI m)) 153)).heap.size = w.heap.size + 1 := by simp
 have e2 : ((w.alloc (.cells (numC true (digI m)) 153)).alloc (.cells (numC false (digI n)) 153)).heap.size = w.heap.size + 1 + 1 := by simp
 rw [e1] at B2
 rw [e2] at B3
 have H0 := Lib.hid (show MulO w true false true m n (.int .i64 ((0 : Nat) : Int)) _ from ⟨0, fun _ => 0, by omega, rfl, B0, B1, B2, B3, fun _ => by omega, by simp [sumD, Nat.mod_one], X0⟩)
 have HC := Lib.hid (fun F (h1 : ∀ j, F j ≤ 1152921504606846976) (h2 : sumD F 12 = m * n) => (show ∀ w, Calls Tryz.prog 107 #[numV true (fun i => (F i : Int))] w _ from carried_any true F h1 (by rw [h2]; exact mul_lt hm hn)))
 replace hm := Lib.hid hm
 replace hn := Lib.hid hn
 clear B0 B1 B2 B3 X0 e1 e2
 go_enter Tryz.func102, Tryz.ntmps102
 go_wp2_with fail
 go_loopw [6, 7] (fun v _ wr => MulO w true false true m n v wr) (fun v _ _ => 4 - (intOf v).toNat)
 case atStart => exact H0.out
 case round =>
  clear H0
  obtain ⟨i, F0, hi, rfl, hS⟩ := hrel
  by_cases hlt : i < 4
  ·have hd : decide ((i : Int) < 4) = true := by simp; omega
   have HS := Lib.hid hS
   clear hS
   go_wp2_with fail
   obtain ⟨wo, rfl⟩ : ∃ wo : World, wo = wr := ⟨_, rfl⟩
   go_loopw [7] (fun v wr => MulI w true false true m n i v wr) (fun v _ => 4 - (intOf v).toNat)
   case atStart => exact ⟨0, F0, by omega, rfl, HS.out⟩
   case round =>
    clear HS
    obtain ⟨k, F, hk, rfl, hS⟩ := hrel
    by_cases hlk : k < 4
    ·have hdk : decide ((k : Int) < 4) = true := by simp; omega
     have c1 := (hS.b0.cell (1 + i)).trans (numC_at true _ i (by omega))
     have c2 := (hS.b1.cell (1 + k)).trans (numC_at false _ k (by omega))
     have c3 := (hS.b3.cell (1 + (i + k))).trans (numC_at true _ (i + k) (by omega))
     have fz := hS.b3.frozen
     have lb := hS.b3.lt
     have bF := hS.bd (i + k)
     have HN := Lib.hid (fun (W : World) (v : Int) hv hW => hS.next (W := W) hlt hlk (v := v) hv hW)
     have b1 : 0 ≤ digI m i ∧ digI m i < 65536 := by have := dig_lt m i; unfold digI; omega
     have b2 : 0 ≤ digI n k ∧ digI n k < 65536 := by have := dig_lt n k; unfold digI; omega
     have bF2 : F (i + k) ≤ 20 * 4294967296 := Nat.le_trans bF (Nat.mul_le_mul_right _ (by omega))
     clear hS bF
     generalize digI m i = a at *
     generalize digI n k = b at *
     generalize F (i + k) = c at *
     obtain ⟨b10, b11⟩ := b1
     obtain ⟨b20, b21⟩ := b2
     have p0 : 0 ≤ a * b := Int.mul_nonneg b10 b20
     have p1 : a * b ≤ 65535 * 65535 := Int.mul_le_mul (by omega) (by omega) b20 (by omega)
     have e1 : IntKind.i64.wrap (a * b) = a * b := IntWalk.i64_in _ (by omega)
     have e2 : IntKind.i64.wrap ((c : Int) + a * b) = (c : Int) + a * b := IntWalk.i64_in _ (by omega)
     have e3 : IntKind.i64.wrap ((i : Int) + (k : Int)) = (i : Int) + (k : Int) := IntWalk.i64_in _ (by omega)
     have e4 : (0 : Int) ≤ (i : Int) + (k : Int) := by omega
     have e5 : ((i : Int) + (k : Int)).toNat = i + k := by omega
     have e6 : (i : Int) + (k : Int) < 12 := by omega
     have e7 : (i : Int) < 12 := by omega
     have e8 : (k : Int) < 12 := by omega
     go_wp2_with fail
     go_still_tail 21, (by kernel_rfl)
     go_wp2_with fail
     go_roundw
     case rel => exact ⟨k + 1, _, by omega, rfl, HN.out _ _ rfl (Ext.refl _).drew⟩
     case measure => simp [intOf] <;> omega
    ·have hk4 : k = 4 := by omega
     subst hk4
     have HT := Lib.hid (hS.turn hn.out)
     clear hS
     go_wp2_with fail
     go_roundw
     case rel => exact ⟨i + 1, F, by omega, rfl, HT.out⟩
     case measure => simp [intOf] <;> omega
  ·have hi4 : i = 4 := by omega
   subst hi4
   have hF := hS.bd
   have hsm := hS.sm
   rw [Nat.mod_eq_of_lt hm.out, Nat.pow_zero, Nat.mod_one, Nat.mul_zero, Nat.zero_mul, Nat.add_zero] at hsm
   have HK := Lib.hid (HC.out F0 (fun j => by have := hF j; omega) hsm)
   obtain ⟨q, q'⟩ := hS.b3.cells
   unfold numC at q
   have HB2 := Lib.hid (fun W (hx : Ext wr W) => hS.b2.ext hx)
   have hx := hS.ext
   clear hS hF
   replace hsm := Lib.hid hsm
   go_wp2_with fail
   refine (HK.out _).mono ?_
   rintro e w2 ⟨rfl, hx2⟩
   rw [hsm.out, Bool.true_and]
   obtain ⟨sz, hsz⟩ : ∃ t, decide (m * n ≠ 0) = t := ⟨_, rfl⟩
   rw [hsz]
   replace hsz := Lib.hid hsz
   have B3 := HB2.out _ hx2
   obtain ⟨p, p'⟩ := B3.cells
   unfold numC at p
   have X3 := hx.trans hx2
   clear q q' hx hx2
   go_wp2_with fail
   exact bodyPost_ret (results_c rfl rfl (ld_num (put13 (s := sz) (f := digI (m * n)) B3))) rfl ⟨by first | rfl | rw [hsz.out], ext13 X3 (by omega)⟩
end Go.Proofs.YtjaponmpfdpemaaGreatDoor
set_option linter.unusedSimpArgs false
set_option linter.unusedVariables false
namespace Go.Proofs.YtjaponmpfdpemaaGreatDoor
open Go.RowKit
structure PSn (w W : World) (x c Q R : Nat) : Prop where
 b0 : Blk W w.heap.size 153 (numC true (digI x))
 b1 : Blk W (w.heap.size + 1) 153 (numC false (digI c))
 b2 : Blk W (w.heap.size + 1 + 1) 153 (numC false (fun _ => 0))
 b3 : Blk W (w.heap.size + 1 + 1 + 1) 153 (numC false (digI Q))
 b4 : Blk W (w.heap.size + 1 + 1 + 1 + 1) 153 (numC false (digI R))
 ext : Ext w W
theorem PSn.to {w W W' : World} {x c Q R : Nat} (h : PSn w W x c Q R) (hx : Ext W W') : PSn w W' x c Q R :=
 ⟨h.b0.ext hx, h.b1.ext hx, h.b2.ext hx, h.b3.ext hx, h.b4.ext hx, h.ext.trans hx⟩
theorem PSn.setQ {w W : World} {x c Q R : Nat} (h : PSn w W x c Q R) (Q' : Nat) : PSn w (put13W W (w.heap.size + 1 + 1 + 1) false (digI Q')) x c Q' R :=
 ⟨far13 h.b0 (by omega), far13 h.b1 (by omega), far13 h.b2 (by omega), put13 h.b3, far13 h.b4 (by omega), ext13 h.ext (by omega)⟩
theorem PSn.setR {w W : World} {x c Q R : Nat} (h : PSn w W x c Q R) (R' : Nat) : PSn w (put13W W (w.heap.size + 1 + 1 + 1 + 1) false (digI R')) x c Q R' :=
 ⟨far13 h.b0 (by omega), far13 h.b1 (by omega), far13 h.b2 (by omega), far13 h.b3 (by omega), put13 h.b4, ext13 h.ext (by omega)⟩
theorem PSn.setN {w W : World} {x c Q R : Nat} (h : PSn w W x c Q R) : PSn w (W.setCell ⟨w.heap.size + 1, 0, none⟩ (.bool false)) x c Q R :=
 ⟨h.b0.far (p := ⟨w.heap.size + 1, 0, none⟩) (by show w.heap.size ≠ w.heap.size + 1; omega) _, h.b1.set_ 0 _, h.b2.far (p := ⟨w.heap.size + 1, 0, none⟩) (by show w.heap.size + 1 + 1 ≠ w.heap.size + 1; omega) _, h.b3.far (p := ⟨w.heap.size + 1, 0, none⟩) (by show w.heap.size + 1 + 1 + 1 ≠ w.heap.size + 1; omega) _, h.b4.far (p := ⟨w.heap.size + 1, 0, none⟩) (by show w.heap.size + 1 + 1 + 1 + 1 ≠ w.heap.size + 1; omega) _, h.ext.set (p := ⟨w.heap.size + 1, 0, none⟩) (by show w.heap.size ≤ w.heap.size + 1; omega) _⟩
theorem PSn.all39 {w W : World} {x c Q R : Nat} (h : PSn w W x c Q R) : PS39 W w c Q R := PS39.mk' h.b1 h.b3 h.b4
theorem PSn.far2 {w W : World} {x c Q R : Nat} (h : PSn w W x c Q R) (s : Bool) (f : Nat → Int) : PS39 (put13W W (w.heap.size + 1 + 1) s f) w c Q R :=
 PS39.mk' (far13 h.b1 (by omega)) (far13 h.b3 (by omega)) (far13 h.b4 (by omega))
def PartRelN (w : World) (x c : Nat) (i : Value) (wr : World) : Prop := ∃ k : Nat, k ≤ 192 ∧ i = .int .i64 ((k : Int) - 1) ∧ PSn w wr x c (x / 2 ^ k / c) (x / 2 ^ k % c)
set_option maxRecDepth 100000 in
set_option maxHeartbeats 6000000 in
theorem parts_neg (x c : Nat) (hx : x < 65536 ^ 12) (hc0 : 0 < c) (hc : c < 9223372036854775808) (w : World) :
  Calls Tryz.prog 103 #[numV true (digI x), numV false (digI c)] w fun e w' => e = .returned (.tuple #[numV false (digI (x / c)), .int .i64 (cmpN (x % c + x % c) c), .bool (!decide (x % c = 0))]) ∧ Ext w w' := by
 have S0 : PSn w (((((w.alloc (.cells (numC true (digI x)) 153)).alloc (.cells (numC false (digI c)) 153)).alloc (.cells (numC false (fun _ => 0)) 153)).alloc (.cells (numC false (fun _ => 0)) 153)).alloc (.cells (numC false (fun _ => 0)) 153)) x c 0 0 := by
  have e1 : (w.alloc (.cells (numC true (digI x)) 153)).heap.size = w.heap.size + 1 := by simp
  have e2 : ((w.alloc (.cells (numC true (digI x)) 153)).alloc (.cells (numC false (digI c)) 153)).heap.size = w.heap.size + 1 + 1 := by simp
  have e3 : (((w.alloc (.cells (numC true (digI x)) 153)).alloc (.cells (numC false (digI c)) 153)).alloc (.cells (numC false (fun _ => 0)) 153)).heap.size = w.heap.size + 1 + 1 + 1 := by simp
  have z : digI 0 = fun _ => 0 := by funext i; simp [digI, dig]
  have B2 := Blk.two12 (w.alloc (.cells (numC true (digI x)) 153)) 153 153 (numC false (digI c)) (numC false (fun _ => 0))
  rw [e1] at B2
  have B3 := Blk.two12 ((w.alloc (.cells (numC true (digI x)) 153)).alloc (.cells (numC false (digI c)) 153)) 153 153 (numC false (fun _ => 0)) (numC false (fun _ => 0))
  rw [e2] at B3
  have B4 := Blk.two12 (((w.alloc (.cells (numC true (digI x)) 153)).alloc (.cells (numC false (digI c)) 153)).alloc (.cells (numC false (fun _ => 0)) 153)) 153 153 (numC false (fun _ => 0)) (numC false (fun _ => 0))
  rw [e3] at B4
  refine ⟨((((Blk.new w _ _).alloc _).alloc _).alloc _).alloc _, (((Blk.two12 w _ _ _ _).alloc _).alloc _).alloc _, (B2.alloc _).alloc _, ?_, ?_, (((((Ext.refl w).alloc _).alloc _).alloc _).alloc _).alloc _⟩
  ·rw [z]; exact B3.alloc _
  ·rw [z]; exact B4
 have hz : x / 2 ^ 192 = 0 := Nat.div_eq_of_lt (by rw [← pow12]; exact hx)
 have H0 := Lib.hid (show PartRelN w x c (.int .i64 191) _ from ⟨192, by omega, rfl, by rw [hz, Nat.zero_div, Nat.zero_mod]; exact S0⟩)
 clear hz
 replace hx := Lib.hid hx
 clear S0
 go_enter Tryz.func103, Tryz.ntmps103
 go_wp2_with fail
 go_loopw [9] (fun i wr => PartRelN w x c i wr) (fun i _ => (intOf i + 1).toNat)
 case atStart => exact H0.out
 case round =>
  clear H0
  obtain ⟨k, hk, rfl, hS⟩ := hrel
  rcases k with _ | j
  ·have e0 : (((0 : Nat) : Int) - 1) = -1 := rfl
   rw [e0]
   have ex : x / 2 ^ 0 = x := by simp
   rw [ex] at hS
   have hR : x % c < c := Nat.mod_lt _ hc0
   obtain ⟨Q, hQ⟩ : ∃ Q, x / c = Q := ⟨_, rfl⟩
   obtain ⟨R, hRR⟩ : ∃ R, x % c = R := ⟨_, rfl⟩
   rw [hQ, hRR] at hS
   rw [hRR] at hR
   have hQ' := Lib.hid hQ
   have hR' := Lib.hid hRR
   obtain ⟨zb, hzb⟩ : ∃ zb, decide (R = 0) = zb := ⟨_, rfl⟩
   obtain ⟨zc, hzc⟩ : ∃ zc, cmpN (R + R) c = zc := ⟨_, rfl⟩
   replace hzb := Lib.hid hzb
   replace hzc := Lib.hid hzc
   clear hQ hRR ex
   have hcB : c < 65536 ^ 12 := by have := hc; omega
   have hRB : R < 65536 ^ 12 := by have := hc; omega
   have hRRB : R + R < 65536 ^ 12 := by have := hc; omega
   replace hcB := Lib.hid hcB
   replace hRB := Lib.hid hRB
   replace hRRB := Lib.hid hRRB
   obtain ⟨q1, q1'⟩ := hS.b1.cells
   obtain ⟨q3, q3'⟩ := hS.b3.cells
   obtain ⟨q4, q4'⟩ := hS.b4.cells
   have l1 := hS.b1.lt
   have l3 := hS.b3.lt
   have l4 := hS.b4.lt
   unfold numC at q1 q3 q4
   have HS0 := Lib.hid (fun W (hx : Ext wr W) => hS.to hx)
   have HQ := Lib.hid (fun W (hx : Ext wr W) => PSn.all39 (hS.to hx))
   clear q1 q1' q3 q3' q4 q4' hS
   obtain ⟨s0, s1, s2, s3, s4, s5, s6, s7, s8, s9, s10, s11, s12, s13, s14, s15, s16, s17, s18, s19, s20, s21, s22, s23, s24, s25, s26, s27, s28, s29, s30, s31, s32, s33, s34, s35, s36, s37, s38⟩ := HQ.out _ (Ext.refl wr)
   go_wp2_with fail
   go_region_held3 (fun w' => w'.cell? ⟨w.heap.size + 1, 0, none⟩ = some (.bool false) ∧ w'.cell? ⟨w.heap.size + 1, 1, none⟩ = some (.int .i64 (digI c 0)) ∧ w'.cell? ⟨w.heap.size + 1, 2, none⟩ = some (.int .i64 (digI c 1)) ∧ w'.cell? ⟨w.heap.size + 1, 3, none⟩ = some (.int .i64 (digI c 2)) ∧ w'.cell? ⟨w.heap.size + 1, 4, none⟩ = some (.int .i64 (digI c 3)) ∧ w'.cell? ⟨w.heap.size + 1, 5, none⟩ = some (.int .i64 (digI c 4)) ∧ w'.cell? ⟨w.heap.size + 1, 6, none⟩ = some (.int .i64 (digI c 5)) ∧ w'.cell? ⟨w.heap.size + 1, 7, none⟩ = some (.int .i64 (digI c 6)) ∧ w'.cell? ⟨w.heap.size + 1, 8, none⟩ = some (.int .i64 (digI c 7)) ∧ w'.cell? ⟨w.heap.size + 1, 9, none⟩ = some (.int .i64 (digI c 8)) ∧ w'.cell? ⟨w.heap.size + 1, 10, none⟩ = some (.int .i64 (digI c 9)) ∧ w'.cell? ⟨w.heap.size + 1, 11, none⟩ = some (.int .i64 (digI c 10)) ∧ w'.cell? ⟨w.heap.size + 1, 12, none⟩ = some (.int .i64 (digI c 11)) ∧ w'.cell? ⟨w.heap.size + 1 + 1 + 1, 0, none⟩ = some (.bool false) ∧ w'.cell? ⟨w.heap.size + 1 + 1 + 1, 1, none⟩ = some (.int .i64 (digI Q 0)) ∧ w'.cell? ⟨w.heap.size + 1 + 1 + 1, 2, none⟩ = some (.int .i64 (digI Q 1)) ∧ w'.cell? ⟨w.heap.size + 1 + 1 + 1, 3, none⟩ = some (.int .i64 (digI Q 2)) ∧ w'.cell? ⟨w.heap.size + 1 + 1 + 1, 4, none⟩ = some (.int .i64 (digI Q 3)) ∧ w'.cell? ⟨w.heap.size + 1 + 1 + 1, 5, none⟩ = some (.int .i64 (digI Q 4)) ∧ w'.cell? ⟨w.heap.size + 1 + 1 + 1, 6, none⟩ = some (.int .i64 (digI Q 5)) ∧ w'.cell? ⟨w.heap.size + 1 + 1 + 1, 7, none⟩ = some (.int .i64 (digI Q 6)) ∧ w'.cell? ⟨w.heap.size + 1 + 1 + 1, 8, none⟩ = some (.int .i64 (digI Q 7)) ∧ w'.cell? ⟨w.heap.size + 1 + 1 + 1, 9, none⟩ = some (.int .i64 (digI Q 8)) ∧ w'.cell? ⟨w.heap.size + 1 + 1 + 1, 10, none⟩ = some (.int .i64 (digI Q 9)) ∧ w'.cell? ⟨w.heap.size + 1 + 1 + 1, 11, none⟩ = some (.int .i64 (digI Q 10)) ∧ w'.cell? ⟨w.heap.size + 1 + 1 + 1, 12, none⟩ = some (.int .i64 (digI Q 11)) ∧ w'.cell? ⟨w.heap.size + 1 + 1 + 1 + 1, 0, none⟩ = some (.bool false) ∧ w'.cell? ⟨w.heap.size + 1 + 1 + 1 + 1, 1, none⟩ = some (.int .i64 (digI R 0)) ∧ w'.cell? ⟨w.heap.size + 1 + 1 + 1 + 1, 2, none⟩ = some (.int .i64 (digI R 1)) ∧ w'.cell? ⟨w.heap.size + 1 + 1 + 1 + 1, 3, none⟩ = some (.int .i64 (digI R 2)) ∧ w'.cell? ⟨w.heap.size + 1 + 1 + 1 + 1, 4, none⟩ = some (.int .i64 (digI R 3)) ∧ w'.cell? ⟨w.heap.size + 1 + 1 + 1 + 1, 5, none⟩ = some (.int .i64 (digI R 4)) ∧ w'.cell? ⟨w.heap.size + 1 + 1 + 1 + 1, 6, none⟩ = some (.int .i64 (digI R 5)) ∧ w'.cell? ⟨w.heap.size + 1 + 1 + 1 + 1, 7, none⟩ = some (.int .i64 (digI R 6)) ∧ w'.cell? ⟨w.heap.size + 1 + 1 + 1 + 1, 8, none⟩ = some (.int .i64 (digI R 7)) ∧ w'.cell? ⟨w.heap.size + 1 + 1 + 1 + 1, 9, none⟩ = some (.int .i64 (digI R 8)) ∧ w'.cell? ⟨w.heap.size + 1 + 1 + 1 + 1, 10, none⟩ = some (.int .i64 (digI R 9)) ∧ w'.cell? ⟨w.heap.size + 1 + 1 + 1 + 1, 11, none⟩ = some (.int .i64 (digI R 10)) ∧ w'.cell? ⟨w.heap.size + 1 + 1 + 1 + 1, 12, none⟩ = some (.int .i64 (digI R 11)))
    (first | (with_reducible exact HQ.out _ (Ext.refl wr).drew) | (with_reducible exact HQ.out _ hx5.out) | (with_reducible exact HQ.out _ hx6.out) | (with_reducible exact HQ.out _ hx7.out) | (with_reducible exact HQ7.out))
    (first
    | (go_at_call 105; refine (plus_same false R R hRB.out hRB.out hRRB.out _).mono ?_; rintro e w5 ⟨rfl, hx5⟩; rw [Bool.false_and]; have hx5 := Lib.hid (Ext.trans (Ext.refl wr).drew hx5))
    | (go_at_call 134; refine (size_any false false (R + R) c hRRB.out hcB.out _).mono ?_; rintro e w6 ⟨rfl, hx6⟩; rw [hzc.out]; have hx6 := Lib.hid (hx5.out.trans hx6))
    | (go_at_call 136; refine (zero_any false (digI R) _).mono ?_; rintro e w7 ⟨rfl, hx7⟩; rw [allZ_dig hRB.out, hzb.out]; have hx7 := Lib.hid (hx6.out.trans hx7); have S7 := HS0.out _ hx7.out; have HQ7 := Lib.hid (S7.far2 false (digI Q)); unfold put13W at HQ7; obtain ⟨qf, qf'⟩ := S7.b2.cells; unfold numC at qf))
   all_goals
    go_wp2_with fail
    exact bodyPost_ret (results_ctt rfl rfl (ld_num (put13 (s := false) (f := digI Q) S7.b2))) rfl ⟨by rw [hQ'.out, hR'.out, hzb.out, hzc.out]; rfl, ext13 S7.ext (by omega)⟩
  ·have e0 : (((j + 1 : Nat) : Int) - 1) = (j : Int) := by omega
   rw [e0]
   have hq2 : x / 2 ^ (j + 1) / c + x / 2 ^ (j + 1) / c ≤ x / 2 ^ j := by
    have h1 : x / 2 ^ (j + 1) / c ≤ x / 2 ^ (j + 1) := Nat.div_le_self _ _
    have h2 : x / 2 ^ (j + 1) = x / 2 ^ j / 2 := by rw [Nat.pow_succ, Nat.div_div_eq_div_mul]
    omega
   have hq3 : x / 2 ^ j ≤ x := Nat.div_le_self _ _
   have hrc : x / 2 ^ (j + 1) % c < c := Nat.mod_lt _ hc0
   have hdb := div_bit (x := x) (i := j) hc0 _ _ rfl rfl
   have hbit := bit_dig x j
   have hQ := Lib.hid (show x / 2 ^ (j + 1) / c + x / 2 ^ (j + 1) / c + 1 < 65536 ^ 12 + 1 from by have := hx.out; omega)
   have HN := Lib.hid (fun (W : World) (Q R : Nat) (h1 : x / 2 ^ j / c = Q) (h2 : x / 2 ^ j % c = R) (h : PSn w W x c Q R) => (show PartRelN w x c (.int .i64 ((j : Int) - 1)) W from ⟨j, by omega, rfl, by rw [h1, h2]; exact h⟩))
   replace hdb := Lib.hid hdb
   replace hbit := Lib.hid hbit
   clear hq2 hq3
   generalize x / 2 ^ (j + 1) / c = Q at *
   generalize x / 2 ^ (j + 1) % c = R at *
   obtain ⟨q3, q3'⟩ := hS.b3.cells
   have l3 := hS.b3.lt
   unfold numC at q3
   go_wp2_with fail
   refine (plus_same false Q Q (by have := hQ.out; omega) (by have := hQ.out; omega) (by have := hQ.out; omega) _).mono ?_
   rintro e w1 ⟨rfl, hx1⟩
   rw [Bool.false_and]
   have S1 := hS.to hx1
   clear q3 q3' hS hx1
   obtain ⟨q3, q3'⟩ := S1.b3.cells
   unfold numC at q3
   go_upto_region 6 with (fail)
   have S2 := S1.setQ (Q + Q)
   unfold put13W at S2
   generalize (((((((((((((w1.setCell ⟨w.heap.size + 1 + 1 + 1, 0, none⟩ (.bool false)).setCell ⟨w.heap.size + 1 + 1 + 1, 1, none⟩ (.int .i64 (digI (Q + Q) 0))).setCell ⟨w.heap.size + 1 + 1 + 1, 2, none⟩ (.int .i64 (digI (Q + Q) 1))).setCell ⟨w.heap.size + 1 + 1 + 1, 3, none⟩ (.int .i64 (digI (Q + Q) 2))).setCell ⟨w.heap.size + 1 + 1 + 1, 4, none⟩ (.int .i64 (digI (Q + Q) 3))).setCell ⟨w.heap.size + 1 + 1 + 1, 5, none⟩ (.int .i64 (digI (Q + Q) 4))).setCell ⟨w.heap.size + 1 + 1 + 1, 6, none⟩ (.int .i64 (digI (Q + Q) 5))).setCell ⟨w.heap.size + 1 + 1 + 1, 7, none⟩ (.int .i64 (digI (Q + Q) 6))).setCell ⟨w.heap.size + 1 + 1 + 1, 8, none⟩ (.int .i64 (digI (Q + Q) 7))).setCell ⟨w.heap.size + 1 + 1 + 1, 9, none⟩ (.int .i64 (digI (Q + Q) 8))).setCell ⟨w.heap.size + 1 + 1 + 1, 10, none⟩ (.int .i64 (digI (Q + Q) 9))).setCell ⟨w.heap.size + 1 + 1 + 1, 11, none⟩ (.int .i64 (digI (Q + Q) 10))).setCell ⟨w.heap.size + 1 + 1 + 1, 12, none⟩ (.int .i64 (digI (Q + Q) 11))) = W2 at S2 ⊢
   clear q3 q3' S1
   obtain ⟨q4, q4'⟩ := S2.b4.cells
   have l4 := S2.b4.lt
   unfold numC at q4
   go_wp2_with fail
   refine (plus_same false R R (by have := hc; omega) (by have := hc; omega) (by have := hc; omega) _).mono ?_
   rintro e w3 ⟨rfl, hx3⟩
   rw [Bool.false_and]
   have S3 := S2.to hx3
   clear q4 q4' S2 hx3 l4
   obtain ⟨q4, q4'⟩ := S3.b4.cells
   unfold numC at q4
   go_upto_region 7 with (fail)
   have S4 := S3.setR (R + R)
   unfold put13W at S4
   generalize (((((((((((((w3.setCell ⟨w.heap.size + 1 + 1 + 1 + 1, 0, none⟩ (.bool false)).setCell ⟨w.heap.size + 1 + 1 + 1 + 1, 1, none⟩ (.int .i64 (digI (R + R) 0))).setCell ⟨w.heap.size + 1 + 1 + 1 + 1, 2, none⟩ (.int .i64 (digI (R + R) 1))).setCell ⟨w.heap.size + 1 + 1 + 1 + 1, 3, none⟩ (.int .i64 (digI (R + R) 2))).setCell ⟨w.heap.size + 1 + 1 + 1 + 1, 4, none⟩ (.int .i64 (digI (R + R) 3))).setCell ⟨w.heap.size + 1 + 1 + 1 + 1, 5, none⟩ (.int .i64 (digI (R + R) 4))).setCell ⟨w.heap.size + 1 + 1 + 1 + 1, 6, none⟩ (.int .i64 (digI (R + R) 5))).setCell ⟨w.heap.size + 1 + 1 + 1 + 1, 7, none⟩ (.int .i64 (digI (R + R) 6))).setCell ⟨w.heap.size + 1 + 1 + 1 + 1, 8, none⟩ (.int .i64 (digI (R + R) 7))).setCell ⟨w.heap.size + 1 + 1 + 1 + 1, 9, none⟩ (.int .i64 (digI (R + R) 8))).setCell ⟨w.heap.size + 1 + 1 + 1 + 1, 10, none⟩ (.int .i64 (digI (R + R) 9))).setCell ⟨w.heap.size + 1 + 1 + 1 + 1, 11, none⟩ (.int .i64 (digI (R + R) 10))).setCell ⟨w.heap.size + 1 + 1 + 1 + 1, 12, none⟩ (.int .i64 (digI (R + R) 11))) = W4 at S4 ⊢
   clear q4 q4' S3
   have hj16 : j / 16 < 12 := by omega
   have c1 := (S4.b0.cell (1 + j / 16)).trans (numC_at true _ (j / 16) hj16)
   have e2 : ((j : Int) / 16).toNat = j / 16 := by omega
   have e3 : (0 : Int) ≤ (j : Int) / 16 := by omega
   have e4 : (j : Int) / 16 < 12 := by omega
   have e5 : ((j : Int) % 16).toNat = j % 16 := by omega
   have e6 : (0 : Int) ≤ (j : Int) % 16 := by omega
   have e7 : (j : Int) % 16 < 16 := by omega
   have hD : digI x (j / 16) = ((dig x (j / 16) : Nat) : Int) := rfl
   rw [hD] at c1
   have hDl := dig_lt x (j / 16)
   clear hD
   obtain ⟨b, hb⟩ : ∃ b, x / 2 ^ j % 2 = b := ⟨_, rfl⟩
   have hb1 : b < 2 := by rw [← hb]; exact Nat.mod_lt _ (by decide)
   have hbD := hbit.out
   rw [hb] at hbD hdb
   replace hb := Lib.hid hb
   clear hbit
   generalize dig x (j / 16) = D at *
   have e8 : ((D : Int) / 2 ^ (j % 16)).tmod 2 = (b : Int) := by
    rw [← hbD, show ((D : Int) / 2 ^ (j % 16)) = ((D / 2 ^ (j % 16) : Nat) : Int) by simp]
    rw [Int.tmod_eq_emod_of_nonneg (Int.natCast_nonneg _)]
    simp
   clear hbD
   go_upto_if 29 with (fail)
   go_cut [30] (fun _ wx => PSn w wx x c (Q + Q) (R + R + b))
   case first =>
    clear c1 e2 e3 e4 e5 e6 e7 e8 hDl
    by_cases hb0 : b = 0
    ·have hbb : ((b : Int) == 1) = false := by rw [beq_eq_false_iff_ne]; omega
     have HP := Lib.hid (show PSn w W4 x c (Q + Q) (R + R + b) by rw [hb0, Nat.add_zero]; exact S4)
     replace hb0 := Lib.hid hb0
     clear S4
     go_wp2_with fail
     go_meet
     exact HP.out
    ·have hbb : ((b : Int) == 1) = true := by rw [beq_iff_eq]; omega
     have hbe : b = 1 := by omega
     replace hbe := Lib.hid hbe
     replace hb0 := Lib.hid hb0
     obtain ⟨q4, q4'⟩ := S4.b4.cells
     have l4 := S4.b4.lt
     unfold numC at q4
     have HS4 := Lib.hid (fun W (hx : Ext W4 W) => S4.to hx)
     go_wp2_with fail
     go_region_law (first
      | (go_simp; go_at_call 101; refine (of_one _).mono ?_; rintro e w5 ⟨rfl, hx5⟩; have S5 := HS4.out _ ((Ext.refl W4).drew.trans hx5); obtain ⟨q5, q5'⟩ := S5.b4.cells; unfold numC at q5)
      | (go_simp; go_at_call 105; refine (plus_same false (R + R) 1 (by have := hc; omega) (by decide) (by have := hc; omega) _).mono ?_; rintro e w6 ⟨rfl, hx6⟩; rw [Bool.false_and]; have S6 := S5.to hx6; obtain ⟨q6, q6'⟩ := S6.b4.cells; unfold numC at q6))
     all_goals
      have HP := Lib.hid (show PSn w (put13W w6 (w.heap.size + 1 + 1 + 1 + 1) false (digI (R + R + 1))) x c (Q + Q) (R + R + b) by rw [hbe.out]; exact S6.setR (R + R + 1))
      unfold put13W at HP
      go_wp2_with fail
      go_meet
      exact HP.out
   case rest =>
    clear S4 c1 e2 e3 e4 e5 e6 e7 e8 hDl
    obtain ⟨W5, hW5⟩ : ∃ W5, W5 = W4 := ⟨_, rfl⟩
    clear hW5
    have S5 := hcut
    clear hcut
    have hM : R + R + b < 65536 ^ 12 := by have := hc; omega
    have hcB : c < 65536 ^ 12 := by have := hc; omega
    replace hM := Lib.hid hM
    replace hcB := Lib.hid hcB
    obtain ⟨q4, q4'⟩ := S5.b4.cells
    obtain ⟨q1, q1'⟩ := S5.b1.cells
    unfold numC at q4 q1
    go_wp2_with fail
    refine (size_any false false (R + R + b) c hM.out hcB.out _).mono ?_
    rintro e w6 ⟨rfl, hx6⟩
    have S6 := S5.to hx6
    clear q4 q4' q1 q1' S5 hx6
    by_cases hle : c ≤ R + R + b
    ·have hcm : ∃ z : Int, cmpN (R + R + b) c = z ∧ 0 ≤ z := ⟨_, rfl, cmpN_ge hle⟩
     obtain ⟨z, hz, hz0⟩ := hcm
     rw [hz]
     replace hz := Lib.hid hz
     have hzd : decide (0 ≤ z) = true := by simpa using hz0
     obtain ⟨h1, h2⟩ := hdb.out
     rw [if_pos (by omega)] at h1 h2
     have HE := Lib.hid (fun W (h : PSn w W x c (Q + Q + 1) (R + R + b - c)) => HN.out W (Q + Q + 1) (R + R + b - c) (by rw [h1]; omega) (by rw [h2]; omega) h)
     clear h1 h2 hdb HN
     obtain ⟨q1, q1'⟩ := S6.b1.cells
     have l1 := S6.b1.lt
     have S7 := S6.setN
     clear S6
     unfold numC at q1
     go_wp2_with fail
     generalize w6.setCell ⟨w.heap.size + 1, 0, none⟩ (.bool false) = W7 at S7 ⊢
     clear q1 q1' l1
     obtain ⟨q1, q1'⟩ := S7.b1.cells
     obtain ⟨q4, q4'⟩ := S7.b4.cells
     have l4 := S7.b4.lt
     unfold numC at q1 q4
     have HS7 := Lib.hid (fun W (hx : Ext W7 W) => S7.to hx)
     have hcz := Lib.hid (show (!false && decide (c ≠ 0)) = true by simp; omega)
     replace hle := Lib.hid hle
     go_region_law (first
      | (go_simp; go_at_call 135; refine (less_any false c hcB.out _).mono ?_; rintro e w8 ⟨rfl, hx8⟩; rw [hcz.out]; have S8 := HS7.out _ ((Ext.refl W7).drew.trans hx8); obtain ⟨q8, q8'⟩ := S8.b4.cells; unfold numC at q8)
      | (go_simp; go_at_call 105; refine (plus_diff false true (R + R + b) c hM.out hle.out rfl _).mono ?_; rintro e w9 ⟨rfl, hx9⟩; rw [Bool.false_and]; have S9 := S8.to hx9; obtain ⟨q9, q9'⟩ := S9.b4.cells; unfold numC at q9))
     all_goals
      have SA := S9.setR (R + R + b - c)
      unfold put13W at SA
      clear q1 q1' q4 q4' q8 q8' q9 q9' S8 S9 S7 HS7
      generalize (((((((((((((w9.setCell ⟨w.heap.size + 1 + 1 + 1 + 1, 0, none⟩ (.bool false)).setCell ⟨w.heap.size + 1 + 1 + 1 + 1, 1, none⟩ (.int .i64 (digI (R + R + b - c) 0))).setCell ⟨w.heap.size + 1 + 1 + 1 + 1, 2, none⟩ (.int .i64 (digI (R + R + b - c) 1))).setCell ⟨w.heap.size + 1 + 1 + 1 + 1, 3, none⟩ (.int .i64 (digI (R + R + b - c) 2))).setCell ⟨w.heap.size + 1 + 1 + 1 + 1, 4, none⟩ (.int .i64 (digI (R + R + b - c) 3))).setCell ⟨w.heap.size + 1 + 1 + 1 + 1, 5, none⟩ (.int .i64 (digI (R + R + b - c) 4))).setCell ⟨w.heap.size + 1 + 1 + 1 + 1, 6, none⟩ (.int .i64 (digI (R + R + b - c) 5))).setCell ⟨w.heap.size + 1 + 1 + 1 + 1, 7, none⟩ (.int .i64 (digI (R + R + b - c) 6))).setCell ⟨w.heap.size + 1 + 1 + 1 + 1, 8, none⟩ (.int .i64 (digI (R + R + b - c) 7))).setCell ⟨w.heap.size + 1 + 1 + 1 + 1, 9, none⟩ (.int .i64 (digI (R + R + b - c) 8))).setCell ⟨w.heap.size + 1 + 1 + 1 + 1, 10, none⟩ (.int .i64 (digI (R + R + b - c) 9))).setCell ⟨w.heap.size + 1 + 1 + 1 + 1, 11, none⟩ (.int .i64 (digI (R + R + b - c) 10))).setCell ⟨w.heap.size + 1 + 1 + 1 + 1, 12, none⟩ (.int .i64 (digI (R + R + b - c) 11))) = WA at SA ⊢
      obtain ⟨qa, qa'⟩ := SA.b3.cells
      have la := SA.b3.lt
      unfold numC at qa
      have HSA := Lib.hid (fun W (hx : Ext WA W) => SA.to hx)
      go_wp2_with fail
      go_region_law (first
       | (go_simp; go_at_call 101; refine (of_one _).mono ?_; rintro e wb ⟨rfl, hxb⟩; have SB := HSA.out _ ((Ext.refl WA).drew.trans hxb); obtain ⟨qb, qb'⟩ := SB.b3.cells; unfold numC at qb)
       | (go_simp; go_at_call 105; refine (plus_same false (Q + Q) 1 (by have := hQ.out; omega) (by decide) (by have := hQ.out; omega) _).mono ?_; rintro e wc ⟨rfl, hxc⟩; rw [Bool.false_and]; have SC := SB.to hxc; obtain ⟨qc, qc'⟩ := SC.b3.cells; unfold numC at qc))
      all_goals
       have HP := Lib.hid (HE.out _ (SC.setQ (Q + Q + 1)))
       unfold put13W at HP
       go_wp2_with fail
       go_roundw
       case rel => exact HP.out
       case measure => simp [intOf] <;> omega
    ·have hcm : cmpN (R + R + b) c = -1 := by unfold cmpN; rw [if_pos (by omega)]
     rw [hcm]
     replace hcm := Lib.hid hcm
     obtain ⟨h1, h2⟩ := hdb.out
     rw [if_neg (by omega)] at h1 h2
     have HE := Lib.hid (HN.out _ (Q + Q) (R + R + b) (by rw [h1]; omega) (by rw [h2]; omega) S6)
     clear h1 h2 hdb HN S6
     go_wp2_with fail
     go_roundw
     case rel => exact HE.out
     case measure => simp [intOf] <;> omega
end Go.Proofs.YtjaponmpfdpemaaGreatDoor
