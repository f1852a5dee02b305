/-
  The reference's numbers below nothing: as an int; the sign (printed by tools/genNa.py).
-/
import Derived.Test.YtjaponmpfdpemaaGreatDoorBb35
import Derived.Test.YtjaponmpfdpemaaGreatDoorBb37
import Derived.Deep.RegionHeld3
set_option linter.unusedSimpArgs false
set_option linter.unusedVariables false
namespace Go.Proofs.YtjaponmpfdpemaaGreatDoor
open Go.RowKit
set_option maxRecDepth 100000 in
set_option maxHeartbeats 1000000 in
theorem int_neg (n : Nat) (h0 : 0 < n) (hn : n < 9223372036854775808) (w : World) :
  Calls Tryz.prog 137 #[numV true (digI n)] w fun e w' => e = .returned (.tuple #[.int .i64 (-(n : Int)), .bool true]) ∧ Ext w w' := by
 have B := Blk.new w 153 (numC true (digI n))
 have X0 := (Ext.refl w).alloc (.cells (numC true (digI n)) 153)
 obtain ⟨W1, hW1⟩ : ∃ W1, w.alloc (.cells (numC true (digI n)) 153) = W1 := ⟨_, rfl⟩
 have HW := Lib.hid hW1
 rw [hW1] at B X0
 clear hW1
 unfold numC at HW
 replace h0 := Lib.hid h0
 go_enter Tryz.func137, Tryz.ntmps137
 go_wp2_with fail
 rw [HW.out]
 clear HW
 have hn' := Lib.hid hn
 clear hn
 go_loopw [4] (fun i wr => IntRel n W1 i wr) (fun i _ => 12 - (intOf i).toNat)
 case atStart => exact ⟨4, by omega, by omega, rfl, fun j h1 h2 => by omega, rfl⟩
 case round =>
  obtain ⟨k, hk4, hk, rfl, hz, rfl⟩ := hrel
  by_cases hlt : k < 12
  ·have hd : decide ((k : Int) < 12) = true := by simp; omega
   have c1 := (B.cell (1 + k)).trans (numC_at true _ k hlt)
   have e5 : (k : Int) < 12 := by omega
   have hdz : dig n k = 0 := dig_hi (n := n) (Nat.lt_of_lt_of_le hn'.out (by decide)) hk4
   have hD : digI n k = 0 := by unfold digI; omega
   rw [hD] at c1
   have HN := Lib.hid (show IntRel n W1 (.int .i64 ((k + 1 : Nat) : Int)) W1 from ⟨k + 1, by omega, by omega, rfl, fun j h1 h2 => by
    rcases Nat.lt_or_ge j k with h | h
    ·exact hz j h1 h
    ·rw [show j = k by omega]; exact hdz, rfl⟩)
   clear hz hD
   replace hdz := Lib.hid hdz
   go_wp2_with fail
   go_roundw
   case rel => exact HN.out
   case measure => simp [intOf] <;> omega
  ·have hk12 : k = 12 := by omega
   subst hk12
   have h4 := four_digs (n := n) (Nat.lt_of_lt_of_le hn'.out (by decide))
   have d0 : 0 ≤ digI n 0 ∧ digI n 0 < 65536 := by have := dig_lt n 0; unfold digI; omega
   have d1 : 0 ≤ digI n 1 ∧ digI n 1 < 65536 := by have := dig_lt n 1; unfold digI; omega
   have d2 : 0 ≤ digI n 2 ∧ digI n 2 < 65536 := by have := dig_lt n 2; unfold digI; omega
   have d3 : 0 ≤ digI n 3 ∧ digI n 3 < 65536 := by have := dig_lt n 3; unfold digI; omega
   obtain ⟨q, q'⟩ := B.cells
   unfold numC at q
   clear hz
   generalize digI n 0 = a0 at *
   generalize digI n 1 = a1 at *
   generalize digI n 2 = a2 at *
   generalize digI n 3 = a3 at *
   obtain ⟨d00, d01⟩ := d0
   obtain ⟨d10, d11⟩ := d1
   obtain ⟨d20, d21⟩ := d2
   obtain ⟨d30, d31⟩ := d3
   replace h4 := Lib.hid h4
   go_upto_region 7 with (fail)
   rw [h4.out]
   have hb0 : (0 : Int) < (n : Int) := by have := h0.out; omega
   have hb1 : (n : Int) < 9223372036854775808 := by have := hn'.out; omega
   have hd2 : decide ((9223372036854775808 : Int) < (n : Int)) = false := decide_eq_false (by omega)
   have e1 : IntKind.u64.wrap (-(n : Int)) = 18446744073709551616 - (n : Int) := by rw [IntKind.wrap_u64]; omega
   have e2 : IntKind.i64.wrap (18446744073709551616 - (n : Int)) = -(n : Int) := by rw [IntKind.wrap_i64]; omega
   go_wp2_with fail
   go_ret2
   exact ⟨by first | rfl | simp, X0⟩
set_option maxRecDepth 100000 in
theorem told_neg (n : Nat) (h0 : 0 < n) (hn : n < 9223372036854775808) (w : World) :
  Calls Tryz.prog 106 #[numV true (digI n)] w fun e w' => e = .returned (.tuple #[.int .i64 (-(n : Int)), .int .i64 0]) ∧ Ext w w' := by
 have X0 := (Ext.refl w).alloc (.cells (numC true (digI n)) 153)
 have HI := Lib.hid (int_neg n h0 hn)
 unfold numC at X0
 clear h0 hn
 go_enter Tryz.func106, Tryz.ntmps106
 go_wp2_with fail
 refine (HI.out _).mono ?_
 rintro e w1 ⟨rfl, hx1⟩
 go_wp2_with fail
 go_ret2
 exact ⟨rfl, X0.trans hx1⟩
def sgnB (s : Bool) (n : Nat) : Int := if n = 0 then 0 else if s then -1 else 1
set_option maxRecDepth 100000 in
theorem sgn_any01 (s : Bool) (n : Nat) (hn : n < 65536 ^ 12) (w : World) :
  Calls Tryz.prog 104 #[numV s (digI n)] w fun e w' => e = .returned (.int .i64 (sgnB s n)) ∧ Ext w w' := by
 have HZ := Lib.hid (fun w => zero_any s (digI n) w)
 rw [allZ_dig hn] at HZ
 have X0 := (Ext.refl w).alloc (.cells (numC s (digI n)) 153)
 have B := Blk.new w 153 (numC s (digI n))
 have HB := Lib.hid (fun W (hx : Ext (w.alloc (.cells (numC s (digI n)) 153)) W) => B.ext hx)
 unfold numC at X0
 by_cases h : n = 0
 ·have e : sgnB s n = 0 := by unfold sgnB; rw [if_pos h]
  rw [e]
  rw [decide_eq_true h] at HZ
  clear e HB B
  replace h := Lib.hid h
  clear hn
  go_enter Tryz.func104, Tryz.ntmps104
  go_wp2_with fail
  refine (HZ.out _).mono ?_
  rintro e w1 ⟨rfl, hx1⟩
  go_wp2_with fail
  go_ret
  exact ⟨rfl, X0.trans hx1⟩
 ·rw [decide_eq_false h] at HZ
  have e := Lib.hid (show sgnB s n = if s then -1 else 1 by unfold sgnB; rw [if_neg h])
  replace h := Lib.hid h
  unfold numC at HB
  clear hn B
  go_enter Tryz.func104, Tryz.ntmps104
  go_wp2_with fail
  refine (HZ.out _).mono ?_
  rintro e w1 ⟨rfl, hx1⟩
  have B1 := HB.out _ hx1
  have c0 : w1.cell? ⟨w.heap.size, 0, none⟩ = some (.bool s) := B1.cell 0
  have l0 := B1.lt
  clear B1 HB
  cases s
  ·go_wp2_with fail
   go_ret
   exact ⟨by rw [e.out]; rfl, X0.trans hx1⟩
  ·go_wp2_with fail
   go_ret
   exact ⟨by rw [e.out]; rfl, X0.trans hx1⟩
end Go.Proofs.YtjaponmpfdpemaaGreatDoor
set_option linter.unusedSimpArgs false
set_option linter.unusedVariables false
namespace Go.Proofs.YtjaponmpfdpemaaGreatDoor
open Go.RowKit
def flN (s : Bool) (P c : Nat) : Nat := P / c + (if s = true ∧ P % c ≠ 0 then 1 else 0)
theorem flN_neg (m b c : Nat) (hc : 0 < c) : (-(m : Int) * (b : Int)) / (c : Int) = -((flN true (m * b) c : Nat) : Int) := by
 unfold flN
 have e : -(m : Int) * (b : Int) = -((m * b : Nat) : Int) := by rw [Int.neg_mul, Int.natCast_mul]
 rw [e]
 generalize m * b = P
 have hd := Nat.div_add_mod P c
 have hl := Nat.mod_lt P hc
 have hp : (P : Int) = (c : Int) * ((P / c : Nat) : Int) + ((P % c : Nat) : Int) := by rw [← Int.natCast_mul, ← Int.natCast_add, hd]
 generalize P / c = Q at *
 generalize P % c = R at *
 have hc' : (0 : Int) < (c : Int) := by omega
 by_cases hR : R = 0
 ·rw [if_neg (fun h => h.2 hR), hp, hR]
  have : -((c : Int) * (Q : Int) + ((0 : Nat) : Int)) = -(Q : Int) * (c : Int) := by rw [Int.neg_mul, Int.mul_comm]; simp
  rw [this, Int.mul_ediv_cancel _ (by omega)]
  simp
 ·rw [if_pos ⟨rfl, hR⟩, hp]
  rw [show -((c : Int) * (Q : Int) + (R : Int)) = ((c : Int) - (R : Int)) + -((Q : Int) + 1) * (c : Int) by rw [Int.neg_mul, Int.add_mul, Int.mul_comm (c : Int)]; omega]
  rw [Int.add_mul_ediv_right _ _ (by omega), Int.ediv_eq_zero_of_lt (by omega) (by omega)]
  simp
theorem flN_pos (m b c : Nat) : ((m : Int) * (b : Int)) / (c : Int) = ((flN false (m * b) c : Nat) : Int) := by
 unfold flN
 rw [if_neg (fun h => by cases h.1), Nat.add_zero, ← Int.natCast_mul, Int.natCast_ediv]
def FlSt (w : World) (g8 : Nat) (sP : Bool) (P Q : Nat) (z : Int) (zb : Bool) (v9 v10 v11 : Value) (W : World) : Prop :=
 ∃ (g9 : Nat) (W' : World), W' = W ∧ v9 = .pointer (some ⟨g9, 0, none⟩) ∧ v10 = .int .i64 z ∧ v11 = .bool zb ∧ Blk W g9 153 (numC false (digI Q)) ∧ Blk W g8 153 (numC sP (digI P)) ∧ g8 < g9 ∧ w.heap.size ≤ g8 ∧ Ext w W
theorem FlSt.put {w W : World} {g8 g9 P Q : Nat} {sP : Bool} {z : Int} {zb : Bool} {s' : Bool} {f' : Nat → Int} (B9 : Blk W g9 153 (numC s' f')) (B8 : Blk W g8 153 (numC sP (digI P))) (h : g8 < g9) (h8 : w.heap.size ≤ g8) (X : Ext w W) :
  FlSt w g8 sP P Q z zb (.pointer (some ⟨g9, 0, none⟩)) (.int .i64 z) (.bool zb) (((((((((((((W.setCell ⟨g9, 0, none⟩ (.bool false)).setCell ⟨g9, 1, none⟩ (.int .i64 (digI Q 0))).setCell ⟨g9, 2, none⟩ (.int .i64 (digI Q 1))).setCell ⟨g9, 3, none⟩ (.int .i64 (digI Q 2))).setCell ⟨g9, 4, none⟩ (.int .i64 (digI Q 3))).setCell ⟨g9, 5, none⟩ (.int .i64 (digI Q 4))).setCell ⟨g9, 6, none⟩ (.int .i64 (digI Q 5))).setCell ⟨g9, 7, none⟩ (.int .i64 (digI Q 6))).setCell ⟨g9, 8, none⟩ (.int .i64 (digI Q 7))).setCell ⟨g9, 9, none⟩ (.int .i64 (digI Q 8))).setCell ⟨g9, 10, none⟩ (.int .i64 (digI Q 9))).setCell ⟨g9, 11, none⟩ (.int .i64 (digI Q 10))).setCell ⟨g9, 12, none⟩ (.int .i64 (digI Q 11))) :=
 ⟨g9, _, rfl, rfl, rfl, rfl, put13 B9, far13 B8 (by omega), h, h8, ext13 X (by omega)⟩
theorem FlSt.new {w W : World} {g8 P Q : Nat} {sP : Bool} {z : Int} {zb : Bool} (B8 : Blk W g8 153 (numC sP (digI P))) (h8 : w.heap.size ≤ g8) (X : Ext w W) :
  FlSt w g8 sP P Q z zb (.pointer (some ⟨W.heap.size, 0, none⟩)) (.int .i64 z) (.bool zb) (W.alloc (.cells #[.bool false, .int .i64 (digI Q 0), .int .i64 (digI Q 1), .int .i64 (digI Q 2), .int .i64 (digI Q 3), .int .i64 (digI Q 4), .int .i64 (digI Q 5), .int .i64 (digI Q 6), .int .i64 (digI Q 7), .int .i64 (digI Q 8), .int .i64 (digI Q 9), .int .i64 (digI Q 10), .int .i64 (digI Q 11)] 153)) :=
 ⟨W.heap.size, _, rfl, rfl, rfl, rfl, Blk.new W _ (numC false (digI Q)), B8.alloc _, B8.lt, h8, X.alloc _⟩
set_option maxRecDepth 100000 in
set_option maxHeartbeats 4000000 in
theorem rfloor_s (s : Bool) (m b c : Nat) (hs : s = true → 0 < m) (hm : m < 4611686018427387904) (hb : b < 4611686018427387904) (hc0 : 0 < c) (hc : c < 9223372036854775808) (hE0 : flN (s && decide (m * b ≠ 0)) (m * b) c < 9223372036854775808) (w : World) :
  Calls Tryz.prog 59 #[.int .i64 (if s then -(m : Int) else (m : Int)), .int .i64 (b : Int), .int .i64 (c : Int)] w fun e w' => e = .returned (.tuple #[.int .i64 (if (s && decide (m * b ≠ 0)) then -((flN (s && decide (m * b ≠ 0)) (m * b) c : Nat) : Int) else ((flN (s && decide (m * b ≠ 0)) (m * b) c : Nat) : Int)), .int .i64 0]) ∧ Ext w w' := by
 have hcz : ((c : Int) == 0) = false := by rw [beq_eq_false_iff_ne]; omega
 have hcn : decide ((c : Int) < 0) = false := by simp
 have HOa : ∀ w, Calls Tryz.prog 101 #[.int .i64 (if s then -(m : Int) else (m : Int))] w fun e w' => e = .returned (numV s (digI m)) ∧ Ext w w' := by
  cases s with
  | true => exact fun w => of_neg m (hs rfl) (by omega) w
  | false => exact fun w => of_any01 m (by omega) w
 have HM : ∀ w, Calls Tryz.prog 102 #[numV s (digI m), numV false (digI b)] w fun e w' => e = .returned (numV (s && decide (m * b ≠ 0)) (digI (m * b))) ∧ Ext w w' := by
  cases s with
  | true => exact fun w => mul_neg m b (by omega) (by omega) w
  | false => exact fun w => mul_any01 m b (by omega) (by omega) w
 have hP := mul_lt (m := m) (n := b) (by omega) (by omega)
 obtain ⟨av, hav⟩ : ∃ v, (if s then -(m : Int) else (m : Int)) = v := ⟨_, rfl⟩
 rw [hav] at HOa ⊢
 clear hav
 obtain ⟨sP, hsP⟩ : ∃ t, (s && decide (m * b ≠ 0)) = t := ⟨_, rfl⟩
 have hsP0 : sP = true → m * b ≠ 0 := fun h => by rw [← hsP] at h; simp at h; exact fun e => by rcases Nat.mul_eq_zero.1 e with e | e <;> simp_all
 rw [hsP] at HM hE0 ⊢
 clear hsP
 obtain ⟨P, hPe⟩ : ∃ P, m * b = P := ⟨_, rfl⟩
 rw [hPe] at hP HM hE0 hsP0 ⊢
 have HPA : ∀ w, Calls Tryz.prog 103 #[numV sP (digI P), numV false (digI c)] w fun e w' => e = .returned (.tuple #[numV false (digI (P / c)), .int .i64 (cmpN (P % c + P % c) c), .bool (!decide (P % c = 0))]) ∧ Ext w w' := by
  cases sP with
  | true => exact parts_neg P c hP hc0 hc
  | false => exact nparts_any P c hP hc0 hc
 have HSg := Lib.hid (fun w => sgn_any01 sP P hP w)
 have hsg : (sgnB sP P != 0) = decide (P ≠ 0) := by
  unfold sgnB
  by_cases h : P = 0
  ·rw [if_pos h, decide_eq_false (fun x => x h)]; rfl
  ·rw [if_neg h, decide_eq_true h]; cases sP <;> rfl
 generalize sgnB sP P = sg at *
 replace hPe := Lib.hid hPe
 replace HOa := Lib.hid HOa
 replace HM := Lib.hid HM
 replace HPA := Lib.hid HPA
 obtain ⟨E, hE⟩ : ∃ E, flN sP P c = E := ⟨_, rfl⟩
 have hq : E < 9223372036854775808 := by rw [← hE]; exact hE0
 have hEz : sP = true → 0 < E := by
  intro h
  rw [← hE]
  unfold flN
  have := hsP0 h
  by_cases hr : P % c = 0
  ·rw [if_neg (fun x => x.2 hr)]
   have h2 := Nat.div_add_mod P c
   have : 0 < P / c := Nat.div_pos (by
    rcases Nat.lt_or_ge P c with h3 | h3
    ·rw [Nat.mod_eq_of_lt h3] at hr; omega
    ·exact h3) hc0
   omega
  ·rw [if_pos ⟨h, hr⟩]; exact Nat.succ_pos _
 rw [hE]
 obtain ⟨V, hV⟩ : ∃ V : Int, (if sP = true then -(E : Int) else (E : Int)) = V := ⟨_, rfl⟩
 rw [hV]
 replace hV := Lib.hid hV
 clear hE0
 replace hEz := Lib.hid hEz
 replace hE := Lib.hid hE
 replace hq := Lib.hid hq
 replace hsP0 := Lib.hid hsP0
 replace hs := Lib.hid hs
 go_enter Tryz.func59, Tryz.ntmps59
 go_wp2_with fail
 refine (HOa.out _).mono ?_
 rintro e w1 ⟨rfl, hx1⟩
 go_wp2_with fail
 refine (of_any01 b (by omega) _).mono ?_
 rintro e w2 ⟨rfl, hx2⟩
 go_wp2_with fail
 refine (HM.out _).mono ?_
 rintro e w3 ⟨rfl, hx3⟩
 have X3 := (hx1.trans hx2).trans hx3
 clear hx1 hx2 hx3 HOa HM
 go_upto_region 4 with (fail)
 have B8 := Blk.new w3 153 (numC sP (digI P))
 have X8 := X3.alloc (.cells (numC sP (digI P)) 153)
 generalize hW : w3.alloc (.cells (numC sP (digI P)) 153) = W4 at B8 X8
 unfold numC at hW
 rw [hW]
 clear hW
 have hg8 : w.heap.size ≤ w3.heap.size := X3.size
 clear X3
 generalize w3.heap.size = g8 at *
 obtain ⟨q8, q8'⟩ := B8.cells
 have l8 := B8.lt
 have HB8 := Lib.hid (fun W (hx : Ext W4 W) => B8.ext hx)
 unfold numC at q8
 obtain ⟨Q, hQ⟩ : ∃ Q, P / c = Q := ⟨_, rfl⟩
 obtain ⟨R, hRR⟩ : ∃ R, P % c = R := ⟨_, rfl⟩
 have hQP : Q ≤ P := by rw [← hQ]; exact Nat.div_le_self _ _
 have hEv : E = Q + (if sP = true ∧ R ≠ 0 then 1 else 0) := by rw [← hE.out]; unfold flN; rw [hQ, hRR]
 rw [hQ, hRR] at HPA
 have hQB : Q < 65536 ^ 12 := Nat.lt_of_le_of_lt hQP hP
 clear hQ hRR hQP
 obtain ⟨z, hz⟩ : ∃ z, cmpN (R + R) c = z := ⟨_, rfl⟩
 rw [hz] at HPA
 obtain ⟨zb, hzb⟩ : ∃ zb, (!decide (R = 0)) = zb := ⟨_, rfl⟩
 rw [hzb] at HPA
 have hEv2 : E = if (zb && sP) = true then Q + 1 else Q := by
  rw [hEv, ← hzb]
  by_cases h : R = 0
  ·rw [if_neg (fun x => x.2 h), if_neg (by simp [h])]; rfl
  ·cases sP with
   | true => rw [if_pos ⟨rfl, h⟩, if_pos (by simp [h])]
   | false => rw [if_neg (fun x => by cases x.1), if_neg (by simp)]; rfl
 clear hz hzb hEv
 replace hEv2 := Lib.hid hEv2
 replace hQB := Lib.hid hQB
 go_cut [9, 10, 11] (fun v9 v10 v11 wx => FlSt w g8 sP P Q z zb v9 v10 v11 wx)
 case first =>
  go_region_law (first
   | (go_simp; go_at_call 101; (with_reducible refine (of_any01 c hc W4.drew).mono ?_); rintro e w5 ⟨rfl, hx5⟩; have B5 := HB8.out _ ((Ext.refl W4).drew.trans hx5); have X5 := X8.trans ((Ext.refl W4).drew.trans hx5); obtain ⟨q5, q5'⟩ := B5.cells; have l5 := B5.lt; unfold numC at q5)
   | (go_simp; go_at_call 101; (with_reducible refine (of_any01 c hc (W4.alloc (.cells #[.bool false, .int .i64 0, .int .i64 0, .int .i64 0, .int .i64 0, .int .i64 0, .int .i64 0, .int .i64 0, .int .i64 0, .int .i64 0, .int .i64 0, .int .i64 0, .int .i64 0] 153)).drew).mono ?_); rintro e w5 ⟨rfl, hx5⟩; have X45 : Ext W4 w5 := ((Ext.refl W4).alloc (.cells #[.bool false, .int .i64 0, .int .i64 0, .int .i64 0, .int .i64 0, .int .i64 0, .int .i64 0, .int .i64 0, .int .i64 0, .int .i64 0, .int .i64 0, .int .i64 0, .int .i64 0] 153)).drew.trans hx5; have B5 := HB8.out _ X45; have X5 := X8.trans X45; have B95 : Blk w5 W4.heap.size _ (numC false (fun _ => 0)) := ((Blk.new W4 _ _).ext (Ext.refl _).drew).ext hx5; obtain ⟨q5, q5'⟩ := B5.cells; have l5 := B5.lt; unfold numC at q5)
   | (go_simp; go_at_call 103; (with_reducible refine (HPA.out w5).mono ?_); rintro e w6 ⟨rfl, hx6⟩; have B6 := B5.ext hx6; have X6 := X5.trans hx6; (first | (have B9a := B95.ext hx6; obtain ⟨q9, q9'⟩ := B9a.cells; have l9 := B9a.lt; unfold numC at q9) | skip))
   | (go_simp; go_at_call 103; (with_reducible refine (HPA.out (w5.alloc (.cells #[.bool false, .int .i64 0, .int .i64 0, .int .i64 0, .int .i64 0, .int .i64 0, .int .i64 0, .int .i64 0, .int .i64 0, .int .i64 0, .int .i64 0, .int .i64 0, .int .i64 0] 153))).mono ?_); rintro e w6 ⟨rfl, hx6⟩; have B6 := (B5.alloc (.cells #[.bool false, .int .i64 0, .int .i64 0, .int .i64 0, .int .i64 0, .int .i64 0, .int .i64 0, .int .i64 0, .int .i64 0, .int .i64 0, .int .i64 0, .int .i64 0, .int .i64 0] 153)).ext hx6; have X6 := (X5.alloc (.cells #[.bool false, .int .i64 0, .int .i64 0, .int .i64 0, .int .i64 0, .int .i64 0, .int .i64 0, .int .i64 0, .int .i64 0, .int .i64 0, .int .i64 0, .int .i64 0, .int .i64 0] 153)).trans hx6; have B9b : Blk w6 w5.heap.size _ (numC false (fun _ => 0)) := (Blk.new w5 _ _).ext hx6; obtain ⟨q9, q9'⟩ := B9b.cells; have l9 := B9b.lt; unfold numC at q9))
  all_goals
   go_wp2_with fail
   go_meet
   first
    | with_reducible exact FlSt.put B9a B6 l8 hg8 X6
    | with_reducible exact FlSt.put B9b B6 l5 hg8 X6
    | with_reducible exact FlSt.new B6 hg8 X6
 case rest =>
  obtain ⟨g9, wr, rfl, rfl, rfl, rfl, B9, B8', hlt, hge, XF⟩ := hcut
  clear HB8 q8 q8' l8
  obtain ⟨q9, q9'⟩ := B9.cells
  have l9 := B9.lt
  unfold numC at q9
  obtain ⟨q8, q8'⟩ := B8'.cells
  have l8 := B8'.lt
  unfold numC at q8
  have HX := Lib.hid (And.intro B9 (And.intro B8' XF))
  go_upto_region 5 with (fail)
  go_cut [12] from 28 to 37 (fun v wx => v = .bool sP ∧ Ext wr wx)
  case first =>
   clear HX XF B9 hEv2 hP
   go_wp2_with fail
   refine (HSg.out _).mono ?_
   rintro e wg ⟨rfl, hxg⟩
   have B8g := B8'.ext hxg
   have c8 : wg.cell? ⟨g8, 0, none⟩ = some (.bool sP) := B8g.cell 0
   have l8g := B8g.lt
   clear B8g B8' q8 q8' l8 q9 q9' l9
   by_cases hP0 : P = 0
   ·have e1 : (sg != 0) = false := by rw [hsg, decide_eq_false (fun x => x hP0)]
    have e2 : sP = false := by
     cases sP with
     | false => rfl
     | true => exact absurd hP0 (hsP0.out rfl)
    subst e2
    clear hsg
    replace hP0 := Lib.hid hP0
    go_wp2_with fail
    go_meet
    exact ⟨rfl, hxg⟩
   ·have e1 : (sg != 0) = true := by rw [hsg, decide_eq_true hP0]
    clear hsg
    replace hP0 := Lib.hid hP0
    cases sP with
    | true =>
     go_wp2_with fail
     go_meet
     exact ⟨rfl, hxg⟩
    | false =>
     go_wp2_with fail
     go_meet
     exact ⟨rfl, hxg⟩
  case rest =>
   obtain ⟨rfl, hxg⟩ := hcut
   obtain ⟨wr2, rfl⟩ : ∃ x, x = wc := ⟨_, rfl⟩
   have HX2 := HX.out
   replace HX := Lib.hid (And.intro (HX2.1.ext hxg) (And.intro (HX2.2.1.ext hxg) (HX2.2.2.trans hxg)))
   clear HX2 q8 q8' l8 q9 q9' l9 B9 B8' XF hxg HSg hsg
   obtain ⟨B9, B8', XF⟩ := HX.out
   obtain ⟨q9, q9'⟩ := B9.cells
   have l9 := B9.lt
   unfold numC at q9
   obtain ⟨up, hup⟩ : ∃ up, (zb && sP) = up := ⟨_, rfl⟩
   have hEv := hEv2.out
   rw [hup] at hEv
   replace hEv := Lib.hid hEv
   replace hup := Lib.hid hup
   clear hEv2
   go_upto_region 6 with (fail)
   go_cut [41] from 38 to 41 (fun v wx => v = .bool up ∧ wr2 = wx)
   case first =>
    clear HX XF B9 B8' q9 q9' l9
    cases zb with
    | true =>
     go_wp2_with fail
     go_meet
     exact ⟨by rw [← hup.out]; rfl, rfl⟩
    | false =>
     go_wp2_with fail
     go_meet
     exact ⟨by rw [← hup.out]; rfl, rfl⟩
   case rest =>
    obtain ⟨rfl, rfl⟩ := hcut
    go_upto_if 41 with (fail)
    go_cut [42] from 43 to 44 (fun _ wx => Blk wx g9 153 (numC false (digI E)) ∧ Blk wx g8 153 (numC sP (digI P)) ∧ Ext w wx)
    case first =>
     cases up
     ·have hE2 := hEv.out
      rw [if_neg (by simp)] at hE2
      have HP := Lib.hid HX.out
      rw [← hE2] at HP
      clear hE2 B9 B8' XF
      go_wp2_with fail
      go_meet
      exact HP.out
     ·have hE2 := hEv.out
      rw [if_pos rfl] at hE2
      have hq2 := hq.out
      rw [hE2] at hq2
      replace hE2 := Lib.hid hE2
      have HW := Lib.hid (fun W (hx : Ext wr2 W) => And.intro (B9.ext hx) (And.intro (B8'.ext hx) (XF.trans hx)))
      clear B9 B8' XF
      go_wp2_with fail
      go_region_law (first
       | (go_simp; go_at_call 101; refine (of_one _).mono ?_; rintro e wb ⟨rfl, hxb⟩; obtain ⟨SB, SB8, SBX⟩ := HW.out _ ((Ext.refl wr2).drew.trans hxb); obtain ⟨qb, qb'⟩ := SB.cells; unfold numC at qb)
       | (go_simp; go_at_call 105; refine (plus_same false Q 1 hQB.out (by decide) (by omega) _).mono ?_; rintro e wc ⟨rfl, hxc⟩; rw [Bool.false_and]; have SC := SB.ext hxc; have SC8 := SB8.ext hxc; have SCX := SBX.trans hxc; obtain ⟨qc, qc'⟩ := SC.cells; unfold numC at qc))
      all_goals
       have HP : Hid (Blk (((((((((((((wc.setCell ⟨g9, 0, none⟩ (.bool false)).setCell ⟨g9, 1, none⟩ (.int .i64 (digI (Q + 1) 0))).setCell ⟨g9, 2, none⟩ (.int .i64 (digI (Q + 1) 1))).setCell ⟨g9, 3, none⟩ (.int .i64 (digI (Q + 1) 2))).setCell ⟨g9, 4, none⟩ (.int .i64 (digI (Q + 1) 3))).setCell ⟨g9, 5, none⟩ (.int .i64 (digI (Q + 1) 4))).setCell ⟨g9, 6, none⟩ (.int .i64 (digI (Q + 1) 5))).setCell ⟨g9, 7, none⟩ (.int .i64 (digI (Q + 1) 6))).setCell ⟨g9, 8, none⟩ (.int .i64 (digI (Q + 1) 7))).setCell ⟨g9, 9, none⟩ (.int .i64 (digI (Q + 1) 8))).setCell ⟨g9, 10, none⟩ (.int .i64 (digI (Q + 1) 9))).setCell ⟨g9, 11, none⟩ (.int .i64 (digI (Q + 1) 10))).setCell ⟨g9, 12, none⟩ (.int .i64 (digI (Q + 1) 11))) g9 153 (numC false (digI E)) ∧ Blk (((((((((((((wc.setCell ⟨g9, 0, none⟩ (.bool false)).setCell ⟨g9, 1, none⟩ (.int .i64 (digI (Q + 1) 0))).setCell ⟨g9, 2, none⟩ (.int .i64 (digI (Q + 1) 1))).setCell ⟨g9, 3, none⟩ (.int .i64 (digI (Q + 1) 2))).setCell ⟨g9, 4, none⟩ (.int .i64 (digI (Q + 1) 3))).setCell ⟨g9, 5, none⟩ (.int .i64 (digI (Q + 1) 4))).setCell ⟨g9, 6, none⟩ (.int .i64 (digI (Q + 1) 5))).setCell ⟨g9, 7, none⟩ (.int .i64 (digI (Q + 1) 6))).setCell ⟨g9, 8, none⟩ (.int .i64 (digI (Q + 1) 7))).setCell ⟨g9, 9, none⟩ (.int .i64 (digI (Q + 1) 8))).setCell ⟨g9, 10, none⟩ (.int .i64 (digI (Q + 1) 9))).setCell ⟨g9, 11, none⟩ (.int .i64 (digI (Q + 1) 10))).setCell ⟨g9, 12, none⟩ (.int .i64 (digI (Q + 1) 11))) g8 153 (numC sP (digI P)) ∧ Ext w (((((((((((((wc.setCell ⟨g9, 0, none⟩ (.bool false)).setCell ⟨g9, 1, none⟩ (.int .i64 (digI (Q + 1) 0))).setCell ⟨g9, 2, none⟩ (.int .i64 (digI (Q + 1) 1))).setCell ⟨g9, 3, none⟩ (.int .i64 (digI (Q + 1) 2))).setCell ⟨g9, 4, none⟩ (.int .i64 (digI (Q + 1) 3))).setCell ⟨g9, 5, none⟩ (.int .i64 (digI (Q + 1) 4))).setCell ⟨g9, 6, none⟩ (.int .i64 (digI (Q + 1) 5))).setCell ⟨g9, 7, none⟩ (.int .i64 (digI (Q + 1) 6))).setCell ⟨g9, 8, none⟩ (.int .i64 (digI (Q + 1) 7))).setCell ⟨g9, 9, none⟩ (.int .i64 (digI (Q + 1) 8))).setCell ⟨g9, 10, none⟩ (.int .i64 (digI (Q + 1) 9))).setCell ⟨g9, 11, none⟩ (.int .i64 (digI (Q + 1) 10))).setCell ⟨g9, 12, none⟩ (.int .i64 (digI (Q + 1) 11)))) := Lib.hid ⟨by rw [hE2.out]; exact put13 SC, far13 SC8 (by omega), ext13 SCX (by omega)⟩
       go_wp2_with fail
       go_meet
       exact HP.out
    case rest =>
     obtain ⟨C9, C8, CX⟩ := hcut
     clear B9 B8' XF HX q9 q9'
     obtain ⟨q8, q8'⟩ := C8.cells
     obtain ⟨q9, q9'⟩ := C9.cells
     have l9 := C9.lt
     unfold numC at q8 q9
     have hEB : E < 65536 ^ 12 := Nat.lt_of_lt_of_le hq.out (by decide)
     have HT : ∀ w, Calls Tryz.prog 106 #[numV sP (digI E)] w fun e w' => e = .returned (.tuple #[.int .i64 V, .int .i64 0]) ∧ Ext w w' := by
      rw [← hV.out]
      clear hV
      cases sP with
      | true => exact told_neg E (hEz.out rfl) hq.out
      | false =>
       have := told_any E hEB
       rw [if_pos hq.out, if_pos hq.out] at this
       exact this
     have HCD : ∀ w, Calls Tryz.prog 107 #[numV sP (digI E)] w fun e w' => e = .returned (numV sP (digI E)) ∧ Ext w w' := by
      have := carriedD_any sP E hEB
      cases sP with
      | true =>
       have h0 := hEz.out rfl
       rw [Bool.true_and, decide_eq_true (show E ≠ 0 by omega)] at this
       exact this
      | false => rw [Bool.false_and] at this; exact this
     replace HT := Lib.hid HT
     replace HCD := Lib.hid HCD
     have C9' := C9.set_ 0 (.bool sP)
     have eC : (numC false (digI E)).setIfInBounds 0 (.bool sP) = numC sP (digI E) := rfl
     rw [eC] at C9'
     have CX' := CX.set (p := ⟨g9, 0, none⟩) (by show w.heap.size ≤ g9; omega) (.bool sP)
     clear C8 C9 CX hEB eC q8 q8'
     go_upto_region 9 with (fail)
     obtain ⟨p9, p9'⟩ := C9'.cells
     have lp9 := C9'.lt
     unfold numC at p9
     replace C9' := Lib.hid C9'
     clear q9 q9' l9
     go_wp2_with fail
     refine (HCD.out _).mono ?_
     rintro e w7 ⟨rfl, hx7⟩
     go_wp2_with fail
     refine (HT.out _).mono ?_
     rintro e w8 ⟨rfl, hx8⟩
     go_wp2_with fail
     exact bodyPost_ret (results_tmp2 rfl _ _ _) rfl ⟨rfl, (CX'.trans hx7).trans hx8⟩
end Go.Proofs.YtjaponmpfdpemaaGreatDoor
