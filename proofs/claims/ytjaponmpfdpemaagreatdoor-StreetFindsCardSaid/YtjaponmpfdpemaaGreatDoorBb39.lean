/-
  wide.Floor of any signs.
-/
import Derived.Test.YtjaponmpfdpemaaGreatDoorBb10
import Derived.Test.YtjaponmpfdpemaaGreatDoorBb38
import Derived.Deep.RegionHeld3
import Derived.Test.YtjaponmpfdpemaaGreatDoorBb33
import Derived.Test.YtjaponmpfdpemaaGreatDoorBb36
set_option linter.unusedSimpArgs false
set_option linter.unusedVariables false
namespace Go.Proofs.YtjaponmpfdpemaaGreatDoor
open Go.RowKit
set_option maxRecDepth 100000 in
theorem size_neg (n : Nat) (h0 : 0 < n) (h : n < 9223372036854775808) (w : World) : Calls Tryz.prog 97 #[.int .i64 (-(n : Int))] w fun e w' => e = .returned (.int .u64 (n : Int)) ∧ w = w' := by
 have hd : decide (-(n : Int) < 0) = true := decide_eq_true (by omega)
 have e1 : IntKind.u64.wrap (-(n : Int)) = 18446744073709551616 - (n : Int) := by rw [IntKind.wrap_u64]; omega
 have e2 : IntKind.u64.wrap (-(18446744073709551616 - (n : Int))) = (n : Int) := by rw [IntKind.wrap_u64]; omega
 replace h0 := Lib.hid h0
 go_enter Tryz.func97, Tryz.ntmps97
 go_wp2_with fail
 go_ret
 exact ⟨rfl, rfl⟩
set_option maxRecDepth 100000 in
theorem signed_neg (n : Nat) (h0 : 0 < n) (h : n < 9223372036854775808) (w : World) : Calls Tryz.prog 100 #[.int .u64 (n : Int), .bool true] w fun e w' => e = .returned (.tuple #[.int .i64 (-(n : Int)), .int .i64 0]) ∧ w = w' := by
 have hd : decide ((n : Int) ≤ 9223372036854775808) = true := decide_eq_true (by omega)
 have e1 : IntKind.u64.wrap (-(n : Int)) = 18446744073709551616 - (n : Int) := by rw [IntKind.wrap_u64]; omega
 have e2 : IntKind.i64.wrap (18446744073709551616 - (n : Int)) = -(n : Int) := by rw [IntKind.wrap_i64]; omega
 replace h0 := Lib.hid h0
 go_enter Tryz.func100, Tryz.ntmps100
 go_wp2_with fail
 go_ret2
 exact ⟨rfl, rfl⟩
def sgZ (s : Bool) (m : Nat) : Int := if s then -(m : Int) else (m : Int)
set_option maxRecDepth 100000 in
theorem size_s (s : Bool) (m : Nat) (hs : s = true → 0 < m) (hm : m < 9223372036854775808) (w : World) : Calls Tryz.prog 97 #[.int .i64 (sgZ s m)] w fun e w' => e = .returned (.int .u64 (m : Int)) ∧ w = w' := by
 cases s with
 | true => exact size_neg m (hs rfl) hm w
 | false => exact size_nat m hm w
set_option maxRecDepth 100000 in
theorem wmul_s (s : Bool) (m b : Nat) (hs : s = true → 0 < m) (hm : m < 9223372036854775808) (hb : b < 9223372036854775808) (w : World) :
  Calls Tryz.prog 96 #[.int .i64 (sgZ s m), .int .i64 (b : Int)] w fun e w' => e = .returned (.tuple #[.int .u64 ((m * b / 18446744073709551616 : Nat) : Int), .int .u64 ((m * b % 18446744073709551616 : Nat) : Int), .int .i64 (RowKit.wrap64 (sgnI (sgZ s m) * sgnI (b : Int)))]) ∧ w = w' := by
 have H1 := Lib.hid (fun w => size_s s m hs hm w)
 have H2 := Lib.hid (fun w => size_nat b hb w)
 have H3 := Lib.hid (fun w => mul64_any m b (by omega) (by omega) w)
 have H4 := Lib.hid (fun w => sign_any (sgZ s m) w)
 have H5 := Lib.hid (fun w => sign_any (b : Int) w)
 generalize sgZ s m = a at *
 clear hs
 go_enter Tryz.func96, Tryz.ntmps96
 go_wp2_with fail
 refine (H1.out _).mono ?_
 rintro e v1 ⟨rfl, rfl⟩
 go_wp2_with fail
 refine (H2.out _).mono ?_
 rintro e v2 ⟨rfl, rfl⟩
 go_wp2_with fail
 refine (H3.out _).mono ?_
 rintro e v3 ⟨rfl, rfl⟩
 go_wp2_with fail
 refine (H4.out _).mono ?_
 rintro e v4 ⟨rfl, rfl⟩
 go_wp2_with fail
 refine (H5.out _).mono ?_
 rintro e v5 ⟨rfl, rfl⟩
 go_wp2_with fail
 refine bodyPost_ret (v := .tuple #[.int .u64 ((m * b / 18446744073709551616 : Nat) : Int), .int .u64 ((m * b % 18446744073709551616 : Nat) : Int), .int .i64 (RowKit.wrap64 (sgnI a * sgnI (b : Int)))]) (by simp [results, Tryz.results96, go_sem]) rfl ⟨rfl, rfl⟩
set_option maxRecDepth 100000 in
theorem flup_any (q r c : Nat) (bl : Bool) (w : World) : Calls Tryz.prog 58 #[.int .u64 (q : Int), .int .u64 (r : Int), .int .u64 (c : Int), .bool bl] w fun e w' => e = .returned (.bool (bl && !decide (r = 0))) ∧ w = w' := by
 obtain ⟨t, ht⟩ : ∃ t, (!decide (r = 0)) = t := ⟨_, rfl⟩
 rw [ht]
 have h1 : decide ((0 : Int) < (r : Int)) = t := by
  rw [← ht]
  by_cases h : r = 0
  ·rw [decide_eq_true h, h]; rfl
  ·rw [decide_eq_false h, decide_eq_true (by omega)]; rfl
 have h2 : decide (0 < r) = t := by
  rw [← h1, decide_eq_decide]; omega
 clear ht
 cases bl
 ·go_enter Tryz.func58, Tryz.ntmps58
  go_wp2_with fail
  go_ret
  exact ⟨rfl, rfl⟩
 ·go_enter Tryz.func58, Tryz.ntmps58
  go_wp2_with fail
  go_ret
  exact ⟨rfl, rfl⟩
theorem sgZ_sgn (s : Bool) (m b c : Nat) (hs : s = true → 0 < m) (hc : 0 < c) : decide (RowKit.wrap64 (RowKit.wrap64 (sgnI (sgZ s m) * sgnI (b : Int)) * sgnI (c : Int)) < 0) = (s && decide (m * b ≠ 0)) := by
 have sc : sgnI (c : Int) = 1 := by unfold sgnI; rw [if_neg (by omega), if_pos (by omega)]
 rw [sc]
 by_cases hb : b = 0
 ·have sb : sgnI (b : Int) = 0 := by unfold sgnI; rw [if_neg (by omega), if_neg (by omega)]
  rw [sb, decide_eq_false (show ¬ m * b ≠ 0 by rw [hb]; simp), Bool.and_false, Int.mul_zero]
  simp [RowKit.wrap64]
 ·have sb : sgnI (b : Int) = 1 := by unfold sgnI; rw [if_neg (by omega), if_pos (by omega)]
  rw [sb]
  cases s with
  | true =>
   have hm := hs rfl
   have sa : sgnI (sgZ true m) = -1 := by rw [show sgZ true m = -(m : Int) from rfl]; unfold sgnI; rw [if_pos (by omega)]
   rw [sa, decide_eq_true (show m * b ≠ 0 from Nat.mul_ne_zero (by omega) hb)]
   simp [RowKit.wrap64]
  | false =>
   by_cases hm : m = 0
   ·have sa : sgnI (sgZ false m) = 0 := by rw [show sgZ false m = (m : Int) from rfl]; unfold sgnI; rw [if_neg (by omega), if_neg (by omega)]
    rw [sa]; simp [RowKit.wrap64]
   ·have sa : sgnI (sgZ false m) = 1 := by rw [show sgZ false m = (m : Int) from rfl]; unfold sgnI; rw [if_neg (by omega), if_pos (by omega)]
    rw [sa]; simp [RowKit.wrap64]
set_option maxRecDepth 100000 in
set_option maxHeartbeats 2000000 in
theorem wdivide_s (s : Bool) (m b c : Nat) (hs : s = true → 0 < m) (hm : m < 4611686018427387904) (hb : b < 4611686018427387904) (hc0 : 0 < c) (hc : c < 9223372036854775808) (hE0 : flN (s && decide (m * b ≠ 0)) (m * b) c < 9223372036854775808) (w : World) :
  Calls Tryz.prog 57 #[.int .i64 (sgZ s m), .int .i64 (b : Int), .int .i64 (c : Int), .func (.func 58) #[] #[]] w fun e w' => e = .returned (.tuple #[.int .i64 (sgZ (s && decide (m * b ≠ 0)) (flN (s && decide (m * b ≠ 0)) (m * b) c)), .int .i64 0]) ∧ Ext w w' := by
 have h1 : ((c : Int) == 0) = false := by rw [beq_eq_false_iff_ne]; omega
 have hsg := sgZ_sgn s m b c hs hc0
 have hHM := Lib.hid (fun w => wmul_s s m b hs (by omega) (by omega) w)
 have hHS := Lib.hid (fun w => size_nat c hc w)
 have hHG := Lib.hid (fun w => sign_any (c : Int) w)
 generalize sgZ s m = a at *
 obtain ⟨sP, hsP⟩ : ∃ t, (s && decide (m * b ≠ 0)) = t := ⟨_, rfl⟩
 have hsP0 : sP = true → m * b ≠ 0 := fun h => by rw [← hsP] at h; simp only [Bool.and_eq_true, decide_eq_true_eq] at h; exact h.2
 rw [hsP] at hsg hE0 ⊢
 clear hsP hs
 have hql : m * b / c < 9223372036854775808 := by
  have : m * b / c ≤ flN sP (m * b) c := by unfold flN; split <;> omega
  omega
 have hhi : m * b / 18446744073709551616 < c := by
  rw [Nat.div_lt_iff_lt_mul (by decide)]
  have h1 : m * b < 9223372036854775808 * c := (Nat.div_lt_iff_lt_mul hc0).1 hql
  omega
 generalize m * b = P at *
 have hrl := Nat.mod_lt P hc0
 have hE := Lib.hid (show flN sP P c = if (sP && !decide (P % c = 0)) = true then P / c + 1 else P / c by
  unfold flN
  by_cases hr : P % c = 0
  ·rw [if_neg (fun x => x.2 hr), if_neg (by simp [hr])]; rfl
  ·cases sP with
   | true => rw [if_pos ⟨rfl, hr⟩, if_pos (by simp [hr])]
   | false => rw [if_neg (fun x => by cases x.1), if_neg (by simp)]; rfl)
 have hEp : sP = true → 0 < flN sP P c := by
  intro h
  have h0 := hsP0 h
  unfold flN
  by_cases hr : P % c = 0
  ·rw [if_neg (fun x => x.2 hr)]
   have : 0 < P / c := Nat.div_pos (by
    rcases Nat.lt_or_ge P c with h3 | h3
    ·rw [Nat.mod_eq_of_lt h3] at hr; omega
    ·exact h3) hc0
   omega
  ·rw [if_pos ⟨h, hr⟩]; exact Nat.succ_pos _
 generalize sgnI (c : Int) = sc at *
 generalize sgnI a * sgnI (b : Int) = sab at *
 have HSG := Lib.hid (show ∀ w, Calls Tryz.prog 100 #[.int .u64 ((flN sP P c : Nat) : Int), .bool sP] w fun e w' => e = .returned (.tuple #[.int .i64 (sgZ sP (flN sP P c)), .int .i64 0]) ∧ w = w' by
  cases sP with
  | true => exact fun w => signed_neg _ (hEp rfl) hE0 w
  | false => exact fun w => signed_nat _ hE0 w)
 generalize flN sP P c = E at *
 replace hsP0 := Lib.hid hsP0
 replace hEp := Lib.hid hEp
 go_enter Tryz.func57, Tryz.ntmps57
 go_wp2_with fail
 refine (hHM.out _).mono ?_
 rintro e v1 ⟨rfl, rfl⟩
 have hd := Nat.div_add_mod P 18446744073709551616
 have hml : P % 18446744073709551616 < 18446744073709551616 := Nat.mod_lt _ (by decide)
 generalize P / 18446744073709551616 = mh at *
 generalize P % 18446744073709551616 = ml at *
 have h5 : decide ((c : Int) ≤ (mh : Int)) = false := by simp; omega
 replace hd := Lib.hid hd
 go_wp2_with fail
 refine (hHS.out _).mono ?_
 rintro e v2 ⟨rfl, rfl⟩
 go_wp2_with fail
 refine (hHG.out _).mono ?_
 rintro e v3 ⟨rfl, rfl⟩
 go_wp2_with fail
 refine (div64_any mh ml c hhi hml (by omega) _).mono ?_
 rintro e v4 ⟨rfl, hx⟩
 rw [show mh * 18446744073709551616 + ml = P by rw [Nat.mul_comm]; exact hd.out]
 generalize P / c = q at *
 generalize P % c = r at *
 go_wp2_with fail
 refine (flup_any q r c _ _).mono ?_
 rintro e v5 ⟨rfl, rfl⟩
 obtain ⟨u, hu⟩ : ∃ u, (sP && !decide (r = 0)) = u := ⟨_, rfl⟩
 have hE2 := hE.out
 rw [hu] at hE2 ⊢
 replace hu := Lib.hid hu
 clear hE
 cases u with
 | false =>
  rw [if_neg (by simp)] at hE2
  rw [hE2] at HSG
  have hE3 := Lib.hid hE2
  clear hE2
  go_wp2_with fail
  refine (HSG.out _).mono ?_
  rintro e v6 ⟨rfl, rfl⟩
  go_wp2_with fail
  exact bodyPost_ret (results_tmp2 rfl _ _ _) rfl ⟨by rw [hE3.out]; rfl, hx⟩
 | true =>
  rw [if_pos rfl] at hE2
  rw [hE2] at HSG
  have hb : ((q : Int) == 18446744073709551615) = false := by rw [beq_eq_false_iff_ne]; omega
  have hw : IntKind.u64.wrap ((q : Int) + 1) = ((q + 1 : Nat) : Int) := by rw [IntKind.wrap_u64]; omega
  have hE3 := Lib.hid hE2
  clear hE2
  go_wp2_with fail
  refine (HSG.out _).mono ?_
  rintro e v6 ⟨rfl, rfl⟩
  go_wp2_with fail
  exact bodyPost_ret (results_tmp2 rfl _ _ _) rfl ⟨by rw [hE3.out]; rfl, hx⟩
set_option maxRecDepth 100000 in
theorem wfloor_s (s : Bool) (m b c : Nat) (hs : s = true → 0 < m) (hm : m < 4611686018427387904) (hb : b < 4611686018427387904) (hc0 : 0 < c) (hc : c < 9223372036854775808) (hE0 : flN (s && decide (m * b ≠ 0)) (m * b) c < 9223372036854775808) (w : World) :
  Calls Tryz.prog 31 #[.int .i64 (sgZ s m), .int .i64 (b : Int), .int .i64 (c : Int)] w fun e w' => e = .returned (.tuple #[.int .i64 (sgZ (s && decide (m * b ≠ 0)) (flN (s && decide (m * b ≠ 0)) (m * b) c)), .int .i64 0]) ∧ Ext w w' := by
 have HD := Lib.hid (fun w => wdivide_s s m b c hs hm hb hc0 hc hE0 w)
 generalize sgZ (s && decide (m * b ≠ 0)) (flN (s && decide (m * b ≠ 0)) (m * b) c) = r at *
 generalize sgZ s m = a at *
 clear hs hm hb hc0 hc hE0
 go_enter Tryz.func31, Tryz.ntmps31
 go_wp2_with fail
 refine (HD.out _).mono ?_
 rintro e v1 ⟨rfl, hx⟩
 go_wp2_with fail
 exact bodyPost_ret (results_tmp2 rfl _ _ _) rfl ⟨rfl, hx⟩
theorem floor_eq (s : Bool) (m b c : Nat) (hc : 0 < c) : sgZ (s && decide (m * b ≠ 0)) (flN (s && decide (m * b ≠ 0)) (m * b) c) = (sgZ s m * (b : Int)) / (c : Int) := by
 cases s with
 | false =>
  rw [Bool.false_and]
  exact (flN_pos m b c).symm
 | true =>
  rw [Bool.true_and]
  have h := flN_neg m b c hc
  by_cases hp : m * b = 0
  ·rw [decide_eq_false (fun x => x hp)]
   have e : sgZ true m * (b : Int) = 0 := by
    unfold sgZ
    rw [if_pos rfl, Int.neg_mul, ← Int.natCast_mul, hp]; rfl
   rw [e, hp]
   unfold flN sgZ
   simp
  ·rw [decide_eq_true hp]
   exact h.symm
end Go.Proofs.YtjaponmpfdpemaaGreatDoor
set_option linter.unusedSimpArgs false
set_option linter.unusedVariables false
namespace Go.Proofs.YtjaponmpfdpemaaGreatDoor
open Go.RowKit
theorem sgZ_of (a : Int) : ∃ s m, a = sgZ s m ∧ (s = true → 0 < m) ∧ m = a.natAbs := by
 by_cases h : a < 0
 ·exact ⟨true, a.natAbs, by unfold sgZ; rw [if_pos rfl]; omega, fun _ => by omega, rfl⟩
 ·exact ⟨false, a.natAbs, by show a = (a.natAbs : Int); omega, (fun h => by cases h), rfl⟩
theorem flN_le (s : Bool) (P c : Nat) : flN s P c ≤ P + 1 := by
 unfold flN
 have := Nat.div_le_self P c
 split <;> omega
structure FlB (a b c : Int) : Prop where
 a1 : -2199023255550 ≤ a
 a2 : a ≤ 2199023255550
 b1 : 0 ≤ b
 b2 : b ≤ 999998
 c1 : 0 < c
 c2 : c ≤ 999998
theorem FlB.prod {a b c : Int} (h : FlB a b c) : a.natAbs * b.toNat ≤ 2199023255550 * 999998 :=
 Nat.mul_le_mul (by have := h.a1; have := h.a2; omega) (by have := h.b1; have := h.b2; omega)
theorem FlB.val {a b c : Int} (h : FlB a b c) : -2199023255550000000 ≤ a * b / c ∧ a * b / c ≤ 2199023255550000000 := by
 obtain ⟨s, m, e, h1, h2⟩ := sgZ_of a
 have hp := h.prod
 have hb : b = (b.toNat : Int) := by have := h.b1; omega
 have hc : c = (c.toNat : Int) := by have := h.c1; omega
 have hv := floor_eq s m b.toNat c.toNat (by have := h.c1; omega)
 rw [← e, ← hb, ← hc] at hv
 rw [← hv]
 have hl := flN_le (s && decide (m * b.toNat ≠ 0)) (m * b.toNat) c.toNat
 rw [← h2] at hp
 generalize flN (s && decide (m * b.toNat ≠ 0)) (m * b.toNat) c.toNat = E at *
 generalize (s && decide (m * b.toNat ≠ 0)) = t
 generalize m * b.toNat = P at *
 cases t
 ·show -2199023255550000000 ≤ (E : Int) ∧ (E : Int) ≤ 2199023255550000000
  omega
 ·show -2199023255550000000 ≤ -(E : Int) ∧ -(E : Int) ≤ 2199023255550000000
  omega
theorem wfl_any {a b c : Int} (h : FlB a b c) (W : World) : Calls Tryz.prog 31 #[.int .i64 a, .int .i64 b, .int .i64 c] W fun e w' => e = .returned (.tuple #[.int .i64 (a * b / c), .int .i64 0]) ∧ Ext W w' := by
 obtain ⟨s, m, e, h1, h2⟩ := sgZ_of a
 have hp := h.prod
 have hb : b = (b.toNat : Int) := by have := h.b1; omega
 have hc : c = (c.toNat : Int) := by have := h.c1; omega
 have ha1 := h.a1
 have ha2 := h.a2
 have hb2 := h.b2
 have hc1 := h.c1
 have hc2 := h.c2
 have hl := flN_le (s && decide (m * b.toNat ≠ 0)) (m * b.toNat) c.toNat
 rw [← h2] at hp
 have := wfloor_s s m b.toNat c.toNat h1 (by omega) (by omega) (by omega) (by omega) (by omega) W
 rw [floor_eq s m b.toNat c.toNat (by omega), ← e, ← hb, ← hc] at this
 exact this
theorem rfl_any {a b c : Int} (h : FlB a b c) (W : World) : Calls Tryz.prog 59 #[.int .i64 a, .int .i64 b, .int .i64 c] W fun e w' => e = .returned (.tuple #[.int .i64 (a * b / c), .int .i64 0]) ∧ Ext W w' := by
 obtain ⟨s, m, e, h1, h2⟩ := sgZ_of a
 have hp := h.prod
 have hb : b = (b.toNat : Int) := by have := h.b1; omega
 have hc : c = (c.toNat : Int) := by have := h.c1; omega
 have ha1 := h.a1
 have ha2 := h.a2
 have hb2 := h.b2
 have hc1 := h.c1
 have hc2 := h.c2
 have hl := flN_le (s && decide (m * b.toNat ≠ 0)) (m * b.toNat) c.toNat
 rw [← h2] at hp
 have hv := floor_eq s m b.toNat c.toNat (by omega)
 unfold sgZ at hv e
 have := rfloor_s s m b.toNat c.toNat h1 (by omega) (by omega) (by omega) (by omega) (by omega) W
 rw [hv, ← e, ← hb, ← hc] at this
 exact this
set_option maxRecDepth 100000 in
theorem rpart_any (x y b c : Int) (hx : -1099511627775 ≤ x ∧ x ≤ 1099511627775) (hy : -1099511627775 ≤ y ∧ y ≤ 1099511627775) (hb : 0 ≤ b ∧ b ≤ 999998) (hc : 0 < c ∧ c ≤ 999998) (W : World) :
  Calls Tryz.prog 33 #[.int .i64 x, .int .i64 y, .int .i64 b, .int .i64 c] W fun e w' => e = .returned (.int .i64 (x + (y - x) * b / c)) ∧ Ext W w' := by
 have hB : FlB (y - x) b c := ⟨by omega, by omega, hb.1, hb.2, hc.1, hc.2⟩
 have HF := Lib.hid (fun W => rfl_any hB W)
 obtain ⟨v1, v2⟩ := hB.val
 have w1 : IntKind.i64.wrap (y - x) = y - x := by rw [IntKind.wrap_i64]; omega
 generalize (y - x) * b / c = q at *
 have w2 : IntKind.i64.wrap (x + q) = x + q := by rw [IntKind.wrap_i64]; omega
 clear hB v1 v2 hx hy hb hc
 go_enter Tryz.func33, Tryz.ntmps33
 go_wp2_with fail
 refine (HF.out _).mono ?_
 rintro e w1 ⟨rfl, hx1⟩
 go_wp2_with fail
 go_ret
 exact ⟨rfl, hx1⟩
end Go.Proofs.YtjaponmpfdpemaaGreatDoor
set_option linter.unusedSimpArgs false
set_option linter.unusedVariables false
namespace Go.Proofs.YtjaponmpfdpemaaGreatDoor
open Go.RowKit
def ptV (p : Int × Int) : Value := .agg #[.int .i64 p.1, .int .i64 p.2]
theorem ld_pt {w : World} {g : Nat} {x y : Int} (h : Blk w g 23 #[.int .i64 x, .int .i64 y]) : (loadVar 23 ⟨g, 0, none⟩).run Tryz.prog w = .ok (.agg #[.int .i64 x, .int .i64 y]) w := by
 have q := h.cell
 simp [go_sem, q]
theorem pt_set {w : World} {g : Nat} {x y : Value} (h : Blk w g 23 #[x, y]) (a b : Value) : Blk ((w.setCell ⟨g, 0, none⟩ a).setCell ⟨g, 1, none⟩ b) g 23 #[a, b] := (h.set_ 0 a).set_ 1 b
theorem fitP_iff {n : Int} : fitP n = true ↔ -1099511627775 ≤ n ∧ n ≤ 1099511627775 := by
 unfold fitP
 rw [Bool.and_eq_true, decide_eq_true_eq, decide_eq_true_eq]
theorem ptP_iff {x y : Int} : ptP x y = true ↔ (-1099511627775 ≤ x ∧ x ≤ 1099511627775) ∧ (-1099511627775 ≤ y ∧ y ≤ 1099511627775) := by
 unfold ptP
 rw [Bool.and_eq_true, fitP_iff, fitP_iff]
end Go.Proofs.YtjaponmpfdpemaaGreatDoor
set_option linter.unusedSimpArgs false
set_option linter.unusedVariables false
namespace Go.Proofs.YtjaponmpfdpemaaGreatDoor
open Go.RowKit
theorem Sr.at_no {s : Sr} {n : Int} (h : ¬ (s.check = 0 ∧ s.hasR n = true)) : s.at_ n = ((0, 0), false) := by unfold Sr.at_; rw [if_neg h]
theorem Sr.at_yes {s : Sr} {n : Int} (h : s.check = 0 ∧ s.hasR n = true) : s.at_ n = (s.place n, true) := by unfold Sr.at_; rw [if_pos h]
structure Sr.Bd (s : Sr) (n : Int) : Prop where
 x : FlB (s.bx - s.ax) (n - s.fr) (s.to_ - s.fr)
 y : FlB (s.by_ - s.ay) (n - s.fr) (s.to_ - s.fr)
 ax : -1099511627775 ≤ s.ax ∧ s.ax ≤ 1099511627775
 ay : -1099511627775 ≤ s.ay ∧ s.ay ≤ 1099511627775
 bx : -1099511627775 ≤ s.bx ∧ s.bx ≤ 1099511627775
 by_ : -1099511627775 ≤ s.by_ ∧ s.by_ ≤ 1099511627775
 n1 : 0 ≤ n - s.fr
 n2 : n - s.fr ≤ 999998
 c1 : 0 < s.to_ - s.fr
 c2 : s.to_ - s.fr ≤ 999998
theorem Sr.bd {s : Sr} (h : s.check = 0) {n : Int} (h1 : s.fr ≤ n) (h2 : n ≤ s.to_) (hne : s.fr ≠ s.to_) : s.Bd n := by
 have hk := Sr.check_ok h
 have hn := hk.num
 have := hn.f1
 have := hn.ft
 have := hn.t9
 obtain ⟨⟨a1, a2⟩, ⟨a3, a4⟩⟩ := ptP_iff.1 hk.a
 obtain ⟨⟨b1, b2⟩, ⟨b3, b4⟩⟩ := ptP_iff.1 hk.b
 exact ⟨⟨by omega, by omega, by omega, by omega, by omega, by omega⟩, ⟨by omega, by omega, by omega, by omega, by omega, by omega⟩, ⟨a1, a2⟩, ⟨a3, a4⟩, ⟨b1, b2⟩, ⟨b3, b4⟩, by omega, by omega, by omega, by omega⟩
set_option maxRecDepth 100000 in
set_option maxHeartbeats 4000000 in
theorem srat_any (s : Sr) (h : SrS s 1000) (n : Int) (W : World) (hS : Std W) : Calls Tryz.prog 12 #[srV s, .int .i64 n] W fun e w' => e = .returned (.tuple #[ptV (s.at_ n).1, .bool (s.at_ n).2]) ∧ Ext W w' := by
 have HC := Lib.hid (fun w (hx : Ext W w) => srcheck_any s h w (hS.ext hx))
 have HH := Lib.hid (fun w (_ : Ext W w) => srhas_any s (n.tmod 2) w)
 have HNo := Lib.hid (fun h => Sr.at_no (s := s) (n := n) h)
 have HYe := Lib.hid (fun h => Sr.at_yes (s := s) (n := n) h)
 have HBd := Lib.hid (fun (h : s.check = 0) (h1 : s.fr ≤ n) (h2 : n ≤ s.to_) (hne : s.fr ≠ s.to_) => Sr.bd h h1 h2 hne)
 have HAp := Lib.hid (fun (h : s.check = 0) (h1 : s.fr ≤ n) (h2 : n ≤ s.to_) => Sr.at_prog h n h1 h2)
 have hpl : s.place n = if s.fr = s.to_ then (s.ax, s.ay) else (s.ax + (s.bx - s.ax) * (n - s.fr) / (s.to_ - s.fr), s.ay + (s.by_ - s.ay) * (n - s.fr) / (s.to_ - s.fr)) := rfl
 have hRin : s.hasR n = true → s.fr ≤ n ∧ n ≤ s.to_ := fun hh => by
  unfold Sr.hasR at hh
  simp only [Bool.and_eq_true, Bool.not_eq_true', Bool.or_eq_false_iff, decide_eq_false_iff_not] at hh
  omega
 obtain ⟨R, hR⟩ : ∃ R, s.at_ n = R := ⟨_, rfl⟩
 rw [hR] at HNo HYe ⊢
 clear hR hS h
 generalize s.place n = pl at *
 generalize s.hasR n = hr at *
 generalize s.hasQ (n.tmod 2) = hq at *
 generalize s.check = q at *
 replace hpl := Lib.hid hpl
 replace hRin := Lib.hid hRin
 simp only [srV_eq] at HC HH ⊢
 obtain ⟨zstate, zcity, zpre, zname, zsuf, zpost, zf, zt, zs, zax, zay, zbx, zby⟩ := s
 try dsimp only at *
 obtain ⟨b0, hb0⟩ : ∃ t, (q != 0) = t := ⟨_, rfl⟩
 obtain ⟨a1, ha1⟩ : ∃ t, decide (n < zf) = t := ⟨_, rfl⟩
 obtain ⟨a2, ha2⟩ : ∃ t, decide (zt < n) = t := ⟨_, rfl⟩
 obtain ⟨F1, hF1⟩ : ∃ t, (b0 || a1 || a2 || !hq) = t := ⟨_, rfl⟩
 replace hF1 := Lib.hid hF1
 have X2 := ((Ext.refl W).alloc (.cells #[.string ⟨zstate.toArray⟩, .string ⟨zcity.toArray⟩, .string ⟨zpre.toArray⟩, .string ⟨zname.toArray⟩, .string ⟨zsuf.toArray⟩, .string ⟨zpost.toArray⟩, .int .i64 zf, .int .i64 zt, .int .i64 zs, .int .i64 zax, .int .i64 zay, .int .i64 zbx, .int .i64 zby] 25)).alloc (.cells #[.int .i64 0, .int .i64 0] 23)
 have B2 := (Blk.new W 25 #[.string ⟨zstate.toArray⟩, .string ⟨zcity.toArray⟩, .string ⟨zpre.toArray⟩, .string ⟨zname.toArray⟩, .string ⟨zsuf.toArray⟩, .string ⟨zpost.toArray⟩, .int .i64 zf, .int .i64 zt, .int .i64 zs, .int .i64 zax, .int .i64 zay, .int .i64 zbx, .int .i64 zby]).alloc (.cells #[.int .i64 0, .int .i64 0] 23)
 have B4 := Blk.new (W.alloc (.cells #[.string ⟨zstate.toArray⟩, .string ⟨zcity.toArray⟩, .string ⟨zpre.toArray⟩, .string ⟨zname.toArray⟩, .string ⟨zsuf.toArray⟩, .string ⟨zpost.toArray⟩, .int .i64 zf, .int .i64 zt, .int .i64 zs, .int .i64 zax, .int .i64 zay, .int .i64 zbx, .int .i64 zby] 25)) 23 #[.int .i64 0, .int .i64 0]
 rw [show (W.alloc (.cells #[.string ⟨zstate.toArray⟩, .string ⟨zcity.toArray⟩, .string ⟨zpre.toArray⟩, .string ⟨zname.toArray⟩, .string ⟨zsuf.toArray⟩, .string ⟨zpost.toArray⟩, .int .i64 zf, .int .i64 zt, .int .i64 zs, .int .i64 zax, .int .i64 zay, .int .i64 zbx, .int .i64 zby] 25)).heap.size = W.heap.size + 1 by simp] at B4
 go_enter Tryz.func12, Tryz.ntmps12
 go_upto_region 1 with (fail)
 generalize (W.alloc (.cells #[.string ⟨zstate.toArray⟩, .string ⟨zcity.toArray⟩, .string ⟨zpre.toArray⟩, .string ⟨zname.toArray⟩, .string ⟨zsuf.toArray⟩, .string ⟨zpost.toArray⟩, .int .i64 zf, .int .i64 zt, .int .i64 zs, .int .i64 zax, .int .i64 zay, .int .i64 zbx, .int .i64 zby] 25)).alloc (.cells #[.int .i64 0, .int .i64 0] 23) = w0 at *
 have hg4 : W.heap.size ≤ W.heap.size + 1 := by omega
 have hne4 : W.heap.size + 1 ≠ W.heap.size := by omega
 generalize W.heap.size + 1 = g4 at *
 obtain ⟨ga, hga⟩ : ∃ g, W.heap.size = g := ⟨_, rfl⟩
 rw [hga] at B2 hne4 ⊢
 clear hga
 have X0 := Lib.hid X2
 have BA := Lib.hid (fun w (hx : Ext w0 w) => (show (∀ i, w.cell? ⟨ga, i, none⟩ = (#[.string ⟨zstate.toArray⟩, .string ⟨zcity.toArray⟩, .string ⟨zpre.toArray⟩, .string ⟨zname.toArray⟩, .string ⟨zsuf.toArray⟩, .string ⟨zpost.toArray⟩, .int .i64 zf, .int .i64 zt, .int .i64 zs, .int .i64 zax, .int .i64 zay, .int .i64 zbx, .int .i64 zby] : Array Value)[i]?) ∧ ga < w.heap.size ∧ (∀ i, w.frozen? ⟨ga, i, none⟩ = false) from
  have B := B2.ext hx; ⟨B.cell, B.lt, B.frozen⟩))
 have BP := Lib.hid (fun w (hx : Ext w0 w) => B4.ext hx)
 replace HC := Lib.hid (fun w (hx : Ext w0 w) => HC.out w (X2.trans hx))
 replace HH := Lib.hid (fun w (hx : Ext w0 w) => HH.out w (X2.trans hx))
 have Xw0 := Lib.hid (Ext.refl w0)
 obtain ⟨qa, la, qb⟩ := BA.out _ Xw0.out
 clear B2 B4 X2
 have hFa : F1 = false → q = 0 ∧ zf ≤ n ∧ n ≤ zt ∧ hq = true := fun hh => by
  have := hF1.out
  rw [hh] at this
  simp only [Bool.or_eq_false_iff, Bool.not_eq_false'] at this
  obtain ⟨⟨⟨e1, e2⟩, e3⟩, e4⟩ := this
  rw [e1] at hb0
  rw [e2] at ha1
  rw [e3] at ha2
  refine ⟨by simpa using hb0, ?_, ?_, e4⟩
  ·have := of_decide_eq_false ha1; omega
  ·have := of_decide_eq_false ha2; omega
 have hFb : F1 = true → ¬ (q = 0 ∧ hr = true) := fun hh hx => by
  obtain ⟨e0, er⟩ := hx
  obtain ⟨r1, r2⟩ := hRin.out er
  have hap := HAp.out e0 r1 r2
  have := hF1.out
  rw [hh, ← hb0, ← ha1, ← ha2, e0, ← hap, er] at this
  simp at this
  omega
 replace hFa := Lib.hid hFa
 replace hFb := Lib.hid hFb
 go_cut [31] from 10 to 31 (fun u wx => u = .bool F1 ∧ Ext w0 wx)
 case first =>
  clear hFa hFb HNo HYe HBd HAp
  go_wp2_with fail
  refine (HC.out _ Xw0.out).mono ?_
  rintro e wb0 ⟨rfl, hx⟩
  have Xwb0 := Lib.hid (Xw0.out.trans hx)
  obtain ⟨qa, la, qb⟩ := BA.out _ Xwb0.out
  clear hx
  cases b0 with
  | false =>
   cases a1 with
   | false =>
    cases a2 with
    | false =>
     go_wp2_with fail
     refine (HH.out _ Xwb0.out).mono ?_
     rintro e whq ⟨rfl, hx⟩
     have Xwhq := Lib.hid (Xwb0.out.trans hx)
     obtain ⟨qa, la, qb⟩ := BA.out _ Xwhq.out
     clear hx
     cases hq with
     | false =>
      have HE := Lib.hid (show Value.bool true = Value.bool F1 ∧ Ext w0 whq from ⟨by rw [← hF1.out]; simp, Xwhq.out⟩)
      go_wp2_with fail
      go_meet
      case rel => exact HE.out
     | true =>
      have HE := Lib.hid (show Value.bool false = Value.bool F1 ∧ Ext w0 whq from ⟨by rw [← hF1.out]; simp, Xwhq.out⟩)
      go_wp2_with fail
      go_meet
      case rel => exact HE.out
    | true =>
     have HE := Lib.hid (show Value.bool true = Value.bool F1 ∧ Ext w0 wb0 from ⟨by rw [← hF1.out]; simp, Xwb0.out⟩)
     go_wp2_with fail
     go_meet
     case rel => exact HE.out
   | true =>
    have HE := Lib.hid (show Value.bool true = Value.bool F1 ∧ Ext w0 wb0 from ⟨by rw [← hF1.out]; simp, Xwb0.out⟩)
    go_wp2_with fail
    go_meet
    case rel => exact HE.out
  | true =>
   have HE := Lib.hid (show Value.bool true = Value.bool F1 ∧ Ext w0 wb0 from ⟨by rw [← hF1.out]; simp, Xwb0.out⟩)
   go_wp2_with fail
   go_meet
   case rel => exact HE.out
 case rest =>
  obtain ⟨rfl, hx⟩ := hcut
  have Xwc := Lib.hid hx
  clear hx qa la qb Xw0 HC HH
  obtain ⟨qa, la, qb⟩ := BA.out _ Xwc.out
  cases F1 with
  | true =>
   have hQ := Lib.hid (HNo.out (hFb.out rfl))
   clear HNo HYe HBd HAp hFa hFb
   have BE := Lib.hid (pt_set (BP.out _ Xwc.out) (.int .i64 0) (.int .i64 0))
   have XE := Lib.hid (((X0.out.trans Xwc.out).set (p := ⟨g4, 0, none⟩) hg4 (.int .i64 0)).set (p := ⟨g4, 1, none⟩) hg4 (.int .i64 0))
   obtain ⟨p4, p4'⟩ := (BP.out _ Xwc.out).cells
   have l4 := (BP.out _ Xwc.out).lt
   go_wp2_with fail
   exact bodyPost_ret (results_ct rfl rfl (ld_pt BE.out)) rfl ⟨by rw [hQ.out]; rfl, XE.out⟩
  | false =>
   obtain ⟨e0, n1, n2, eq_⟩ := hFa.out rfl
   have hap := HAp.out e0 n1 n2
   have hQ := Lib.hid (HYe.out ⟨e0, by rw [hap]; exact eq_⟩)
   have hBd2 := Lib.hid (HBd.out e0 n1 n2)
   clear HNo HYe HBd HAp hFa hFb hap e0 eq_ hF1
   by_cases hz : zf = zt
   ·have hpl2 := hpl.out
    rw [if_pos hz] at hpl2
    subst hpl2
    subst hz
    have dz : (zf == zf) = true := by simp
    clear hBd2 hpl n1 n2
    have BE := Lib.hid (pt_set (BP.out _ Xwc.out) (.int .i64 zax) (.int .i64 zay))
    have XE := Lib.hid (((X0.out.trans Xwc.out).set (p := ⟨g4, 0, none⟩) hg4 (.int .i64 zax)).set (p := ⟨g4, 1, none⟩) hg4 (.int .i64 zay))
    obtain ⟨p4, p4'⟩ := (BP.out _ Xwc.out).cells
    have l4 := (BP.out _ Xwc.out).lt
    go_wp2_with fail
    exact bodyPost_ret (results_ct rfl rfl (ld_pt BE.out)) rfl ⟨by rw [hQ.out]; rfl, XE.out⟩
   ·have hpl2 := hpl.out
    rw [if_neg hz] at hpl2
    have hB := hBd2.out hz
    have HFx := Lib.hid (fun w => wfl_any hB.x w)
    have HFy := Lib.hid (fun w => wfl_any hB.y w)
    obtain ⟨v1, v2⟩ := hB.x.val
    obtain ⟨v3, v4⟩ := hB.y.val
    obtain ⟨x1, x2⟩ := hB.ax
    obtain ⟨x3, x4⟩ := hB.ay
    obtain ⟨x5, x6⟩ := hB.bx
    obtain ⟨x7, x8⟩ := hB.by_
    have m1 := hB.n1
    have m2 := hB.n2
    have m3 := hB.c1
    have m4 := hB.c2
    clear hB hBd2 hpl
    dsimp only at *
    have dz : (zf == zt) = false := by rw [beq_eq_false_iff_ne]; exact hz
    have e1 : IntKind.i64.wrap (zbx - zax) = zbx - zax := by rw [IntKind.wrap_i64]; omega
    have e2 : IntKind.i64.wrap (zby - zay) = zby - zay := by rw [IntKind.wrap_i64]; omega
    have e3 : IntKind.i64.wrap (n - zf) = n - zf := by rw [IntKind.wrap_i64]; omega
    have e4 : IntKind.i64.wrap (zt - zf) = zt - zf := by rw [IntKind.wrap_i64]; omega
    generalize (zbx - zax) * (n - zf) / (zt - zf) = qx at *
    generalize (zby - zay) * (n - zf) / (zt - zf) = qy at *
    have e5 : IntKind.i64.wrap (zax + qx) = zax + qx := by rw [IntKind.wrap_i64]; omega
    have e6 : IntKind.i64.wrap (zay + qy) = zay + qy := by rw [IntKind.wrap_i64]; omega
    subst hpl2
    clear v1 v2 v3 v4 x1 x2 x3 x4 x5 x6 x7 x8 m1 m2 m3 m4 hz n1 n2
    go_wp2_with fail
    refine (HFx.out _).mono ?_
    rintro e w5 ⟨rfl, hx5⟩
    have X5 := Lib.hid (Xwc.out.trans hx5)
    clear hx5 qa la qb HFx
    obtain ⟨qa, la, qb⟩ := BA.out _ X5.out
    go_wp2_with fail
    refine (HFy.out _).mono ?_
    rintro e w6 ⟨rfl, hx6⟩
    have X6 := Lib.hid (X5.out.trans hx6)
    clear hx6 qa la qb HFy
    obtain ⟨qa, la, qb⟩ := BA.out _ X6.out
    have BE := Lib.hid (pt_set (BP.out _ X6.out) (.int .i64 (zax + qx)) (.int .i64 (zay + qy)))
    have XE := Lib.hid (((X0.out.trans X6.out).set (p := ⟨g4, 0, none⟩) hg4 (.int .i64 (zax + qx))).set (p := ⟨g4, 1, none⟩) hg4 (.int .i64 (zay + qy)))
    obtain ⟨p4, p4'⟩ := (BP.out _ X6.out).cells
    have l4 := (BP.out _ X6.out).lt
    go_wp2_with fail
    exact bodyPost_ret (results_ct rfl rfl (ld_pt BE.out)) rfl ⟨by rw [hQ.out]; rfl, XE.out⟩
end Go.Proofs.YtjaponmpfdpemaaGreatDoor
