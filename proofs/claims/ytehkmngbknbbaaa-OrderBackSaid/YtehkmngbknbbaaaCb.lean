/-
  wide.Even of numbers that are not negative.
-/
import Derived.Test.YtehkmngbknbbaaaDb
import Derived.Test.YtehkmngbknbbaaaPe
set_option linter.unusedVariables false
namespace Go.Proofs.Ytehkmngbknbbaaa
open Go.RowKit

set_option maxRecDepth 100000 in
set_option maxHeartbeats 1000000 in
theorem evup_any (q r c : Nat) (hq : q < 18446744073709551616) (hr : r < c) (hc : c < 18446744073709551616) (bl : Bool) (w : World) :
    Calls Try.prog 109 #[.int .u64 (q : Int), .int .u64 (r : Int), .int .u64 (c : Int), .bool bl] w fun e w' => e = .returned (.bool (evUp q r c)) ∧ w = w' := by
  have e1 : IntKind.u64.wrap ((c : Int) - r) = ((c - r : Nat) : Int) := by rw [IntKind.wrap_u64]; omega
  have hH := Lib.hid hr
  unfold evUp
  go_enter Try.func109, Try.ntmps109
  go_wp2
  all_goals
    go_ret
    refine ⟨ret_bool ?_, rfl⟩
    have hr' := hH.out
    rw [Bool.eq_iff_iff]
    simp
    try omega

theorem sgn_nat (a : Nat) : 0 ≤ sgnI (a : Int) ∧ sgnI (a : Int) ≤ 1 := by unfold sgnI; split <;> (try split) <;> omega

set_option maxRecDepth 100000 in
set_option maxHeartbeats 2000000 in
theorem divide_nat (a b c : Nat) (ha : a < 9223372036854775808) (hb : b < 9223372036854775808) (hc : 0 < c) (hc2 : c < 9223372036854775808) (hq : evenN a b c < 9223372036854775808) (w : World) :
    Calls Try.prog 108 #[.int .i64 (a : Int), .int .i64 (b : Int), .int .i64 (c : Int), .func (.func 109) #[] #[]] w fun e w' => e = .returned (.tuple #[.int .i64 (evenN a b c : Int), .int .i64 0]) ∧ Ext w w' := by
  have h1 : ((c : Int) == 0) = false := by rw [beq_eq_false_iff_ne]; omega
  have h2 : decide ((c : Int) ≤ 0) = false := by simp; omega
  have hs : decide (RowKit.wrap64 (sgnI a * sgnI b * sgnI c) < 0) = false := by
    have s1 := sgn_nat a; have s2 := sgn_nat b; have s3 := sgn_nat c
    generalize sgnI (a : Int) = x at *
    generalize sgnI (b : Int) = y at *
    generalize sgnI (c : Int) = z at *
    have hx : x = 0 ∨ x = 1 := by omega
    have hy : y = 0 ∨ y = 1 := by omega
    have hz : z = 0 ∨ z = 1 := by omega
    rcases hx with rfl | rfl <;> rcases hy with rfl | rfl <;> rcases hz with rfl | rfl <;> simp [RowKit.wrap64]
  have hql : a * b / c < 9223372036854775808 := by
    have : a * b / c ≤ evenN a b c := by unfold evenN; split <;> omega
    omega
  have hhi : a * b / 18446744073709551616 < c := by
    rw [Nat.div_lt_iff_lt_mul (by decide)]
    have h1 : a * b < 9223372036854775808 * c := (Nat.div_lt_iff_lt_mul hc).1 hql
    omega
  have hrl := Nat.mod_lt (a * b) hc
  have HQ := Lib.hid hq
  clear hq
  generalize hm : a * b = m at *
  replace hm := Lib.hid hm
  go_enter Try.func108, Try.ntmps108
  go_wp2_with fail
  refine (wmul_nat a b ha hb _).mono ?_
  rintro e v1 ⟨rfl, rfl⟩
  rw [hm.out]
  have hd := Nat.div_add_mod m 18446744073709551616
  have hml : m % 18446744073709551616 < 18446744073709551616 := Nat.mod_lt _ (by decide)
  generalize m / 18446744073709551616 = mh at *
  generalize m % 18446744073709551616 = ml at *
  have h5 : decide ((c : Int) ≤ (mh : Int)) = false := by simp; omega
  replace hd := Lib.hid hd
  go_wp2_with (first | (go_at_call 125; refine (size_nat c hc2 _).mono ?_; rintro e w' ⟨rfl, rfl⟩) | (go_at_call 126; refine (sign_any _ _).mono ?_; rintro e w' ⟨rfl, rfl⟩))
  refine (div64_any mh ml c hhi hml (by omega) _).mono ?_
  rintro e v2 ⟨rfl, hx⟩
  rw [show mh * 18446744073709551616 + ml = m by rw [Nat.mul_comm]; exact hd.out]
  have HE := Lib.hid (show evenN a b c = if evUp (m / c) (m % c) c then m / c + 1 else m / c by unfold evenN; rw [hm.out])
  generalize m / c = q at *
  generalize m % c = r at *
  go_wp2_with fail
  refine (evup_any q r c (by omega) hrl (by omega) _ _).mono ?_
  rintro e v3 ⟨rfl, rfl⟩
  cases hu : evUp q r c
  · have HE2 := Lib.hid (HE.out.trans (by rw [hu]; rfl) : evenN a b c = q)
    have hq1 : q < 9223372036854775808 := by have := HQ.out; rw [HE2.out] at this; exact this
    go_wp2_with fail
    refine (signed_nat q hq1 _).mono ?_
    rintro e v4 ⟨rfl, rfl⟩
    go_wp2_with fail
    exact bodyPost_ret (results_tmp2 rfl _ _ _) rfl ⟨by rw [HE2.out]; rfl, hx⟩
  · have HE2 := Lib.hid (HE.out.trans (by rw [hu]; rfl) : evenN a b c = q + 1)
    have hq1 : q + 1 < 9223372036854775808 := by have := HQ.out; rw [HE2.out] at this; exact this
    have hb : ((q : Int) == 18446744073709551615) = false := by rw [beq_eq_false_iff_ne]; omega
    have hw : IntKind.u64.wrap ((q : Int) + 1) = ((q + 1 : Nat) : Int) := by rw [IntKind.wrap_u64]; omega
    go_wp2_with fail
    refine (signed_nat (q + 1) hq1 _).mono ?_
    rintro e v4 ⟨rfl, rfl⟩
    go_wp2_with fail
    exact bodyPost_ret (results_tmp2 rfl _ _ _) rfl ⟨by rw [HE2.out]; rfl, hx⟩
end Go.Proofs.Ytehkmngbknbbaaa
