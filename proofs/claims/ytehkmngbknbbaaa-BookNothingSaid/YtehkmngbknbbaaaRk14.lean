/-
  wide.Sum.
-/
import Derived.Test.YtehkmngbknbbaaaRk08
import Derived.Test.YtehkmngbknbbaaaRk10
import Derived.Laws.Externs
set_option linter.unusedVariables false
namespace Go.Proofs.Ytehkmngbknbbaaa
open Go.RowKit

theorem add64_any (x y c : Int) (hx : 0 ≤ x) (hy : 0 ≤ y) (hc0 : 0 ≤ c) (hc : c ≤ 1) (w : World) : (callFunc 116 #[.int .u64 x, .int .u64 y, .int .u64 c]).run Try.prog w =
    .ok (.value (.tuple #[.int .u64 ((x + y + c) % 18446744073709551616), .int .u64 ((x + y + c) / 18446744073709551616)])) w := by
  rw [run_callFunc_extern Try.func116 (by kernel_rfl) (by kernel_rfl) (by kernel_rfl) (e := add64Entry) (by kernel_rfl), run_add64 x y c hx hy hc0 hc]
  rfl
theorem add64_0 (x y : Int) (hx : 0 ≤ x) (hy : 0 ≤ y) (w : World) : (callFunc 116 #[.int .u64 x, .int .u64 y, .int .u64 0]).run Try.prog w =
    .ok (.value (.tuple #[.int .u64 ((x + y) % 18446744073709551616), .int .u64 ((x + y) / 18446744073709551616)])) w := by
  simpa using add64_any x y 0 hx hy (Int.le_refl 0) (by decide) w

/-- P1.3: the sum, and the error. -/
def sumL (l : List Int) : Int := l.foldl (· + ·) 0
theorem sumL_snoc (l : List Int) (n : Int) : sumL (l ++ [n]) = sumL l + n := by simp [sumL, List.foldl_append]
theorem sumL_take (l : List Int) (k : Nat) (h : k < l.length) : sumL (l.take (k + 1)) = sumL (l.take k) + l[k] := by
  rw [List.take_succ_eq_append_getElem h, sumL_snoc]
def sumI (l : List Int) : Int × Int := if -9223372036854775808 ≤ sumL l ∧ sumL l ≤ 9223372036854775807 then (sumL l, 0) else (0, 5)
theorem sumL_bd (l : List Int) (h : ∀ n ∈ l, i64 n) : ∀ k, k ≤ l.length → -9223372036854775808 * (k : Int) ≤ sumL (l.take k) ∧ sumL (l.take k) ≤ 9223372036854775807 * (k : Int) := by
  intro k
  induction k with
  | zero => intro _; simp [sumL]
  | succ k ih =>
    intro hk
    have := ih (by omega)
    rw [sumL_take l k (by omega)]
    have hi := h l[k] (List.getElem_mem _)
    unfold i64 at hi
    omega
theorem sm_out {S : Int} {n : Nat} (hn : n ≤ 1000000000) (h1 : -9223372036854775808 * (n : Int) ≤ S) (h2 : S ≤ 9223372036854775807 * (n : Int)) (h : ¬ (-9223372036854775808 ≤ S ∧ S ≤ 9223372036854775807)) :
    S / 18446744073709551616 % 18446744073709551616 ≠ RowKit.wrap64 (S % 18446744073709551616) / 9223372036854775808 % 18446744073709551616 := by
  have hS := Int.mul_ediv_add_emod S 18446744073709551616
  have hr : 0 ≤ S % 18446744073709551616 ∧ S % 18446744073709551616 < 18446744073709551616 := by omega
  have hq : -1000000000 ≤ S / 18446744073709551616 ∧ S / 18446744073709551616 ≤ 1000000000 := by omega
  generalize S / 18446744073709551616 = q at *
  generalize S % 18446744073709551616 = r at *
  have eq : q % 18446744073709551616 = if 0 ≤ q then q else q + 18446744073709551616 := by split <;> omega
  have er : RowKit.wrap64 r / 9223372036854775808 % 18446744073709551616 = if r < 9223372036854775808 then 0 else 18446744073709551615 := by
    unfold RowKit.wrap64
    by_cases hr2 : r < 9223372036854775808
    · rw [if_pos hr2, show (r + 9223372036854775808) % 18446744073709551616 - 9223372036854775808 = r by omega, show r / 9223372036854775808 = 0 by omega]; rfl
    · rw [if_neg hr2, show (r + 9223372036854775808) % 18446744073709551616 - 9223372036854775808 = r - 18446744073709551616 by omega, show (r - 18446744073709551616) / 9223372036854775808 = -1 by omega]; rfl
  rw [eq, er]
  split <;> split <;> omega
def SmRel (l : List Int) (hi lo i : Value) : Prop := ∃ k : Nat, k ≤ l.length ∧ i = .int .i64 (k : Int) ∧ lo = .int .u64 (sumL (l.take k) % 18446744073709551616) ∧ hi = .int .u64 (sumL (l.take k) / 18446744073709551616 % 18446744073709551616)
theorem sm_lo (S n : Int) (hn : i64 n) : (S % 18446744073709551616 + IntKind.u64.wrap n) % 18446744073709551616 = (S + n) % 18446744073709551616 := by
  unfold i64 at hn
  rw [IntKind.wrap_u64]; omega
theorem sm_hi (S n : Int) (hn : i64 n) : (S / 18446744073709551616 % 18446744073709551616 + IntKind.u64.wrap (n / 9223372036854775808) + (S % 18446744073709551616 + IntKind.u64.wrap n) / 18446744073709551616) % 18446744073709551616 = (S + n) / 18446744073709551616 % 18446744073709551616 := by
  unfold i64 at hn
  rw [IntKind.wrap_u64, IntKind.wrap_u64]
  have hS := Int.mul_ediv_add_emod S 18446744073709551616
  have hr : 0 ≤ S % 18446744073709551616 ∧ S % 18446744073709551616 < 18446744073709551616 := by omega
  generalize S / 18446744073709551616 = h at *
  generalize S % 18446744073709551616 = r at *
  by_cases h0 : 0 ≤ n
  · have e1 : n / 9223372036854775808 = 0 := by omega
    have e2 : n % 18446744073709551616 = n := by omega
    have e3 : (S + n) / 18446744073709551616 = h + (r + n) / 18446744073709551616 := by omega
    rw [e1, e2, e3]
    omega
  · have e1 : n / 9223372036854775808 = -1 := by omega
    have e2 : n % 18446744073709551616 = n + 18446744073709551616 := by omega
    have e3 : (S + n) / 18446744073709551616 = h - 1 + (r + n + 18446744073709551616) / 18446744073709551616 := by omega
    rw [e1, e2, e3, show r + (n + 18446744073709551616) = r + n + 18446744073709551616 by omega]
    omega
theorem sm_carry (S n : Int) : 0 ≤ (S % 18446744073709551616 + IntKind.u64.wrap n) / 18446744073709551616 ∧ (S % 18446744073709551616 + IntKind.u64.wrap n) / 18446744073709551616 ≤ 1 := by
  rw [IntKind.wrap_u64]; omega

set_option maxRecDepth 100000 in
set_option maxHeartbeats 2000000 in
theorem sum_any (l : List Int) (A : Option Addr) (cap : Nat) (w : World) (hr : Reads w w.heap.size 1 A l.length (iV l)) (hi : ∀ n ∈ l, i64 n) (hm : l.length ≤ 1000000000) :
    Calls Try.prog 87 #[.slice A l.length cap] w fun e w' => e = .returned (.tuple #[.int .i64 (sumI l).1, .int .i64 (sumI l).2]) ∧ w = w' := by
  have HI := Lib.hid hi
  clear hi
  go_enter Try.func87, Try.ntmps87
  go_wp2_with fail
  go_loop [4, 5, 12] (fun hi lo i => SmRel l hi lo i) (fun _ _ i => l.length - (intOf i).toNat)
  case atStart => exact ⟨0, by omega, rfl, by simp [sumL], by simp [sumL]⟩
  case round =>
    obtain ⟨k, hk, rfl, rfl, rfl⟩ := hrel
    by_cases hlt : k < l.length
    · have hd : decide ((k : Int) < (l.length : Int)) = true := by simp; omega
      obtain ⟨b, off, u, rfl, hb, hu, hc⟩ := hr.at_ hlt
      have hu' : u = .int .i64 l[k] := by
        have : (iV l)[k]? = some (.int .i64 l[k]) := by simp [iV, hlt]
        rw [this] at hu
        exact (Option.some.inj hu).symm
      subst hu'
      have hn := HI.out l[k] (List.getElem_mem _)
      have hs := Lib.hid (sumL_take l k hlt)
      clear hr hu
      generalize l[k] = n at *
      generalize sumL (l.take k) = S at *
      have p1 : 0 ≤ S % 18446744073709551616 := by omega
      have p2 : 0 ≤ S / 18446744073709551616 % 18446744073709551616 := by omega
      have p3 : 0 ≤ IntKind.u64.wrap n := by rw [IntKind.wrap_u64]; omega
      have p4 : 0 ≤ IntKind.u64.wrap (n / 9223372036854775808) := by rw [IntKind.wrap_u64]; omega
      have p5 := sm_carry S n
      have e1 := Lib.hid (sm_lo S n hn)
      have e2 := Lib.hid (sm_hi S n hn)
      go_wp2_with (first | simp only [add64_0 _ _ p1 p3] | simp only [add64_any _ _ _ p2 p4 p5.1 p5.2])
      go_round
      case rel => exact ⟨k + 1, by omega, by go_num, by rw [hs.out, ← e1.out, Int.emod_add_emod], by rw [hs.out, ← e2.out]⟩
      case measure => simp [intOf]; omega
    · have hd : decide ((k : Int) < (l.length : Int)) = false := by simp; omega
      have hkl : l.take k = l := List.take_of_length_le (by omega)
      have hb := sumL_bd l HI.out l.length (Nat.le_refl _)
      rw [List.take_length] at hb
      rw [hkl]
      clear hkl
      have HS := Lib.hid (show sumI l = if -9223372036854775808 ≤ sumL l ∧ sumL l ≤ 9223372036854775807 then (sumL l, 0) else (0, 5) from rfl)
      generalize sumL l = S at *
      by_cases hf : -9223372036854775808 ≤ S ∧ S ≤ 9223372036854775807
      · have HF := Lib.hid (HS.out.trans (if_pos hf))
        have e1 : RowKit.wrap64 (S % 18446744073709551616) = S := by unfold RowKit.wrap64; omega
        have e2 : (S / 18446744073709551616 % 18446744073709551616 != IntKind.u64.wrap (S / 9223372036854775808)) = false := by
          rw [IntKind.wrap_u64]; simp; omega
        go_wp2_with fail
        go_ret2
        exact ⟨by rw [HF.out]; rfl, rfl⟩
      · have HF := Lib.hid (HS.out.trans (if_neg hf))
        obtain ⟨v, hv⟩ : ∃ v, RowKit.wrap64 (S % 18446744073709551616) = v := ⟨_, rfl⟩
        have e2 : (S / 18446744073709551616 % 18446744073709551616 != IntKind.u64.wrap (v / 9223372036854775808)) = true := by
          rw [← hv, IntKind.wrap_u64, bne_iff_ne]; exact sm_out hm hb.1 hb.2 hf
        go_wp2_with fail
        go_ret2
        exact ⟨by rw [HF.out]; rfl, rfl⟩
theorem sum_n (l : List Int) (n : Nat) (A : Option Addr) (cap : Nat) (w : World) (hn : l.length = n) (hr : Reads w w.heap.size 1 A n (iV l)) (hi : ∀ n ∈ l, i64 n) (hm : n ≤ 1000000000) :
    Calls Try.prog 87 #[.slice A n cap] w fun e w' => e = .returned (.tuple #[.int .i64 (sumI l).1, .int .i64 (sumI l).2]) ∧ w = w' := by
  subst hn
  exact sum_any l A cap w hr hi hm
end Go.Proofs.Ytehkmngbknbbaaa
