/-
  Numbers as bytes: the walks through both Puts.
-/
import Derived.Test.YtehkmngbknbbaaaProg
import Derived.Test.YtehkmngbknbbaaaPb
set_option linter.unusedVariables false
namespace Go.Proofs.Ytehkmngbknbbaaa
open Go.RowKit
theorem row_u8 : RowT Try.prog 27 5 1 1 (.int .u8 0) := rowT_mk Try.underlying27 (z := .int .u8 0) (by kernel_rfl) rfl (by decide)
theorem row_int : RowT Try.prog 47 3 1 8 (.int .i64 0) := rowT_mk Try.underlying47 (z := .int .i64 0) (by kernel_rfl) rfl (by decide)

/-- A round of a Put: so much is written, r is left. -/
def PutRel (w : World) (z : Nat) (s o : Value) (wr : World) : Prop :=
  ∃ (f r : Nat) (out : List UInt8), s = .int .u64 (r : Int) ∧ r < 128 ^ f ∧ r < 18446744073709551616 ∧ 1 ≤ f ∧ f + out.length ≤ 10 ∧ lebF 10 z = out ++ lebF f r ∧ wr.ownsRow w.heap.size 5 1 o out.length (bV out) ∧ Ext w wr ∧ AllP wr o u8P
theorem PutRel.next {w w1 : World} {z f r : Nat} {out : List UInt8} {v1 : Value} {n c : Int} (hr : r < 128 ^ (f + 1)) (hrl : r < 18446744073709551616) (hge : 128 ≤ r) (hfl : f + 1 + out.length ≤ 10) (h : lebF 10 z = out ++ lebF (f + 1) r)
    (hg : w1.ownsRow w.heap.size 5 1 v1 (out.length + 1) (bV out ++ [.int .u8 c])) (hc : c = ((UInt8.ofNat (r % 128 + 128)).toNat : Int)) (hx : Ext w w1) (hall : AllP w1 v1 u8P) (hn : n = ((r / 128 : Nat) : Int)) : PutRel w z (.int .u64 n) v1 w1 := by
  subst hn hc
  refine ⟨f, r / 128, out ++ [UInt8.ofNat (r % 128 + 128)], rfl, ?_, by omega, ?_, by simp; omega, by rw [h, lebF_big f r hge]; simp, ?_, hx, hall⟩
  · rw [Nat.pow_succ] at hr; exact Nat.div_lt_of_lt_mul (by omega)
  · rcases f with _ | f
    · simp at hr; omega
    · omega
  · rw [bV_app, List.length_append]
    simpa [bV] using hg
theorem PutRel.done {w w1 : World} {z f r : Nat} {out : List UInt8} {v1 : Value} (hlt : r < 128) (h : lebF 10 z = out ++ lebF (f + 1) r)
    (hg : w1.ownsRow w.heap.size 5 1 v1 (out.length + 1) (bV out ++ [.int .u8 ((UInt8.ofNat r).toNat : Int)])) : w1.ownsRow w.heap.size 5 1 v1 (lebF 10 z).length (bV (lebF 10 z)) := by
  rw [h, lebF_small f r hlt, bV_app, List.length_append]
  simpa [bV] using hg

set_option maxHeartbeats 400000 in
theorem oput_any (n : Int) (h1 : -9223372036854775808 ≤ n) (h2 : n ≤ 9223372036854775807) (w : World) :
    Calls Try.prog 100 #[.int .i64 n] w fun e w' => ∃ v, e = .returned v ∧ w'.ownsRow w.heap.size 5 1 v (putL n).length (bV (putL n)) ∧ Ext w w' ∧ AllP w' v u8P := by
  have hz := zig_o n h1 h2
  have hz1 := zig_lt n h1 h2
  go_enter Try.func100, Try.ntmps100
  go_wp2
  clear hz
  go_loopw [3, 4] (fun s o wr => PutRel w (zig n) s o wr) (fun s _ _ => (intOf s).toNat)
  case atStart => exact ⟨10, zig n, [], rfl, by omega, by omega, by omega, by simp, rfl, World.ownsRow_nil _ _ _ _, Ext.refl _, AllP.nil _ _ _ _⟩
  case round =>
    obtain ⟨f, r, out, rfl, hr, hrl, hf, hfl, heq, hown, hx, hall⟩ := hrel
    obtain ⟨f, rfl⟩ : ∃ g, f = g + 1 := ⟨f - 1, by omega⟩
    have HE := Lib.hid heq
    have HR := Lib.hid hr
    have HL := Lib.hid hrl
    clear heq hrl hr hz1
    by_cases hlt : r < 128
    · have hb := byte_lo r hlt
      have hd : decide ((128 : Int) ≤ (r : Int)) = false := by simp; omega
      go_wp2_with (at_builtin; refine wpl_app1 row_u8 w wr (.tmp 22) (.tmp 25) rfl rfl rfl hown hx rfl (by simp) rfl (by simp [Value.oneCell']) (by omega) (by unfold maxLen; omega) ?_; intro v1 w1 hg)
      go_ret
      exact ⟨_, rfl, PutRel.done hlt HE.out hg.own, hg.ext, hg.all u8P u8z (u8b1 _ _) (hall.ext ((Ext.refl _).alloc _))⟩
    · have hb := byte_o' r
      have hd : decide ((128 : Int) ≤ (r : Int)) = true := by simp; omega
      go_wp2_with (at_builtin; refine wpl_app1 row_u8 w wr (.tmp 16) (.tmp 20) rfl rfl rfl hown hx rfl (by simp) rfl (by simp [Value.oneCell']) (by omega) (by unfold maxLen; omega) ?_; intro v1 w1 hg)
      go_roundw
      case rel => exact PutRel.next HR.out HL.out (by omega) hfl HE.out hg.own (byte_o2 r) hg.ext (hg.all u8P u8z (u8b1 _ _) (hall.ext ((Ext.refl _).alloc _))) rfl
      case measure => simp [intOf]; omega

set_option maxHeartbeats 400000 in
theorem rput_any (n : Int) (h1 : -9223372036854775808 ≤ n) (h2 : n ≤ 9223372036854775807) (w : World) :
    Calls Try.prog 103 #[.int .i64 n] w fun e w' => ∃ v, e = .returned v ∧ w'.ownsRow w.heap.size 5 1 v (putL n).length (bV (putL n)) ∧ Ext w w' ∧ AllP w' v u8P := by
  have hz1 := zig_lt n h1 h2
  by_cases hn : n < 0
  case' pos =>
    have hz := zig_r2 n h1 hn
    have hd0 : decide (n < (0 : Int)) = true := by simpa using hn
  case' neg =>
    have hz := zig_r1 n h2 (by omega)
    have hd0 : decide (n < (0 : Int)) = false := by simpa using hn
  all_goals
    clear hn
    go_enter Try.func103, Try.ntmps103
    go_wp2
    clear hz
    go_loopw [3, 4] (fun s o wr => PutRel w (zig n) s o wr) (fun s _ _ => (intOf s).toNat)
    case atStart => exact ⟨10, zig n, [], rfl, by omega, by omega, by omega, by simp, rfl, World.ownsRow_nil _ _ _ _, Ext.refl _, AllP.nil _ _ _ _⟩
    case round =>
      obtain ⟨f, r, out, rfl, hr, hrl, hf, hfl, heq, hown, hx, hall⟩ := hrel
      obtain ⟨f, rfl⟩ : ∃ g, f = g + 1 := ⟨f - 1, by omega⟩
      have HE := Lib.hid heq
      have HR := Lib.hid hr
      have HL := Lib.hid hrl
      clear heq hrl hr hz1
      by_cases hlt : r < 128
      · have hb := byte_lo r hlt
        have hd : decide ((128 : Int) ≤ (r : Int)) = false := by simp; omega
        go_wp2_with (at_builtin; refine wpl_app1 row_u8 w wr (.tmp 23) (.tmp 26) rfl rfl rfl hown hx rfl (by simp) rfl (by simp [Value.oneCell']) (by omega) (by unfold maxLen; omega) ?_; intro v1 w1 hg)
        go_ret
        exact ⟨_, rfl, PutRel.done hlt HE.out hg.own, hg.ext, hg.all u8P u8z (u8b1 _ _) (hall.ext ((Ext.refl _).alloc _))⟩
      · skip
        have hd : decide ((128 : Int) ≤ (r : Int)) = true := by simp; omega
        go_wp2_with (at_builtin; refine wpl_app1 row_u8 w wr (.tmp 14) (.tmp 19) rfl rfl rfl hown hx rfl (by simp) rfl (by simp [Value.oneCell']) (by omega) (by unfold maxLen; omega) ?_; intro v1 w1 hg)
        go_roundw
        case rel => exact PutRel.next HR.out HL.out (by omega) hfl HE.out hg.own (byte_r' r) hg.ext (hg.all u8P u8z (u8b1 _ _) (hall.ext ((Ext.refl _).alloc _))) (u64_div r HL.out)
        case measure => have hq := u64_div r HL.out; simp only [intOf]; rw [hq]; omega
end Go.Proofs.Ytehkmngbknbbaaa
