/-
  The plain side of bytes: how a number is written, and read.
-/
import Derived.Test.YtokakpbpenndlaaGreatDoorRs01
import Derived.Test.YtokakpbpenndlaaGreatDoorProg
import Derived.Shelf.Bits.Mul64
set_option linter.unusedVariables false
namespace Go.Proofs.YtokakpbpenndlaaGreatDoor

/-- The rank of a number: 0, -1, 1, -2, .. -/
def zig (n : Int) : Nat := if 0 ≤ n then (2 * n).toNat else (-2 * n - 1).toNat
def lebF : Nat → Nat → List UInt8
  | 0, _ => []
  | f + 1, r => if r < 128 then [UInt8.ofNat r] else UInt8.ofNat (r % 128 + 128) :: lebF f (r / 128)
/-- P5.1. -/
def putL (n : Int) : List UInt8 := lebF 10 (zig n)
theorem zig_lt (n : Int) (h1 : -9223372036854775808 ≤ n) (h2 : n ≤ 9223372036854775807) : zig n < 18446744073709551616 := by
  unfold zig; split <;> omega
theorem lebF_len (f : Nat) : ∀ r, (lebF f r).length ≤ f := by
  induction f with
  | zero => intro r; simp [lebF]
  | succ f ih =>
    intro r
    unfold lebF
    split
    · simp
    · simp; exact ih _
theorem putL_len (n : Int) : (putL n).length ≤ 10 := lebF_len 10 _
theorem lebF_small (f r : Nat) (h : r < 128) : lebF (f + 1) r = [UInt8.ofNat r] := by simp [lebF, h]
theorem lebF_big (f r : Nat) (h : 128 ≤ r) : lebF (f + 1) r = UInt8.ofNat (r % 128 + 128) :: lebF f (r / 128) := by
  simp [lebF]; omega

theorem zig_o (n : Int) (h1 : -9223372036854775808 ≤ n) (h2 : n ≤ 9223372036854775807) :
    bits BinOp.xor IntKind.u64 (IntKind.u64.wrap (RowKit.wrap64 (n * 2))) (IntKind.u64.wrap (n / 9223372036854775808)) = (zig n : Int) := by
  have e1 : IntKind.u64.wrap (RowKit.wrap64 (n * 2)) = (n * 2) % 18446744073709551616 := by rw [IntKind.wrap_u64]; unfold RowKit.wrap64; omega
  rw [e1, IntKind.wrap_u64]
  rw [u64_xor _ _ (by omega) (by omega) (by omega) (by omega)]
  unfold zig
  by_cases h : 0 ≤ n
  · rw [if_pos h, show n / 9223372036854775808 = 0 by omega, show ((0 : Int) % 18446744073709551616).toNat = 0 by omega, Nat.xor_zero]; omega
  · rw [if_neg h, show n / 9223372036854775808 = -1 by omega, show ((-1 : Int) % 18446744073709551616).toNat = 18446744073709551615 by omega]
    obtain ⟨m, hm⟩ := Int.eq_ofNat_of_zero_le (show 0 ≤ n * 2 % 18446744073709551616 by omega)
    rw [hm]
    have hlt : m < 2 ^ 64 := by omega
    have hx : m ^^^ (2 ^ 64 - 1) = 2 ^ 64 - 1 - m := by
      have := congrArg BitVec.toNat (BitVec.xor_allOnes (x := BitVec.ofNat 64 m))
      simp only [BitVec.toNat_xor, BitVec.toNat_allOnes, BitVec.toNat_not, BitVec.toNat_ofNat, Nat.mod_eq_of_lt hlt] at this
      exact this
    rw [Int.toNat_natCast, show (18446744073709551615 : Nat) = 2 ^ 64 - 1 by decide, hx]
    omega
theorem zig_r1 (n : Int) (h2 : n ≤ 9223372036854775807) (h : 0 ≤ n) : IntKind.u64.wrap (IntKind.u64.wrap n * 2) = (zig n : Int) := by
  rw [IntKind.wrap_u64, IntKind.wrap_u64]; unfold zig; rw [if_pos h]; omega
theorem zig_r2 (n : Int) (h1 : -9223372036854775808 ≤ n) (h : n < 0) : bits BinOp.xor IntKind.u64 IntKind.u64.max (IntKind.u64.wrap (IntKind.u64.wrap n * 2)) = (zig n : Int) := by
  have e1 : IntKind.u64.wrap (IntKind.u64.wrap n * 2) = (n * 2) % 18446744073709551616 := by rw [IntKind.wrap_u64, IntKind.wrap_u64]; omega
  have e2 : IntKind.u64.max = 18446744073709551615 := by decide
  rw [e1, e2]
  rw [u64_xor _ _ (by omega) (by omega) (by omega) (by omega)]
  unfold zig
  rw [if_neg (by omega), show ((18446744073709551615 : Int)).toNat = 18446744073709551615 by omega]
  obtain ⟨m, hm⟩ := Int.eq_ofNat_of_zero_le (show 0 ≤ n * 2 % 18446744073709551616 by omega)
  rw [hm]
  have hlt : m < 2 ^ 64 := by omega
  have hx : m ^^^ (2 ^ 64 - 1) = 2 ^ 64 - 1 - m := by
    have := congrArg BitVec.toNat (BitVec.xor_allOnes (x := BitVec.ofNat 64 m))
    simp only [BitVec.toNat_xor, BitVec.toNat_allOnes, BitVec.toNat_not, BitVec.toNat_ofNat, Nat.mod_eq_of_lt hlt] at this
    exact this
  rw [Int.toNat_natCast, show (18446744073709551615 : Nat) = 2 ^ 64 - 1 by decide, Nat.xor_comm, hx]
  omega

/-- Bytes as cells. -/
def bV (l : List UInt8) : List Value := l.map fun b => .int .u8 (b.toNat : Int)
theorem bV_len (l : List UInt8) : (bV l).length = l.length := by simp [bV]
theorem bV_app (a b : List UInt8) : bV (a ++ b) = bV a ++ bV b := by simp [bV]
theorem bV_one (l : List UInt8) : ∀ u ∈ bV l, u.oneCell' = true := by
  intro u hu
  simp only [bV, List.mem_map] at hu
  obtain ⟨b, _, rfl⟩ := hu
  rfl
def u8P (u : Value) : Prop := ∃ n : Int, u = .int .u8 n
theorem u8z : ∀ u ∈ (Value.int .u8 0).cells.toList, u8P u := by intro u hu; simp [Value.cells] at hu; exact ⟨0, hu⟩
theorem u8b (l : List UInt8) : ∀ u ∈ bV l, u8P u := by
  intro u hu
  simp only [bV, List.mem_map] at hu
  obtain ⟨b, _, rfl⟩ := hu
  exact ⟨_, rfl⟩
theorem u8bb (a b : List UInt8) : ∀ u ∈ bV a ++ bV b, u8P u := by rw [← bV_app]; exact u8b _
theorem u8b1 (a : List UInt8) (c : Int) : ∀ u ∈ bV a ++ (#[Value.int .u8 c] : Array Value).toList, u8P u := by
  intro u hu
  rcases List.mem_append.1 hu with hu | hu
  · exact u8b a u hu
  · simp at hu; exact ⟨c, hu⟩
theorem byte_lo (r : Nat) (h : r < 128) : IntKind.u8.wrap (r : Int) = ((UInt8.ofNat r).toNat : Int) := by
  rw [IntKind.wrap_u8]; simp
theorem byte_o (r : Nat) : bits BinOp.or IntKind.u8 (IntKind.u8.wrap (r : Int)) 128 = ((UInt8.ofNat (r % 128 + 128)).toNat : Int) := by
  rw [IntKind.wrap_u8, u8_or _ _ (by omega) (by omega) (by omega) (by omega)]
  have h : ∀ x : Fin 256, x.val ||| 128 = x.val % 128 + 128 := by decide +kernel
  have hx := h ⟨((r : Int) % 256).toNat, by omega⟩
  simp only at hx
  rw [show ((128 : Int)).toNat = 128 by rfl, hx]
  simp; omega
theorem byte_o' (r : Nat) : bits BinOp.or IntKind.u8 ((r : Int) % 256) 128 = ((UInt8.ofNat (r % 128 + 128)).toNat : Int) := by rw [← byte_o, IntKind.wrap_u8]
theorem byte_r' (r : Nat) : (r : Int) % 128 + 128 = ((UInt8.ofNat (r % 128 + 128)).toNat : Int) := by simp; omega
theorem u64_div (r : Nat) (h : r < 18446744073709551616) : IntKind.u64.wrap ((r : Int) / 128) = ((r / 128 : Nat) : Int) := by rw [IntKind.wrap_u64]; omega
theorem byte_o2 (r : Nat) : ((r : Int) % 128 + 128) % 256 = ((UInt8.ofNat (r % 128 + 128)).toNat : Int) := by simp
theorem byte_r (r : Nat) : IntKind.u8.wrap (IntKind.u8.wrap ((r : Int) % 128) + 128) = ((UInt8.ofNat (r % 128 + 128)).toNat : Int) := by
  rw [IntKind.wrap_u8, IntKind.wrap_u8]; simp

def putsL (l : List Int) : List UInt8 := l.flatMap putL
theorem putsL_snoc (l : List Int) (k : Nat) (h : k < l.length) : putsL (l.take (k + 1)) = putsL (l.take k) ++ putL l[k] := by
  rw [List.take_succ_eq_append_getElem h]; unfold putsL; rw [List.flatMap_append, List.flatMap_cons, List.flatMap_nil, List.append_nil]
theorem putsL_app (a b : List Int) : putsL (a ++ b) = putsL a ++ putsL b := by simp [putsL]
theorem putsL_len (l : List Int) : (putsL l).length ≤ 10 * l.length := by
  induction l with
  | nil => simp [putsL]
  | cons a l ih => have := putL_len a; simp only [putsL, List.flatMap_cons, List.length_append, List.length_cons] at *; omega
def i64 (n : Int) : Prop := -9223372036854775808 ≤ n ∧ n ≤ 9223372036854775807
end Go.Proofs.YtokakpbpenndlaaGreatDoor

set_option linter.unusedVariables false
namespace Go.Proofs.YtokakpbpenndlaaGreatDoor
open Go.RowKit
theorem row_u8 : RowT Tryz.prog 24 5 1 1 (.int .u8 0) := rowT_mk Tryz.underlying24 (z := .int .u8 0) (by kernel_rfl) rfl (by decide)
theorem row_int : RowT Tryz.prog 50 3 1 8 (.int .i64 0) := rowT_mk Tryz.underlying50 (z := .int .i64 0) (by kernel_rfl) rfl (by decide)

/-- A round of a Put: so much is written, r is left. -/
def PutRel (w : World) (z : Nat) (s o : Value) (wr : World) : Prop :=
  ∃ (f r : Nat) (out : List UInt8), s = .int .u64 (r : Int) ∧ r < 128 ^ f ∧ r < 18446744073709551616 ∧ 1 ≤ f ∧ f + out.length ≤ 10 ∧ lebF 10 z = out ++ lebF f r ∧ wr.ownsRow w.heap.size 5 1 o out.length (bV out) ∧ Ext w wr ∧ AllP wr o u8P
theorem PutRel.next {w w1 : World} {z f r : Nat} {out : List UInt8} {v1 : Value} {n c : Int} (hr : r < 128 ^ (f + 1)) (hrl : r < 18446744073709551616) (hge : 128 ≤ r) (hfl : f + 1 + out.length ≤ 10) (h : lebF 10 z = out ++ lebF (f + 1) r)
    (hg : w1.ownsRow w.heap.size 5 1 v1 (out.length + 1) (bV out ++ [.int .u8 c])) (hc : c = ((UInt8.ofNat (r % 128 + 128)).toNat : Int)) (hx : Ext w w1) (hall : AllP w1 v1 u8P) (hn : n = ((r / 128 : Nat) : Int)) : PutRel w z (.int .u64 n) v1 w1 := by
  subst hn hc
  refine ⟨f, r / 128, out ++ [UInt8.ofNat (r % 128 + 128)], rfl, ?_, by omega, ?_, by simp; omega, by rw [h, lebF_big f r hge]; simp, ?_, hx, hall⟩
  · rw [Nat.pow_succ] at hr; exact Nat.div_lt_of_lt_mul (by omega)
  · rcases f with _ | f
    · simp at hr; omega
    · omega
  · rw [bV_app, List.length_append]
    simpa [bV] using hg
theorem PutRel.done {w w1 : World} {z f r : Nat} {out : List UInt8} {v1 : Value} (hlt : r < 128) (h : lebF 10 z = out ++ lebF (f + 1) r)
    (hg : w1.ownsRow w.heap.size 5 1 v1 (out.length + 1) (bV out ++ [.int .u8 ((UInt8.ofNat r).toNat : Int)])) : w1.ownsRow w.heap.size 5 1 v1 (lebF 10 z).length (bV (lebF 10 z)) := by
  rw [h, lebF_small f r hlt, bV_app, List.length_append]
  simpa [bV] using hg

set_option maxHeartbeats 400000 in
theorem oput_any (n : Int) (h1 : -9223372036854775808 ≤ n) (h2 : n ≤ 9223372036854775807) (w : World) :
    Calls Tryz.prog 43 #[.int .i64 n] w fun e w' => ∃ v, e = .returned v ∧ w'.ownsRow w.heap.size 5 1 v (putL n).length (bV (putL n)) ∧ Ext w w' ∧ AllP w' v u8P := by
  have hz := zig_o n h1 h2
  have hz1 := zig_lt n h1 h2
  go_enter Tryz.func43, Tryz.ntmps43
  go_wp2
  clear hz
  go_loopw [3, 4] (fun s o wr => PutRel w (zig n) s o wr) (fun s _ _ => (intOf s).toNat)
  case atStart => exact ⟨10, zig n, [], rfl, by omega, by omega, by omega, by simp, rfl, World.ownsRow_nil _ _ _ _, Ext.refl _, AllP.nil _ _ _ _⟩
  case round =>
    obtain ⟨f, r, out, rfl, hr, hrl, hf, hfl, heq, hown, hx, hall⟩ := hrel
    obtain ⟨f, rfl⟩ : ∃ g, f = g + 1 := ⟨f - 1, by omega⟩
    have HE := Lib.hid heq
    have HR := Lib.hid hr
    have HL := Lib.hid hrl
    clear heq hrl hr hz1
    by_cases hlt : r < 128
    · have hb := byte_lo r hlt
      have hd : decide ((128 : Int) ≤ (r : Int)) = false := by simp; omega
      go_wp2_with (at_builtin; refine wpl_app1 row_u8 w wr (.tmp 22) (.tmp 25) rfl rfl rfl hown hx rfl (by simp) rfl (by simp [Value.oneCell']) (by omega) (by unfold maxLen; omega) ?_; intro v1 w1 hg)
      go_ret
      exact ⟨_, rfl, PutRel.done hlt HE.out hg.own, hg.ext, hg.all u8P u8z (u8b1 _ _) (hall.ext ((Ext.refl _).alloc _))⟩
    · have hb := byte_o' r
      have hd : decide ((128 : Int) ≤ (r : Int)) = true := by simp; omega
      go_wp2_with (at_builtin; refine wpl_app1 row_u8 w wr (.tmp 16) (.tmp 20) rfl rfl rfl hown hx rfl (by simp) rfl (by simp [Value.oneCell']) (by omega) (by unfold maxLen; omega) ?_; intro v1 w1 hg)
      go_roundw
      case rel => exact PutRel.next HR.out HL.out (by omega) hfl HE.out hg.own (byte_o2 r) hg.ext (hg.all u8P u8z (u8b1 _ _) (hall.ext ((Ext.refl _).alloc _))) rfl
      case measure => simp [intOf]; omega

set_option maxHeartbeats 400000 in
theorem rput_any (n : Int) (h1 : -9223372036854775808 ≤ n) (h2 : n ≤ 9223372036854775807) (w : World) :
    Calls Tryz.prog 45 #[.int .i64 n] w fun e w' => ∃ v, e = .returned v ∧ w'.ownsRow w.heap.size 5 1 v (putL n).length (bV (putL n)) ∧ Ext w w' ∧ AllP w' v u8P := by
  have hz1 := zig_lt n h1 h2
  by_cases hn : n < 0
  case' pos =>
    have hz := zig_r2 n h1 hn
    have hd0 : decide (n < (0 : Int)) = true := by simpa using hn
  case' neg =>
    have hz := zig_r1 n h2 (by omega)
    have hd0 : decide (n < (0 : Int)) = false := by simpa using hn
  all_goals
    clear hn
    go_enter Tryz.func45, Tryz.ntmps45
    go_wp2
    clear hz
    go_loopw [3, 4] (fun s o wr => PutRel w (zig n) s o wr) (fun s _ _ => (intOf s).toNat)
    case atStart => exact ⟨10, zig n, [], rfl, by omega, by omega, by omega, by simp, rfl, World.ownsRow_nil _ _ _ _, Ext.refl _, AllP.nil _ _ _ _⟩
    case round =>
      obtain ⟨f, r, out, rfl, hr, hrl, hf, hfl, heq, hown, hx, hall⟩ := hrel
      obtain ⟨f, rfl⟩ : ∃ g, f = g + 1 := ⟨f - 1, by omega⟩
      have HE := Lib.hid heq
      have HR := Lib.hid hr
      have HL := Lib.hid hrl
      clear heq hrl hr hz1
      by_cases hlt : r < 128
      · have hb := byte_lo r hlt
        have hd : decide ((128 : Int) ≤ (r : Int)) = false := by simp; omega
        go_wp2_with (at_builtin; refine wpl_app1 row_u8 w wr (.tmp 23) (.tmp 26) rfl rfl rfl hown hx rfl (by simp) rfl (by simp [Value.oneCell']) (by omega) (by unfold maxLen; omega) ?_; intro v1 w1 hg)
        go_ret
        exact ⟨_, rfl, PutRel.done hlt HE.out hg.own, hg.ext, hg.all u8P u8z (u8b1 _ _) (hall.ext ((Ext.refl _).alloc _))⟩
      · skip
        have hd : decide ((128 : Int) ≤ (r : Int)) = true := by simp; omega
        go_wp2_with (at_builtin; refine wpl_app1 row_u8 w wr (.tmp 14) (.tmp 19) rfl rfl rfl hown hx rfl (by simp) rfl (by simp [Value.oneCell']) (by omega) (by unfold maxLen; omega) ?_; intro v1 w1 hg)
        go_roundw
        case rel => exact PutRel.next HR.out HL.out (by omega) hfl HE.out hg.own (byte_r' r) hg.ext (hg.all u8P u8z (u8b1 _ _) (hall.ext ((Ext.refl _).alloc _))) (u64_div r HL.out)
        case measure => have hq := u64_div r HL.out; simp only [intOf]; rw [hq]; omega
end Go.Proofs.YtokakpbpenndlaaGreatDoor

set_option linter.unusedVariables false
namespace Go.Proofs.YtokakpbpenndlaaGreatDoor
open Go.RowKit

/-- The sign of a number. -/
def sgnI (x : Int) : Int := if x < 0 then -1 else if 0 < x then 1 else 0
theorem nan_any (x : Int) (w : World) : Calls Tryz.prog 127 #[.int .i64 x] w fun e w' => e = .returned (.bool false) ∧ w = w' := by
  go_enter Tryz.func127, Tryz.ntmps127
  go_wp2
  go_ret
  exact ⟨ret_bool (by simp), rfl⟩
theorem cmp0_any (x : Int) (w : World) : Calls Tryz.prog 83 #[.int .i64 x, .int .i64 0] w fun e w' => e = .returned (.int .i64 (sgnI x)) ∧ w = w' := by
  by_cases h1 : x < 0
  · go_enter Tryz.func83, Tryz.ntmps83
    go_wp2_with (go_at_call 127; refine (nan_any _ _).mono ?_; rintro e w' ⟨rfl, rfl⟩)
    go_ret
    exact ⟨by simp [sgnI, h1], rfl⟩
  · by_cases h2 : 0 < x
    · go_enter Tryz.func83, Tryz.ntmps83
      go_wp2_with (go_at_call 127; refine (nan_any _ _).mono ?_; rintro e w' ⟨rfl, rfl⟩)
      go_ret
      exact ⟨by simp [sgnI, h1, h2], rfl⟩
    · go_enter Tryz.func83, Tryz.ntmps83
      go_wp2_with (go_at_call 127; refine (nan_any _ _).mono ?_; rintro e w' ⟨rfl, rfl⟩)
      go_ret
      exact ⟨by rw [show sgnI x = 0 by rw [sgnI, if_neg (by omega), if_neg (by omega)]]; rfl, rfl⟩
theorem sign_any (x : Int) (w : World) : Calls Tryz.prog 203 #[.int .i64 x] w fun e w' => e = .returned (.int .i64 (sgnI x)) ∧ w = w' := by
  go_enter Tryz.func203, Tryz.ntmps203
  go_wp2_with (go_at_call 83; refine (cmp0_any _ _).mono ?_; rintro e w' ⟨rfl, rfl⟩)
  go_ret
  exact ⟨rfl, rfl⟩
theorem size_nat (n : Nat) (h : n < 9223372036854775808) (w : World) : Calls Tryz.prog 202 #[.int .i64 (n : Int)] w fun e w' => e = .returned (.int .u64 (n : Int)) ∧ w = w' := by
  have hd : decide ((n : Int) < 0) = false := by simp
  go_enter Tryz.func202, Tryz.ntmps202
  go_wp2
  go_ret
  exact ⟨rfl, rfl⟩
theorem signed_nat (n : Nat) (h : n < 9223372036854775808) (w : World) : Calls Tryz.prog 205 #[.int .u64 (n : Int), .bool false] w fun e w' => e = .returned (.tuple #[.int .i64 (n : Int), .int .i64 0]) ∧ w = w' := by
  have hd : decide ((n : Int) < 9223372036854775808) = true := by simp; omega
  go_enter Tryz.func205, Tryz.ntmps205
  go_wp2
  go_ret2
  exact ⟨rfl, rfl⟩
set_option maxHeartbeats 1000000 in
/-- (The walk of the shelf's contract, at this program.) -/
theorem mul64_any (x y : Nat) (hx : x < 18446744073709551616) (hy : y < 18446744073709551616) (w : World) :
    Calls Tryz.prog 210 #[.int .u64 (x : Int), .int .u64 (y : Int)] w fun e w' => e = .returned (.tuple #[.int .u64 ((x * y / 18446744073709551616 : Nat) : Int), .int .u64 ((x * y % 18446744073709551616 : Nat) : Int)]) ∧ w = w' := by
  obtain ⟨bd, bt, bw, hhi⟩ := Lib.mul64_hi x y hx hy
  have ba := Lib.half_mul_le (a := x / 4294967296) (b := y / 4294967296) (by omega) (by omega)
  have bb := Lib.half_mul_le (a := x / 4294967296) (b := y % 4294967296) (by omega) (by omega)
  have bc := Lib.half_mul_le (a := x % 4294967296) (b := y / 4294967296) (by omega) (by omega)
  have ba' : x / 4294967296 * (y / 4294967296) < 18446744073709551616 := by omega
  have bb' : x / 4294967296 * (y % 4294967296) < 18446744073709551616 := by omega
  have bc' : x % 4294967296 * (y / 4294967296) < 18446744073709551616 := by omega
  have bh1 : x / 4294967296 * (y / 4294967296) + (x / 4294967296 * (y % 4294967296) + x % 4294967296 * (y % 4294967296) / 4294967296) / 4294967296 < 18446744073709551616 := by omega
  have bh : x / 4294967296 * (y / 4294967296) + (x / 4294967296 * (y % 4294967296) + x % 4294967296 * (y % 4294967296) / 4294967296) / 4294967296 + ((x / 4294967296 * (y % 4294967296) + x % 4294967296 * (y % 4294967296) / 4294967296) % 4294967296 + x % 4294967296 * (y / 4294967296)) / 4294967296 < 18446744073709551616 := by
    rw [hhi]
    exact Nat.div_lt_of_lt_mul (Nat.lt_of_lt_of_le (Nat.mul_lt_mul'' hx hy) (Nat.le_refl _))
  go_enter Tryz.func210, Tryz.ntmps210
  go_wp2
  simp only [Mul64.maskN x hx, Mul64.maskN y hy, Mul64.divN, Mul64.mulN, Mul64.addN, Mul64.wrapN _ bd, Mul64.wrapN _ bb', Mul64.wrapN _ bt, Mul64.maskN _ bt, Mul64.wrapN _ bc', Mul64.wrapN _ bw, Mul64.wrapN _ ba', Mul64.wrapN _ bh1, Mul64.wrapN _ bh, Mul64.wrapM (x * y)]
  rw [hhi]
  go_ret2
  exact ⟨rfl, rfl⟩

set_option maxRecDepth 100000 in
set_option maxHeartbeats 1000000 in
theorem wmul_nat (a b : Nat) (ha : a < 9223372036854775808) (hb : b < 9223372036854775808) (w : World) :
    Calls Tryz.prog 201 #[.int .i64 (a : Int), .int .i64 (b : Int)] w fun e w' => e = .returned (.tuple #[.int .u64 ((a * b / 18446744073709551616 : Nat) : Int), .int .u64 ((a * b % 18446744073709551616 : Nat) : Int), .int .i64 (sgnI a * sgnI b)]) ∧ w = w' := by
  have hs : ∀ x : Int, -1 ≤ sgnI x ∧ sgnI x ≤ 1 := by intro x; unfold sgnI; split <;> (try split) <;> omega
  have h1 := Lib.hid (hs a)
  have h2 := Lib.hid (hs b)
  clear hs
  go_enter Tryz.func201, Tryz.ntmps201
  go_wp2_with (first | (go_at_call 202; refine (size_nat _ (by assumption) _).mono ?_; rintro e w' ⟨rfl, rfl⟩) | (go_at_call 210; refine (mul64_any a b (by omega) (by omega) _).mono ?_; rintro e w' ⟨rfl, rfl⟩) | (go_at_call 203; refine (sign_any _ _).mono ?_; rintro e w' ⟨rfl, rfl⟩))
  have hw : RowKit.wrap64 (sgnI a * sgnI b) = sgnI a * sgnI b := by
    have h1' := h1.out
    have h2' := h2.out
    generalize sgnI a = x at *
    generalize sgnI b = y at *
    have : x = -1 ∨ x = 0 ∨ x = 1 := by omega
    rcases this with rfl | rfl | rfl <;> (unfold RowKit.wrap64; omega)
  refine bodyPost_ret (v := .tuple #[.int .u64 ((a : Int) * b / 18446744073709551616), .int .u64 ((a : Int) * b % 18446744073709551616), .int .i64 (RowKit.wrap64 (sgnI a * sgnI b))]) (by simp [results, Tryz.results201, go_sem]) rfl ⟨?_, rfl⟩
  rw [hw]
  simp
end Go.Proofs.YtokakpbpenndlaaGreatDoor
