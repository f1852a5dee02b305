/-
  The plain side of bytes: how a number is written, and read.
-/
import Derived.Test.YtehkmngbknbbaaaRj01
set_option linter.unusedVariables false
namespace Go.Proofs.Ytehkmngbknbbaaa

/-- The rank of a number: 0, -1, 1, -2, .. -/
def zig (n : Int) : Nat := if 0 ≤ n then (2 * n).toNat else (-2 * n - 1).toNat
def lebF : Nat → Nat → List UInt8
  | 0, _ => []
  | f + 1, r => if r < 128 then [UInt8.ofNat r] else UInt8.ofNat (r % 128 + 128) :: lebF f (r / 128)
/-- P5.1. -/
def putL (n : Int) : List UInt8 := lebF 10 (zig n)
theorem zig_lt (n : Int) (h1 : -9223372036854775808 ≤ n) (h2 : n ≤ 9223372036854775807) : zig n < 18446744073709551616 := by
  unfold zig; split <;> omega
theorem lebF_len (f : Nat) : ∀ r, (lebF f r).length ≤ f := by
  induction f with
  | zero => intro r; simp [lebF]
  | succ f ih =>
    intro r
    unfold lebF
    split
    · simp
    · simp; exact ih _
theorem putL_len (n : Int) : (putL n).length ≤ 10 := lebF_len 10 _
theorem lebF_small (f r : Nat) (h : r < 128) : lebF (f + 1) r = [UInt8.ofNat r] := by simp [lebF, h]
theorem lebF_big (f r : Nat) (h : 128 ≤ r) : lebF (f + 1) r = UInt8.ofNat (r % 128 + 128) :: lebF f (r / 128) := by
  simp [lebF]; omega

theorem zig_o (n : Int) (h1 : -9223372036854775808 ≤ n) (h2 : n ≤ 9223372036854775807) :
    bits BinOp.xor IntKind.u64 (IntKind.u64.wrap (RowKit.wrap64 (n * 2))) (IntKind.u64.wrap (n / 9223372036854775808)) = (zig n : Int) := by
  have e1 : IntKind.u64.wrap (RowKit.wrap64 (n * 2)) = (n * 2) % 18446744073709551616 := by rw [IntKind.wrap_u64]; unfold RowKit.wrap64; omega
  rw [e1, IntKind.wrap_u64]
  rw [u64_xor _ _ (by omega) (by omega) (by omega) (by omega)]
  unfold zig
  by_cases h : 0 ≤ n
  · rw [if_pos h, show n / 9223372036854775808 = 0 by omega, show ((0 : Int) % 18446744073709551616).toNat = 0 by omega, Nat.xor_zero]; omega
  · rw [if_neg h, show n / 9223372036854775808 = -1 by omega, show ((-1 : Int) % 18446744073709551616).toNat = 18446744073709551615 by omega]
    obtain ⟨m, hm⟩ := Int.eq_ofNat_of_zero_le (show 0 ≤ n * 2 % 18446744073709551616 by omega)
    rw [hm]
    have hlt : m < 2 ^ 64 := by omega
    have hx : m ^^^ (2 ^ 64 - 1) = 2 ^ 64 - 1 - m := by
      have := congrArg BitVec.toNat (BitVec.xor_allOnes (x := BitVec.ofNat 64 m))
      simp only [BitVec.toNat_xor, BitVec.toNat_allOnes, BitVec.toNat_not, BitVec.toNat_ofNat, Nat.mod_eq_of_lt hlt] at this
      exact this
    rw [Int.toNat_natCast, show (18446744073709551615 : Nat) = 2 ^ 64 - 1 by decide, hx]
    omega
theorem zig_r1 (n : Int) (h2 : n ≤ 9223372036854775807) (h : 0 ≤ n) : IntKind.u64.wrap (IntKind.u64.wrap n * 2) = (zig n : Int) := by
  rw [IntKind.wrap_u64, IntKind.wrap_u64]; unfold zig; rw [if_pos h]; omega
theorem zig_r2 (n : Int) (h1 : -9223372036854775808 ≤ n) (h : n < 0) : bits BinOp.xor IntKind.u64 IntKind.u64.max (IntKind.u64.wrap (IntKind.u64.wrap n * 2)) = (zig n : Int) := by
  have e1 : IntKind.u64.wrap (IntKind.u64.wrap n * 2) = (n * 2) % 18446744073709551616 := by rw [IntKind.wrap_u64, IntKind.wrap_u64]; omega
  have e2 : IntKind.u64.max = 18446744073709551615 := by decide
  rw [e1, e2]
  rw [u64_xor _ _ (by omega) (by omega) (by omega) (by omega)]
  unfold zig
  rw [if_neg (by omega), show ((18446744073709551615 : Int)).toNat = 18446744073709551615 by omega]
  obtain ⟨m, hm⟩ := Int.eq_ofNat_of_zero_le (show 0 ≤ n * 2 % 18446744073709551616 by omega)
  rw [hm]
  have hlt : m < 2 ^ 64 := by omega
  have hx : m ^^^ (2 ^ 64 - 1) = 2 ^ 64 - 1 - m := by
    have := congrArg BitVec.toNat (BitVec.xor_allOnes (x := BitVec.ofNat 64 m))
    simp only [BitVec.toNat_xor, BitVec.toNat_allOnes, BitVec.toNat_not, BitVec.toNat_ofNat, Nat.mod_eq_of_lt hlt] at this
    exact this
  rw [Int.toNat_natCast, show (18446744073709551615 : Nat) = 2 ^ 64 - 1 by decide, Nat.xor_comm, hx]
  omega

/-- Bytes as cells. -/
def bV (l : List UInt8) : List Value := l.map fun b => .int .u8 (b.toNat : Int)
theorem bV_len (l : List UInt8) : (bV l).length = l.length := by simp [bV]
theorem bV_app (a b : List UInt8) : bV (a ++ b) = bV a ++ bV b := by simp [bV]
theorem bV_one (l : List UInt8) : ∀ u ∈ bV l, u.oneCell' = true := by
  intro u hu
  simp only [bV, List.mem_map] at hu
  obtain ⟨b, _, rfl⟩ := hu
  rfl
def u8P (u : Value) : Prop := ∃ n : Int, u = .int .u8 n
theorem u8z : ∀ u ∈ (Value.int .u8 0).cells.toList, u8P u := by intro u hu; simp [Value.cells] at hu; exact ⟨0, hu⟩
theorem u8b (l : List UInt8) : ∀ u ∈ bV l, u8P u := by
  intro u hu
  simp only [bV, List.mem_map] at hu
  obtain ⟨b, _, rfl⟩ := hu
  exact ⟨_, rfl⟩
theorem u8bb (a b : List UInt8) : ∀ u ∈ bV a ++ bV b, u8P u := by rw [← bV_app]; exact u8b _
theorem u8b1 (a : List UInt8) (c : Int) : ∀ u ∈ bV a ++ (#[Value.int .u8 c] : Array Value).toList, u8P u := by
  intro u hu
  rcases List.mem_append.1 hu with hu | hu
  · exact u8b a u hu
  · simp at hu; exact ⟨c, hu⟩
theorem byte_lo (r : Nat) (h : r < 128) : IntKind.u8.wrap (r : Int) = ((UInt8.ofNat r).toNat : Int) := by
  rw [IntKind.wrap_u8]; simp
theorem byte_o (r : Nat) : bits BinOp.or IntKind.u8 (IntKind.u8.wrap (r : Int)) 128 = ((UInt8.ofNat (r % 128 + 128)).toNat : Int) := by
  rw [IntKind.wrap_u8, u8_or _ _ (by omega) (by omega) (by omega) (by omega)]
  have h : ∀ x : Fin 256, x.val ||| 128 = x.val % 128 + 128 := by decide +kernel
  have hx := h ⟨((r : Int) % 256).toNat, by omega⟩
  simp only at hx
  rw [show ((128 : Int)).toNat = 128 by rfl, hx]
  simp; omega
theorem byte_o' (r : Nat) : bits BinOp.or IntKind.u8 ((r : Int) % 256) 128 = ((UInt8.ofNat (r % 128 + 128)).toNat : Int) := by rw [← byte_o, IntKind.wrap_u8]
theorem byte_r' (r : Nat) : (r : Int) % 128 + 128 = ((UInt8.ofNat (r % 128 + 128)).toNat : Int) := by simp; omega
theorem u64_div (r : Nat) (h : r < 18446744073709551616) : IntKind.u64.wrap ((r : Int) / 128) = ((r / 128 : Nat) : Int) := by rw [IntKind.wrap_u64]; omega
theorem byte_o2 (r : Nat) : ((r : Int) % 128 + 128) % 256 = ((UInt8.ofNat (r % 128 + 128)).toNat : Int) := by simp
theorem byte_r (r : Nat) : IntKind.u8.wrap (IntKind.u8.wrap ((r : Int) % 128) + 128) = ((UInt8.ofNat (r % 128 + 128)).toNat : Int) := by
  rw [IntKind.wrap_u8, IntKind.wrap_u8]; simp

def putsL (l : List Int) : List UInt8 := l.flatMap putL
theorem putsL_snoc (l : List Int) (k : Nat) (h : k < l.length) : putsL (l.take (k + 1)) = putsL (l.take k) ++ putL l[k] := by
  rw [List.take_succ_eq_append_getElem h]; unfold putsL; rw [List.flatMap_append, List.flatMap_cons, List.flatMap_nil, List.append_nil]
theorem putsL_app (a b : List Int) : putsL (a ++ b) = putsL a ++ putsL b := by simp [putsL]
theorem putsL_len (l : List Int) : (putsL l).length ≤ 10 * l.length := by
  induction l with
  | nil => simp [putsL]
  | cons a l ih => have := putL_len a; simp only [putsL, List.flatMap_cons, List.length_append, List.length_cons] at *; omega
def i64 (n : Int) : Prop := -9223372036854775808 ≤ n ∧ n ≤ 9223372036854775807
end Go.Proofs.Ytehkmngbknbbaaa
