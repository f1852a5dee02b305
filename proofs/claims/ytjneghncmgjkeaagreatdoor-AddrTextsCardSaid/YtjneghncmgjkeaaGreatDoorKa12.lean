/-
  Numbers as bytes: the walks through both Puts.
-/
import Derived.Test.YtjneghncmgjkeaaGreatDoorProg
import Derived.Test.YtjneghncmgjkeaaGreatDoorKa08
import Derived.Shelf.Bits.Mul64
import Derived.Lib.Strings
import Derived.Lib.Slices
import Derived.Lib.Small
import Derived.Lib.Walk
import Derived.Lib.BitFns
import Derived.Test.YtjneghncmgjkeaaGreatDoorKa04
import Derived.Test.YtjneghncmgjkeaaGreatDoorKa09
set_option linter.unusedVariables false
namespace Go.Proofs.YtjneghncmgjkeaaGreatDoor
open Go.RowKit
theorem row_u8 : RowT Tryz.prog 47 5 1 1 (.int .u8 0) := rowT_mk Tryz.underlying47 (z := .int .u8 0) (by kernel_rfl) rfl (by decide)
/-- A round of a Put: so much is written, r is left. -/
def PutRel (w : World) (z : Nat) (s o : Value) (wr : World) : Prop :=
  ∃ (f r : Nat) (out : List UInt8), s = .int .u64 (r : Int) ∧ r < 128 ^ f ∧ r < 18446744073709551616 ∧ 1 ≤ f ∧ f + out.length ≤ 10 ∧ lebF 10 z = out ++ lebF f r ∧ wr.ownsRow w.heap.size 5 1 o out.length (bV out) ∧ Ext w wr ∧ AllP wr o u8P
theorem PutRel.next {w w1 : World} {z f r : Nat} {out : List UInt8} {v1 : Value} {n c : Int} (hr : r < 128 ^ (f + 1)) (hrl : r < 18446744073709551616) (hge : 128 ≤ r) (hfl : f + 1 + out.length ≤ 10) (h : lebF 10 z = out ++ lebF (f + 1) r)
    (hg : w1.ownsRow w.heap.size 5 1 v1 (out.length + 1) (bV out ++ [.int .u8 c])) (hc : c = ((UInt8.ofNat (r % 128 + 128)).toNat : Int)) (hx : Ext w w1) (hall : AllP w1 v1 u8P) (hn : n = ((r / 128 : Nat) : Int)) : PutRel w z (.int .u64 n) v1 w1 := by
  subst hn hc
  refine ⟨f, r / 128, out ++ [UInt8.ofNat (r % 128 + 128)], rfl, ?_, by omega, ?_, by simp; omega, by rw [h, lebF_big f r hge]; simp, ?_, hx, hall⟩
  · rw [Nat.pow_succ] at hr; exact Nat.div_lt_of_lt_mul (by omega)
  · rcases f with _ | f
    · simp at hr; omega
    · omega
  · rw [bV_app, List.length_append]
    simpa [bV] using hg
theorem PutRel.done {w w1 : World} {z f r : Nat} {out : List UInt8} {v1 : Value} (hlt : r < 128) (h : lebF 10 z = out ++ lebF (f + 1) r)
    (hg : w1.ownsRow w.heap.size 5 1 v1 (out.length + 1) (bV out ++ [.int .u8 ((UInt8.ofNat r).toNat : Int)])) : w1.ownsRow w.heap.size 5 1 v1 (lebF 10 z).length (bV (lebF 10 z)) := by
  rw [h, lebF_small f r hlt, bV_app, List.length_append]
  simpa [bV] using hg

end Go.Proofs.YtjneghncmgjkeaaGreatDoor

set_option linter.unusedVariables false
namespace Go.Proofs.YtjneghncmgjkeaaGreatDoor
open Go.RowKit
end Go.Proofs.YtjneghncmgjkeaaGreatDoor

set_option linter.unusedVariables false
namespace Go.Proofs.YtjneghncmgjkeaaGreatDoor
open Go.RowKit
end Go.Proofs.YtjneghncmgjkeaaGreatDoor

set_option linter.unusedVariables false
namespace Go.Proofs.YtjneghncmgjkeaaGreatDoor

/-- One half-step's setting: Y = yn1 * 2^32 + yn0 with its top bit set; u < Y; d a half word. -/
structure HalfS (y yn1 yn0 u d : Nat) : Prop where
  hy : y = yn1 * 4294967296 + yn0
  h1 : 2147483648 ≤ yn1
  h1' : yn1 < 4294967296
  h0 : yn0 < 4294967296
  hu : u < y
  hd : d < 4294967296

/-- The quotient and the rest of the half-step. -/
def hq (y u d : Nat) : Nat := (u * 4294967296 + d) / y
def hr (y u d : Nat) : Nat := (u * 4294967296 + d) % y

theorem HalfS.ypos {y yn1 yn0 u d : Nat} (h : HalfS y yn1 yn0 u d) : 0 < y := by have := h.hy; have := h.h1; omega
theorem HalfS.qlt {y yn1 yn0 u d : Nat} (h : HalfS y yn1 yn0 u d) : hq y u d < 4294967296 := by
  unfold hq
  rw [Nat.div_lt_iff_lt_mul h.ypos]
  have := h.hu; have := h.hd
  omega
theorem hqr (y u d : Nat) : y * hq y u d + hr y u d = u * 4294967296 + d := Nat.div_add_mod _ _
/-- The loop's relation: q is not below the true one, q * yn1 + r = u. -/
structure HalfR (y yn1 u d q r : Nat) : Prop where
  ge : hq y u d ≤ q
  eq : q * yn1 + r = u
  le : q ≤ 4294967297
theorem HalfS.start {y yn1 yn0 u d : Nat} (h : HalfS y yn1 yn0 u d) : HalfR y yn1 u d (u / yn1) (u % yn1) := by
  have hp : 0 < yn1 := by have := h.h1; omega
  refine ⟨?_, ?_, ?_⟩
  · unfold hq
    rw [Nat.le_div_iff_mul_le hp]
    have h2 := Nat.div_mul_le_self (u * 4294967296 + d) y
    generalize (u * 4294967296 + d) / y = q at h2
    rw [h.hy, Nat.mul_add, ← Nat.mul_assoc] at h2
    have := h.hd
    have h3 : q * yn1 * 4294967296 < (u + 1) * 4294967296 := by
      have : 0 ≤ q * yn0 := Nat.zero_le _
      omega
    omega
  · rw [Nat.mul_comm]; exact Nat.div_add_mod u yn1
  · have : u / yn1 < 4294967298 := by
      rw [Nat.div_lt_iff_lt_mul hp]
      have := h.hu; have := h.hy; have := h.h0; have := h.h1; have := h.h1'
      omega
    omega
/-- The test says yes: one more is too much. -/
theorem HalfR.gt {y yn1 yn0 u d q r : Nat} (h : HalfS y yn1 yn0 u d) (hR : HalfR y yn1 u d q r) (ht : 4294967296 ≤ q ∨ 4294967296 * r + d < q * yn0) : hq y u d < q := by
  rcases ht with ht | ht
  · exact Nat.lt_of_lt_of_le h.qlt ht
  · unfold hq
    rw [Nat.div_lt_iff_lt_mul h.ypos, h.hy, Nat.mul_add, ← Nat.mul_assoc, ← hR.eq, Nat.add_mul]
    omega
/-- The test says no: it is the true one. -/
theorem HalfR.done {y yn1 yn0 u d q r : Nat} (h : HalfS y yn1 yn0 u d) (hR : HalfR y yn1 u d q r) (ht : ¬ 4294967296 * r + d < q * yn0) : q = hq y u d := by
  apply Nat.le_antisymm _ hR.ge
  unfold hq
  rw [Nat.le_div_iff_mul_le h.ypos, h.hy, Nat.mul_add, ← Nat.mul_assoc, ← hR.eq, Nat.add_mul]
  omega
theorem HalfR.next {y yn1 yn0 u d q r : Nat} (h : HalfS y yn1 yn0 u d) (hR : HalfR y yn1 u d q r) (ht : 4294967296 ≤ q ∨ 4294967296 * r + d < q * yn0) : 1 ≤ q ∧ HalfR y yn1 u d (q - 1) (r + yn1) := by
  have hg := HalfR.gt h hR ht
  obtain ⟨k, rfl⟩ : ∃ k, q = k + 1 := ⟨q - 1, by omega⟩
  have := hR.eq
  have := hR.le
  refine ⟨by omega, by omega, ?_, by omega⟩
  rw [Nat.add_mul] at *
  simp only [Nat.add_sub_cancel]
  omega
/-- The rest, as the machine reckons it. -/
theorem HalfS.rest {y yn1 yn0 u d : Nat} (_h : HalfS y yn1 yn0 u d) : ((u : Int) * 4294967296 + d - hq y u d * y) = (hr y u d : Int) := by
  have := hqr y u d
  have h2 : (((y * hq y u d + hr y u d : Nat)) : Int) = ((u * 4294967296 + d : Nat) : Int) := by rw [this]
  simp only [Int.natCast_add, Int.natCast_mul] at h2
  have h3 : (hq y u d : Int) * y = y * hq y u d := Int.mul_comm _ _
  omega
end Go.Proofs.YtjneghncmgjkeaaGreatDoor

set_option linter.unusedVariables false
namespace Go.Proofs.YtjneghncmgjkeaaGreatDoor
open Go.RowKit


/-- A division's setting, brought up by s bits. -/
structure DivS (h l y s Y y1 y0 u L d1 d0 : Nat) : Prop where
  eY : Y = y * 2 ^ s
  eu : u = h * 2 ^ s + l / 2 ^ (64 - s)
  eL : L = l * 2 ^ s % 2 ^ 64
  e1 : y1 = Y / 4294967296
  e0 : y0 = Y % 4294967296
  f1 : d1 = L / 4294967296
  f0 : d0 = L % 4294967296
  hs : s ≤ 63
  hY1 : 9223372036854775808 ≤ Y
  hY2 : Y < 18446744073709551616
  hh : h < y
  hl : l < 18446744073709551616
theorem p64 (s : Nat) (hs : s ≤ 64) : 2 ^ (64 - s) * 2 ^ s = 18446744073709551616 := by rw [← Nat.pow_add, show 64 - s + s = 64 by omega]
theorem DivS.bit {h l y s Y y1 y0 u L d1 d0 : Nat} (D : DivS h l y s Y y1 y0 u L d1 d0) : l / 2 ^ (64 - s) < 2 ^ s := by
  rw [Nat.div_lt_iff_lt_mul (Nat.pow_pos (by decide)), Nat.mul_comm, p64 s (by have := D.hs; omega)]
  exact D.hl
theorem DivS.hsh {h l y s Y y1 y0 u L d1 d0 : Nat} (D : DivS h l y s Y y1 y0 u L d1 d0) : h * 2 ^ s + 2 ^ s ≤ Y := by
  have : (h + 1) * 2 ^ s ≤ y * 2 ^ s := Nat.mul_le_mul_right _ D.hh
  rw [Nat.add_mul, Nat.one_mul] at this
  rw [D.eY]; exact this
theorem DivS.split {h l y s Y y1 y0 u L d1 d0 : Nat} (D : DivS h l y s Y y1 y0 u L d1 d0) : (h * 18446744073709551616 + l) * 2 ^ s = u * 18446744073709551616 + d1 * 4294967296 + d0 := by
  have hp := p64 s (by have := D.hs; omega)
  have e2 : l * 2 ^ s = l / 2 ^ (64 - s) * 18446744073709551616 + L := by
    rw [D.eL]
    have h1 := Nat.div_add_mod (l * 2 ^ s) (2 ^ 64)
    have h2 : l * 2 ^ s / 2 ^ 64 = l / 2 ^ (64 - s) := by
      rw [show (2 : Nat) ^ 64 = 2 ^ (64 - s) * 2 ^ s by rw [hp], Nat.mul_div_mul_right _ _ (Nat.pow_pos (by decide))]
    rw [h2] at h1
    rw [Nat.mul_comm (2 ^ 64)] at h1
    exact h1.symm
  have e3 : L = d1 * 4294967296 + d0 := by rw [D.f1, D.f0, Nat.mul_comm]; exact (Nat.div_add_mod L 4294967296).symm
  rw [Nat.add_mul, e2, D.eu, Nat.add_mul]
  have e4 : h * 18446744073709551616 * 2 ^ s = h * 2 ^ s * 18446744073709551616 := by rw [Nat.mul_assoc, Nat.mul_comm 18446744073709551616, Nat.mul_assoc]
  rw [e4]
  omega
theorem u64_wrap_nat (n : Nat) (h : n < 18446744073709551616) : IntKind.u64.wrap (n : Int) = (n : Int) := by rw [IntKind.wrap_u64]; omega
theorem DivS.g1 {h l y s Y y1 y0 u L d1 d0 : Nat} (D : DivS h l y s Y y1 y0 u L d1 d0) : IntKind.u64.wrap ((y : Int) * 2 ^ s) = (Y : Int) := by
  have e : ((y : Int) * 2 ^ s) = ((y * 2 ^ s : Nat) : Int) := by simp
  rw [e, ← D.eY, u64_wrap_nat _ D.hY2]
theorem DivS.g4 {h l y s Y y1 y0 u L d1 d0 : Nat} (D : DivS h l y s Y y1 y0 u L d1 d0) : bits BinOp.or IntKind.u64 (IntKind.u64.wrap ((h : Int) * 2 ^ s)) ((l : Int) / 2 ^ (64 - s)) = (u : Int) := by
  have e1 : ((h : Int) * 2 ^ s) = ((h * 2 ^ s : Nat) : Int) := by simp
  have e2 : ((l : Int) / 2 ^ (64 - s)) = ((l / 2 ^ (64 - s) : Nat) : Int) := by simp
  have b := D.bit; have c := D.hsh; have d := D.hY2
  have k1 : h * 2 ^ s < 18446744073709551616 := Nat.lt_of_le_of_lt (Nat.le_trans (Nat.le_add_right _ _) c) d
  have k2 : l / 2 ^ (64 - s) < 18446744073709551616 := Nat.lt_of_lt_of_le b (Nat.le_trans (Nat.le_trans (Nat.le_add_left _ _) c) (Nat.le_of_lt d))
  rw [e1, e2, u64_wrap_nat _ k1, u64_or_nat _ _ k1 k2, D.eu]
  congr 1
  rw [← Nat.shiftLeft_eq, ← Nat.shiftLeft_add_eq_or_of_lt b]
theorem DivS.g5 {h l y s Y y1 y0 u L d1 d0 : Nat} (D : DivS h l y s Y y1 y0 u L d1 d0) : IntKind.u64.wrap ((l : Int) * 2 ^ s) = (L : Int) := by
  have e : ((l : Int) * 2 ^ s) = ((l * 2 ^ s : Nat) : Int) := by simp
  rw [e, IntKind.wrap_u64, D.eL]
  simp
end Go.Proofs.YtjneghncmgjkeaaGreatDoor

set_option linter.unusedVariables false
namespace Go.Proofs.YtjneghncmgjkeaaGreatDoor

/-- Rounded up: the rest is more than half, or just half behind an odd quotient. -/
def evUp (q r c : Nat) : Bool := decide (c - r < r) || (decide (r = c - r) && decide (q % 2 = 1))
/-- a * b / c, rounded half to even. -/
def evenN (a b c : Nat) : Nat := if evUp (a * b / c) (a * b % c) c then a * b / c + 1 else a * b / c

end Go.Proofs.YtjneghncmgjkeaaGreatDoor

set_option linter.unusedVariables false
namespace Go.Proofs.YtjneghncmgjkeaaGreatDoor
open Go.RowKit
end Go.Proofs.YtjneghncmgjkeaaGreatDoor

set_option linter.unusedVariables false
namespace Go.Proofs.YtjneghncmgjkeaaGreatDoor

def win (n lo hi : Int) : Bool := decide (lo ≤ n) && decide (n ≤ hi)
structure Ln where
  c : Int
  a : Int
deriving DecidableEq
structure Ord where
  cu : Int
  day : Int
  px : Int
  py : Int
  ls : List Ln
deriving DecidableEq

def Ln.ok (l : Ln) : Bool := win l.c 1 1099511627775 && win l.a 0 1099511627775
def Ord.hd (o : Ord) : List Int := [o.cu, o.day, o.px, o.py, o.ls.length]
end Go.Proofs.YtjneghncmgjkeaaGreatDoor

set_option linter.unusedVariables false
namespace Go.Proofs.YtjneghncmgjkeaaGreatDoor
open Go.RowKit
def Ln.cells (l : Ln) : List Value := [.int .i64 l.c, .int .i64 l.a]
end Go.Proofs.YtjneghncmgjkeaaGreatDoor

set_option linter.unusedVariables false
namespace Go.Proofs.YtjneghncmgjkeaaGreatDoor
open Go.RowKit
/-- P25.3: what of a total comes back, and the error. -/
def backI (t n b a : Int) : Int × Int :=
  if win t 0 4611686018427387904 = false ∨ win n 0 4611686018427387904 = false then (0, 5)
  else if b < 0 ∨ a < b ∨ n < a then (0, 2)
  else if n = 0 then (0, 0)
  else ((evenN t.toNat a.toNat n.toNat : Int) - evenN t.toNat b.toNat n.toNat, 0)
def taxV (a b c d e f : Int) : Value := .agg #[.int .i64 a, .int .i64 b, .int .i64 c, .int .i64 d, .int .i64 e, .int .i64 f]
def Tax1 (a b c d e f : Int) : Bool := win a 0 99 && win b 1 1099511627775 && win c 0 4611686018427387904 && win d 0 (4611686018427387904 - c) && win e 0 1000000 && win f 0 4611686018427387904
structure Tx where
  l : Int
  j : Int
  t : Int
  x : Int
  r : Int
  v : Int
deriving DecidableEq
def Tx.V (x : Tx) : Value := taxV x.l x.j x.t x.x x.r x.v
def Tx.zero : Tx := ⟨0, 0, 0, 0, 0, 0⟩
def Tx.ok (x : Tx) : Bool := Tax1 x.l x.j x.t x.x x.r x.v
/-- P25.3: what of a tax line comes back, and the error. -/
def Tx.ret (x : Tx) (b a : Int) : Tx × Int :=
  if x.ok = false then (Tx.zero, 5)
  else if (backI x.t (x.t + x.x) b a).2 ≠ 0 then (Tx.zero, (backI x.t (x.t + x.x) b a).2)
  else ({ x with t := (backI x.t (x.t + x.x) b a).1, x := a - b - (backI x.t (x.t + x.x) b a).1, v := (backI x.v (x.t + x.x) b a).1 }, 0)
/-- A block that holds a tax line. -/
def Tx.cells (x : Tx) : Array Value := #[.int .i64 x.l, .int .i64 x.j, .int .i64 x.t, .int .i64 x.x, .int .i64 x.r, .int .i64 x.v]
end Go.Proofs.YtjneghncmgjkeaaGreatDoor

set_option linter.unusedVariables false
namespace Go.Proofs.YtjneghncmgjkeaaGreatDoor
open Go.RowKit
end Go.Proofs.YtjneghncmgjkeaaGreatDoor

set_option linter.unusedVariables false
namespace Go.Proofs.YtjneghncmgjkeaaGreatDoor

theorem flat_get {α β : Type} {f : α → List β} {c : Nat} (hf : ∀ a, (f a).length = c) : ∀ (l : List α) (k j : Nat) (h : k < l.length), j < c → (l.flatMap f)[k * c + j]? = (f l[k])[j]?
  | [], k, j, h, _ => by simp at h
  | a :: l, 0, j, _, hj => by
    rw [List.flatMap_cons, Nat.zero_mul, Nat.zero_add, List.getElem?_append_left (by rw [hf]; exact hj)]
    rfl
  | a :: l, k + 1, j, h, hj => by
    rw [List.flatMap_cons, List.getElem?_append_right (by rw [hf, Nat.add_mul]; omega), hf]
    rw [show (k + 1) * c + j - c = k * c + j by rw [Nat.add_mul]; omega]
    exact flat_get hf l k j (by simpa using h) hj
theorem flat_len {α β : Type} {f : α → List β} {c : Nat} (hf : ∀ a, (f a).length = c) (l : List α) : (l.flatMap f).length = l.length * c := by
  induction l with
  | nil => simp
  | cons a l ih => rw [List.flatMap_cons, List.length_append, ih, hf, List.length_cons, Nat.add_mul]; omega
theorem flat_take {α β : Type} {f : α → List β} {c : Nat} (hf : ∀ a, (f a).length = c) (l : List α) (n : Nat) : (l.take n).flatMap f = (l.flatMap f).take (n * c) := by
  have e : l.flatMap f = (l.take n).flatMap f ++ (l.drop n).flatMap f := by rw [← List.flatMap_append, List.take_append_drop]
  rcases Nat.lt_or_ge l.length n with h | h
  · rw [List.take_of_length_le (by omega), List.take_of_length_le]
    rw [flat_len hf]
    exact Nat.mul_le_mul_right _ (by omega)
  · have hl : ((l.take n).flatMap f).length = n * c := by rw [flat_len hf, List.length_take, Nat.min_eq_left h]
    rw [e, ← hl, List.take_left]
def Tx.key (x : Tx) : Int × Int := (x.l, x.j)
end Go.Proofs.YtjneghncmgjkeaaGreatDoor
