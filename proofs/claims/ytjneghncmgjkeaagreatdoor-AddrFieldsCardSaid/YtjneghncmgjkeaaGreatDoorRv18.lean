/-
  math/bits.Div64, whole.
-/
import Derived.Test.YtjneghncmgjkeaaGreatDoorRv17
import Derived.Test.YtjneghncmgjkeaaGreatDoorProg
import Derived.Test.YtjneghncmgjkeaaGreatDoorRv04
import Derived.Test.YtjneghncmgjkeaaGreatDoorRv13
set_option linter.unusedVariables false
namespace Go.Proofs.YtjneghncmgjkeaaGreatDoor
open Go.RowKit


/-- A division's setting, brought up by s bits. -/
structure DivS (h l y s Y y1 y0 u L d1 d0 : Nat) : Prop where
  eY : Y = y * 2 ^ s
  eu : u = h * 2 ^ s + l / 2 ^ (64 - s)
  eL : L = l * 2 ^ s % 2 ^ 64
  e1 : y1 = Y / 4294967296
  e0 : y0 = Y % 4294967296
  f1 : d1 = L / 4294967296
  f0 : d0 = L % 4294967296
  hs : s ≤ 63
  hY1 : 9223372036854775808 ≤ Y
  hY2 : Y < 18446744073709551616
  hh : h < y
  hl : l < 18446744073709551616
theorem p64 (s : Nat) (hs : s ≤ 64) : 2 ^ (64 - s) * 2 ^ s = 18446744073709551616 := by rw [← Nat.pow_add, show 64 - s + s = 64 by omega]
theorem DivS.bit {h l y s Y y1 y0 u L d1 d0 : Nat} (D : DivS h l y s Y y1 y0 u L d1 d0) : l / 2 ^ (64 - s) < 2 ^ s := by
  rw [Nat.div_lt_iff_lt_mul (Nat.pow_pos (by decide)), Nat.mul_comm, p64 s (by have := D.hs; omega)]
  exact D.hl
theorem DivS.hsh {h l y s Y y1 y0 u L d1 d0 : Nat} (D : DivS h l y s Y y1 y0 u L d1 d0) : h * 2 ^ s + 2 ^ s ≤ Y := by
  have : (h + 1) * 2 ^ s ≤ y * 2 ^ s := Nat.mul_le_mul_right _ D.hh
  rw [Nat.add_mul, Nat.one_mul] at this
  rw [D.eY]; exact this
theorem DivS.split {h l y s Y y1 y0 u L d1 d0 : Nat} (D : DivS h l y s Y y1 y0 u L d1 d0) : (h * 18446744073709551616 + l) * 2 ^ s = u * 18446744073709551616 + d1 * 4294967296 + d0 := by
  have hp := p64 s (by have := D.hs; omega)
  have e2 : l * 2 ^ s = l / 2 ^ (64 - s) * 18446744073709551616 + L := by
    rw [D.eL]
    have h1 := Nat.div_add_mod (l * 2 ^ s) (2 ^ 64)
    have h2 : l * 2 ^ s / 2 ^ 64 = l / 2 ^ (64 - s) := by
      rw [show (2 : Nat) ^ 64 = 2 ^ (64 - s) * 2 ^ s by rw [hp], Nat.mul_div_mul_right _ _ (Nat.pow_pos (by decide))]
    rw [h2] at h1
    rw [Nat.mul_comm (2 ^ 64)] at h1
    exact h1.symm
  have e3 : L = d1 * 4294967296 + d0 := by rw [D.f1, D.f0, Nat.mul_comm]; exact (Nat.div_add_mod L 4294967296).symm
  rw [Nat.add_mul, e2, D.eu, Nat.add_mul]
  have e4 : h * 18446744073709551616 * 2 ^ s = h * 2 ^ s * 18446744073709551616 := by rw [Nat.mul_assoc, Nat.mul_comm 18446744073709551616, Nat.mul_assoc]
  rw [e4]
  omega
theorem u64_wrap_nat (n : Nat) (h : n < 18446744073709551616) : IntKind.u64.wrap (n : Int) = (n : Int) := by rw [IntKind.wrap_u64]; omega
theorem DivS.g1 {h l y s Y y1 y0 u L d1 d0 : Nat} (D : DivS h l y s Y y1 y0 u L d1 d0) : IntKind.u64.wrap ((y : Int) * 2 ^ s) = (Y : Int) := by
  have e : ((y : Int) * 2 ^ s) = ((y * 2 ^ s : Nat) : Int) := by simp
  rw [e, ← D.eY, u64_wrap_nat _ D.hY2]
theorem DivS.g4 {h l y s Y y1 y0 u L d1 d0 : Nat} (D : DivS h l y s Y y1 y0 u L d1 d0) : bits BinOp.or IntKind.u64 (IntKind.u64.wrap ((h : Int) * 2 ^ s)) ((l : Int) / 2 ^ (64 - s)) = (u : Int) := by
  have e1 : ((h : Int) * 2 ^ s) = ((h * 2 ^ s : Nat) : Int) := by simp
  have e2 : ((l : Int) / 2 ^ (64 - s)) = ((l / 2 ^ (64 - s) : Nat) : Int) := by simp
  have b := D.bit; have c := D.hsh; have d := D.hY2
  have k1 : h * 2 ^ s < 18446744073709551616 := Nat.lt_of_le_of_lt (Nat.le_trans (Nat.le_add_right _ _) c) d
  have k2 : l / 2 ^ (64 - s) < 18446744073709551616 := Nat.lt_of_lt_of_le b (Nat.le_trans (Nat.le_trans (Nat.le_add_left _ _) c) (Nat.le_of_lt d))
  rw [e1, e2, u64_wrap_nat _ k1, u64_or_nat _ _ k1 k2, D.eu]
  congr 1
  rw [← Nat.shiftLeft_eq, ← Nat.shiftLeft_add_eq_or_of_lt b]
theorem DivS.g5 {h l y s Y y1 y0 u L d1 d0 : Nat} (D : DivS h l y s Y y1 y0 u L d1 d0) : IntKind.u64.wrap ((l : Int) * 2 ^ s) = (L : Int) := by
  have e : ((l : Int) * 2 ^ s) = ((l * 2 ^ s : Nat) : Int) := by simp
  rw [e, IntKind.wrap_u64, D.eL]
  simp
end Go.Proofs.YtjneghncmgjkeaaGreatDoor

set_option linter.unusedVariables false
namespace Go.Proofs.YtjneghncmgjkeaaGreatDoor

/-- Rounded up: the rest is more than half, or just half behind an odd quotient. -/
def evUp (q r c : Nat) : Bool := decide (c - r < r) || (decide (r = c - r) && decide (q % 2 = 1))
/-- a * b / c, rounded half to even. -/
def evenN (a b c : Nat) : Nat := if evUp (a * b / c) (a * b % c) c then a * b / c + 1 else a * b / c

end Go.Proofs.YtjneghncmgjkeaaGreatDoor

set_option linter.unusedVariables false
namespace Go.Proofs.YtjneghncmgjkeaaGreatDoor
open Go.RowKit
end Go.Proofs.YtjneghncmgjkeaaGreatDoor

set_option linter.unusedVariables false
namespace Go.Proofs.YtjneghncmgjkeaaGreatDoor

def win (n lo hi : Int) : Bool := decide (lo ≤ n) && decide (n ≤ hi)
structure Ln where
  c : Int
  a : Int
deriving DecidableEq
structure Ord where
  cu : Int
  day : Int
  px : Int
  py : Int
  ls : List Ln
deriving DecidableEq

def Ln.ok (l : Ln) : Bool := win l.c 1 1099511627775 && win l.a 0 1099511627775
def Ord.hd (o : Ord) : List Int := [o.cu, o.day, o.px, o.py, o.ls.length]
end Go.Proofs.YtjneghncmgjkeaaGreatDoor

set_option linter.unusedVariables false
namespace Go.Proofs.YtjneghncmgjkeaaGreatDoor
open Go.RowKit
def Ln.cells (l : Ln) : List Value := [.int .i64 l.c, .int .i64 l.a]
end Go.Proofs.YtjneghncmgjkeaaGreatDoor

set_option linter.unusedVariables false
namespace Go.Proofs.YtjneghncmgjkeaaGreatDoor
open Go.RowKit
/-- P25.3: what of a total comes back, and the error. -/
def backI (t n b a : Int) : Int × Int :=
  if win t 0 4611686018427387904 = false ∨ win n 0 4611686018427387904 = false then (0, 5)
  else if b < 0 ∨ a < b ∨ n < a then (0, 2)
  else if n = 0 then (0, 0)
  else ((evenN t.toNat a.toNat n.toNat : Int) - evenN t.toNat b.toNat n.toNat, 0)
def taxV (a b c d e f : Int) : Value := .agg #[.int .i64 a, .int .i64 b, .int .i64 c, .int .i64 d, .int .i64 e, .int .i64 f]
def Tax1 (a b c d e f : Int) : Bool := win a 0 99 && win b 1 1099511627775 && win c 0 4611686018427387904 && win d 0 (4611686018427387904 - c) && win e 0 1000000 && win f 0 4611686018427387904
structure Tx where
  l : Int
  j : Int
  t : Int
  x : Int
  r : Int
  v : Int
deriving DecidableEq
def Tx.V (x : Tx) : Value := taxV x.l x.j x.t x.x x.r x.v
def Tx.zero : Tx := ⟨0, 0, 0, 0, 0, 0⟩
def Tx.ok (x : Tx) : Bool := Tax1 x.l x.j x.t x.x x.r x.v
/-- P25.3: what of a tax line comes back, and the error. -/
def Tx.ret (x : Tx) (b a : Int) : Tx × Int :=
  if x.ok = false then (Tx.zero, 5)
  else if (backI x.t (x.t + x.x) b a).2 ≠ 0 then (Tx.zero, (backI x.t (x.t + x.x) b a).2)
  else ({ x with t := (backI x.t (x.t + x.x) b a).1, x := a - b - (backI x.t (x.t + x.x) b a).1, v := (backI x.v (x.t + x.x) b a).1 }, 0)
/-- A block that holds a tax line. -/
def Tx.cells (x : Tx) : Array Value := #[.int .i64 x.l, .int .i64 x.j, .int .i64 x.t, .int .i64 x.x, .int .i64 x.r, .int .i64 x.v]
end Go.Proofs.YtjneghncmgjkeaaGreatDoor

set_option linter.unusedVariables false
namespace Go.Proofs.YtjneghncmgjkeaaGreatDoor
open Go.RowKit
end Go.Proofs.YtjneghncmgjkeaaGreatDoor

set_option linter.unusedVariables false
namespace Go.Proofs.YtjneghncmgjkeaaGreatDoor

theorem flat_get {α β : Type} {f : α → List β} {c : Nat} (hf : ∀ a, (f a).length = c) : ∀ (l : List α) (k j : Nat) (h : k < l.length), j < c → (l.flatMap f)[k * c + j]? = (f l[k])[j]?
  | [], k, j, h, _ => by simp at h
  | a :: l, 0, j, _, hj => by
    rw [List.flatMap_cons, Nat.zero_mul, Nat.zero_add, List.getElem?_append_left (by rw [hf]; exact hj)]
    rfl
  | a :: l, k + 1, j, h, hj => by
    rw [List.flatMap_cons, List.getElem?_append_right (by rw [hf, Nat.add_mul]; omega), hf]
    rw [show (k + 1) * c + j - c = k * c + j by rw [Nat.add_mul]; omega]
    exact flat_get hf l k j (by simpa using h) hj
theorem flat_len {α β : Type} {f : α → List β} {c : Nat} (hf : ∀ a, (f a).length = c) (l : List α) : (l.flatMap f).length = l.length * c := by
  induction l with
  | nil => simp
  | cons a l ih => rw [List.flatMap_cons, List.length_append, ih, hf, List.length_cons, Nat.add_mul]; omega
theorem flat_take {α β : Type} {f : α → List β} {c : Nat} (hf : ∀ a, (f a).length = c) (l : List α) (n : Nat) : (l.take n).flatMap f = (l.flatMap f).take (n * c) := by
  have e : l.flatMap f = (l.take n).flatMap f ++ (l.drop n).flatMap f := by rw [← List.flatMap_append, List.take_append_drop]
  rcases Nat.lt_or_ge l.length n with h | h
  · rw [List.take_of_length_le (by omega), List.take_of_length_le]
    rw [flat_len hf]
    exact Nat.mul_le_mul_right _ (by omega)
  · have hl : ((l.take n).flatMap f).length = n * c := by rw [flat_len hf, List.length_take, Nat.min_eq_left h]
    rw [e, ← hl, List.take_left]
def Tx.key (x : Tx) : Int × Int := (x.l, x.j)
end Go.Proofs.YtjneghncmgjkeaaGreatDoor
