/-
  The plain side of bytes: how a number is written, and read.
-/
import Derived.Test.YtokakpbpenndlaaGreatDoorRt01
import Derived.Laws.MakeOwn
import Derived.Laws.CopyOwn
import Derived.Test.YtokakpbpenndlaaGreatDoorProg
import Derived.ChangeKeysEq
import Derived.LaidEql
set_option linter.unusedVariables false
namespace Go.Proofs.YtokakpbpenndlaaGreatDoor

/-- The rank of a number: 0, -1, 1, -2, .. -/
def zig (n : Int) : Nat := if 0 ≤ n then (2 * n).toNat else (-2 * n - 1).toNat
def lebF : Nat → Nat → List UInt8
  | 0, _ => []
  | f + 1, r => if r < 128 then [UInt8.ofNat r] else UInt8.ofNat (r % 128 + 128) :: lebF f (r / 128)
/-- P5.1. -/
def putL (n : Int) : List UInt8 := lebF 10 (zig n)
theorem lebF_small (f r : Nat) (h : r < 128) : lebF (f + 1) r = [UInt8.ofNat r] := by simp [lebF, h]
theorem lebF_big (f r : Nat) (h : 128 ≤ r) : lebF (f + 1) r = UInt8.ofNat (r % 128 + 128) :: lebF f (r / 128) := by
  simp [lebF]; omega

/-- Bytes as cells. -/
def bV (l : List UInt8) : List Value := l.map fun b => .int .u8 (b.toNat : Int)
theorem bV_app (a b : List UInt8) : bV (a ++ b) = bV a ++ bV b := by simp [bV]
def u8P (u : Value) : Prop := ∃ n : Int, u = .int .u8 n
def putsL (l : List Int) : List UInt8 := l.flatMap putL
theorem putsL_snoc (l : List Int) (k : Nat) (h : k < l.length) : putsL (l.take (k + 1)) = putsL (l.take k) ++ putL l[k] := by
  rw [List.take_succ_eq_append_getElem h]; unfold putsL; rw [List.flatMap_append, List.flatMap_cons, List.flatMap_nil, List.append_nil]
theorem putsL_app (a b : List Int) : putsL (a ++ b) = putsL a ++ putsL b := by simp [putsL]
def i64 (n : Int) : Prop := -9223372036854775808 ≤ n ∧ n ≤ 9223372036854775807
end Go.Proofs.YtokakpbpenndlaaGreatDoor

set_option linter.unusedVariables false
namespace Go.Proofs.YtokakpbpenndlaaGreatDoor

/-- The value of the first k digits. -/
def sumD (f : Nat → Nat) : Nat → Nat
  | 0 => 0
  | k + 1 => sumD f k + f k * 65536 ^ k
/-- A digit of a number. -/
def dig (n i : Nat) : Nat := n / 65536 ^ i % 65536
theorem B_pos (k : Nat) : 0 < 65536 ^ k := Nat.pow_pos (by decide)
theorem dig_lt (n i : Nat) : dig n i < 65536 := Nat.mod_lt _ (by decide)
theorem sumD_lt {f : Nat → Nat} : ∀ {k : Nat}, (∀ i, i < k → f i < 65536) → sumD f k < 65536 ^ k
  | 0, _ => by simp [sumD]
  | k + 1, h => by
    have h1 := sumD_lt (f := f) (k := k) fun i hi => h i (by omega)
    have h2 := Nat.mul_le_mul_right (65536 ^ k) (show f k + 1 ≤ 65536 from h k (by omega))
    rw [Nat.add_mul, Nat.one_mul] at h2
    rw [sumD, Nat.pow_succ, Nat.mul_comm (65536 ^ k) 65536]
    omega
theorem sumD_congr {f g : Nat → Nat} : ∀ {k : Nat}, (∀ i, i < k → f i = g i) → sumD f k = sumD g k
  | 0, _ => rfl
  | k + 1, h => by rw [sumD, sumD, sumD_congr (fun i hi => h i (by omega)), h k (by omega)]
theorem sumD_dig (n : Nat) : ∀ k, sumD (dig n) k = n % 65536 ^ k
  | 0 => by simp [sumD, Nat.mod_one]
  | k + 1 => by
    rw [sumD, sumD_dig n k, Nat.pow_succ, Nat.mod_mul, dig, Nat.mul_comm]
theorem sumD_dig12 {n : Nat} (h : n < 65536 ^ 12) : sumD (dig n) 12 = n := by rw [sumD_dig, Nat.mod_eq_of_lt h]
theorem sumD_add (f g : Nat → Nat) : ∀ k, sumD (fun i => f i + g i) k = sumD f k + sumD g k
  | 0 => rfl
  | k + 1 => by rw [sumD, sumD, sumD, sumD_add f g k, Nat.add_mul]; omega
theorem sum_div (f : Nat → Nat) (k : Nat) : sumD f (k + 1) / 65536 ^ k = sumD f k / 65536 ^ k + f k := by
  rw [sumD, Nat.add_mul_div_right _ _ (B_pos k)]
/-- The digits of a higher sum are those of the lower one. -/
theorem dig_more (f : Nat → Nat) {i k : Nat} (h : i < k) : dig (sumD f (k + 1)) i = dig (sumD f k) i := by
  unfold dig
  have e : f k * 65536 ^ k = f k * 65536 ^ (k - i - 1) * 65536 * 65536 ^ i := by
    have : 65536 ^ k = 65536 ^ (k - i - 1) * 65536 * 65536 ^ i := by
      rw [← Nat.pow_succ, ← Nat.pow_add]; congr 1; omega
    rw [this, ← Nat.mul_assoc, ← Nat.mul_assoc]
  rw [sumD, e, Nat.add_mul_div_right _ _ (B_pos i), Nat.add_mul_mod_self_right]

/-- A row of digits with one changed. -/
def upd (f : Nat → Nat) (k v : Nat) : Nat → Nat := fun i => if i = k then v else f i
/-- Carried so far. -/
def cst (f : Nat → Nat) (k : Nat) : Nat → Nat := fun i => if i < k then dig (sumD f k) i else if i = k then f k + sumD f k / 65536 ^ k else f i
theorem cst_0 (f : Nat → Nat) : cst f 0 = f := by
  funext i
  unfold cst
  rw [if_neg (by omega)]
  split
  · next h => subst h; simp [sumD]
  · rfl
theorem cst_k (f : Nat → Nat) (k : Nat) : cst f k k = f k + sumD f k / 65536 ^ k := by
  unfold cst
  rw [if_neg (by omega), if_pos rfl]
theorem cst_up (f : Nat → Nat) {k i : Nat} (h : k < i) : cst f k i = f i := by
  unfold cst
  rw [if_neg (by omega), if_neg (by omega)]
theorem cst_step (f : Nat → Nat) (k : Nat) : cst f (k + 1) = upd (upd (cst f k) (k + 1) (cst f k (k + 1) + cst f k k / 65536)) k (cst f k k % 65536) := by
  funext i
  have hs := sum_div f k
  unfold upd
  by_cases h1 : i = k
  · subst h1
    rw [if_pos rfl, cst_k]
    unfold cst
    rw [if_pos (by omega)]
    unfold dig
    rw [hs, Nat.add_comm]
  rw [if_neg h1]
  by_cases h2 : i = k + 1
  · subst h2
    rw [if_pos rfl, cst_k, cst_up f (by omega), cst_k, Nat.pow_succ, ← Nat.div_div_eq_div_mul, hs, Nat.add_comm (f k)]
  rw [if_neg h2]
  unfold cst
  by_cases h3 : i < k
  · rw [if_pos (by omega), if_pos h3, dig_more f h3]
  · rw [if_neg (by omega), if_neg h2, if_neg h3, if_neg h1]
theorem cst_end {f : Nat → Nat} (h : sumD f 12 < 65536 ^ 12) {i : Nat} (hi : i < 12) : cst f 11 i = dig (sumD f 12) i := by
  unfold cst
  by_cases h1 : i < 11
  · rw [if_pos h1, dig_more f h1]
  · have h2 : i = 11 := by omega
    subst h2
    rw [if_neg (by omega), if_pos rfl]
    have hs := sum_div f 11
    unfold dig
    rw [Nat.mod_eq_of_lt, hs, Nat.add_comm]
    exact (Nat.div_lt_iff_lt_mul (B_pos 11)).2 (by rw [Nat.mul_comm, ← Nat.pow_succ]; exact h)
theorem carry_bd {f : Nat → Nat} {M : Nat} (hM : 2 ≤ M) (h : ∀ i, f i ≤ M) : ∀ k, sumD f k / 65536 ^ k ≤ M
  | 0 => by simp [sumD]
  | k + 1 => by
    have h1 := carry_bd hM h k
    have h2 := h k
    rw [Nat.pow_succ, ← Nat.div_div_eq_div_mul, sum_div]
    omega
theorem cst_bd {f : Nat → Nat} {M : Nat} (hM : 65536 ≤ M) (h : ∀ i, f i ≤ M) (k i : Nat) : cst f k i ≤ 2 * M := by
  unfold cst
  split
  · have := dig_lt (sumD f k) i; omega
  split
  · have := carry_bd (by omega) h k
    have := h k
    omega
  · have := h i; omega

/-! ### Sizes -/
theorem top_eq {n i : Nat} : n / 65536 ^ i = 65536 * (n / 65536 ^ (i + 1)) + dig n i := by
  unfold dig
  rw [Nat.pow_succ, ← Nat.div_div_eq_div_mul]
  omega
theorem top_lt {m n i : Nat} (h : m / 65536 ^ (i + 1) = n / 65536 ^ (i + 1)) (hl : dig m i < dig n i) : m < n := by
  have e1 := top_eq (n := m) (i := i)
  have e2 := top_eq (n := n) (i := i)
  rcases Nat.lt_or_ge m n with hlt | hge
  · exact hlt
  · have := Nat.div_le_div_right (c := 65536 ^ i) hge
    omega
theorem top_next {m n i : Nat} (h : m / 65536 ^ (i + 1) = n / 65536 ^ (i + 1)) (hl : dig m i = dig n i) : m / 65536 ^ i = n / 65536 ^ i := by
  rw [top_eq (n := m), top_eq (n := n), h, hl]
/-- P1: how two sizes compare. -/
def cmpN (m n : Nat) : Int := if m < n then -1 else if n < m then 1 else 0

/-! ### Subtraction -/
def brw (m n k : Nat) : Nat := if m % 65536 ^ k < n % 65536 ^ k then 1 else 0
theorem brw_0 (m n : Nat) : brw m n 0 = 0 := by simp [brw, Nat.mod_one]
theorem mod_step (n k : Nat) : n % 65536 ^ (k + 1) = n % 65536 ^ k + dig n k * 65536 ^ k := by
  rw [Nat.pow_succ, Nat.mod_mul, dig, Nat.mul_comm (n / 65536 ^ k % 65536)]
theorem mod_lt_pow (n k : Nat) : n % 65536 ^ k < 65536 ^ k := Nat.mod_lt _ (B_pos k)
theorem sub_mod {m n k : Nat} (h : n ≤ m) : (m - n) % 65536 ^ k + n % 65536 ^ k = m % 65536 ^ k + brw m n k * 65536 ^ k := by
  have e : m = (m - n) + n := by omega
  generalize m - n = d at *
  subst e
  unfold brw
  have h1 := mod_lt_pow d k
  have h2 := mod_lt_pow n k
  rw [Nat.add_mod]
  generalize d % 65536 ^ k = a at *
  generalize n % 65536 ^ k = b at *
  generalize 65536 ^ k = P at *
  rcases Nat.lt_or_ge (a + b) P with hl | hl
  · rw [Nat.mod_eq_of_lt hl, if_neg (by omega)]; omega
  · have : (a + b) % P = a + b - P := by rw [Nat.mod_eq_sub_mod hl, Nat.mod_eq_of_lt (by omega)]
    rw [this, if_pos (by omega)]; omega
theorem sub_dig {m n : Nat} (h : n ≤ m) (k : Nat) : (dig (m - n) k : Int) = (dig m k : Int) - (brw m n k : Int) - (dig n k : Int) + (brw m n (k + 1) : Int) * 65536 := by
  have s1 := sub_mod (k := k) h
  have s2 := sub_mod (k := k + 1) h
  rw [mod_step, mod_step n, mod_step m, Nat.pow_succ] at s2
  generalize (m - n) % 65536 ^ k = a at *
  generalize n % 65536 ^ k = b at *
  generalize m % 65536 ^ k = c at *
  have hP := B_pos k
  generalize 65536 ^ k = P at *
  generalize brw m n k = x at *
  generalize brw m n (k + 1) = y at *
  generalize dig (m - n) k = d at *
  generalize dig m k = u at *
  generalize dig n k = v at *
  have s3 : (d + v + x) * P = (u + y * 65536) * P := by
    have e1 : (d + v + x) * P = d * P + v * P + x * P := by rw [Nat.add_mul, Nat.add_mul]
    have e2 : (u + y * 65536) * P = u * P + y * (P * 65536) := by rw [Nat.add_mul, Nat.mul_assoc, Nat.mul_comm 65536 P]
    omega
  have := Nat.eq_of_mul_eq_mul_right hP s3
  omega
theorem brw_12 {m n : Nat} (h : n ≤ m) (hm : m < 65536 ^ 12) : brw m n 12 = 0 := by
  unfold brw
  rw [Nat.mod_eq_of_lt hm, Nat.mod_eq_of_lt (by omega), if_neg (by omega)]
theorem brw_le (m n k : Nat) : brw m n k ≤ 1 := by unfold brw; split <;> omega

/-! ### Division, bit by bit -/
theorem bit_dig (x i : Nat) : dig x (i / 16) / 2 ^ (i % 16) % 2 = x / 2 ^ i % 2 := by
  unfold dig
  have e : 65536 ^ (i / 16) = 2 ^ (16 * (i / 16)) := by rw [Nat.pow_mul]
  have h16 : (65536 : Nat) = 2 ^ (i % 16) * 2 * 2 ^ (15 - i % 16) := by
    rw [← Nat.pow_succ, ← Nat.pow_add, show i % 16 + 1 + (15 - i % 16) = 16 by omega]
  have hi : 2 ^ i = 65536 ^ (i / 16) * 2 ^ (i % 16) := by rw [e, ← Nat.pow_add]; congr 1; omega
  rw [hi, ← Nat.div_div_eq_div_mul]
  generalize x / 65536 ^ (i / 16) = y
  conv => lhs; rw [h16]
  rw [Nat.mul_assoc, Nat.mod_mul_right_div_self, Nat.mod_mul_right_mod]
theorem div_bit {x i c : Nat} (hc : 0 < c) (q r : Nat) (hq : q = x / 2 ^ (i + 1) / c) (hr : r = x / 2 ^ (i + 1) % c) :
    x / 2 ^ i / c = (if c ≤ 2 * r + x / 2 ^ i % 2 then 2 * q + 1 else 2 * q) ∧ x / 2 ^ i % c = (if c ≤ 2 * r + x / 2 ^ i % 2 then 2 * r + x / 2 ^ i % 2 - c else 2 * r + x / 2 ^ i % 2) := by
  have e : x / 2 ^ (i + 1) = x / 2 ^ i / 2 := by rw [Nat.pow_succ, Nat.div_div_eq_div_mul]
  rw [e] at hq hr
  generalize x / 2 ^ i = y at *
  have hd := Nat.div_add_mod (y / 2) c
  rw [← hq, ← hr] at hd
  have hrc : r < c := by rw [hr]; exact Nat.mod_lt _ hc
  have hy : y = c * (2 * q) + (2 * r + y % 2) := by
    have : c * (2 * q) = 2 * (c * q) := by rw [Nat.mul_left_comm]
    omega
  have hb : y % 2 < 2 := Nat.mod_lt _ (by decide)
  generalize y % 2 = b at *
  by_cases h : c ≤ 2 * r + b
  · rw [if_pos h, if_pos h]
    have hy2 : y = c * (2 * q + 1) + (2 * r + b - c) := by rw [Nat.mul_add, Nat.mul_one]; omega
    constructor
    · rw [hy2, Nat.mul_add_div hc, Nat.div_eq_of_lt (by omega), Nat.add_zero]
    · rw [hy2, Nat.mul_add_mod, Nat.mod_eq_of_lt (by omega)]
  · rw [if_neg h, if_neg h]
    constructor
    · rw [hy, Nat.mul_add_div hc, Nat.div_eq_of_lt (by omega), Nat.add_zero]
    · rw [hy, Nat.mul_add_mod, Nat.mod_eq_of_lt (by omega)]
end Go.Proofs.YtokakpbpenndlaaGreatDoor

set_option linter.unusedVariables false
namespace Go.Proofs.YtokakpbpenndlaaGreatDoor
open Go.RowKit

theorem run_make_rowN {P : Program} (t e : TypeId) (i : TypeInfo) (z : Value) (ht : P.underlying t = some (.slice e)) (hi : P.info? e = some i) (hz : i.zero = some z)
    (kl kc : IntKind) (n c : Nat) (hnc : n ≤ c) (hbytes : i.bytes * c ≤ 281474976710656) (h63 : c ≤ 9223372036854775807) (w : World) :
    (Instr.makeSlice t (.int kl (n : Int)) (.int kc (c : Int))).run P w = .ok (.slice (some ⟨w.heap.size, 0, none⟩) n c) (w.alloc (.cells (madeCells z.cells (c * i.size)) e)) := by
  have hb : (i.bytes : Int) * (c : Int) ≤ 281474976710656 := by
    have h : ((i.bytes * c : Nat) : Int) ≤ 281474976710656 := by omega
    rwa [Int.natCast_mul] at h
  have hr := run_make (P := P) w t e i z ht hi hz kl kc n c (by omega) (by omega) hb (by omega)
  simp only [Int.toNat_natCast] at hr
  exact hr
/-- n times one value, closed to simp. -/
def reps (n : Nat) (z : Value) : List Value := List.replicate n z
theorem RowT.make {P : Program} {t e : TypeId} {bytes : Nat} {z : Value} (T : RowT P t e 1 bytes z) (hz1 : z.cells = #[z]) (n : Nat) (hbytes : bytes * n ≤ 281474976710656) (h63 : n ≤ 9223372036854775807) (w : World) :
    (Instr.makeSlice t (.int .i64 (n : Int)) (.int .i64 (n : Int))).run P w = .ok (.slice (some ⟨w.heap.size, 0, none⟩) n n) (w.alloc (.cells (reps n z).toArray e)) := by
  obtain ⟨ht, ⟨i, hi, hz, hsize, hby⟩, hzs, hsz⟩ := T
  have := run_make_rowN t e i z ht hi hz .i64 .i64 n n (Nat.le_refl _) (by rw [hby]; exact hbytes) h63 w
  rw [this, hsize, Nat.mul_one]
  rw [hz1]
  unfold reps
  congr 3
  apply Array.ext'
  simpa [reps] using toList_madeCells_one z n

/-- Only block g has turned, and what is new. -/
theorem only_alloc {a w : World} {row : Option Nat} (h : a.grownBy w row) (o : Obj) : a.grownBy (w.alloc o) row :=
  ⟨h.os, h.tape, h.output, Nat.le_trans h.size (by simp), fun i hi hne => (Below.heap_alloc w o i (Nat.lt_of_lt_of_le hi h.size)).trans (h.block i hi hne)⟩
theorem only_ext {a w w' : World} {row : Option Nat} (h : a.grownBy w row) (hx : Ext w w') : a.grownBy w' row :=
  ⟨hx.os.trans h.os, hx.tape.trans h.tape, hx.output.trans h.output, Nat.le_trans h.size hx.size, fun i hi hne => (hx.block i (Nat.lt_of_lt_of_le hi h.size)).trans (h.block i hi hne)⟩
theorem only_set {a w : World} {g : Nat} (h : a.grownBy w (some g)) {p : Addr} (hp : p.block = g ∨ a.heap.size ≤ p.block) (u : Value) : a.grownBy (w.setCell p u) (some g) :=
  ⟨h.os, h.tape, h.output, by simpa [World.setCell] using h.size, fun i hi hne => (Below.heap_setCell w p u i (by
    rintro rfl
    rcases hp with hp | hp
    · exact hne (by rw [hp])
    · omega)).trans (h.block i hi hne)⟩
theorem only_trans {a b c : World} {row : Option Nat} (h : a.grownBy b row) (k : b.grownBy c row) : a.grownBy c row :=
  ⟨k.os.trans h.os, k.tape.trans h.tape, k.output.trans h.output, Nat.le_trans h.size k.size, fun i hi hne => (k.block i (Nat.lt_of_lt_of_le hi h.size) hne).trans (h.block i hi hne)⟩
theorem own_lit {w0 w : World} (hx : Ext w0 w) (cs : Array Value) (e : TypeId) (n size : Nat) {g : Nat} (hg : g = w.heap.size) (hm : n ≤ maxLen) (hs : cs.size = n * size) : (w.alloc (.cells cs e)).ownsRow w0.heap.size e size (.slice (some ⟨g, 0, none⟩) n n) n cs.toList := by
  subst hg
  exact World.ownsRow_lit w cs n hx.size hm hs
theorem own_set {w : World} {base : Nat} {e : TypeId} {size n : Nat} {v : Value} {xs : List Value} (h : w.ownsRow base e size v n xs) {a : Addr} (ha : v.ownBlock ≠ some a.block) (u : Value) : (w.setCell a u).ownsRow base e size v n xs := ownsRow_setCell_other h ha u

/-! ### Results that lie in memory -/
section
variable {fn : Func} {tmps : Array Value} {P : Program} {w : World}
theorem results_c {p : Tmp} {ty : TypeId} {a : Addr} {v : Value} (h : fn.results = #[.cell p ty]) (ha : tmps.getD p undef = .pointer (some a)) (hv : (loadVar ty a).run P w = .ok v w) : (results fn tmps).run P w = .ok v w := by
  simp only [results, h]
  simp at ha
  simp [ha, asAddr, hv]
theorem results_ct {p u : Tmp} {ty : TypeId} {a : Addr} {v : Value} (h : fn.results = #[.cell p ty, .tmp u]) (ha : tmps.getD p undef = .pointer (some a)) (hv : (loadVar ty a).run P w = .ok v w) : (results fn tmps).run P w = .ok (.tuple #[v, tmps.getD u undef]) w := by
  simp only [results, h]
  simp at ha
  simp [Result.andThen, ha, asAddr, hv]
end
end Go.Proofs.YtokakpbpenndlaaGreatDoor

set_option linter.unusedVariables false
namespace Go.Proofs.YtokakpbpenndlaaGreatDoor
open Go.RowKit
theorem row_int : RowT Tryz.prog 50 3 1 8 (.int .i64 0) := rowT_mk Tryz.underlying50 (z := .int .i64 0) (by kernel_rfl) rfl (by decide)

/-- A round of a Put: so much is written, r is left. -/
def PutRel (w : World) (z : Nat) (s o : Value) (wr : World) : Prop :=
  ∃ (f r : Nat) (out : List UInt8), s = .int .u64 (r : Int) ∧ r < 128 ^ f ∧ r < 18446744073709551616 ∧ 1 ≤ f ∧ f + out.length ≤ 10 ∧ lebF 10 z = out ++ lebF f r ∧ wr.ownsRow w.heap.size 5 1 o out.length (bV out) ∧ Ext w wr ∧ AllP wr o u8P
theorem PutRel.next {w w1 : World} {z f r : Nat} {out : List UInt8} {v1 : Value} {n c : Int} (hr : r < 128 ^ (f + 1)) (hrl : r < 18446744073709551616) (hge : 128 ≤ r) (hfl : f + 1 + out.length ≤ 10) (h : lebF 10 z = out ++ lebF (f + 1) r)
    (hg : w1.ownsRow w.heap.size 5 1 v1 (out.length + 1) (bV out ++ [.int .u8 c])) (hc : c = ((UInt8.ofNat (r % 128 + 128)).toNat : Int)) (hx : Ext w w1) (hall : AllP w1 v1 u8P) (hn : n = ((r / 128 : Nat) : Int)) : PutRel w z (.int .u64 n) v1 w1 := by
  subst hn hc
  refine ⟨f, r / 128, out ++ [UInt8.ofNat (r % 128 + 128)], rfl, ?_, by omega, ?_, by simp; omega, by rw [h, lebF_big f r hge]; simp, ?_, hx, hall⟩
  · rw [Nat.pow_succ] at hr; exact Nat.div_lt_of_lt_mul (by omega)
  · rcases f with _ | f
    · simp at hr; omega
    · omega
  · rw [bV_app, List.length_append]
    simpa [bV] using hg
theorem PutRel.done {w w1 : World} {z f r : Nat} {out : List UInt8} {v1 : Value} (hlt : r < 128) (h : lebF 10 z = out ++ lebF (f + 1) r)
    (hg : w1.ownsRow w.heap.size 5 1 v1 (out.length + 1) (bV out ++ [.int .u8 ((UInt8.ofNat r).toNat : Int)])) : w1.ownsRow w.heap.size 5 1 v1 (lebF 10 z).length (bV (lebF 10 z)) := by
  rw [h, lebF_small f r hlt, bV_app, List.length_append]
  simpa [bV] using hg

end Go.Proofs.YtokakpbpenndlaaGreatDoor

set_option linter.unusedVariables false
namespace Go.Proofs.YtokakpbpenndlaaGreatDoor
open Go.RowKit

/-- A number's cells: its sign, its digits. -/
def numC (s : Bool) (f : Nat → Int) : Array Value := #[.bool s, .int .i64 (f 0), .int .i64 (f 1), .int .i64 (f 2), .int .i64 (f 3), .int .i64 (f 4), .int .i64 (f 5), .int .i64 (f 6), .int .i64 (f 7), .int .i64 (f 8), .int .i64 (f 9), .int .i64 (f 10), .int .i64 (f 11)]
abbrev numV (s : Bool) (f : Nat → Int) : Value := .agg #[.bool s, .int .i64 (f 0), .int .i64 (f 1), .int .i64 (f 2), .int .i64 (f 3), .int .i64 (f 4), .int .i64 (f 5), .int .i64 (f 6), .int .i64 (f 7), .int .i64 (f 8), .int .i64 (f 9), .int .i64 (f 10), .int .i64 (f 11)]
def digI (n : Nat) : Nat → Int := fun i => (dig n i : Int)
def updI (f : Nat → Int) (k : Nat) (v : Int) : Nat → Int := fun i => if i = k then v else f i
theorem lt12 {P : Nat → Prop} (h0 : P 0) (h1 : P 1) (h2 : P 2) (h3 : P 3) (h4 : P 4) (h5 : P 5) (h6 : P 6) (h7 : P 7) (h8 : P 8) (h9 : P 9) (h10 : P 10) (h11 : P 11) : ∀ k, k < 12 → P k
  | 0, _ => h0
  | 1, _ => h1
  | 2, _ => h2
  | 3, _ => h3
  | 4, _ => h4
  | 5, _ => h5
  | 6, _ => h6
  | 7, _ => h7
  | 8, _ => h8
  | 9, _ => h9
  | 10, _ => h10
  | 11, _ => h11
  | k + 12, h => absurd h (by omega)
theorem numC_at (s : Bool) (f : Nat → Int) : ∀ k, k < 12 → (numC s f)[1 + k]? = some (.int .i64 (f k)) :=
  lt12 rfl rfl rfl rfl rfl rfl rfl rfl rfl rfl rfl rfl
theorem numC_set (s : Bool) (f : Nat → Int) (v : Int) : ∀ k, k < 12 → (numC s f).setIfInBounds (1 + k) (.int .i64 v) = numC s (updI f k v) :=
  lt12 rfl rfl rfl rfl rfl rfl rfl rfl rfl rfl rfl rfl
theorem numC_congr {s : Bool} {f g : Nat → Int} (h : ∀ i, i < 12 → f i = g i) : numC s f = numC s g := by
  unfold numC
  rw [h 0 (by decide), h 1 (by decide), h 2 (by decide), h 3 (by decide), h 4 (by decide), h 5 (by decide), h 6 (by decide), h 7 (by decide), h 8 (by decide), h 9 (by decide), h 10 (by decide), h 11 (by decide)]
def allZ (f : Nat → Int) : Bool := (List.range 12).all fun i => f i == 0
theorem allZ_iff {f : Nat → Int} : allZ f = true ↔ ∀ i, i < 12 → f i = 0 := by simp [allZ]
theorem arr_eq (w : World) (xs ys : Array Value) : (Op.equalIn 10000 141 (.agg xs) (.agg ys)).run Tryz.prog w = (Op.eqItems 9999 3 (Tryz.prog.cellsOf 3) xs ys (List.range 12)).run Tryz.prog w := by
  obtain ⟨i, hi, _⟩ := row_int.ex
  exact run_equalIn_array w 9999 xs ys Tryz.underlying141 hi
theorem cells_int : Tryz.prog.cellsOf 3 = 1 := by kernel_rfl
theorem eql_arr (f : Nat → Int) (r : Bool) (h : r = allZ f) (w : World) : (binOp .eql 141 (.agg #[.int .i64 (f 0), .int .i64 (f 1), .int .i64 (f 2), .int .i64 (f 3), .int .i64 (f 4), .int .i64 (f 5), .int .i64 (f 6), .int .i64 (f 7), .int .i64 (f 8), .int .i64 (f 9), .int .i64 (f 10), .int .i64 (f 11)]) (.agg #[.int .i64 0, .int .i64 0, .int .i64 0, .int .i64 0, .int .i64 0, .int .i64 0, .int .i64 0, .int .i64 0, .int .i64 0, .int .i64 0, .int .i64 0, .int .i64 0])).run Tryz.prog w = .ok (.bool r) w := by
  subst h
  have hl : List.range 12 = [0, 1, 2, 3, 4, 5, 6, 7, 8, 9, 10, 11] := by decide
  by_cases h0 : f 0 = 0
  case neg =>
    have hn : allZ f = false := by
      rw [Bool.eq_false_iff]
      exact fun h => h0 (allZ_iff.1 h 0 (by decide))
    rw [hn]
    simp [go_sem, arr_eq, hl, Op.eqItems, cells_int, h0]
  by_cases h1 : f 1 = 0
  case neg =>
    have hn : allZ f = false := by
      rw [Bool.eq_false_iff]
      exact fun h => h1 (allZ_iff.1 h 1 (by decide))
    rw [hn]
    simp [go_sem, arr_eq, hl, Op.eqItems, cells_int, h0, h1]
  by_cases h2 : f 2 = 0
  case neg =>
    have hn : allZ f = false := by
      rw [Bool.eq_false_iff]
      exact fun h => h2 (allZ_iff.1 h 2 (by decide))
    rw [hn]
    simp [go_sem, arr_eq, hl, Op.eqItems, cells_int, h0, h1, h2]
  by_cases h3 : f 3 = 0
  case neg =>
    have hn : allZ f = false := by
      rw [Bool.eq_false_iff]
      exact fun h => h3 (allZ_iff.1 h 3 (by decide))
    rw [hn]
    simp [go_sem, arr_eq, hl, Op.eqItems, cells_int, h0, h1, h2, h3]
  by_cases h4 : f 4 = 0
  case neg =>
    have hn : allZ f = false := by
      rw [Bool.eq_false_iff]
      exact fun h => h4 (allZ_iff.1 h 4 (by decide))
    rw [hn]
    simp [go_sem, arr_eq, hl, Op.eqItems, cells_int, h0, h1, h2, h3, h4]
  by_cases h5 : f 5 = 0
  case neg =>
    have hn : allZ f = false := by
      rw [Bool.eq_false_iff]
      exact fun h => h5 (allZ_iff.1 h 5 (by decide))
    rw [hn]
    simp [go_sem, arr_eq, hl, Op.eqItems, cells_int, h0, h1, h2, h3, h4, h5]
  by_cases h6 : f 6 = 0
  case neg =>
    have hn : allZ f = false := by
      rw [Bool.eq_false_iff]
      exact fun h => h6 (allZ_iff.1 h 6 (by decide))
    rw [hn]
    simp [go_sem, arr_eq, hl, Op.eqItems, cells_int, h0, h1, h2, h3, h4, h5, h6]
  by_cases h7 : f 7 = 0
  case neg =>
    have hn : allZ f = false := by
      rw [Bool.eq_false_iff]
      exact fun h => h7 (allZ_iff.1 h 7 (by decide))
    rw [hn]
    simp [go_sem, arr_eq, hl, Op.eqItems, cells_int, h0, h1, h2, h3, h4, h5, h6, h7]
  by_cases h8 : f 8 = 0
  case neg =>
    have hn : allZ f = false := by
      rw [Bool.eq_false_iff]
      exact fun h => h8 (allZ_iff.1 h 8 (by decide))
    rw [hn]
    simp [go_sem, arr_eq, hl, Op.eqItems, cells_int, h0, h1, h2, h3, h4, h5, h6, h7, h8]
  by_cases h9 : f 9 = 0
  case neg =>
    have hn : allZ f = false := by
      rw [Bool.eq_false_iff]
      exact fun h => h9 (allZ_iff.1 h 9 (by decide))
    rw [hn]
    simp [go_sem, arr_eq, hl, Op.eqItems, cells_int, h0, h1, h2, h3, h4, h5, h6, h7, h8, h9]
  by_cases h10 : f 10 = 0
  case neg =>
    have hn : allZ f = false := by
      rw [Bool.eq_false_iff]
      exact fun h => h10 (allZ_iff.1 h 10 (by decide))
    rw [hn]
    simp [go_sem, arr_eq, hl, Op.eqItems, cells_int, h0, h1, h2, h3, h4, h5, h6, h7, h8, h9, h10]
  by_cases h11 : f 11 = 0
  case neg =>
    have hn : allZ f = false := by
      rw [Bool.eq_false_iff]
      exact fun h => h11 (allZ_iff.1 h 11 (by decide))
    rw [hn]
    simp [go_sem, arr_eq, hl, Op.eqItems, cells_int, h0, h1, h2, h3, h4, h5, h6, h7, h8, h9, h10, h11]
  have hy : allZ f = true := allZ_iff.2 (lt12 h0 h1 h2 h3 h4 h5 h6 h7 h8 h9 h10 h11)
  rw [hy]
  simp [go_sem, arr_eq, hl, Op.eqItems, cells_int, h0, h1, h2, h3, h4, h5, h6, h7, h8, h9, h10, h11]

theorem ld_num {w : World} {g : Nat} {s : Bool} {f : Nat → Int} (h : Blk w g 143 (numC s f)) : (loadVar 143 ⟨g, 0, none⟩).run Tryz.prog w = .ok (numV s f) w := by
  have q := h.cell
  unfold numC at q
  simp [go_sem, q]
/-- A number laid into its cells. -/
theorem put13 {w : World} {g : Nat} {t : TypeId} {s' s : Bool} {f' f : Nat → Int} (h : Blk w g t (numC s' f')) : Blk (((((((((((((w.setCell ⟨g, 0, none⟩ (.bool s)).setCell ⟨g, 1, none⟩ (.int .i64 (f 0))).setCell ⟨g, 2, none⟩ (.int .i64 (f 1))).setCell ⟨g, 3, none⟩ (.int .i64 (f 2))).setCell ⟨g, 4, none⟩ (.int .i64 (f 3))).setCell ⟨g, 5, none⟩ (.int .i64 (f 4))).setCell ⟨g, 6, none⟩ (.int .i64 (f 5))).setCell ⟨g, 7, none⟩ (.int .i64 (f 6))).setCell ⟨g, 8, none⟩ (.int .i64 (f 7))).setCell ⟨g, 9, none⟩ (.int .i64 (f 8))).setCell ⟨g, 10, none⟩ (.int .i64 (f 9))).setCell ⟨g, 11, none⟩ (.int .i64 (f 10))).setCell ⟨g, 12, none⟩ (.int .i64 (f 11))) g t (numC s f) := by
  have e : ((((((((((((((numC s' f').setIfInBounds 0 (.bool s)).setIfInBounds 1 (.int .i64 (f 0))).setIfInBounds 2 (.int .i64 (f 1))).setIfInBounds 3 (.int .i64 (f 2))).setIfInBounds 4 (.int .i64 (f 3))).setIfInBounds 5 (.int .i64 (f 4))).setIfInBounds 6 (.int .i64 (f 5))).setIfInBounds 7 (.int .i64 (f 6))).setIfInBounds 8 (.int .i64 (f 7))).setIfInBounds 9 (.int .i64 (f 8))).setIfInBounds 10 (.int .i64 (f 9))).setIfInBounds 11 (.int .i64 (f 10))).setIfInBounds 12 (.int .i64 (f 11))) = numC s f := by simp [numC]
  have hh := (((((((((((((h.set_ 0 (.bool s)).set_ 1 (.int .i64 (f 0))).set_ 2 (.int .i64 (f 1))).set_ 3 (.int .i64 (f 2))).set_ 4 (.int .i64 (f 3))).set_ 5 (.int .i64 (f 4))).set_ 6 (.int .i64 (f 5))).set_ 7 (.int .i64 (f 6))).set_ 8 (.int .i64 (f 7))).set_ 9 (.int .i64 (f 8))).set_ 10 (.int .i64 (f 9))).set_ 11 (.int .i64 (f 10))).set_ 12 (.int .i64 (f 11)))
  rwa [e] at hh
theorem ext13 {a w : World} {g : Nat} {s : Bool} {f : Nat → Int} (hx : Ext a w) (hg : a.heap.size ≤ g) : Ext a (((((((((((((w.setCell ⟨g, 0, none⟩ (.bool s)).setCell ⟨g, 1, none⟩ (.int .i64 (f 0))).setCell ⟨g, 2, none⟩ (.int .i64 (f 1))).setCell ⟨g, 3, none⟩ (.int .i64 (f 2))).setCell ⟨g, 4, none⟩ (.int .i64 (f 3))).setCell ⟨g, 5, none⟩ (.int .i64 (f 4))).setCell ⟨g, 6, none⟩ (.int .i64 (f 5))).setCell ⟨g, 7, none⟩ (.int .i64 (f 6))).setCell ⟨g, 8, none⟩ (.int .i64 (f 7))).setCell ⟨g, 9, none⟩ (.int .i64 (f 8))).setCell ⟨g, 10, none⟩ (.int .i64 (f 9))).setCell ⟨g, 11, none⟩ (.int .i64 (f 10))).setCell ⟨g, 12, none⟩ (.int .i64 (f 11))) :=
  (((((((((((((hx.set (p := ⟨g, 0, none⟩) hg _).set (p := ⟨g, 1, none⟩) hg _).set (p := ⟨g, 2, none⟩) hg _).set (p := ⟨g, 3, none⟩) hg _).set (p := ⟨g, 4, none⟩) hg _).set (p := ⟨g, 5, none⟩) hg _).set (p := ⟨g, 6, none⟩) hg _).set (p := ⟨g, 7, none⟩) hg _).set (p := ⟨g, 8, none⟩) hg _).set (p := ⟨g, 9, none⟩) hg _).set (p := ⟨g, 10, none⟩) hg _).set (p := ⟨g, 11, none⟩) hg _).set (p := ⟨g, 12, none⟩) hg _)
theorem far13 {w : World} {g g' : Nat} {t : TypeId} {cs : Array Value} {s : Bool} {f : Nat → Int} (h : Blk w g' t cs) (hne : g' ≠ g) : Blk (((((((((((((w.setCell ⟨g, 0, none⟩ (.bool s)).setCell ⟨g, 1, none⟩ (.int .i64 (f 0))).setCell ⟨g, 2, none⟩ (.int .i64 (f 1))).setCell ⟨g, 3, none⟩ (.int .i64 (f 2))).setCell ⟨g, 4, none⟩ (.int .i64 (f 3))).setCell ⟨g, 5, none⟩ (.int .i64 (f 4))).setCell ⟨g, 6, none⟩ (.int .i64 (f 5))).setCell ⟨g, 7, none⟩ (.int .i64 (f 6))).setCell ⟨g, 8, none⟩ (.int .i64 (f 7))).setCell ⟨g, 9, none⟩ (.int .i64 (f 8))).setCell ⟨g, 10, none⟩ (.int .i64 (f 9))).setCell ⟨g, 11, none⟩ (.int .i64 (f 10))).setCell ⟨g, 12, none⟩ (.int .i64 (f 11))) g' t cs :=
  (((((((((((((h.far (p := ⟨g, 0, none⟩) hne _).far (p := ⟨g, 1, none⟩) hne _).far (p := ⟨g, 2, none⟩) hne _).far (p := ⟨g, 3, none⟩) hne _).far (p := ⟨g, 4, none⟩) hne _).far (p := ⟨g, 5, none⟩) hne _).far (p := ⟨g, 6, none⟩) hne _).far (p := ⟨g, 7, none⟩) hne _).far (p := ⟨g, 8, none⟩) hne _).far (p := ⟨g, 9, none⟩) hne _).far (p := ⟨g, 10, none⟩) hne _).far (p := ⟨g, 11, none⟩) hne _).far (p := ⟨g, 12, none⟩) hne _)
set_option maxRecDepth 100000 in
set_option maxHeartbeats 1000000 in
theorem zero_any (s : Bool) (f : Nat → Int) (w : World) :
    Calls Tryz.prog 174 #[numV s f] w fun e w' => e = .returned (.bool (allZ f)) ∧ Ext w w' := by
  have hq := fun W => eql_arr f (allZ f) rfl W
  obtain ⟨r, hr⟩ : ∃ r, allZ f = r := ⟨_, rfl⟩
  rw [hr] at hq ⊢
  clear hr
  go_enter Tryz.func174, Tryz.ntmps174
  go_wp2_with fail
  go_ret
  exact ⟨rfl, (Ext.refl w).alloc _⟩
end Go.Proofs.YtokakpbpenndlaaGreatDoor
