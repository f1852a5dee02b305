/-
  Orders as bytes: the walks through both puts and both Bytes.
-/
import Derived.Test.YtokakpbpenndlaaGreatDoorRt05
import Derived.Test.YtokakpbpenndlaaGreatDoorRt02
import Derived.StillTailTactics
import Derived.Shelf.Bits.Mul64
import Derived.Lib.Strings
import Derived.Lib.Slices
import Derived.Lib.Small
import Derived.Lib.Walk
import Derived.Lib.BitFns
set_option linter.unusedVariables false
namespace Go.Proofs.YtokakpbpenndlaaGreatDoor
open Go.RowKit

/-- Numbers as cells. -/
def iV (l : List Int) : List Value := l.map fun n => .int .i64 n
theorem iV_one (l : List Int) : ∀ u ∈ iV l, u.oneCell' = true := by
  intro u hu
  simp only [iV, List.mem_map] at hu
  obtain ⟨b, _, rfl⟩ := hu
  rfl
def PutsRel (w : World) (l : List Int) (o i : Value) (wr : World) : Prop :=
  ∃ k : Nat, k ≤ l.length ∧ i = .int .i64 (k : Int) ∧ wr.ownsRow w.heap.size 5 1 o (putsL (l.take k)).length (bV (putsL (l.take k))) ∧ Ext w wr ∧ AllP wr o u8P
theorem PutsRel.next {w w1 : World} {l : List Int} {k : Nat} {v1 : Value} {n m : Nat} {xs : List Value} (hk : k < l.length) (hg : w1.ownsRow w.heap.size 5 1 v1 n xs) (hn : n = (putsL (l.take k)).length + (putL l[k]).length) (hxs : xs = bV (putsL (l.take k)) ++ bV (putL l[k])) (hx : Ext w w1) (hall : AllP w1 v1 u8P) (hm : m = k + 1) : PutsRel w l v1 (.int .i64 (m : Int)) w1 := by
  subst hm hn hxs
  refine ⟨k + 1, by omega, rfl, ?_, hx, hall⟩
  rw [putsL_snoc l k hk, bV_app, List.length_append]
  exact hg
theorem PutsRel.done {w w1 : World} {l : List Int} {k : Nat} {o : Value} (hk : k = l.length) (h : w1.ownsRow w.heap.size 5 1 o (putsL (l.take k)).length (bV (putsL (l.take k)))) : w1.ownsRow w.heap.size 5 1 o (putsL l).length (bV (putsL l)) := by
  subst hk; rwa [List.take_length] at h

end Go.Proofs.YtokakpbpenndlaaGreatDoor

set_option linter.unusedVariables false
namespace Go.Proofs.YtokakpbpenndlaaGreatDoor
open Go.RowKit
def SameRel (w : World) (n : Nat) (P : Nat → Prop) (i : Value) (wr : World) : Prop := ∃ k : Nat, k ≤ n ∧ i = .int .i64 (k : Int) ∧ Ext w wr ∧ ∀ j, j < k → P j

theorem SameRel.done {α : Type} {w wr : World} {a b : List α} {k : Nat} (hk : a.length ≤ k) (hl : a.length = b.length) (hP : ∀ j, j < k → a[j]? = b[j]?) : a = b := by
  refine List.ext_getElem hl fun j h1 h2 => ?_
  have := hP j (by omega)
  simpa [h1, h2] using this
theorem SameRel.next {w w1 : World} {n k m : Nat} {P : Nat → Prop} (hk : k < n) (hx : Ext w w1) (hP : ∀ j, j < k → P j) (h : P k) (hm : m = k + 1) : SameRel w n P (.int .i64 (m : Int)) w1 := by
  subst hm
  exact ⟨k + 1, by omega, rfl, hx, fun j hj => by rcases Nat.lt_or_ge j k with h1 | h1; exact hP j h1; rw [show j = k by omega]; exact h⟩
end Go.Proofs.YtokakpbpenndlaaGreatDoor

set_option linter.unusedVariables false
namespace Go.Proofs.YtokakpbpenndlaaGreatDoor
open Go.RowKit

def Ord.bytes (o : Ord) : List UInt8 := if o.check.1 = 0 then putsL (o.hd ++ lnInts o.ls) else []
theorem win_i64 {n lo hi : Int} (h : win n lo hi = true) (h1 : -9223372036854775808 ≤ lo) (h2 : hi ≤ 9223372036854775807) : i64 n := by
  have := win_bd h; exact ⟨by omega, by omega⟩
theorem Ln.i64 {l : Ln} (h : l.ok = true) : ∀ n ∈ [l.c, l.a], Go.Proofs.YtokakpbpenndlaaGreatDoor.i64 n := by
  simp only [Ln.ok, Bool.and_eq_true] at h
  intro n hn
  simp only [List.mem_cons, List.not_mem_nil, or_false] at hn
  rcases hn with rfl | rfl
  · exact win_i64 h.1 (by omega) (by omega)
  · exact win_i64 h.2 (by omega) (by omega)

def OBRel (w : World) (o : Ord) (out i : Value) (wr : World) : Prop :=
  ∃ k : Nat, k ≤ o.ls.length ∧ i = .int .i64 (k : Int) ∧ wr.ownsRow w.heap.size 5 1 out (putsL (o.hd ++ lnInts (o.ls.take k))).length (bV (putsL (o.hd ++ lnInts (o.ls.take k)))) ∧ Ext w wr ∧ AllP wr out u8P
theorem OBRel.next {w w1 : World} {o : Ord} {k : Nat} {v1 : Value} {n m : Nat} {xs : List Value} {x : Ln} (hk : k < o.ls.length) (hx0 : o.ls[k] = x) (hg : w1.ownsRow w.heap.size 5 1 v1 n xs) (hn : n = (putsL (o.hd ++ lnInts (o.ls.take k))).length + (putsL [x.c, x.a]).length) (hxs : xs = bV (putsL (o.hd ++ lnInts (o.ls.take k))) ++ bV (putsL [x.c, x.a])) (hx : Ext w w1) (hall : AllP w1 v1 u8P) (hm : m = k + 1) : OBRel w o v1 (.int .i64 (m : Int)) w1 := by
  subst hm hn hxs hx0
  refine ⟨k + 1, by omega, rfl, ?_, hx, hall⟩
  rw [lnInts_snoc _ k hk, ← List.append_assoc, putsL_app (o.hd ++ lnInts (o.ls.take k)), bV_app, List.length_append]
  exact hg
theorem OBRel.done {w w1 : World} {o : Ord} {k : Nat} {out : Value} (hc : o.check.1 = 0) (hk : k = o.ls.length) (h : w1.ownsRow w.heap.size 5 1 out (putsL (o.hd ++ lnInts (o.ls.take k))).length (bV (putsL (o.hd ++ lnInts (o.ls.take k))))) : w1.ownsRow w.heap.size 5 1 out o.bytes.length (bV o.bytes) := by
  subst hk; rw [List.take_length] at h; rw [Ord.bytes, if_pos hc]; exact h

end Go.Proofs.YtokakpbpenndlaaGreatDoor

set_option linter.unusedVariables false
namespace Go.Proofs.YtokakpbpenndlaaGreatDoor
/-- Between two places of a reader stand these numbers. -/
structure RS.Has (s : RS) (l : List Int) (s' : RS) : Prop where
  fe : s.fe = 0
  fe' : s'.fe = 0
  b : s'.b = s.b
  txt : s.b.drop s.at_ = putsL l ++ s.b.drop s'.at_
theorem RS.Has.refl {s : RS} (h : s.fe = 0) : s.Has [] s := ⟨h, h, rfl, by simp [putsL]⟩
theorem RS.Has.trans {s s1 s2 : RS} {l l1 : List Int} (h : s.Has l s1) (k : s1.Has l1 s2) : s.Has (l ++ l1) s2 := by
  refine ⟨h.fe, k.fe', k.b.trans h.b, ?_⟩
  have := k.txt
  rw [h.b] at this
  rw [h.txt, this, putsL_app, List.append_assoc]
end Go.Proofs.YtokakpbpenndlaaGreatDoor

namespace Go.Proofs.YtokakpbpenndlaaGreatDoor
theorem Ln.ok_bd {l : Ln} (h : l.ok = true) : (1 ≤ l.c ∧ l.c ≤ 1099511627775) ∧ (0 ≤ l.a ∧ l.a ≤ 1099511627775) := by
  unfold Ln.ok at h
  rw [Bool.and_eq_true] at h
  exact ⟨win_bd h.1, win_bd h.2⟩
end Go.Proofs.YtokakpbpenndlaaGreatDoor

set_option linter.unusedVariables false
namespace Go.Proofs.YtokakpbpenndlaaGreatDoor

/-- A report. -/
structure Rep where
  j : Int
  k : Int
  p : Int
  t : Int
  x : Int
  v : Int
  s : Int
  r : Int
deriving DecidableEq
def Rep.zero : Rep := ⟨0, 0, 0, 0, 0, 0, 0, 0⟩
def Rep.ints (r : Rep) : List Int := [r.j, r.k, r.p, r.t, r.x, r.v, r.s, r.r]
/-- P30.2: the error. -/
def Rep.check (r : Rep) : Int := if perE r.k r.p ≠ 0 ∨ r.j < 1 ∨ 1099511627775 < r.j ∨ r.s < 0 ∨ 2147483647 < r.s ∨ r.r < 0 ∨ 2147483647 < r.r then 5 else 0
def Rep.bytes (r : Rep) : List UInt8 := if r.check = 0 then putsL r.ints else []
theorem Rep.bd {r : Rep} (h : r.check = 0) : (1 ≤ r.j ∧ r.j ≤ 1099511627775) ∧ (1 ≤ r.k ∧ r.k ≤ 4) ∧ (0 ≤ r.p ∧ r.p < 119988) ∧ (0 ≤ r.s ∧ r.s ≤ 2147483647) ∧ (0 ≤ r.r ∧ r.r ≤ 2147483647) ∧ perE r.k r.p = 0 := by
  unfold Rep.check at h
  by_cases hc : perE r.k r.p ≠ 0 ∨ r.j < 1 ∨ 1099511627775 < r.j ∨ r.s < 0 ∨ 2147483647 < r.s ∨ r.r < 0 ∨ 2147483647 < r.r
  · rw [if_pos hc] at h; cases h
  have hp : perE r.k r.p = 0 := by
    by_cases h0 : perE r.k r.p = 0
    · exact h0
    · exact absurd (.inl h0) hc
  have hp' := hp
  unfold perE longI at hp'
  have hk : 1 ≤ r.k ∧ r.k ≤ 4 := by
    by_cases h1 : r.k = 1
    · omega
    by_cases h2 : r.k = 2
    · omega
    by_cases h3 : r.k = 3
    · omega
    by_cases h4 : r.k = 4
    · omega
    rw [if_neg h1, if_neg h2, if_neg h3, if_neg h4, if_pos rfl] at hp'
    cases hp'
  refine ⟨by omega, hk, ?_, by omega, by omega, hp⟩
  have hl := longI_bd r.k
  unfold perE at hp
  by_cases h0 : longI r.k = 0
  · rw [if_pos h0] at hp; cases hp
  rw [if_neg h0] at hp
  by_cases h1 : r.p < 0 ∨ 119988 / longI r.k ≤ r.p
  · rw [if_pos h1] at hp; cases hp
  have : 119988 / longI r.k ≤ 119988 := Int.ediv_le_self _ (by decide)
  omega
end Go.Proofs.YtokakpbpenndlaaGreatDoor

set_option linter.unusedVariables false
namespace Go.Proofs.YtokakpbpenndlaaGreatDoor
open Go.RowKit

/-- The sign of a number. -/
def sgnI (x : Int) : Int := if x < 0 then -1 else if 0 < x then 1 else 0
theorem nan_any (x : Int) (w : World) : Calls Tryz.prog 127 #[.int .i64 x] w fun e w' => e = .returned (.bool false) ∧ w = w' := by
  go_enter Tryz.func127, Tryz.ntmps127
  go_wp2
  go_ret
  exact ⟨ret_bool (by simp), rfl⟩
theorem cmp0_any (x : Int) (w : World) : Calls Tryz.prog 83 #[.int .i64 x, .int .i64 0] w fun e w' => e = .returned (.int .i64 (sgnI x)) ∧ w = w' := by
  by_cases h1 : x < 0
  · go_enter Tryz.func83, Tryz.ntmps83
    go_wp2_with (go_at_call 127; refine (nan_any _ _).mono ?_; rintro e w' ⟨rfl, rfl⟩)
    go_ret
    exact ⟨by simp [sgnI, h1], rfl⟩
  · by_cases h2 : 0 < x
    · go_enter Tryz.func83, Tryz.ntmps83
      go_wp2_with (go_at_call 127; refine (nan_any _ _).mono ?_; rintro e w' ⟨rfl, rfl⟩)
      go_ret
      exact ⟨by simp [sgnI, h1, h2], rfl⟩
    · go_enter Tryz.func83, Tryz.ntmps83
      go_wp2_with (go_at_call 127; refine (nan_any _ _).mono ?_; rintro e w' ⟨rfl, rfl⟩)
      go_ret
      exact ⟨by rw [show sgnI x = 0 by rw [sgnI, if_neg (by omega), if_neg (by omega)]]; rfl, rfl⟩
theorem sign_any (x : Int) (w : World) : Calls Tryz.prog 203 #[.int .i64 x] w fun e w' => e = .returned (.int .i64 (sgnI x)) ∧ w = w' := by
  go_enter Tryz.func203, Tryz.ntmps203
  go_wp2_with (go_at_call 83; refine (cmp0_any _ _).mono ?_; rintro e w' ⟨rfl, rfl⟩)
  go_ret
  exact ⟨rfl, rfl⟩
theorem size_nat (n : Nat) (h : n < 9223372036854775808) (w : World) : Calls Tryz.prog 202 #[.int .i64 (n : Int)] w fun e w' => e = .returned (.int .u64 (n : Int)) ∧ w = w' := by
  have hd : decide ((n : Int) < 0) = false := by simp
  go_enter Tryz.func202, Tryz.ntmps202
  go_wp2
  go_ret
  exact ⟨rfl, rfl⟩
theorem signed_nat (n : Nat) (h : n < 9223372036854775808) (w : World) : Calls Tryz.prog 205 #[.int .u64 (n : Int), .bool false] w fun e w' => e = .returned (.tuple #[.int .i64 (n : Int), .int .i64 0]) ∧ w = w' := by
  have hd : decide ((n : Int) < 9223372036854775808) = true := by simp; omega
  go_enter Tryz.func205, Tryz.ntmps205
  go_wp2
  go_ret2
  exact ⟨rfl, rfl⟩
set_option maxHeartbeats 1000000 in
/-- (The walk of the shelf's contract, at this program.) -/
theorem mul64_any (x y : Nat) (hx : x < 18446744073709551616) (hy : y < 18446744073709551616) (w : World) :
    Calls Tryz.prog 210 #[.int .u64 (x : Int), .int .u64 (y : Int)] w fun e w' => e = .returned (.tuple #[.int .u64 ((x * y / 18446744073709551616 : Nat) : Int), .int .u64 ((x * y % 18446744073709551616 : Nat) : Int)]) ∧ w = w' := by
  obtain ⟨bd, bt, bw, hhi⟩ := Lib.mul64_hi x y hx hy
  have ba := Lib.half_mul_le (a := x / 4294967296) (b := y / 4294967296) (by omega) (by omega)
  have bb := Lib.half_mul_le (a := x / 4294967296) (b := y % 4294967296) (by omega) (by omega)
  have bc := Lib.half_mul_le (a := x % 4294967296) (b := y / 4294967296) (by omega) (by omega)
  have ba' : x / 4294967296 * (y / 4294967296) < 18446744073709551616 := by omega
  have bb' : x / 4294967296 * (y % 4294967296) < 18446744073709551616 := by omega
  have bc' : x % 4294967296 * (y / 4294967296) < 18446744073709551616 := by omega
  have bh1 : x / 4294967296 * (y / 4294967296) + (x / 4294967296 * (y % 4294967296) + x % 4294967296 * (y % 4294967296) / 4294967296) / 4294967296 < 18446744073709551616 := by omega
  have bh : x / 4294967296 * (y / 4294967296) + (x / 4294967296 * (y % 4294967296) + x % 4294967296 * (y % 4294967296) / 4294967296) / 4294967296 + ((x / 4294967296 * (y % 4294967296) + x % 4294967296 * (y % 4294967296) / 4294967296) % 4294967296 + x % 4294967296 * (y / 4294967296)) / 4294967296 < 18446744073709551616 := by
    rw [hhi]
    exact Nat.div_lt_of_lt_mul (Nat.lt_of_lt_of_le (Nat.mul_lt_mul'' hx hy) (Nat.le_refl _))
  go_enter Tryz.func210, Tryz.ntmps210
  go_wp2
  simp only [Mul64.maskN x hx, Mul64.maskN y hy, Mul64.divN, Mul64.mulN, Mul64.addN, Mul64.wrapN _ bd, Mul64.wrapN _ bb', Mul64.wrapN _ bt, Mul64.maskN _ bt, Mul64.wrapN _ bc', Mul64.wrapN _ bw, Mul64.wrapN _ ba', Mul64.wrapN _ bh1, Mul64.wrapN _ bh, Mul64.wrapM (x * y)]
  rw [hhi]
  go_ret2
  exact ⟨rfl, rfl⟩

set_option maxRecDepth 100000 in
set_option maxHeartbeats 1000000 in
theorem wmul_nat (a b : Nat) (ha : a < 9223372036854775808) (hb : b < 9223372036854775808) (w : World) :
    Calls Tryz.prog 201 #[.int .i64 (a : Int), .int .i64 (b : Int)] w fun e w' => e = .returned (.tuple #[.int .u64 ((a * b / 18446744073709551616 : Nat) : Int), .int .u64 ((a * b % 18446744073709551616 : Nat) : Int), .int .i64 (sgnI a * sgnI b)]) ∧ w = w' := by
  have hs : ∀ x : Int, -1 ≤ sgnI x ∧ sgnI x ≤ 1 := by intro x; unfold sgnI; split <;> (try split) <;> omega
  have h1 := Lib.hid (hs a)
  have h2 := Lib.hid (hs b)
  clear hs
  go_enter Tryz.func201, Tryz.ntmps201
  go_wp2_with (first | (go_at_call 202; refine (size_nat _ (by assumption) _).mono ?_; rintro e w' ⟨rfl, rfl⟩) | (go_at_call 210; refine (mul64_any a b (by omega) (by omega) _).mono ?_; rintro e w' ⟨rfl, rfl⟩) | (go_at_call 203; refine (sign_any _ _).mono ?_; rintro e w' ⟨rfl, rfl⟩))
  have hw : RowKit.wrap64 (sgnI a * sgnI b) = sgnI a * sgnI b := by
    have h1' := h1.out
    have h2' := h2.out
    generalize sgnI a = x at *
    generalize sgnI b = y at *
    have : x = -1 ∨ x = 0 ∨ x = 1 := by omega
    rcases this with rfl | rfl | rfl <;> (unfold RowKit.wrap64; omega)
  refine bodyPost_ret (v := .tuple #[.int .u64 ((a : Int) * b / 18446744073709551616), .int .u64 ((a : Int) * b % 18446744073709551616), .int .i64 (RowKit.wrap64 (sgnI a * sgnI b))]) (by simp [results, Tryz.results201, go_sem]) rfl ⟨?_, rfl⟩
  rw [hw]
  simp
end Go.Proofs.YtokakpbpenndlaaGreatDoor

set_option linter.unusedVariables false
namespace Go.Proofs.YtokakpbpenndlaaGreatDoor
open Go.RowKit

theorem tab_at (i : Int) (h0 : 0 ≤ i) (h1 : i ≤ 255) (h : i.toNat < Lib.len8tab.size) : ((Lib.len8tab[i.toNat]'h).toNat : Int) = (Lib.bitLen i.toNat : Int) := by
  rw [← Lib.len8_of i h0 h1]
  unfold Lib.len8
  simp [h]
theorem len_case (x c : Int) (k : Nat) (h0 : 0 ≤ c) (h1 : c ≤ 255) (hk : k ≤ 56) (he : Lib.bitLen x.toNat = k + Lib.bitLen c.toNat) (h : c.toNat < Lib.len8tab.size) :
    RowKit.wrap64 ((k : Int) + RowKit.wrap64 ((Lib.len8tab[c.toNat]'h).toNat : Int)) = (Lib.bitLen x.toNat : Int) := by
  rw [tab_at c h0 h1, he]
  have l := Lib.bitLen_le8' c h0 h1
  generalize Lib.bitLen c.toNat = m at *
  unfold RowKit.wrap64
  omega
theorem len_case0 (x : Int) (h0 : 0 ≤ x) (h1 : x ≤ 255) (h : x.toNat < Lib.len8tab.size) :
    RowKit.wrap64 (RowKit.wrap64 ((Lib.len8tab[x.toNat]'h).toNat : Int)) = (Lib.bitLen x.toNat : Int) := by
  rw [tab_at x h0 h1]
  have l := Lib.bitLen_le8' x h0 h1
  generalize Lib.bitLen x.toNat = m at *
  unfold RowKit.wrap64
  omega
set_option maxHeartbeats 4000000 in
set_option maxRecDepth 100000 in
theorem len64_any (x : Int) (w : World) (h0 : 0 ≤ x) (h1 : x ≤ 18446744073709551615) :
    Calls Tryz.prog 184 #[.int .u64 x] w fun e w' => e = .returned (.int .i64 (Lib.bitLen x.toNat)) ∧ w' = w := by
  have hsz := Lib.len8tab_size
  go_enter Tryz.func184, Tryz.ntmps184
  go_wp2
  all_goals (go_ret; refine ⟨ret_int ?_, rfl⟩)
  all_goals first
    | (refine len_case x (x / 4294967296 / 65536 / 256) 56 ?_ ?_ ?_ ?_ _; (omega); (omega); (omega); (rw [show (x / 4294967296 / 65536 / 256).toNat = x.toNat / 72057594037927936 by omega]; exact Lib.bitLen_shift56 x.toNat (by omega) (by omega)))
    | (refine len_case x (x / 4294967296 / 65536) 48 ?_ ?_ ?_ ?_ _; (omega); (omega); (omega); (rw [show (x / 4294967296 / 65536).toNat = x.toNat / 281474976710656 by omega]; exact Lib.bitLen_shift48 x.toNat (by omega) (by omega)))
    | (refine len_case x (x / 4294967296 / 256) 40 ?_ ?_ ?_ ?_ _; (omega); (omega); (omega); (rw [show (x / 4294967296 / 256).toNat = x.toNat / 1099511627776 by omega]; exact Lib.bitLen_shift40 x.toNat (by omega) (by omega)))
    | (refine len_case x (x / 4294967296) 32 ?_ ?_ ?_ ?_ _; (omega); (omega); (omega); (rw [show (x / 4294967296).toNat = x.toNat / 4294967296 by omega]; exact Lib.bitLen_shift32 x.toNat (by omega) (by omega)))
    | (refine len_case x (x / 65536 / 256) 24 ?_ ?_ ?_ ?_ _; (omega); (omega); (omega); (rw [show (x / 65536 / 256).toNat = x.toNat / 16777216 by omega]; exact Lib.bitLen_shift24 x.toNat (by omega) (by omega)))
    | (refine len_case x (x / 65536) 16 ?_ ?_ ?_ ?_ _; (omega); (omega); (omega); (rw [show (x / 65536).toNat = x.toNat / 65536 by omega]; exact Lib.bitLen_shift16 x.toNat (by omega) (by omega)))
    | (refine len_case x (x / 256) 8 ?_ ?_ ?_ ?_ _; (omega); (omega); (omega); (rw [show (x / 256).toNat = x.toNat / 256 by omega]; exact Lib.bitLen_shift8 x.toNat (by omega) (by omega)))
    | (refine len_case0 x h0 ?_ _; omega)

theorem bitLen_bounds : ∀ (k x : Nat), x < 2 ^ k → k ≤ 64 → 0 < x → 2 ^ (Lib.bitLen x - 1) ≤ x ∧ x < 2 ^ Lib.bitLen x ∧ 1 ≤ Lib.bitLen x
  | 0, x, h, _, h0 => by simp at h; omega
  | k + 1, x, h, hk, h0 => by
    have hx64 : x < 2 ^ 64 := Nat.lt_of_lt_of_le h (Nat.pow_le_pow_right (by decide) hk)
    have hh := Lib.bitLen_half x (by omega) hx64
    by_cases h1 : x = 1
    · subst h1; decide
    · have hp : 0 < x / 2 := by omega
      obtain ⟨a, b, c⟩ := bitLen_bounds k (x / 2) (by rw [Nat.pow_succ] at h; omega) (by omega) hp
      rw [hh]
      generalize Lib.bitLen (x / 2) = m at *
      obtain ⟨m, rfl⟩ : ∃ n, m = n + 1 := ⟨m - 1, by omega⟩
      rw [show 1 + (m + 1) - 1 = m + 1 by omega, show 1 + (m + 1) = m + 1 + 1 by omega]
      rw [Nat.pow_succ 2 (m + 1)]
      rw [show m + 1 - 1 = m by omega] at a
      rw [Nat.pow_succ] at b ⊢
      omega
/-- The shift that brings the top bit up. -/
def lzN (y : Nat) : Nat := 64 - Lib.bitLen y
theorem lzN_le (y : Nat) (h0 : 0 < y) (h : y < 2 ^ 64) : lzN y ≤ 63 ∧ Lib.bitLen y ≤ 64 ∧ 1 ≤ Lib.bitLen y := by
  have := bitLen_bounds 64 y h (Nat.le_refl _) h0
  have := Lib.bitLen_le y 64 (Nat.le_refl _) h
  unfold lzN
  omega
theorem lz_norm (y : Nat) (h0 : 0 < y) (h : y < 2 ^ 64) : 2 ^ 63 ≤ y * 2 ^ lzN y ∧ y * 2 ^ lzN y < 2 ^ 64 := by
  obtain ⟨a, b, c⟩ := bitLen_bounds 64 y h (Nat.le_refl _) h0
  have hl := Lib.bitLen_le y 64 (Nat.le_refl _) h
  have e1 : 2 ^ (Lib.bitLen y - 1) * 2 ^ lzN y = 2 ^ 63 := by rw [← Nat.pow_add]; congr 1; unfold lzN; omega
  have e2 : 2 ^ Lib.bitLen y * 2 ^ lzN y = 2 ^ 64 := by rw [← Nat.pow_add]; congr 1; unfold lzN; omega
  constructor
  · rw [← e1]; exact Nat.mul_le_mul_right _ a
  · rw [← e2]; exact Nat.mul_lt_mul_of_pos_right b (Nat.pow_pos (by decide))
theorem lz_any (y : Nat) (h : y < 18446744073709551616) (w : World) :
    Calls Tryz.prog 211 #[.int .u64 (y : Int)] w fun e w' => e = .returned (.int .i64 (lzN y : Int)) ∧ w = w' := by
  have hb : Lib.bitLen y ≤ 64 := Lib.bitLen_le y 64 (Nat.le_refl _) h
  have hw : 64 - (Lib.bitLen y : Int) = (lzN y : Int) := by unfold lzN; omega
  replace hw := Lib.hid hw
  go_enter Tryz.func211, Tryz.ntmps211
  go_wp2_with (go_at_call 184; refine (len64_any (y : Int) _ (by omega) (by omega)).mono ?_; rintro e w' ⟨rfl, rfl⟩)
  go_ret
  exact ⟨ret_int (by simpa using hw.out), rfl⟩
end Go.Proofs.YtokakpbpenndlaaGreatDoor

set_option linter.unusedVariables false
namespace Go.Proofs.YtokakpbpenndlaaGreatDoor

/-- One half-step's setting: Y = yn1 * 2^32 + yn0 with its top bit set; u < Y; d a half word. -/
structure HalfS (y yn1 yn0 u d : Nat) : Prop where
  hy : y = yn1 * 4294967296 + yn0
  h1 : 2147483648 ≤ yn1
  h1' : yn1 < 4294967296
  h0 : yn0 < 4294967296
  hu : u < y
  hd : d < 4294967296

/-- The quotient and the rest of the half-step. -/
def hq (y u d : Nat) : Nat := (u * 4294967296 + d) / y
def hr (y u d : Nat) : Nat := (u * 4294967296 + d) % y

theorem HalfS.ypos {y yn1 yn0 u d : Nat} (h : HalfS y yn1 yn0 u d) : 0 < y := by have := h.hy; have := h.h1; omega
theorem HalfS.qlt {y yn1 yn0 u d : Nat} (h : HalfS y yn1 yn0 u d) : hq y u d < 4294967296 := by
  unfold hq
  rw [Nat.div_lt_iff_lt_mul h.ypos]
  have := h.hu; have := h.hd
  omega
theorem hqr (y u d : Nat) : y * hq y u d + hr y u d = u * 4294967296 + d := Nat.div_add_mod _ _
theorem HalfS.rlt {y yn1 yn0 u d : Nat} (h : HalfS y yn1 yn0 u d) : hr y u d < y := Nat.mod_lt _ h.ypos

/-- The loop's relation: q is not below the true one, q * yn1 + r = u. -/
structure HalfR (y yn1 u d q r : Nat) : Prop where
  ge : hq y u d ≤ q
  eq : q * yn1 + r = u
  le : q ≤ 4294967297
theorem HalfS.start {y yn1 yn0 u d : Nat} (h : HalfS y yn1 yn0 u d) : HalfR y yn1 u d (u / yn1) (u % yn1) := by
  have hp : 0 < yn1 := by have := h.h1; omega
  refine ⟨?_, ?_, ?_⟩
  · unfold hq
    rw [Nat.le_div_iff_mul_le hp]
    have h2 := Nat.div_mul_le_self (u * 4294967296 + d) y
    generalize (u * 4294967296 + d) / y = q at h2
    rw [h.hy, Nat.mul_add, ← Nat.mul_assoc] at h2
    have := h.hd
    have h3 : q * yn1 * 4294967296 < (u + 1) * 4294967296 := by
      have : 0 ≤ q * yn0 := Nat.zero_le _
      omega
    omega
  · rw [Nat.mul_comm]; exact Nat.div_add_mod u yn1
  · have : u / yn1 < 4294967298 := by
      rw [Nat.div_lt_iff_lt_mul hp]
      have := h.hu; have := h.hy; have := h.h0; have := h.h1; have := h.h1'
      omega
    omega
/-- The test says yes: one more is too much. -/
theorem HalfR.gt {y yn1 yn0 u d q r : Nat} (h : HalfS y yn1 yn0 u d) (hR : HalfR y yn1 u d q r) (ht : 4294967296 ≤ q ∨ 4294967296 * r + d < q * yn0) : hq y u d < q := by
  rcases ht with ht | ht
  · exact Nat.lt_of_lt_of_le h.qlt ht
  · unfold hq
    rw [Nat.div_lt_iff_lt_mul h.ypos, h.hy, Nat.mul_add, ← Nat.mul_assoc, ← hR.eq, Nat.add_mul]
    omega
/-- The test says no: it is the true one. -/
theorem HalfR.done {y yn1 yn0 u d q r : Nat} (h : HalfS y yn1 yn0 u d) (hR : HalfR y yn1 u d q r) (ht : ¬ 4294967296 * r + d < q * yn0) : q = hq y u d := by
  apply Nat.le_antisymm _ hR.ge
  unfold hq
  rw [Nat.le_div_iff_mul_le h.ypos, h.hy, Nat.mul_add, ← Nat.mul_assoc, ← hR.eq, Nat.add_mul]
  omega
theorem HalfR.next {y yn1 yn0 u d q r : Nat} (h : HalfS y yn1 yn0 u d) (hR : HalfR y yn1 u d q r) (ht : 4294967296 ≤ q ∨ 4294967296 * r + d < q * yn0) : 1 ≤ q ∧ HalfR y yn1 u d (q - 1) (r + yn1) := by
  have hg := HalfR.gt h hR ht
  obtain ⟨k, rfl⟩ : ∃ k, q = k + 1 := ⟨q - 1, by omega⟩
  have := hR.eq
  have := hR.le
  refine ⟨by omega, by omega, ?_, by omega⟩
  rw [Nat.add_mul] at *
  simp only [Nat.add_sub_cancel]
  omega
/-- The rest has grown to a whole word: it is the true one. -/
theorem HalfR.brk {y yn1 yn0 u d q r : Nat} (h : HalfS y yn1 yn0 u d) (hR : HalfR y yn1 u d q r) (hr : 4294967296 ≤ r) (hq' : q ≤ 4294967296) : q = hq y u d := by
  apply HalfR.done h hR
  have : q * yn0 ≤ 4294967296 * 4294967295 := Nat.mul_le_mul hq' (by have := h.h0; omega)
  omega
/-- The rest, as the machine reckons it. -/
theorem HalfS.rest {y yn1 yn0 u d : Nat} (_h : HalfS y yn1 yn0 u d) : ((u : Int) * 4294967296 + d - hq y u d * y) = (hr y u d : Int) := by
  have := hqr y u d
  have h2 : (((y * hq y u d + hr y u d : Nat)) : Int) = ((u * 4294967296 + d : Nat) : Int) := by rw [this]
  simp only [Int.natCast_add, Int.natCast_mul] at h2
  have h3 : (hq y u d : Int) * y = y * hq y u d := Int.mul_comm _ _
  omega
/-- Two half-steps are the whole division. -/
theorem two_halves (y u d1 d0 : Nat) (hy : 0 < y) (hd : d0 < 4294967296) :
    (u * 18446744073709551616 + d1 * 4294967296 + d0) / y = hq y u d1 * 4294967296 + hq y (hr y u d1) d0 ∧
    (u * 18446744073709551616 + d1 * 4294967296 + d0) % y = hr y (hr y u d1) d0 := by
  have e1 := hqr y u d1
  have e2 := hqr y (hr y u d1) d0
  have hrl : hr y (hr y u d1) d0 < y := Nat.mod_lt _ hy
  have e : u * 18446744073709551616 + d1 * 4294967296 + d0 = (hq y u d1 * 4294967296 + hq y (hr y u d1) d0) * y + hr y (hr y u d1) d0 := by
    rw [Nat.add_mul]
    have a1 : hq y u d1 * 4294967296 * y = (y * hq y u d1) * 4294967296 := by rw [Nat.mul_comm y, Nat.mul_assoc, Nat.mul_assoc, Nat.mul_comm 4294967296]
    have a2 : hq y (hr y u d1) d0 * y = y * hq y (hr y u d1) d0 := Nat.mul_comm _ _
    omega
  rw [e]
  constructor
  · rw [Nat.mul_comm _ y, Nat.mul_add_div hy, Nat.div_eq_of_lt hrl, Nat.add_zero]
  · rw [Nat.mul_comm _ y, Nat.mul_add_mod, Nat.mod_eq_of_lt hrl]
/-- Scaled by a power of two. -/
theorem scaled (n y s : Nat) (hs : 0 < s) : (n * s) / (y * s) = n / y ∧ (n * s) % (y * s) = n % y * s :=
  ⟨Nat.mul_div_mul_right _ _ hs, Nat.mul_mod_mul_right _ _ _⟩
end Go.Proofs.YtokakpbpenndlaaGreatDoor
