/-
  Plain: periods that are; reports, their bytes, read as written.
-/
import Derived.Test.YtokakpbpenndlaaDoorRp06
import Derived.Test.YtokakpbpenndlaaDoorRp02
import Derived.Test.YtokakpbpenndlaaDoorRp05
import Derived.Shelf.Bits.Mul64
set_option linter.unusedVariables false
namespace Go.Proofs.YtokakpbpenndlaaDoor

/-- A report. -/
structure Rep where
  j : Int
  k : Int
  p : Int
  t : Int
  x : Int
  v : Int
  s : Int
  r : Int
deriving DecidableEq
def Rep.zero : Rep := ⟨0, 0, 0, 0, 0, 0, 0, 0⟩
def Rep.ints (r : Rep) : List Int := [r.j, r.k, r.p, r.t, r.x, r.v, r.s, r.r]
/-- P30.2: the error. -/
def Rep.check (r : Rep) : Int := if perE r.k r.p ≠ 0 ∨ r.j < 1 ∨ 1099511627775 < r.j ∨ r.s < 0 ∨ 2147483647 < r.s ∨ r.r < 0 ∨ 2147483647 < r.r then 5 else 0
def Rep.bytes (r : Rep) : List UInt8 := if r.check = 0 then putsL r.ints else []
/-- The eight numbers of a report, read one behind the other. -/
def repP (b : List UInt8) : Rep × RS :=
  let a := (RS.start b).num (-9223372036854775808) 9223372036854775807 5
  let c := a.2.num (-9223372036854775808) 9223372036854775807 5
  let d := c.2.num (-9223372036854775808) 9223372036854775807 5
  let e := d.2.num (-9223372036854775808) 9223372036854775807 5
  let f := e.2.num (-9223372036854775808) 9223372036854775807 5
  let g := f.2.num (-9223372036854775808) 9223372036854775807 5
  let h := g.2.num (-9223372036854775808) 9223372036854775807 5
  let i := h.2.num (-9223372036854775808) 9223372036854775807 5
  (⟨a.1, c.1, d.1, e.1, f.1, g.1, h.1, i.1⟩, i.2)
def readRep (b : List UInt8) : Rep × Int := if (repP b).2.fin.1 ≠ 0 ∨ (repP b).1.check ≠ 0 then (Rep.zero, 4) else ((repP b).1, 0)
theorem Rep.bd {r : Rep} (h : r.check = 0) : (1 ≤ r.j ∧ r.j ≤ 1099511627775) ∧ (1 ≤ r.k ∧ r.k ≤ 4) ∧ (0 ≤ r.p ∧ r.p < 119988) ∧ (0 ≤ r.s ∧ r.s ≤ 2147483647) ∧ (0 ≤ r.r ∧ r.r ≤ 2147483647) ∧ perE r.k r.p = 0 := by
  unfold Rep.check at h
  by_cases hc : perE r.k r.p ≠ 0 ∨ r.j < 1 ∨ 1099511627775 < r.j ∨ r.s < 0 ∨ 2147483647 < r.s ∨ r.r < 0 ∨ 2147483647 < r.r
  · rw [if_pos hc] at h; cases h
  have hp : perE r.k r.p = 0 := by
    by_cases h0 : perE r.k r.p = 0
    · exact h0
    · exact absurd (.inl h0) hc
  have hp' := hp
  unfold perE longI at hp'
  have hk : 1 ≤ r.k ∧ r.k ≤ 4 := by
    by_cases h1 : r.k = 1
    · omega
    by_cases h2 : r.k = 2
    · omega
    by_cases h3 : r.k = 3
    · omega
    by_cases h4 : r.k = 4
    · omega
    rw [if_neg h1, if_neg h2, if_neg h3, if_neg h4, if_pos rfl] at hp'
    cases hp'
  refine ⟨by omega, hk, ?_, by omega, by omega, hp⟩
  have hl := longI_bd r.k
  unfold perE at hp
  by_cases h0 : longI r.k = 0
  · rw [if_pos h0] at hp; cases hp
  rw [if_neg h0] at hp
  by_cases h1 : r.p < 0 ∨ 119988 / longI r.k ≤ r.p
  · rw [if_pos h1] at hp; cases hp
  have : 119988 / longI r.k ≤ 119988 := Int.ediv_le_self _ (by decide)
  omega
/-- P30.2: reading returns what was written. (The sums are ints.) -/
theorem rep_put {r : Rep} (h : r.check = 0) (ht : i64 r.t) (hx : i64 r.x) (hv : i64 r.v) : readRep r.bytes = (r, 0) := by
  obtain ⟨b1, b2, b3, b4, b5, _⟩ := Rep.bd h
  have hb : r.bytes = putL r.j ++ (putL r.k ++ (putL r.p ++ (putL r.t ++ (putL r.x ++ (putL r.v ++ (putL r.s ++ (putL r.r ++ []))))))) := by
    unfold Rep.bytes Rep.ints
    rw [if_pos h, putsL_cons, putsL_cons, putsL_cons, putsL_cons, putsL_cons, putsL_cons, putsL_cons, putsL_one, List.append_nil]
  generalize r.bytes = b at *
  unfold i64 at ht hx hv
  obtain ⟨s1, e1, f1, g1, d1, a1⟩ := RS.num_put' (s := RS.start b) (lo := -9223372036854775808) (hi := 9223372036854775807) (above := 5) rfl hb (by omega) (by omega) (by unfold i64; omega)
  obtain ⟨s2, e2, f2, g2, d2, a2⟩ := RS.num_put' (s := s1) (lo := -9223372036854775808) (hi := 9223372036854775807) (above := 5) f1 d1 (by omega) (by omega) (by unfold i64; omega)
  obtain ⟨s3, e3, f3, g3, d3, a3⟩ := RS.num_put' (s := s2) (lo := -9223372036854775808) (hi := 9223372036854775807) (above := 5) f2 d2 (by omega) (by omega) (by unfold i64; omega)
  obtain ⟨s4, e4, f4, g4, d4, a4⟩ := RS.num_put' (s := s3) (lo := -9223372036854775808) (hi := 9223372036854775807) (above := 5) f3 d3 ht.1 ht.2 ht
  obtain ⟨s5, e5, f5, g5, d5, a5⟩ := RS.num_put' (s := s4) (lo := -9223372036854775808) (hi := 9223372036854775807) (above := 5) f4 d4 hx.1 hx.2 hx
  obtain ⟨s6, e6, f6, g6, d6, a6⟩ := RS.num_put' (s := s5) (lo := -9223372036854775808) (hi := 9223372036854775807) (above := 5) f5 d5 hv.1 hv.2 hv
  obtain ⟨s7, e7, f7, g7, d7, a7⟩ := RS.num_put' (s := s6) (lo := -9223372036854775808) (hi := 9223372036854775807) (above := 5) f6 d6 (by omega) (by omega) (by unfold i64; omega)
  obtain ⟨s8, e8, f8, g8, d8, a8⟩ := RS.num_put' (s := s7) (lo := -9223372036854775808) (hi := 9223372036854775807) (above := 5) f7 d7 (by omega) (by omega) (by unfold i64; omega)
  have hP : repP b = (r, s8) := by
    unfold repP
    simp only [e1, e2, e3, e4, e5, e6, e7, e8]
  have hF : s8.fin = (0, 0) := by
    unfold RS.fin
    have hl := drop_end d8
    rw [if_neg (by omega), f8, a8, a7, a6, a5, a4, a3, a2, a1]
    rfl
  unfold readRep
  rw [hP]
  simp only
  rw [hF, if_neg (by simp [h])]
/-- P30.2: writing returns the bytes that were read. -/
theorem rep_inv {b : List UInt8} (h : (readRep b).2 = 0) : (readRep b).1.check = 0 ∧ (readRep b).1.bytes = b := by
  unfold readRep at h ⊢
  by_cases hc : (repP b).2.fin.1 ≠ 0 ∨ (repP b).1.check ≠ 0
  · rw [if_pos hc] at h; cases h
  rw [if_neg hc]
  have hf : (repP b).2.fin.1 = 0 := by
    by_cases h0 : (repP b).2.fin.1 = 0
    · exact h0
    · exact absurd (.inl h0) hc
  have hk : (repP b).1.check = 0 := by
    by_cases h0 : (repP b).1.check = 0
    · exact h0
    · exact absurd (.inr h0) hc
  refine ⟨hk, ?_⟩
  have hfe := fin_fe _ hf
  have HH : (RS.start b).Has (repP b).1.ints (repP b).2 := by
    unfold repP at hfe ⊢
    simp only at hfe ⊢
    obtain ⟨p8, _⟩ := RS.num_inv (by decide) hfe
    obtain ⟨p7, _⟩ := RS.num_inv (by decide) p8.fe
    obtain ⟨p6, _⟩ := RS.num_inv (by decide) p7.fe
    obtain ⟨p5, _⟩ := RS.num_inv (by decide) p6.fe
    obtain ⟨p4, _⟩ := RS.num_inv (by decide) p5.fe
    obtain ⟨p3, _⟩ := RS.num_inv (by decide) p4.fe
    obtain ⟨p2, _⟩ := RS.num_inv (by decide) p3.fe
    obtain ⟨p1, _⟩ := RS.num_inv (by decide) p2.fe
    have := ((((((p1.trans p2).trans p3).trans p4).trans p5).trans p6).trans p7).trans p8
    simpa [Rep.ints] using this
  generalize (repP b).2 = s' at *
  have hend : b.length ≤ s'.at_ := by
    unfold RS.fin at hf
    by_cases hq : s'.fe = 0 ∧ s'.at_ < s'.b.length
    · rw [if_pos hq] at hf; cases hf
    · have hb : s'.b = b := HH.b
      rw [hb] at hq
      omega
  have ht := HH.txt
  have h0 : (RS.start b).b.drop (RS.start b).at_ = b := by simp [RS.start]
  have h1 : (RS.start b).b.drop s'.at_ = [] := List.drop_eq_nil_of_le hend
  rw [h0, h1, List.append_nil] at ht
  unfold Rep.bytes
  rw [if_pos hk]
  exact ht.symm
end Go.Proofs.YtokakpbpenndlaaDoor

set_option linter.unusedVariables false
namespace Go.Proofs.YtokakpbpenndlaaDoor
open Go.RowKit

/-- The sign of a number. -/
def sgnI (x : Int) : Int := if x < 0 then -1 else if 0 < x then 1 else 0
theorem nan_any (x : Int) (w : World) : Calls Tryd.prog 91 #[.int .i64 x] w fun e w' => e = .returned (.bool false) ∧ w = w' := by
  go_enter Tryd.func91, Tryd.ntmps91
  go_wp2
  go_ret
  exact ⟨ret_bool (by simp), rfl⟩
theorem cmp0_any (x : Int) (w : World) : Calls Tryd.prog 89 #[.int .i64 x, .int .i64 0] w fun e w' => e = .returned (.int .i64 (sgnI x)) ∧ w = w' := by
  by_cases h1 : x < 0
  · go_enter Tryd.func89, Tryd.ntmps89
    go_wp2_with (go_at_call 91; refine (nan_any _ _).mono ?_; rintro e w' ⟨rfl, rfl⟩)
    go_ret
    exact ⟨by simp [sgnI, h1], rfl⟩
  · by_cases h2 : 0 < x
    · go_enter Tryd.func89, Tryd.ntmps89
      go_wp2_with (go_at_call 91; refine (nan_any _ _).mono ?_; rintro e w' ⟨rfl, rfl⟩)
      go_ret
      exact ⟨by simp [sgnI, h1, h2], rfl⟩
    · go_enter Tryd.func89, Tryd.ntmps89
      go_wp2_with (go_at_call 91; refine (nan_any _ _).mono ?_; rintro e w' ⟨rfl, rfl⟩)
      go_ret
      exact ⟨by rw [show sgnI x = 0 by rw [sgnI, if_neg (by omega), if_neg (by omega)]]; rfl, rfl⟩
theorem sign_any (x : Int) (w : World) : Calls Tryd.prog 83 #[.int .i64 x] w fun e w' => e = .returned (.int .i64 (sgnI x)) ∧ w = w' := by
  go_enter Tryd.func83, Tryd.ntmps83
  go_wp2_with (go_at_call 89; refine (cmp0_any _ _).mono ?_; rintro e w' ⟨rfl, rfl⟩)
  go_ret
  exact ⟨rfl, rfl⟩
theorem size_nat (n : Nat) (h : n < 9223372036854775808) (w : World) : Calls Tryd.prog 82 #[.int .i64 (n : Int)] w fun e w' => e = .returned (.int .u64 (n : Int)) ∧ w = w' := by
  have hd : decide ((n : Int) < 0) = false := by simp
  go_enter Tryd.func82, Tryd.ntmps82
  go_wp2
  go_ret
  exact ⟨rfl, rfl⟩
theorem signed_nat (n : Nat) (h : n < 9223372036854775808) (w : World) : Calls Tryd.prog 85 #[.int .u64 (n : Int), .bool false] w fun e w' => e = .returned (.tuple #[.int .i64 (n : Int), .int .i64 0]) ∧ w = w' := by
  have hd : decide ((n : Int) < 9223372036854775808) = true := by simp; omega
  go_enter Tryd.func85, Tryd.ntmps85
  go_wp2
  go_ret2
  exact ⟨rfl, rfl⟩
set_option maxHeartbeats 1000000 in
/-- (The walk of the shelf's contract, at this program.) -/
theorem mul64_any (x y : Nat) (hx : x < 18446744073709551616) (hy : y < 18446744073709551616) (w : World) :
    Calls Tryd.prog 88 #[.int .u64 (x : Int), .int .u64 (y : Int)] w fun e w' => e = .returned (.tuple #[.int .u64 ((x * y / 18446744073709551616 : Nat) : Int), .int .u64 ((x * y % 18446744073709551616 : Nat) : Int)]) ∧ w = w' := by
  obtain ⟨bd, bt, bw, hhi⟩ := Lib.mul64_hi x y hx hy
  have ba := Lib.half_mul_le (a := x / 4294967296) (b := y / 4294967296) (by omega) (by omega)
  have bb := Lib.half_mul_le (a := x / 4294967296) (b := y % 4294967296) (by omega) (by omega)
  have bc := Lib.half_mul_le (a := x % 4294967296) (b := y / 4294967296) (by omega) (by omega)
  have ba' : x / 4294967296 * (y / 4294967296) < 18446744073709551616 := by omega
  have bb' : x / 4294967296 * (y % 4294967296) < 18446744073709551616 := by omega
  have bc' : x % 4294967296 * (y / 4294967296) < 18446744073709551616 := by omega
  have bh1 : x / 4294967296 * (y / 4294967296) + (x / 4294967296 * (y % 4294967296) + x % 4294967296 * (y % 4294967296) / 4294967296) / 4294967296 < 18446744073709551616 := by omega
  have bh : x / 4294967296 * (y / 4294967296) + (x / 4294967296 * (y % 4294967296) + x % 4294967296 * (y % 4294967296) / 4294967296) / 4294967296 + ((x / 4294967296 * (y % 4294967296) + x % 4294967296 * (y % 4294967296) / 4294967296) % 4294967296 + x % 4294967296 * (y / 4294967296)) / 4294967296 < 18446744073709551616 := by
    rw [hhi]
    exact Nat.div_lt_of_lt_mul (Nat.lt_of_lt_of_le (Nat.mul_lt_mul'' hx hy) (Nat.le_refl _))
  go_enter Tryd.func88, Tryd.ntmps88
  go_wp2
  simp only [Mul64.maskN x hx, Mul64.maskN y hy, Mul64.divN, Mul64.mulN, Mul64.addN, Mul64.wrapN _ bd, Mul64.wrapN _ bb', Mul64.wrapN _ bt, Mul64.maskN _ bt, Mul64.wrapN _ bc', Mul64.wrapN _ bw, Mul64.wrapN _ ba', Mul64.wrapN _ bh1, Mul64.wrapN _ bh, Mul64.wrapM (x * y)]
  rw [hhi]
  go_ret2
  exact ⟨rfl, rfl⟩

set_option maxRecDepth 100000 in
set_option maxHeartbeats 1000000 in
theorem wmul_nat (a b : Nat) (ha : a < 9223372036854775808) (hb : b < 9223372036854775808) (w : World) :
    Calls Tryd.prog 81 #[.int .i64 (a : Int), .int .i64 (b : Int)] w fun e w' => e = .returned (.tuple #[.int .u64 ((a * b / 18446744073709551616 : Nat) : Int), .int .u64 ((a * b % 18446744073709551616 : Nat) : Int), .int .i64 (sgnI a * sgnI b)]) ∧ w = w' := by
  have hs : ∀ x : Int, -1 ≤ sgnI x ∧ sgnI x ≤ 1 := by intro x; unfold sgnI; split <;> (try split) <;> omega
  have h1 := Lib.hid (hs a)
  have h2 := Lib.hid (hs b)
  clear hs
  go_enter Tryd.func81, Tryd.ntmps81
  go_wp2_with (first | (go_at_call 82; refine (size_nat _ (by assumption) _).mono ?_; rintro e w' ⟨rfl, rfl⟩) | (go_at_call 88; refine (mul64_any a b (by omega) (by omega) _).mono ?_; rintro e w' ⟨rfl, rfl⟩) | (go_at_call 83; refine (sign_any _ _).mono ?_; rintro e w' ⟨rfl, rfl⟩))
  have hw : RowKit.wrap64 (sgnI a * sgnI b) = sgnI a * sgnI b := by
    have h1' := h1.out
    have h2' := h2.out
    generalize sgnI a = x at *
    generalize sgnI b = y at *
    have : x = -1 ∨ x = 0 ∨ x = 1 := by omega
    rcases this with rfl | rfl | rfl <;> (unfold RowKit.wrap64; omega)
  refine bodyPost_ret (v := .tuple #[.int .u64 ((a : Int) * b / 18446744073709551616), .int .u64 ((a : Int) * b % 18446744073709551616), .int .i64 (RowKit.wrap64 (sgnI a * sgnI b))]) (by simp [results, Tryd.results81, go_sem]) rfl ⟨?_, rfl⟩
  rw [hw]
  simp
end Go.Proofs.YtokakpbpenndlaaDoor
