/-
  Plain: what a report has of a book; sums in 128 bits.
-/
import Derived.Test.YtokakpbpenndlaaGreatDoorRt05
import Derived.Test.YtokakpbpenndlaaGreatDoorRt06
import Derived.Test.YtokakpbpenndlaaGreatDoorRt09
import Derived.Test.YtokakpbpenndlaaGreatDoorRt04
set_option linter.unusedVariables false
namespace Go.Proofs.YtokakpbpenndlaaGreatDoor

/-- A sum of moves, what came back taken off. -/
def sgS (c : Mv → Int) : List Mv → Int
  | [] => 0
  | m :: l => (if m.back then - c m else c m) + sgS c l
theorem sgS_app (c : Mv → Int) : ∀ a b : List Mv, sgS c (a ++ b) = sgS c a + sgS c b
  | [], b => by simp [sgS]
  | m :: a, b => by
    show (if m.back then - c m else c m) + sgS c (a ++ b) = (if m.back then - c m else c m) + sgS c a + sgS c b
    rw [sgS_app c a b]
    omega
noncomputable def inP (f p : Int) (m : Mv) : Bool := decide (ofI f m.day = p)
noncomputable def perM (f p : Int) (ms : List Mv) : List Mv := ms.filter (inP f p)
def salesN (ms : List Mv) : Nat := (ms.filter fun m => !m.back).length
def backsN (ms : List Mv) : Nat := (ms.filter fun m => m.back).length
/-- The report of moves, be it an int's or not. -/
noncomputable def repOf (id f p : Int) (ms : List Mv) : Rep :=
  ⟨id, f, p, sgS Mv.t (perM f p ms), sgS Mv.x (perM f p ms), sgS Mv.v (perM f p ms), (salesN (perM f p ms) : Int), (backsN (perM f p ms) : Int)⟩
instance (n : Int) : Decidable (i64 n) := inferInstanceAs (Decidable (_ ∧ _))
def Rep.fits (r : Rep) : Prop := i64 r.t ∧ i64 r.x ∧ i64 r.v
instance (r : Rep) : Decidable r.fits := inferInstanceAs (Decidable (_ ∧ _))
/-- P30.1. -/
noncomputable def Bk.file (B : Bk) (l : List Jur) (id p : Int) : Rep × Int :=
  if (checkJ l).1 ≠ 0 then (Rep.zero, 2)
  else match findJ l id with
    | none => (Rep.zero, 6)
    | some j => if perE j.f p ≠ 0 then (Rep.zero, 5)
      else if (repOf id j.f p (B.moves id)).fits then (repOf id j.f p (B.moves id), 0) else (Rep.zero, 5)
theorem perM_take {f p : Int} {ms : List Mv} {k : Nat} (hk : k < ms.length) : perM f p (ms.take (k + 1)) = perM f p (ms.take k) ++ (if ofI f ms[k].day = p then [ms[k]] else []) := by
  unfold perM
  rw [List.take_succ_eq_append_getElem hk, List.filter_append]
  congr 1
  unfold inP
  by_cases h : ofI f ms[k].day = p <;> simp [h]
theorem salesN_app (a b : List Mv) : salesN (a ++ b) = salesN a + salesN b := by simp [salesN]
theorem backsN_app (a b : List Mv) : backsN (a ++ b) = backsN a + backsN b := by simp [backsN]
theorem perM_le (f p : Int) (ms : List Mv) : (perM f p ms).length ≤ ms.length := List.length_filter_le _ _
theorem salesN_le (ms : List Mv) : salesN ms ≤ ms.length := List.length_filter_le _ _
theorem backsN_le (ms : List Mv) : backsN ms ≤ ms.length := List.length_filter_le _ _

/-- A sum's two halves. -/
def hiI (n : Int) : Int := n / 18446744073709551616 % 18446744073709551616
def loI (n : Int) : Int := n % 18446744073709551616
theorem loI_bd (n : Int) : 0 ≤ loI n ∧ loI n < 18446744073709551616 := by unfold loI; omega
theorem hiI_bd (n : Int) : 0 ≤ hiI n ∧ hiI n < 18446744073709551616 := by unfold hiI; omega
/-- A number added. -/
theorem lo_add (s n : Int) : loI (s + n) = (loI s + n % 18446744073709551616) % 18446744073709551616 := by unfold loI; omega
theorem hi_add {s n : Int} (h : i64 n) : hiI (s + n) = (hiI s + (n / 9223372036854775808) % 18446744073709551616 + (loI s + n % 18446744073709551616) / 18446744073709551616) % 18446744073709551616 := by
  unfold hiI loI
  unfold i64 at h
  have hr : 0 ≤ s % 18446744073709551616 ∧ s % 18446744073709551616 < 18446744073709551616 := by omega
  have e0 : s = 18446744073709551616 * (s / 18446744073709551616) + s % 18446744073709551616 := by omega
  generalize s / 18446744073709551616 = q at *
  generalize s % 18446744073709551616 = r at *
  subst e0
  by_cases h0 : 0 ≤ n
  · have e1 : n / 9223372036854775808 % 18446744073709551616 = 0 := by omega
    have e2 : n % 18446744073709551616 = n := by omega
    have e3 : (18446744073709551616 * q + r + n) / 18446744073709551616 = q + (r + n) / 18446744073709551616 := by omega
    rw [e1, e2, e3]
    omega
  · have e1 : n / 9223372036854775808 % 18446744073709551616 = 18446744073709551615 := by omega
    have e2 : n % 18446744073709551616 = n + 18446744073709551616 := by omega
    have e3 : (18446744073709551616 * q + r + n) / 18446744073709551616 = q - 1 + (r + (n + 18446744073709551616)) / 18446744073709551616 := by omega
    rw [e1, e2, e3]
    omega
/-- A number taken off. -/
theorem lo_sub (s n : Int) : loI (s - n) = (loI s - n % 18446744073709551616) % 18446744073709551616 := by unfold loI; omega
theorem hi_sub {s n : Int} (h : i64 n) : hiI (s - n) = (hiI s - (n / 9223372036854775808) % 18446744073709551616 - (if loI s < n % 18446744073709551616 then 1 else 0)) % 18446744073709551616 := by
  unfold hiI loI
  unfold i64 at h
  have hr : 0 ≤ s % 18446744073709551616 ∧ s % 18446744073709551616 < 18446744073709551616 := by omega
  have e0 : s = 18446744073709551616 * (s / 18446744073709551616) + s % 18446744073709551616 := by omega
  generalize s / 18446744073709551616 = q at *
  generalize s % 18446744073709551616 = r at *
  subst e0
  by_cases h0 : 0 ≤ n
  · have e1 : n / 9223372036854775808 % 18446744073709551616 = 0 := by omega
    have e2 : n % 18446744073709551616 = n := by omega
    rw [e1, e2]
    by_cases hl : r < n
    · have e3 : (18446744073709551616 * q + r - n) / 18446744073709551616 = q - 1 := by omega
      rw [if_pos hl, e3]
      omega
    · have e3 : (18446744073709551616 * q + r - n) / 18446744073709551616 = q := by omega
      rw [if_neg hl, e3]
      omega
  · have e1 : n / 9223372036854775808 % 18446744073709551616 = 18446744073709551615 := by omega
    have e2 : n % 18446744073709551616 = n + 18446744073709551616 := by omega
    rw [e1, e2]
    by_cases hl : r < n + 18446744073709551616
    · have e3 : (18446744073709551616 * q + r - n) / 18446744073709551616 = q := by omega
      rw [if_pos hl, e3]
      omega
    · have e3 : (18446744073709551616 * q + r - n) / 18446744073709551616 = q + 1 := by omega
      rw [if_neg hl, e3]
      omega
/-- A sum that is not too great, as an int. -/
def asI (n : Int) : Int := if loI n < 9223372036854775808 then loI n else loI n - 18446744073709551616
theorem asI_of {n : Int} (h : i64 n) : asI n = n := by unfold asI loI; unfold i64 at h; omega
theorem asI_i64 (n : Int) : i64 (asI n) := by unfold asI i64; have := loI_bd n; split <;> omega
theorem fits_iff {n : Int} (h : -170141183460469231731687303715884105728 ≤ n ∧ n < 170141183460469231731687303715884105728) : (hiI n = asI n / 9223372036854775808 % 18446744073709551616) ↔ i64 n := by
  unfold asI hiI loI i64
  have hr : 0 ≤ n % 18446744073709551616 ∧ n % 18446744073709551616 < 18446744073709551616 := by omega
  have hq : -9223372036854775808 ≤ n / 18446744073709551616 ∧ n / 18446744073709551616 < 9223372036854775808 := by omega
  have e0 : n = 18446744073709551616 * (n / 18446744073709551616) + n % 18446744073709551616 := by omega
  generalize n / 18446744073709551616 = q at *
  generalize n % 18446744073709551616 = r at *
  subst e0
  by_cases hl : r < 9223372036854775808
  · rw [if_pos hl, show r / 9223372036854775808 = 0 by omega]
    constructor
    · intro e
      have : q = 0 := by omega
      subst this
      omega
    · intro e
      have : q = 0 := by omega
      subst this
      rfl
  · rw [if_neg hl, show (r - 18446744073709551616) / 9223372036854775808 = -1 by omega]
    constructor
    · intro e
      have : q = -1 := by omega
      subst this
      omega
    · intro e
      have : q = -1 := by omega
      subst this
      rfl
/-- A sum of many ints is not too great. -/
theorem sgS_bd {c : Mv → Int} : ∀ {l : List Mv}, (∀ m ∈ l, i64 (c m)) → -(9223372036854775808 * (l.length : Int)) ≤ sgS c l ∧ sgS c l ≤ 9223372036854775808 * (l.length : Int)
  | [], _ => by simp [sgS]
  | m :: l, h => by
    have h1 := h m (by simp)
    have h2 := sgS_bd (c := c) (l := l) fun x hx => h x (by simp [hx])
    unfold i64 at h1
    rw [show sgS c (m :: l) = (if m.back then - c m else c m) + sgS c l from rfl]
    simp only [List.length_cons]
    split <;> omega
end Go.Proofs.YtokakpbpenndlaaGreatDoor

set_option linter.unusedVariables false
namespace Go.Proofs.YtokakpbpenndlaaGreatDoor
open Go.RowKit

theorem cmpN_lt {m n : Nat} (h : m < n) : cmpN m n < 0 := by unfold cmpN; rw [if_pos h]; decide
set_option maxRecDepth 100000 in
set_option maxHeartbeats 1000000 in
theorem plus_less (s s' : Bool) (m n : Nat) (hn : n < 65536 ^ 12) (hmn : m < n) (hss : (s == s') = false) (w : World) :
    Calls Tryz.prog 123 #[numV s (digI m), numV s' (digI n)] w fun e w' => e = .returned (numV (s' && decide (n - m ≠ 0)) (digI (n - m))) ∧ Ext w w' := by
  have hm : m < 65536 ^ 12 := Nat.lt_trans hmn hn
  have B1 := ((Blk.new w 143 (numC s (digI m))).alloc (.cells (numC s' (digI n)) 143)).alloc (.cells (numC false (fun _ => 0)) 143)
  have B2 := (Blk.two12 w 143 143 (numC s (digI m)) (numC s' (digI n))).alloc (.cells (numC false (fun _ => 0)) 143)
  have B3 : Blk (((w.alloc (.cells (numC s (digI m)) 143)).alloc (.cells (numC s' (digI n)) 143)).alloc (.cells (numC false (fun _ => 0)) 143)) (w.heap.size + 1 + 1) 143 (numC false (fun _ => 0)) := by
    have := Blk.two12 (w.alloc (.cells (numC s (digI m)) 143)) 143 143 (numC s' (digI n)) (numC false (fun _ => 0))
    simpa using this
  have X0 := (((Ext.refl w).alloc (.cells (numC s (digI m)) 143)).alloc (.cells (numC s' (digI n)) 143)).alloc (.cells (numC false (fun _ => 0)) 143)
  have HZ := Lib.hid (size_any s s' m n hm hn)
  have HP := Lib.hid (plus_diff s' s n m hn (Nat.le_of_lt hmn) (by cases s <;> cases s' <;> simp_all))
  have hc0 := cmpN_lt hmn
  obtain ⟨c, hc⟩ : ∃ c, cmpN m n = c := ⟨_, rfl⟩
  rw [hc] at hc0
  replace hc := Lib.hid hc
  have hdc : decide (c < 0) = true := by simp; omega
  obtain ⟨sg, hsg⟩ : ∃ sg, (s' && decide (n - m ≠ 0)) = sg := ⟨_, rfl⟩
  rw [hsg] at HP ⊢
  replace hsg := Lib.hid hsg
  obtain ⟨q, q'⟩ := B1.cells
  obtain ⟨p, p'⟩ := B2.cells
  unfold numC at q p
  have HB := Lib.hid (fun W (hx : Ext _ W) => (show Blk W w.heap.size _ _ ∧ Blk W (w.heap.size + 1) _ _ ∧ Blk W (w.heap.size + 1 + 1) _ _ ∧ Ext w W from ⟨B1.ext hx, B2.ext hx, B3.ext hx, X0.trans hx⟩))
  clear B1 B2 B3 X0 hm hn hmn
  go_enter Tryz.func123, Tryz.ntmps123
  go_wp2_with fail
  refine (HZ.out _).mono ?_
  rintro e w1 ⟨rfl, hx1⟩
  rw [hc.out]
  obtain ⟨B1, B2, B3, X1⟩ := HB.out _ hx1
  clear q q' p p'
  obtain ⟨q, q'⟩ := B1.cells
  obtain ⟨p, p'⟩ := B2.cells
  unfold numC at q p
  have HB3 := Lib.hid B3
  clear B1 B2 B3 HB HZ hx1
  go_wp2_with fail
  refine (HP.out _).mono ?_
  rintro e w2 ⟨rfl, hx2⟩
  have B4 := HB3.out.ext hx2
  have X2 := X1.trans hx2
  obtain ⟨r, r'⟩ := B4.cells
  unfold numC at r
  have lt4 := B4.lt
  clear q q' p p'
  go_wp2_with fail
  exact bodyPost_ret (results_c rfl rfl (ld_num (put13 (s := sg) (f := digI (n - m)) (s' := false) (f' := fun _ => 0) B4))) rfl ⟨rfl, ext13 X2 (by omega)⟩
set_option maxRecDepth 100000 in
set_option maxHeartbeats 1000000 in
theorem int_neg01 (n : Nat) (hn : n < 65536 ^ 12) (w : World) :
    Calls Tryz.prog 78 #[numV true (digI n)] w fun e w' => e = .returned (.tuple #[.int .i64 (if n ≤ 9223372036854775808 then -(n : Int) else 0), .bool (decide (n ≤ 9223372036854775808))]) ∧ Ext w w' := by
  have B := Blk.new w 143 (numC true (digI n))
  have X0 := (Ext.refl w).alloc (.cells (numC true (digI n)) 143)
  obtain ⟨W1, hW1⟩ : ∃ W1, w.alloc (.cells (numC true (digI n)) 143) = W1 := ⟨_, rfl⟩
  have HW := Lib.hid hW1
  rw [hW1] at B X0
  obtain ⟨E, hE⟩ : ∃ E : Int × Bool, ((if n ≤ 9223372036854775808 then -(n : Int) else 0), decide (n ≤ 9223372036854775808)) = E := ⟨_, rfl⟩
  obtain ⟨E1, E2⟩ := E
  injection hE with hE1 hE2
  rw [hE1, hE2]
  replace hE1 := Lib.hid hE1
  replace hE2 := Lib.hid hE2
  clear hW1
  unfold numC at HW
  go_enter Tryz.func78, Tryz.ntmps78
  go_wp2_with fail
  rw [HW.out]
  clear HW
  have hn' := Lib.hid hn
  clear hn
  go_loopw [4] (fun i wr => IntRel n W1 i wr) (fun i _ => 12 - (intOf i).toNat)
  case atStart => exact ⟨4, by omega, by omega, rfl, fun j h1 h2 => by omega, rfl⟩
  case round =>
    obtain ⟨k, hk4, hk, rfl, hz, rfl⟩ := hrel
    by_cases hlt : k < 12
    · have hd : decide ((k : Int) < 12) = true := by simp; omega
      have c1 := (B.cell (1 + k)).trans (numC_at true _ k hlt)
      have e5 : (k : Int) < 12 := by omega
      by_cases hdz : dig n k = 0
      · have hD : digI n k = 0 := by unfold digI; omega
        rw [hD] at c1
        have HN := Lib.hid (show IntRel n W1 (.int .i64 ((k + 1 : Nat) : Int)) W1 from ⟨k + 1, by omega, by omega, rfl, fun j h1 h2 => by
          rcases Nat.lt_or_ge j k with h | h
          · exact hz j h1 h
          · rw [show j = k by omega]; exact hdz, rfl⟩)
        clear hz hD
        replace hdz := Lib.hid hdz
        go_wp2_with fail
        go_roundw
        case rel => exact HN.out
        case measure => simp [intOf] <;> omega
      · have hD : (digI n k != 0) = true := by rw [bne_iff_ne]; unfold digI; omega
        have hbig : 9223372036854775808 < n := by
          rcases Nat.lt_or_ge 9223372036854775808 n with h | h
          · exact h
          · exact absurd (dig_hi (n := n) (by omega) hk4) hdz
        have e1 : E1 = 0 := by rw [← hE1.out, if_neg (by omega)]
        have e2 : E2 = false := by rw [← hE2.out]; simp; omega
        replace e1 := Lib.hid e1
        replace e2 := Lib.hid e2
        replace hdz := Lib.hid hdz
        clear hz
        go_wp2_with fail
        go_ret2
        exact ⟨by rw [e1.out, e2.out]; rfl, X0⟩
    · have hk12 : k = 12 := by omega
      subst hk12
      have hs := small_of_digs hn'.out hz
      have h4 := four_digs hs
      have d0 : 0 ≤ digI n 0 ∧ digI n 0 < 65536 := by have := dig_lt n 0; unfold digI; omega
      have d1 : 0 ≤ digI n 1 ∧ digI n 1 < 65536 := by have := dig_lt n 1; unfold digI; omega
      have d2 : 0 ≤ digI n 2 ∧ digI n 2 < 65536 := by have := dig_lt n 2; unfold digI; omega
      have d3 : 0 ≤ digI n 3 ∧ digI n 3 < 65536 := by have := dig_lt n 3; unfold digI; omega
      obtain ⟨q, q'⟩ := B.cells
      unfold numC at q
      clear hz hs
      generalize digI n 0 = a0 at *
      generalize digI n 1 = a1 at *
      generalize digI n 2 = a2 at *
      generalize digI n 3 = a3 at *
      obtain ⟨d00, d01⟩ := d0
      obtain ⟨d10, d11⟩ := d1
      obtain ⟨d20, d21⟩ := d2
      obtain ⟨d30, d31⟩ := d3
      replace h4 := Lib.hid h4
      go_upto_region 7 with (fail)
      rw [h4.out]
      have hb0 : (0 : Int) ≤ (n : Int) := Int.natCast_nonneg n
      by_cases hl : n ≤ 9223372036854775808
      · have hd2 : decide ((9223372036854775808 : Int) < (n : Int)) = false := by simp; omega
        have e1 : E1 = -(n : Int) := by rw [← hE1.out, if_pos hl]
        have e2 : E2 = true := by rw [← hE2.out]; simpa using hl
        have hw : IntKind.i64.wrap (IntKind.u64.wrap (-(n : Int))) = -(n : Int) := by
          have hu : IntKind.u64.wrap (-(n : Int)) = -(n : Int) % 18446744073709551616 := by simp [IntKind.wrap, IntKind.bits, IntKind.signed]
          rw [hu]
          have h0 : (n : Int) = 0 ∨ 0 < (n : Int) := by omega
          have hi : ∀ y : Int, IntKind.i64.wrap y = if y % 18446744073709551616 ≥ 9223372036854775808 then y % 18446744073709551616 - 18446744073709551616 else y % 18446744073709551616 := fun y => by simp [IntKind.wrap, IntKind.bits, IntKind.signed]
          rw [hi]
          rcases h0 with h0 | h0
          · rw [h0]; rfl
          · have h2 : -(n : Int) % 18446744073709551616 = 18446744073709551616 - (n : Int) := by omega
            rw [h2]
            have h3 : (18446744073709551616 - (n : Int)) % 18446744073709551616 = 18446744073709551616 - (n : Int) := by omega
            rw [h3, if_pos (by omega)]
            omega
        replace e1 := Lib.hid e1
        replace e2 := Lib.hid e2
        have hb1 : (n : Int) ≤ 9223372036854775808 := by omega
        go_wp2_with fail
        go_ret2
        exact ⟨by rw [e1.out, e2.out]; rfl, X0⟩
      · have hd2 : decide ((9223372036854775808 : Int) < (n : Int)) = true := by simp; omega
        have e1 : E1 = 0 := by rw [← hE1.out, if_neg hl]
        have e2 : E2 = false := by rw [← hE2.out]; simpa using hl
        replace e1 := Lib.hid e1
        replace e2 := Lib.hid e2
        go_wp2_with fail
        go_ret2
        exact ⟨by rw [e1.out, e2.out]; rfl, X0⟩
/-- A number with a sign. -/
abbrev numI (S : Int) : Value := numV (decide (S < 0)) (digI S.natAbs)
abbrev numIC (S : Int) : Array Value := numC (decide (S < 0)) (digI S.natAbs)
theorem plusI_any (S T : Int) (hS : S.natAbs < 65536 ^ 11) (hT : T.natAbs < 65536 ^ 11) (w : World) :
    Calls Tryz.prog 123 #[numI S, numI T] w fun e w' => e = .returned (numI (S + T)) ∧ Ext w w' := by
  have h11 : (65536 : Nat) ^ 11 + 65536 ^ 11 ≤ 65536 ^ 12 := by decide
  have hS2 : S.natAbs < 65536 ^ 12 := by omega
  have hT2 : T.natAbs < 65536 ^ 12 := by omega
  by_cases h1 : S < 0 <;> by_cases h2 : T < 0
  · have h := plus_same true S.natAbs T.natAbs hS2 hT2 (by omega) w
    unfold numI
    rw [decide_eq_true h1, decide_eq_true h2, show (S + T).natAbs = S.natAbs + T.natAbs by omega, show decide (S + T < 0) = (true && decide (S.natAbs + T.natAbs ≠ 0)) by rw [Bool.true_and, decide_eq_decide]; omega]
    exact h
  · unfold numI
    rw [decide_eq_true h1, decide_eq_false h2]
    by_cases h3 : T.natAbs ≤ S.natAbs
    · have h := plus_diff true false S.natAbs T.natAbs hS2 h3 rfl w
      rw [show (S + T).natAbs = S.natAbs - T.natAbs by omega, show decide (S + T < 0) = (true && decide (S.natAbs - T.natAbs ≠ 0)) by rw [Bool.true_and, decide_eq_decide]; omega]
      exact h
    · have h := plus_less true false S.natAbs T.natAbs hT2 (by omega) rfl w
      rw [show (S + T).natAbs = T.natAbs - S.natAbs by omega, show decide (S + T < 0) = (false && decide (T.natAbs - S.natAbs ≠ 0)) by simp; omega]
      exact h
  · unfold numI
    rw [decide_eq_false h1, decide_eq_true h2]
    by_cases h3 : T.natAbs ≤ S.natAbs
    · have h := plus_diff false true S.natAbs T.natAbs hS2 h3 rfl w
      rw [show (S + T).natAbs = S.natAbs - T.natAbs by omega, show decide (S + T < 0) = (false && decide (S.natAbs - T.natAbs ≠ 0)) by simp; omega]
      exact h
    · have h := plus_less false true S.natAbs T.natAbs hT2 (by omega) rfl w
      rw [show (S + T).natAbs = T.natAbs - S.natAbs by omega, show decide (S + T < 0) = (true && decide (T.natAbs - S.natAbs ≠ 0)) by rw [Bool.true_and, decide_eq_decide]; omega]
      exact h
  · have h := plus_same false S.natAbs T.natAbs hS2 hT2 (by omega) w
    unfold numI
    rw [decide_eq_false h1, decide_eq_false h2, show (S + T).natAbs = S.natAbs + T.natAbs by omega, show decide (S + T < 0) = (false && decide (S.natAbs + T.natAbs ≠ 0)) by simp; omega]
    exact h
theorem intI_any (S : Int) (hS : S.natAbs < 65536 ^ 11) (w : World) {v : Int} {b : Bool} (hv : (if i64 S then S else 0) = v) (hb : decide (i64 S) = b) :
    Calls Tryz.prog 78 #[numI S] w fun e w' => e = .returned (.tuple #[.int .i64 v, .bool b]) ∧ Ext w w' := by
  have h11 : (65536 : Nat) ^ 11 ≤ 65536 ^ 12 := by decide
  subst hv hb
  unfold numI
  by_cases h1 : S < 0
  · have h := int_neg01 S.natAbs (by omega) w
    rw [decide_eq_true h1]
    have e1 : i64 S ↔ S.natAbs ≤ 9223372036854775808 := by unfold i64; omega
    by_cases h2 : i64 S
    · rw [if_pos h2, decide_eq_true h2]
      rw [if_pos (e1.1 h2), decide_eq_true (e1.1 h2), show -(S.natAbs : Int) = S by omega] at h
      exact h
    · rw [if_neg h2, decide_eq_false h2]
      rw [if_neg (fun c => h2 (e1.2 c)), decide_eq_false (fun c => h2 (e1.2 c))] at h
      exact h
  · have h := int_any01 S.natAbs (by omega) w
    rw [decide_eq_false h1]
    have e1 : i64 S ↔ S.natAbs < 9223372036854775808 := by unfold i64; omega
    by_cases h2 : i64 S
    · rw [if_pos h2, decide_eq_true h2]
      rw [if_pos (e1.1 h2), decide_eq_true (e1.1 h2), show (S.natAbs : Int) = S by omega] at h
      exact h
    · rw [if_neg h2, decide_eq_false h2]
      rw [if_neg (fun c => h2 (e1.2 c)), decide_eq_false (fun c => h2 (e1.2 c))] at h
      exact h
end Go.Proofs.YtokakpbpenndlaaGreatDoor
