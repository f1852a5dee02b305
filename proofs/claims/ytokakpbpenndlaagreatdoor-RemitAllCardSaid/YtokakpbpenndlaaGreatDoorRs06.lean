/-
  order.Back, order.Return where products fit 64 bits.
-/
import Derived.Test.YtokakpbpenndlaaGreatDoorRs05
set_option linter.unusedVariables false
namespace Go.Proofs.YtokakpbpenndlaaGreatDoor
open Go.RowKit

set_option maxRecDepth 100000 in
theorem even_nat (a b c : Nat) (ha : a < 9223372036854775808) (hb : b < 9223372036854775808) (hc : 0 < c) (hc2 : c < 9223372036854775808) (hq : evenN a b c < 9223372036854775808) (w : World) :
    Calls Tryz.prog 170 #[.int .i64 (a : Int), .int .i64 (b : Int), .int .i64 (c : Int)] w fun e w' => e = .returned (.tuple #[.int .i64 (evenN a b c : Int), .int .i64 0]) ∧ Ext w w' := by
  replace hq := Lib.hid hq
  go_enter Tryz.func170, Tryz.ntmps170
  go_wp2_with fail
  refine (divide_nat a b c ha hb hc hc2 hq.out _).mono ?_
  rintro e w' ⟨rfl, hx⟩
  go_wp2_with fail
  exact bodyPost_ret (results_tmp2 rfl _ _ _) rfl ⟨rfl, hx⟩
/-- P25.3: what of a total comes back, and the error. -/
def backI (t n b a : Int) : Int × Int :=
  if win t 0 4611686018427387904 = false ∨ win n 0 4611686018427387904 = false then (0, 5)
  else if b < 0 ∨ a < b ∨ n < a then (0, 2)
  else if n = 0 then (0, 0)
  else ((evenN t.toNat a.toNat n.toNat : Int) - evenN t.toNat b.toNat n.toNat, 0)
set_option maxRecDepth 100000 in
set_option maxHeartbeats 1000000 in
theorem back_any (t n b a : Int) (w : World) :
    Calls Tryz.prog 144 #[.int .i64 t, .int .i64 n, .int .i64 b, .int .i64 a] w fun e w' => e = .returned (.tuple #[.int .i64 (backI t n b a).1, .int .i64 (backI t n b a).2]) ∧ Ext w w' := by
  by_cases h1 : win t 0 4611686018427387904 = false
  · have HB := Lib.hid (show backI t n b a = (0, 5) by unfold backI; rw [if_pos (.inl h1)])
    go_enter Tryz.func144, Tryz.ntmps144
    go_wp2_with (go_at_call 169; refine (within_any _ _ _ _).mono ?_; rintro e w' ⟨rfl, rfl⟩)
    exact bodyPost_ret (results_tmp2 rfl _ _ _) rfl ⟨by rw [HB.out]; rfl, Ext.refl _⟩
  by_cases h2 : win n 0 4611686018427387904 = false
  · have HB := Lib.hid (show backI t n b a = (0, 5) by unfold backI; rw [if_pos (.inr h2)])
    have h1' : win t 0 4611686018427387904 = true := by simpa using h1
    clear h1
    go_enter Tryz.func144, Tryz.ntmps144
    go_wp2_with (go_at_call 169; refine (within_any _ _ _ _).mono ?_; rintro e w' ⟨rfl, rfl⟩)
    exact bodyPost_ret (results_tmp2 rfl _ _ _) rfl ⟨by rw [HB.out]; rfl, Ext.refl _⟩
  have h1' : win t 0 4611686018427387904 = true := by simpa using h1
  have h2' : win n 0 4611686018427387904 = true := by simpa using h2
  have e0 : ¬ (win t 0 4611686018427387904 = false ∨ win n 0 4611686018427387904 = false) := by simp [h1', h2']
  by_cases h3 : b < 0
  · have HB := Lib.hid (show backI t n b a = (0, 2) by unfold backI; rw [if_neg e0, if_pos (.inl h3)])
    have g1 : decide (b < 0) = true := by simpa using h3
    clear h1 h2 e0
    go_enter Tryz.func144, Tryz.ntmps144
    go_wp2_with (go_at_call 169; refine (within_any _ _ _ _).mono ?_; rintro e w' ⟨rfl, rfl⟩)
    exact bodyPost_ret (results_tmp2 rfl _ _ _) rfl ⟨by rw [HB.out]; rfl, Ext.refl _⟩
  have g1 : decide (b < 0) = false := by simpa using h3
  by_cases h4 : a < b
  · have HB := Lib.hid (show backI t n b a = (0, 2) by unfold backI; rw [if_neg e0, if_pos (.inr (.inl h4))])
    have g2 : decide (a < b) = true := by simpa using h4
    clear h1 h2 e0
    go_enter Tryz.func144, Tryz.ntmps144
    go_wp2_with (go_at_call 169; refine (within_any _ _ _ _).mono ?_; rintro e w' ⟨rfl, rfl⟩)
    exact bodyPost_ret (results_tmp2 rfl _ _ _) rfl ⟨by rw [HB.out]; rfl, Ext.refl _⟩
  have g2 : decide (a < b) = false := by simpa using h4
  by_cases h5 : n < a
  · have HB := Lib.hid (show backI t n b a = (0, 2) by unfold backI; rw [if_neg e0, if_pos (.inr (.inr h5))])
    have g3 : decide (n < a) = true := by simpa using h5
    clear h1 h2 e0
    go_enter Tryz.func144, Tryz.ntmps144
    go_wp2_with (go_at_call 169; refine (within_any _ _ _ _).mono ?_; rintro e w' ⟨rfl, rfl⟩)
    exact bodyPost_ret (results_tmp2 rfl _ _ _) rfl ⟨by rw [HB.out]; rfl, Ext.refl _⟩
  have g3 : decide (n < a) = false := by simpa using h5
  have e1 : ¬ (b < 0 ∨ a < b ∨ n < a) := by omega
  by_cases h6 : n = 0
  · have HB := Lib.hid (show backI t n b a = (0, 0) by unfold backI; rw [if_neg e0, if_neg e1, if_pos h6])
    have g4 : (n == 0) = true := by simpa using h6
    replace h6 := Lib.hid h6
    clear h1 h2 e0
    go_enter Tryz.func144, Tryz.ntmps144
    go_wp2_with (go_at_call 169; refine (within_any _ _ _ _).mono ?_; rintro e w' ⟨rfl, rfl⟩)
    exact bodyPost_ret (results_tmp2 rfl _ _ _) rfl ⟨by rw [HB.out]; rfl, Ext.refl _⟩
  have g4 : (n == 0) = false := by simpa using h6
  have HB := Lib.hid (show backI t n b a = ((evenN t.toNat a.toNat n.toNat : Int) - evenN t.toNat b.toNat n.toNat, 0) by unfold backI; rw [if_neg e0, if_neg e1, if_neg h6])
  obtain ⟨t1, t2⟩ := win_bd h1'
  obtain ⟨n1, n2⟩ := win_bd h2'
  obtain ⟨t, rfl⟩ := Int.eq_ofNat_of_zero_le t1
  obtain ⟨n, rfl⟩ := Int.eq_ofNat_of_zero_le n1
  obtain ⟨b, rfl⟩ := Int.eq_ofNat_of_zero_le (show 0 ≤ b by omega)
  obtain ⟨a, rfl⟩ := Int.eq_ofNat_of_zero_le (show 0 ≤ a by omega)
  simp only [Int.toNat_natCast] at HB
  have hn : 0 < n := by omega
  have q5 : a ≤ n := by omega
  have q4 : b ≤ a := by omega
  have p1 := evenN_le (a := t) hn (show a ≤ n by omega)
  have p2 := evenN_le (a := t) hn (show b ≤ n by omega)
  have hw : RowKit.wrap64 ((evenN t a n : Int) - evenN t b n) = (evenN t a n : Int) - evenN t b n := by unfold RowKit.wrap64; omega
  replace hw := Lib.hid hw
  replace p1 := Lib.hid p1
  replace p2 := Lib.hid p2
  clear h1 h2 h3 h4 h5 h6 e0 e1 t1 n1
  go_enter Tryz.func144, Tryz.ntmps144
  go_wp2_with (go_at_call 169; refine (within_any _ _ _ _).mono ?_; rintro e w' ⟨rfl, rfl⟩)
  refine (even_nat t a n (by omega) (by omega) hn (by omega) (by have := p1.out; omega) _).mono ?_
  rintro e v1 ⟨rfl, hx1⟩
  go_wp2_with fail
  refine (even_nat t b n (by omega) (by omega) hn (by omega) (by have := p2.out; omega) _).mono ?_
  rintro e v2 ⟨rfl, hx2⟩
  go_wp2_with fail
  exact bodyPost_ret (results_tmp2 rfl _ _ _) rfl ⟨by rw [HB.out]; show Ending.returned (.tuple #[.int .i64 (RowKit.wrap64 ((evenN t a n : Int) - evenN t b n)), .int .i64 0]) = _; rw [hw.out], hx1.trans hx2⟩
def taxV (a b c d e f : Int) : Value := .agg #[.int .i64 a, .int .i64 b, .int .i64 c, .int .i64 d, .int .i64 e, .int .i64 f]
theorem ld_tax {w : World} {g : Nat} {a b c d e f : Value} (h : Blk w g 117 #[a, b, c, d, e, f]) : (loadVar 117 ⟨g, 0, none⟩).run Tryz.prog w = .ok (.agg #[a, b, c, d, e, f]) w := by
  have q := h.cell
  simp [go_sem, q]
def Tax1 (a b c d e f : Int) : Bool := win a 0 99 && win b 1 1099511627775 && win c 0 4611686018427387904 && win d 0 (4611686018427387904 - c) && win e 0 1000000 && win f 0 4611686018427387904
set_option maxRecDepth 100000 in
set_option maxHeartbeats 1000000 in
theorem one_any (a b c d e f : Int) (w : World) : Calls Tryz.prog 143 #[taxV a b c d e f] w fun r w' => r = .returned (.bool (Tax1 a b c d e f)) ∧ Ext w w' := by
  unfold taxV Tax1
  cases hw : win c 0 4611686018427387904
  · have hw' := hw
    clear hw
    go_enter Tryz.func143, Tryz.ntmps143
    go_wp2_with (go_at_call 169; refine (within_any _ _ _ _).mono ?_; rintro e w' ⟨rfl, rfl⟩)
    all_goals
      refine bodyPost_ret (results_tmp rfl _ _ _) rfl ⟨?_, (Ext.refl w).alloc _⟩
      simp [*]
  · obtain ⟨c1, c2⟩ := win_bd hw
    have hc : RowKit.wrap64 (4611686018427387904 - c) = 4611686018427387904 - c := by unfold RowKit.wrap64; omega
    go_enter Tryz.func143, Tryz.ntmps143
    go_wp2_with (go_at_call 169; refine (within_any _ _ _ _).mono ?_; rintro e w' ⟨rfl, rfl⟩)
    all_goals
      refine bodyPost_ret (results_tmp rfl _ _ _) rfl ⟨?_, (Ext.refl w).alloc _⟩
      simp [*]
structure Tx where
  l : Int
  j : Int
  t : Int
  x : Int
  r : Int
  v : Int
deriving DecidableEq
def Tx.V (x : Tx) : Value := taxV x.l x.j x.t x.x x.r x.v
def Tx.zero : Tx := ⟨0, 0, 0, 0, 0, 0⟩
def Tx.ok (x : Tx) : Bool := Tax1 x.l x.j x.t x.x x.r x.v
/-- P25.3: what of a tax line comes back, and the error. -/
def Tx.ret (x : Tx) (b a : Int) : Tx × Int :=
  if x.ok = false then (Tx.zero, 5)
  else if (backI x.t (x.t + x.x) b a).2 ≠ 0 then (Tx.zero, (backI x.t (x.t + x.x) b a).2)
  else ({ x with t := (backI x.t (x.t + x.x) b a).1, x := a - b - (backI x.t (x.t + x.x) b a).1, v := (backI x.v (x.t + x.x) b a).1 }, 0)
theorem Tx.ok_bd {x : Tx} (h : x.ok = true) : (0 ≤ x.l ∧ x.l ≤ 99) ∧ (1 ≤ x.j ∧ x.j ≤ 1099511627775) ∧ (0 ≤ x.t ∧ x.t ≤ 4611686018427387904) ∧ (0 ≤ x.x ∧ x.x ≤ 4611686018427387904 - x.t) ∧ (0 ≤ x.r ∧ x.r ≤ 1000000) ∧ (0 ≤ x.v ∧ x.v ≤ 4611686018427387904) := by
  unfold Tx.ok Tax1 at h
  simp only [Bool.and_eq_true] at h
  obtain ⟨⟨⟨⟨⟨h1, h2⟩, h3⟩, h4⟩, h5⟩, h6⟩ := h
  exact ⟨win_bd h1, win_bd h2, win_bd h3, win_bd h4, win_bd h5, win_bd h6⟩
theorem win_t {n lo hi : Int} : win n lo hi = false ↔ ¬ (lo ≤ n ∧ n ≤ hi) := by simp [win]
theorem backI_ok {t n b a : Int} (h : (backI t n b a).2 = 0) : (0 ≤ t ∧ t ≤ 4611686018427387904) ∧ (0 ≤ n ∧ n ≤ 4611686018427387904) ∧ 0 ≤ b ∧ b ≤ a ∧ a ≤ n ∧ 0 ≤ (backI t n b a).1 ∧ (backI t n b a).1 ≤ t := by
  unfold backI at h ⊢
  by_cases h1 : win t 0 4611686018427387904 = false ∨ win n 0 4611686018427387904 = false
  · rw [if_pos h1] at h; simp at h
  rw [if_neg h1] at h ⊢
  have h1' := not_or.1 h1
  have t1 := win_bd (show win t 0 4611686018427387904 = true by simpa using h1'.1)
  have n1 := win_bd (show win n 0 4611686018427387904 = true by simpa using h1'.2)
  by_cases h2 : b < 0 ∨ a < b ∨ n < a
  · rw [if_pos h2] at h; simp at h
  rw [if_neg h2]
  by_cases h3 : n = 0
  · rw [if_pos h3]; refine ⟨t1, n1, by omega, by omega, by omega, by simp, t1.1⟩
  rw [if_neg h3]
  have hn : 0 < n.toNat := by omega
  have p1 := evenN_le (a := t.toNat) hn (show a.toNat ≤ n.toNat by omega)
  have p2 := evenN_mono (a := t.toNat) hn (show b.toNat ≤ a.toNat by omega)
  refine ⟨t1, n1, by omega, by omega, by omega, ?_, ?_⟩
  · simp only; omega
  · simp only; omega
theorem backI_err {t t' n b a : Int} (ht : 0 ≤ t' ∧ t' ≤ 4611686018427387904) (h : (backI t n b a).2 = 0) : (backI t' n b a).2 = 0 := by
  obtain ⟨h1, h2, h3, h4, h5, _⟩ := backI_ok h
  unfold backI
  rw [if_neg (by simp [win]; omega), if_neg (by omega)]
  split <;> rfl

/-- A block that holds a tax line. -/
def Tx.cells (x : Tx) : Array Value := #[.int .i64 x.l, .int .i64 x.j, .int .i64 x.t, .int .i64 x.x, .int .i64 x.r, .int .i64 x.v]
def Tx.z6 : Array Value := #[.int .i64 0, .int .i64 0, .int .i64 0, .int .i64 0, .int .i64 0, .int .i64 0]
theorem back_a (w : World) : Calls Tryz.prog 144 #[.int .i64 100, .int .i64 100, .int .i64 0, .int .i64 50] w fun e w' => e = .returned (.tuple #[.int .i64 50, .int .i64 0]) ∧ Ext w w' :=
  (back_any 100 100 0 50 w).mono fun e w' ⟨h1, h2⟩ => ⟨by rw [h1, show backI 100 100 0 50 = (50, 0) by decide], h2⟩
theorem back_b (w : World) : Calls Tryz.prog 144 #[.int .i64 7, .int .i64 100, .int .i64 0, .int .i64 50] w fun e w' => e = .returned (.tuple #[.int .i64 4, .int .i64 0]) ∧ Ext w w' :=
  (back_any 7 100 0 50 w).mono fun e w' ⟨h1, h2⟩ => ⟨by rw [h1, show backI 7 100 0 50 = (4, 0) by decide], h2⟩
set_option maxRecDepth 100000 in
set_option maxHeartbeats 1000000 in
theorem return1_any (w : World) : Calls Tryz.prog 105 #[taxV 0 1 100 0 72500 7, .int .i64 0, .int .i64 50] w fun r w' => r = .returned (.tuple #[taxV 0 1 50 0 72500 4, .int .i64 0]) ∧ Ext w w' := by
  have B3 := Lib.hid ((Blk.new w 117 #[.int .i64 0, .int .i64 1, .int .i64 100, .int .i64 0, .int .i64 72500, .int .i64 7]).alloc (.cells #[.int .i64 0, .int .i64 0, .int .i64 0, .int .i64 0, .int .i64 0, .int .i64 0] 117))
  have B6 : Hid (Blk ((w.alloc (.cells #[.int .i64 0, .int .i64 1, .int .i64 100, .int .i64 0, .int .i64 72500, .int .i64 7] 117)).alloc (.cells #[.int .i64 0, .int .i64 0, .int .i64 0, .int .i64 0, .int .i64 0, .int .i64 0] 117)) (w.heap.size + 1) 117 #[.int .i64 0, .int .i64 0, .int .i64 0, .int .i64 0, .int .i64 0, .int .i64 0]) := Lib.hid (by
    have := Blk.new (w.alloc (.cells #[.int .i64 0, .int .i64 1, .int .i64 100, .int .i64 0, .int .i64 72500, .int .i64 7] 117)) 117 #[.int .i64 0, .int .i64 0, .int .i64 0, .int .i64 0, .int .i64 0, .int .i64 0]
    simpa using this)
  unfold taxV
  go_enter Tryz.func105, Tryz.ntmps105
  go_wp2_with fail
  refine (one_any 0 1 100 0 72500 7 _).mono ?_
  rintro e v1 ⟨rfl, hx1⟩
  have X1 := (((Ext.refl w).alloc _).alloc _).trans hx1
  have C3 := B3.out.ext hx1
  have C6 := B6.out.ext hx1
  clear hx1 B3 B6
  have ht : Tax1 0 1 100 0 72500 7 = true := by decide
  rw [ht]
  obtain ⟨q3, q3'⟩ := C3.cells
  go_wp2_with fail
  refine (back_a _).mono ?_
  rintro e v2 ⟨rfl, hx2⟩
  have X2 := X1.trans hx2
  replace C3 := C3.ext hx2
  replace C6 := C6.ext hx2
  clear hx2 X1 q3 q3'
  obtain ⟨q3, q3'⟩ := C3.cells
  go_wp2_with fail
  refine (back_b _).mono ?_
  rintro e v3 ⟨rfl, hx3⟩
  have X3 := X2.trans hx3
  replace C3 := C3.ext hx3
  replace C6 := C6.ext hx3
  clear hx3 X2 q3 q3'
  obtain ⟨q3, q3'⟩ := C3.cells
  obtain ⟨q6, q6'⟩ := C6.cells
  go_wp2_with fail
  have n : w.heap.size + 1 ≠ w.heap.size := by omega
  have k : w.heap.size ≤ w.heap.size + 1 := by omega
  have B : Blk _ (w.heap.size + 1) 117 #[.int .i64 0, .int .i64 1, .int .i64 50, .int .i64 0, .int .i64 72500, .int .i64 4] := ((((((((C6.far (p := ⟨w.heap.size, 5, none⟩) n (.int .i64 4)).far (p := ⟨w.heap.size, 2, none⟩) n (.int .i64 50)).far (p := ⟨w.heap.size, 3, none⟩) n (.int .i64 0)).set_ 0 (.int .i64 0)).set_ 1 (.int .i64 1)).set_ 2 (.int .i64 50)).set_ 3 (.int .i64 0)).set_ 4 (.int .i64 72500)).set_ 5 (.int .i64 4)
  have X := ((((((((X3.set (p := ⟨w.heap.size, 5, none⟩) (Nat.le_refl _) (.int .i64 4)).set (p := ⟨w.heap.size, 2, none⟩) (Nat.le_refl _) (.int .i64 50)).set (p := ⟨w.heap.size, 3, none⟩) (Nat.le_refl _) (.int .i64 0)).set (p := ⟨w.heap.size + 1, 0, none⟩) k (.int .i64 0)).set (p := ⟨w.heap.size + 1, 1, none⟩) k (.int .i64 1)).set (p := ⟨w.heap.size + 1, 2, none⟩) k (.int .i64 50)).set (p := ⟨w.heap.size + 1, 3, none⟩) k (.int .i64 0)).set (p := ⟨w.heap.size + 1, 4, none⟩) k (.int .i64 72500)).set (p := ⟨w.heap.size + 1, 5, none⟩) k (.int .i64 4)
  exact bodyPost_ret (results_ct rfl rfl (ld_tax B)) rfl ⟨rfl, X⟩
end Go.Proofs.YtokakpbpenndlaaGreatDoor
