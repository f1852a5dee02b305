/-
  The statement OrderTotal: the walk.
-/
import Derived.Test.YtehkmngbknbbaaaPz
import Derived.Test.YtehkmngbknbbaaaDf
set_option linter.unusedVariables false
namespace Go.Proofs.Ytehkmngbknbbaaa
open Go.RowKit

/-- Where a slice from k on lies. -/
def cutA (A : Option Addr) (cap k size : Nat) : Option Addr := if cap = k then A else A.map (·.add (k * size))
theorem txCells_take (l : List Tx) (n : Nat) : txCells (l.take n) = (txCells l).take (n * 6) := flat_take Tx.cl_len l n
theorem txCells_drop (l : List Tx) (n : Nat) : txCells (l.drop n) = (txCells l).drop (n * 6) := flat_drop Tx.cl_len l n
theorem Reads.cut' {w : World} {B size n cap : Nat} {A : Option Addr} {xs : List Value} (h : Reads w B size A n xs) {k : Nat} (hk : k ≤ n) (hc : n ≤ cap) : Reads w B size (cutA A cap k size) (n - k) (xs.drop (k * size)) := h.cut hk hc

set_option maxRecDepth 100000 in
set_option maxHeartbeats 2000000 in
theorem orderTotal_any (l : List Tx) (at_ : Int) (A : Option Addr) (cap : Nat) (w : World) (hr : Reads w w.heap.size 6 A l.length (txCells l)) (hc : l.length ≤ cap) (hm : cap ≤ maxLen) :
    Calls Try.prog 7 #[.slice A l.length cap, .int .i64 at_] w fun e w' => e = .returned (.bool true) ∧ Ext w w' := by
  unfold maxLen at hm
  have RR := Lib.hid (fun W (h : Ext w W) => hr.ext h)
  clear hr
  by_cases hl : l.length ≤ 100
  · have hd : decide ((100 : Int) < (l.length : Int)) = false := by simp; omega
    obtain ⟨n, hn, hp⟩ : ∃ n : Nat, n ≤ l.length ∧ pickI at_ ((l.length : Int) + 1) = (n : Int) := by
      have := pickI_bd (x := at_) (n := (l.length : Int) + 1) (by omega)
      exact ⟨(pickI at_ ((l.length : Int) + 1)).toNat, by omega, by omega⟩
    have hsl : ∀ W, (Instr.slice 49 (.slice A l.length cap) (some (.int .i64 (n : Int))) none none).run Try.prog W = .ok (.slice (cutA A cap n 6) (l.length - n) (cap - n)) W := by
      intro W
      rw [run_slice_l W 49 A l.length cap Try.underlying49 .i64 (n : Int) (by omega) (by omega)]
      simp [go_sem, sliced, cutA]
    go_enter Try.func7, Try.ntmps7
    go_wp2_with fail
    refine (awake25_any _).mono ?_
    rintro e W1 ⟨rfl, X1⟩
    go_wp2_with fail
    refine (pick_any at_ ((l.length : Int) + 1) (by omega) _).mono ?_
    rintro e W2 ⟨rfl, rfl⟩
    rw [hp]
    go_wp2_with fail
    obtain ⟨T, hT⟩ : ∃ T, totalI l = T := ⟨_, rfl⟩
    obtain ⟨T1, hT1⟩ : ∃ T, totalI (l.take n) = T := ⟨_, rfl⟩
    obtain ⟨T2, hT2⟩ : ∃ T, totalI (l.drop n) = T := ⟨_, rfl⟩
    refine (total_any l A cap _ (RR.out _ X1) (by omega)).mono ?_
    rintro e W2 ⟨rfl, hx2⟩
    have X2 := X1.trans hx2
    rw [hT]
    unfold Tx.V taxV
    go_wp2_with fail
    have B6 := Blk.new W2 46 #[.int .i64 T.1.l, .int .i64 T.1.j, .int .i64 T.1.t, .int .i64 T.1.x, .int .i64 T.1.r, .int .i64 T.1.v]
    replace X2 := X2.alloc (.cells #[.int .i64 T.1.l, .int .i64 T.1.j, .int .i64 T.1.t, .int .i64 T.1.x, .int .i64 T.1.r, .int .i64 T.1.v] 46)
    generalize W2.alloc (.cells #[.int .i64 T.1.l, .int .i64 T.1.j, .int .i64 T.1.t, .int .i64 T.1.x, .int .i64 T.1.r, .int .i64 T.1.v] 46) = V2 at B6 X2 ⊢
    have R1 : Reads V2 V2.heap.size 6 A (l.take n).length (txCells (l.take n)) := by
      rw [List.length_take, Nat.min_eq_left hn, txCells_take]
      exact (RR.out _ X2).take hn
    rw [List.length_take, Nat.min_eq_left hn] at R1
    refine (total_n (l.take n) n A cap _ (by rw [List.length_take, Nat.min_eq_left hn]) R1 (by omega)).mono ?_
    rintro e W3 ⟨rfl, hx3⟩
    have X3 := X2.trans hx3
    replace B6 := B6.ext hx3
    clear R1 hx3 X2
    rw [hT1]
    unfold Tx.V taxV
    go_wp2_with fail
    have B8 := Blk.new W3 46 #[.int .i64 T1.1.l, .int .i64 T1.1.j, .int .i64 T1.1.t, .int .i64 T1.1.x, .int .i64 T1.1.r, .int .i64 T1.1.v]
    replace X3 := X3.alloc (.cells #[.int .i64 T1.1.l, .int .i64 T1.1.j, .int .i64 T1.1.t, .int .i64 T1.1.x, .int .i64 T1.1.r, .int .i64 T1.1.v] 46)
    replace B6 := B6.alloc (.cells #[.int .i64 T1.1.l, .int .i64 T1.1.j, .int .i64 T1.1.t, .int .i64 T1.1.x, .int .i64 T1.1.r, .int .i64 T1.1.v] 46)
    generalize W3.alloc (.cells #[.int .i64 T1.1.l, .int .i64 T1.1.j, .int .i64 T1.1.t, .int .i64 T1.1.x, .int .i64 T1.1.r, .int .i64 T1.1.v] 46) = V3 at B6 B8 X3 ⊢
    have R2 : Reads V3 V3.heap.size 6 (cutA A cap n 6) (l.length - n) (txCells (l.drop n)) := by
      rw [txCells_drop]
      exact (RR.out _ X3).cut' hn hc
    refine (total_n (l.drop n) (l.length - n) _ (cap - n) _ (List.length_drop ..) R2 (by omega)).mono ?_
    rintro e W4 ⟨rfl, hx4⟩
    have X4 := X3.trans hx4
    replace B6 := B6.ext hx4
    replace B8 := B8.ext hx4
    have l6 := B6.lt
    have l8 := B8.lt
    clear R2 hx4 X3
    rw [hT2]
    unfold Tx.V taxV
    by_cases hE : T.2 = 0
    · have hE' : (T.2 != 0) = false := by simp [hE]
      obtain ⟨p1, p2, p3, p4, p5, p6⟩ := totalI_parts (l := l) (by rw [hT]; exact hE) n
      rw [hT1, hT2] at p3 p4 p5 p6
      rw [hT1] at p1
      rw [hT2] at p2
      rw [hT] at p3
      obtain ⟨q1, q2, q3⟩ := p4
      obtain ⟨q4, q5, q6⟩ := p5
      obtain ⟨q7, q8, q9⟩ := p6
      have g1 : (T1.2 == 0) = true := by simp [p1]
      have g2 : (T2.2 == 0) = true := by simp [p2]
      rw [p3] at B6
      dsimp only at B6
      replace p1 := Lib.hid p1
      replace p2 := Lib.hid p2
      replace p3 := Lib.hid p3
      replace hE := Lib.hid hE
      obtain ⟨r6, r6'⟩ := B6.cells
      obtain ⟨r8, r8'⟩ := B8.cells
      clear hsl
      replace hp := Lib.hid hp
      replace hT := Lib.hid hT
      replace hT1 := Lib.hid hT1
      replace hT2 := Lib.hid hT2
      go_wp2_with fail
      go_ret
      exact ⟨rfl, X4.alloc _⟩
    · have hE' : (T.2 != 0) = true := by simpa using hE
      have hz := totalI_no (l := l) (by rw [hT]; exact hE)
      rw [hT] at hz
      rw [hz] at B6
      unfold Tx.zero at B6
      dsimp only at B6
      replace hz := Lib.hid hz
      obtain ⟨r6, r6'⟩ := B6.cells
      clear hsl
      replace hp := Lib.hid hp
      replace hE := Lib.hid hE
      replace hT := Lib.hid hT
      replace hT1 := Lib.hid hT1
      replace hT2 := Lib.hid hT2
      go_wp2_with fail
      go_ret
      exact ⟨rfl, X4.alloc _⟩
  · have hd : decide ((100 : Int) < (l.length : Int)) = true := by simp; omega
    go_enter Try.func7, Try.ntmps7
    go_wp2_with fail
    refine (awake25_any _).mono ?_
    rintro e W1 ⟨rfl, X1⟩
    go_wp2_with fail
    go_ret
    exact ⟨rfl, X1⟩
end Go.Proofs.Ytehkmngbknbbaaa
