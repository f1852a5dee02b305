/-
  The statement OrderReturns: the walk.
-/
import Derived.Test.YtehkmngbknbbaaaRj31
import Derived.Test.YtehkmngbknbbaaaRj44
import Derived.Deep.DeepCutAuto
set_option linter.unusedVariables false
namespace Go.Proofs.Ytehkmngbknbbaaa
open Go.RowKit

theorem eql_tx (a b c d e f : Int) (w : World) : (binOp .eql 46 (.agg #[.int .i64 a, .int .i64 b, .int .i64 c, .int .i64 d, .int .i64 e, .int .i64 f]) (.agg #[.int .i64 a, .int .i64 b, .int .i64 c, .int .i64 d, .int .i64 e, .int .i64 f])).run Try.prog w = .ok (.bool true) w := by
  simp [go_sem]
set_option maxRecDepth 100000 in
set_option maxHeartbeats 4000000 in
theorem orderReturns_any (t n : Int) (x : Tx) (b a : Int) (l : List Tx) (A : Option Addr) (cap : Nat) (w : World) (hr : Reads w w.heap.size 6 A l.length (txCells l)) (hc : l.length ≤ cap) (hm : cap ≤ maxLen) :
    Calls Try.prog 5 #[.int .i64 t, .int .i64 n, .agg ⟨x.cl⟩, .int .i64 b, .int .i64 a, .slice A l.length cap] w fun e w' => e = .returned (.bool true) ∧ Ext w w' := by
  have hm' := hm
  unfold maxLen at hm'
  have RR := Lib.hid (fun W (h : Ext w W) => hr.ext h)
  have B0 := Blk.new w 46 #[.int .i64 x.l, .int .i64 x.j, .int .i64 x.t, .int .i64 x.x, .int .i64 x.r, .int .i64 x.v]
  have X0 := (Ext.refl w).alloc (.cells #[.int .i64 x.l, .int .i64 x.j, .int .i64 x.t, .int .i64 x.x, .int .i64 x.r, .int .i64 x.v] 46)
  clear hr
  show Calls Try.prog 5 #[.int .i64 t, .int .i64 n, .agg #[.int .i64 x.l, .int .i64 x.j, .int .i64 x.t, .int .i64 x.x, .int .i64 x.r, .int .i64 x.v], .int .i64 b, .int .i64 a, .slice A l.length cap] w _
  by_cases hl : 150 < l.length
  · have hd : decide ((150 : Int) < (l.length : Int)) = true := by simp; omega
    go_enter Try.func5, Try.ntmps5
    go_wp2_with fail
    refine (awake25_any _).mono ?_
    rintro e w1 ⟨rfl, hx1⟩
    go_wp2_with fail
    go_ret
    exact ⟨rfl, X0.trans hx1⟩
  have hd : decide ((150 : Int) < (l.length : Int)) = false := by simp; omega
  obtain ⟨⟨k1, k2⟩, hK⟩ : ∃ K, backI t n b a = K := ⟨_, rfl⟩
  obtain ⟨⟨⟨r1, r2, r3, r4, r5, r6⟩, re⟩, hR⟩ : ∃ R, x.ret b a = R := ⟨_, rfl⟩
  obtain ⟨⟨⟨s1, s2, s3, s4, s5, s6⟩, se⟩, hS⟩ : ∃ S, totalI l = S := ⟨_, rfl⟩
  have C1 := Lib.hid (back_any t n b a)
  have C2 := Lib.hid (rback_any t n b a)
  have C3 := Lib.hid (return_any x b a)
  have C4 := Lib.hid (rreturn_any x b a)
  have C5 := Lib.hid (fun W h => total_any l A cap W h (by omega))
  have C6 := Lib.hid (fun W h => rtotal_any l A cap W h hc hm)
  rw [hK] at C1 C2
  rw [hR] at C3 C4
  rw [hS] at C5 C6
  unfold Tx.V taxV at C3 C4 C5 C6
  clear hK hR hS
  have q1 := fun W => eql_tx r1 r2 r3 r4 r5 r6 W
  have q2 := fun W => eql_tx s1 s2 s3 s4 s5 s6 W
  have e1 : (k1 == k1) = true := by simp
  have e2 : (k2 == k2) = true := by simp
  have e3 : (re == re) = true := by simp
  have e4 : (se == se) = true := by simp
  go_enter Try.func5, Try.ntmps5
  go_wp2_with fail
  refine (C1.out _).mono ?_
  rintro e w1 ⟨rfl, hx1⟩
  go_wp2_with fail
  refine (C2.out _).mono ?_
  rintro e w2 ⟨rfl, hx2⟩
  have X2 := (X0.trans hx1).trans hx2
  have B2 := (B0.ext hx1).ext hx2
  clear X0 B0 hx1 hx2 C1 C2
  obtain ⟨q, q'⟩ := B2.cells
  have lb := B2.lt
  go_wp2_with fail
  refine (C3.out _).mono ?_
  rintro e w3 ⟨rfl, hx3⟩
  have X3 := (X2.trans hx3).alloc (.cells #[.int .i64 r1, .int .i64 r2, .int .i64 r3, .int .i64 r4, .int .i64 r5, .int .i64 r6] 46)
  have B3 := (B2.ext hx3).alloc (.cells #[.int .i64 r1, .int .i64 r2, .int .i64 r3, .int .i64 r4, .int .i64 r5, .int .i64 r6] 46)
  have D3 := Blk.new w3 46 #[.int .i64 r1, .int .i64 r2, .int .i64 r3, .int .i64 r4, .int .i64 r5, .int .i64 r6]
  have lb3 := (B2.ext hx3).lt
  have HB3 := (B2.ext hx3).cells
  clear q q' lb
  obtain ⟨q, q'⟩ := HB3
  go_upto_region 6 with (fail)
  generalize w3.alloc (.cells #[.int .i64 r1, .int .i64 r2, .int .i64 r3, .int .i64 r4, .int .i64 r5, .int .i64 r6] 46) = W3 at *
  generalize w3.heap.size = g17 at *
  clear q q' lb3 hx3 X2 B2
  obtain ⟨q, q'⟩ := B3.cells
  go_wp2_with fail
  refine (C4.out _).mono ?_
  rintro e w4 ⟨rfl, hx4⟩
  have X4 := (X3.trans hx4).alloc (.cells #[.int .i64 r1, .int .i64 r2, .int .i64 r3, .int .i64 r4, .int .i64 r5, .int .i64 r6] 46)
  have D4 := (D3.ext hx4).alloc (.cells #[.int .i64 r1, .int .i64 r2, .int .i64 r3, .int .i64 r4, .int .i64 r5, .int .i64 r6] 46)
  have E4 := Blk.new w4 46 #[.int .i64 r1, .int .i64 r2, .int .i64 r3, .int .i64 r4, .int .i64 r5, .int .i64 r6]
  clear q q' hx4 B3 D3 X3
  go_upto_region 7 with (fail)
  generalize w4.alloc (.cells #[.int .i64 r1, .int .i64 r2, .int .i64 r3, .int .i64 r4, .int .i64 r5, .int .i64 r6] 46) = W4 at *
  generalize w4.heap.size = g19 at *
  go_wp2_with fail
  refine (C5.out _ (RR.out _ X4)).mono ?_
  rintro e w5 ⟨rfl, hx5⟩
  have X5 := (X4.trans hx5).alloc (.cells #[.int .i64 s1, .int .i64 s2, .int .i64 s3, .int .i64 s4, .int .i64 s5, .int .i64 s6] 46)
  have D5 := (D4.ext hx5).alloc (.cells #[.int .i64 s1, .int .i64 s2, .int .i64 s3, .int .i64 s4, .int .i64 s5, .int .i64 s6] 46)
  have E5 := (E4.ext hx5).alloc (.cells #[.int .i64 s1, .int .i64 s2, .int .i64 s3, .int .i64 s4, .int .i64 s5, .int .i64 s6] 46)
  have F5 := Blk.new w5 46 #[.int .i64 s1, .int .i64 s2, .int .i64 s3, .int .i64 s4, .int .i64 s5, .int .i64 s6]
  clear hx5 D4 E4 X4
  go_upto_region 8 with (fail)
  generalize w5.alloc (.cells #[.int .i64 s1, .int .i64 s2, .int .i64 s3, .int .i64 s4, .int .i64 s5, .int .i64 s6] 46) = W5 at *
  generalize w5.heap.size = g21 at *
  go_wp2_with fail
  refine (C6.out _ (RR.out _ X5)).mono ?_
  rintro e w6 ⟨rfl, hx6⟩
  have X6 := (X5.trans hx6).alloc (.cells #[.int .i64 s1, .int .i64 s2, .int .i64 s3, .int .i64 s4, .int .i64 s5, .int .i64 s6] 46)
  have D6 := (D5.ext hx6).alloc (.cells #[.int .i64 s1, .int .i64 s2, .int .i64 s3, .int .i64 s4, .int .i64 s5, .int .i64 s6] 46)
  have E6 := (E5.ext hx6).alloc (.cells #[.int .i64 s1, .int .i64 s2, .int .i64 s3, .int .i64 s4, .int .i64 s5, .int .i64 s6] 46)
  have F6 := (F5.ext hx6).alloc (.cells #[.int .i64 s1, .int .i64 s2, .int .i64 s3, .int .i64 s4, .int .i64 s5, .int .i64 s6] 46)
  have G6 := Blk.new w6 46 #[.int .i64 s1, .int .i64 s2, .int .i64 s3, .int .i64 s4, .int .i64 s5, .int .i64 s6]
  clear hx6 D5 E5 F5 X5
  go_upto_region 9 with (fail)
  generalize w6.alloc (.cells #[.int .i64 s1, .int .i64 s2, .int .i64 s3, .int .i64 s4, .int .i64 s5, .int .i64 s6] 46) = W6 at *
  generalize w6.heap.size = g23 at *
  obtain ⟨d, d'⟩ := D6.cells
  obtain ⟨f, f'⟩ := E6.cells
  obtain ⟨g, g'⟩ := F6.cells
  obtain ⟨h, h'⟩ := G6.cells
  go_wp2_with fail
  refine (awake25_any _).mono ?_
  rintro e w7 ⟨rfl, hx7⟩
  go_wp2_with fail
  go_ret
  exact ⟨rfl, X6.trans hx7⟩
end Go.Proofs.Ytehkmngbknbbaaa
