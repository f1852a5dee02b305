/-
  awake: the walk.
-/
import Derived.Test.YtehkmngbknbbaaaRk07
import Derived.Test.YtehkmngbknbbaaaRk44
import Derived.Test.YtehkmngbknbbaaaRk40
import Derived.Test.YtehkmngbknbbaaaRk08
import Derived.Test.YtehkmngbknbbaaaRk13
set_option linter.unusedVariables false
namespace Go.Proofs.Ytehkmngbknbbaaa
open Go.RowKit

set_option maxRecDepth 100000 in
set_option maxHeartbeats 1000000 in
theorem returns1_any (w : World) : Calls Try.prog 38 #[.int .i64 0, .int .i64 50, .int .i64 50, .int .i64 4] w fun r w' => r = .returned (.bool true) ∧ Ext w w' := by
  go_enter Try.func38, Try.ntmps38
  go_wp2_with fail
  refine (sample_any _).mono ?_
  rintro e v1 ⟨rfl, hx1⟩
  unfold taxV
  go_wp2_with fail
  refine (return1_any _).mono ?_
  rintro e v2 ⟨rfl, hx2⟩
  unfold taxV
  go_wp2_with fail
  exact bodyPost_ret (results_tmp rfl _ _ _) rfl ⟨rfl, (hx1.trans hx2).alloc _⟩
end Go.Proofs.Ytehkmngbknbbaaa

namespace Go.Proofs.Ytehkmngbknbbaaa
open Go.RowKit

theorem sameBytes_t (a : List UInt8) (A A' : Option Addr) (n n' c c' : Nat) (w : World) (h1 : Reads w w.heap.size 1 A n (bV a)) (h2 : Reads w w.heap.size 1 A' n' (bV a)) :
    Calls Try.prog 23 #[.slice A n c, .slice A' n' c'] w fun e w' => e = .returned (.bool true) ∧ w = w' :=
  (sameBytes_any a a A A' n n' c c' w h1 h2).mono fun e w' ⟨h, hw⟩ => ⟨by rw [h, beq_self_eq_true], hw⟩
theorem sameOrder_t (a : Ord) (A A' : Option Addr) (c c' : Nat) (w : World) (h1 : Reads w w.heap.size 2 A a.ls.length (lnCells a.ls)) (h2 : Reads w w.heap.size 2 A' a.ls.length (lnCells a.ls)) (m1 : a.ls.length ≤ maxLen) :
    Calls Try.prog 24 #[ordV a A c, ordV a A' c'] w fun e w' => e = .returned (.bool true) ∧ Ext w w' :=
  (sameOrder_any a a A A' c c' w h1 h2 m1 m1).mono fun e w' ⟨h, hw⟩ => ⟨by rw [h]; simp, hw⟩
/-- The six cells of an order and a fault that lie in two blocks. -/
abbrev Six (w : World) (g : Nat) (a b c d : Int) (s : Value) (h : Nat) : Prop :=
  w.cell? ⟨g, 0, none⟩ = some (.int .i64 a) ∧ w.cell? ⟨g, 1, none⟩ = some (.int .i64 b) ∧ w.cell? ⟨g, 2, none⟩ = some (.int .i64 c) ∧ w.cell? ⟨g, 3, none⟩ = some (.int .i64 d) ∧ w.cell? ⟨g, 4, none⟩ = some s ∧ w.cell? ⟨h, 0, none⟩ = some (.int .i64 0)

set_option maxRecDepth 100000 in
set_option maxHeartbeats 2000000 in
theorem awake25_any (w : World) : Calls Try.prog 14 #[] w fun r w' => r = .returned (.bool true) ∧ Ext w w' := by
  have e1 : smallO.check.1 = 0 := by decide
  have e2 : smallO.bytes = [0, 2, 4, 1, 2, 14, 10] := by decide
  have e3 : readP [0, 2, 4, 1, 2, 14, 10] = (smallO, 0, 0) := by decide
  go_enter Try.func14, Try.ntmps14
  go_wp2_with fail
  refine (small_any _).mono ?_
  rintro e v1 ⟨A1, c1, rfl, hr1, hx1⟩
  go_wp2_with fail
  refine (obytes_any smallO A1 c1 _ hr1 (by decide)).mono ?_
  rintro e v2 ⟨v, rfl, ho2, hx2, ha2⟩
  rw [e1]
  go_wp2_with fail
  refine (bytes_any _).mono ?_
  rintro e v3 ⟨u, rfl, ho3, hx3⟩
  obtain ⟨A3, c3, rfl, hc3, hm3, hr3⟩ := own_slice ho3
  go_wp2_with fail
  refine (oreadOrder_any [0, 2, 4, 1, 2, 14, 10] A3 c3 _ hr3 (by decide)).mono ?_
  rintro e v4 ⟨A4, c4, rfl, ho4, hx4⟩
  rw [e3] at ho4 ⊢
  rw [e2] at ho2
  obtain ⟨A2, c2, rfl, hc2, hm2, hr2⟩ := own_slice ho2
  simp only [ordV, smallO, List.length_cons, List.length_nil]
  go_wp2_with fail
  have XV : Ext w ((v4.alloc (.cells #[.int .i64 0, .int .i64 1, .int .i64 2, .int .i64 (-1), .slice A4 1 c4] 26)).alloc (.cells #[.int .i64 0, .int .i64 0] 37)) := (((hx1.trans hx2).trans hx3).trans hx4).alloc _ |>.alloc _
  have RV2 : Reads ((v4.alloc (.cells #[.int .i64 0, .int .i64 1, .int .i64 2, .int .i64 (-1), .slice A4 1 c4] 26)).alloc (.cells #[.int .i64 0, .int .i64 0] 37)) _ 1 A2 7 (bV [0, 2, 4, 1, 2, 14, 10]) := hr2.ext (((hx3.trans hx4).alloc _).alloc _)
  have RV4 : Reads ((v4.alloc (.cells #[.int .i64 0, .int .i64 1, .int .i64 2, .int .i64 (-1), .slice A4 1 c4] 26)).alloc (.cells #[.int .i64 0, .int .i64 0] 37)) _ 2 A4 smallO.ls.length (lnCells smallO.ls) := (Reads.of_own ho4).ext (((Ext.refl v4).alloc _).alloc _)
  have B3 : Blk ((v4.alloc (.cells #[.int .i64 0, .int .i64 1, .int .i64 2, .int .i64 (-1), .slice A4 1 c4] 26)).alloc (.cells #[.int .i64 0, .int .i64 0] 37)) v4.heap.size 26 #[.int .i64 0, .int .i64 1, .int .i64 2, .int .i64 (-1), .slice A4 1 c4] := (Blk.new v4 _ _).alloc _
  have B4 : Blk ((v4.alloc (.cells #[.int .i64 0, .int .i64 1, .int .i64 2, .int .i64 (-1), .slice A4 1 c4] 26)).alloc (.cells #[.int .i64 0, .int .i64 0] 37)) (v4.heap.size + 1) 37 #[.int .i64 0, .int .i64 0] := by
    have := Blk.new (v4.alloc (.cells #[.int .i64 0, .int .i64 1, .int .i64 2, .int .i64 (-1), .slice A4 1 c4] 26)) 37 #[.int .i64 0, .int .i64 0]
    simpa using this
  generalize ((v4.alloc (.cells #[.int .i64 0, .int .i64 1, .int .i64 2, .int .i64 (-1), .slice A4 1 c4] 26)).alloc (.cells #[.int .i64 0, .int .i64 0] 37)) = V at XV RV2 RV4 B3 B4 ⊢
  generalize v4.heap.size = g3 at B3 B4 ⊢
  generalize g3 + 1 = g4 at B4 ⊢
  have l3 := B3.lt
  have l4 := B4.lt
  have SX : ∀ W, Ext V W → Six W g3 0 1 2 (-1) (.slice A4 1 c4) g4 := fun W hx =>
    ⟨(hx.cell g3 0 none l3).trans (B3.cell 0), (hx.cell g3 1 none l3).trans (B3.cell 1), (hx.cell g3 2 none l3).trans (B3.cell 2), (hx.cell g3 3 none l3).trans (B3.cell 3), (hx.cell g3 4 none l3).trans (B3.cell 4), (hx.cell g4 0 none l4).trans (B4.cell 0)⟩
  have HX := Lib.hid SX
  have HR2 := Lib.hid (fun W (hx : Ext V W) => RV2.ext hx)
  have HR4 := Lib.hid (fun W (hx : Ext V W) => RV4.ext hx)
  obtain ⟨k1, k2, k3, k4, k5, k6⟩ := SX V (Ext.refl V)
  clear RV2 RV4 ho4 ho2 ho3 hr3 hr2 ha2 hx1 hx2 hx3 hx4 hr1 B3 B4 e1 e2 e3 SX l3 l4 hc2 hm2 hc3 hm3
  go_region_held3 (fun w' => w'.cell? ⟨g3, 0, none⟩ = some (.int .i64 0) ∧ w'.cell? ⟨g3, 1, none⟩ = some (.int .i64 1) ∧ w'.cell? ⟨g3, 2, none⟩ = some (.int .i64 2) ∧ w'.cell? ⟨g3, 3, none⟩ = some (.int .i64 (-1)) ∧ w'.cell? ⟨g3, 4, none⟩ = some (.slice A4 1 c4) ∧ w'.cell? ⟨g4, 0, none⟩ = some (.int .i64 0)) (first | (with_reducible exact HX.out _ (Ext.refl V).drew) | (with_reducible exact HX.out _ X9) | (with_reducible exact HX.out _ X8) | (with_reducible exact HX.out _ X7) | (with_reducible exact HX.out _ X5))
    (first
    | (go_at_call 37; refine (bytes_any _).mono ?_; rintro e w5 ⟨u5, rfl, ho5, hx5⟩; obtain ⟨A5, c5, rfl, hc5, hm5, hr5⟩ := own_slice ho5; have X5 : Ext V w5 := Ext.trans (Ext.refl V).drew hx5; clear ho5 hc5 hm5)
    | (go_at_call 23; refine (sameBytes_t [0, 2, 4, 1, 2, 14, 10] A2 A5 7 7 _ _ _ (HR2.out _ X5) hr5).mono ?_; rintro e w6 ⟨rfl, rfl⟩)
    | (go_at_call 64; refine (small_any _).mono ?_; rintro e w7 ⟨A7, c7, rfl, hr7, hx7⟩; have X7 : Ext V w7 := Ext.trans X5 hx7; simp only [ordV, smallO, List.length_cons, List.length_nil])
    | (go_at_call 24; refine (sameOrder_t smallO A4 A7 c4 c7 _ (HR4.out _ X7) hr7 (by decide)).mono ?_; rintro e w8 ⟨rfl, hx8⟩; have X8 : Ext V w8 := Ext.trans X7 hx8)
    | (go_at_call 38; refine (returns1_any _).mono ?_; rintro e w9 ⟨rfl, hx9⟩; have X9 : Ext V w9 := Ext.trans X8 hx9))
  go_wp2_with fail
  go_ret
  exact ⟨rfl, XV.trans X9⟩
end Go.Proofs.Ytehkmngbknbbaaa

set_option linter.unusedVariables false
namespace Go.Proofs.Ytehkmngbknbbaaa
open Go.RowKit

set_option maxHeartbeats 1000000 in
theorem pick_any (x n : Int) (hn : n ≤ 9223372036854775807) (w : World) :
    Calls Try.prog 29 #[.int .i64 x, .int .i64 n] w fun e w' => e = .returned (.int .i64 (pickI x n)) ∧ w = w' := by
  by_cases h1 : n < 1
  · have hd : decide (n < 1) = true := by simpa using h1
    have HE := Lib.hid (show pickI x n = 0 by unfold pickI; rw [if_pos h1])
    go_enter Try.func29, Try.ntmps29
    go_wp2_with fail
    go_ret
    exact ⟨by rw [HE.out]; rfl, rfl⟩
  · have hd : decide (n < 1) = false := by simpa using h1
    have hz : (n == 0) = false := by rw [beq_eq_false_iff_ne]; omega
    have hz' : n ≠ 0 := by omega
    obtain ⟨b1, b2⟩ := tmod_bd (x := x) (n := n) (by omega)
    by_cases hm : Int.tmod x n < 0
    · have hd2 : decide (Int.tmod x n < 0) = true := by simpa using hm
      have HE := Lib.hid (show pickI x n = Int.tmod x n + n by unfold pickI; rw [if_neg h1, if_pos hm])
      generalize hM : Int.tmod x n = M at *
      have hi : IntKind.i64.wrap M = M := by rw [IntKind.wrap_i64]; omega
      go_enter Try.func29, Try.ntmps29
      go_wp2_with fail
      go_ret
      exact ⟨by rw [HE.out]; rfl, rfl⟩
    · have hd2 : decide (Int.tmod x n < 0) = false := by simpa using hm
      have HE := Lib.hid (show pickI x n = Int.tmod x n by unfold pickI; rw [if_neg h1, if_neg hm])
      generalize hM : Int.tmod x n = M at *
      have hi : IntKind.i64.wrap M = M := by rw [IntKind.wrap_i64]; omega
      go_enter Try.func29, Try.ntmps29
      go_wp2_with fail
      go_ret
      exact ⟨by rw [HE.out]; rfl, rfl⟩
end Go.Proofs.Ytehkmngbknbbaaa
