/-
  The statement OrderWhole: the walk.
-/
import Derived.Test.YtehkmngbknbbaaaDf
namespace Go.Proofs.Ytehkmngbknbbaaa
open Go.RowKit

/-- What the sums hold when p of the whole has come back. -/
def sumC (x : Tx) (p : Int) : Array Value := #[.int .i64 0, .int .i64 0, .int .i64 (shI x.t (x.t + x.x) p), .int .i64 (p - shI x.t (x.t + x.x) p), .int .i64 0, .int .i64 (shI x.v (x.t + x.x) p)]
def WhRel (w : World) (x : Tx) (n g2 g9 : Nat) (at_ i : Value) (wr : World) : Prop :=
  ∃ (k : Nat) (a : Int), k ≤ n + 1 ∧ i = .int .i64 (k : Int) ∧ at_ = .int .i64 a ∧ 0 ≤ a ∧ a ≤ x.t + x.x ∧ (k = n + 1 → a = x.t + x.x) ∧ Ext w wr ∧ Blk wr g2 46 #[.int .i64 x.l, .int .i64 x.j, .int .i64 x.t, .int .i64 x.x, .int .i64 x.r, .int .i64 x.v] ∧ Blk wr g9 46 (sumC x a)
/-- A round's numbers. -/
structure WhNum (x : Tx) (a p Ta Xa Va y1 y2 y3 Tp Xp Vp : Int) : Prop where
  e1 : Ta + y1 = Tp
  e2 : Xa + y2 = Xp
  e3 : Va + y3 = Vp
  b1 : 0 ≤ Ta ∧ Ta ≤ 4611686018427387904
  b2 : 0 ≤ Xa ∧ Xa ≤ 4611686018427387904
  b3 : 0 ≤ Va ∧ Va ≤ 4611686018427387904
  n1 : 0 ≤ y1 ∧ y1 ≤ 4611686018427387904
  n2 : 0 ≤ y2 ∧ y2 ≤ 4611686018427387904
  n3 : 0 ≤ y3 ∧ y3 ≤ 4611686018427387904
  hy : y1 + y2 = p - a
  hr : x.ret a p = (⟨x.l, x.j, y1, y2, x.r, y3⟩, 0)
  ho : x.ret 0 p = (⟨x.l, x.j, Tp, Xp, x.r, Vp⟩, 0)
  ha : sumC x a = #[.int .i64 0, .int .i64 0, .int .i64 Ta, .int .i64 Xa, .int .i64 0, .int .i64 Va]
  hp : sumC x p = #[.int .i64 0, .int .i64 0, .int .i64 Tp, .int .i64 Xp, .int .i64 0, .int .i64 Vp]
  c1 : 0 ≤ Tp ∧ Tp ≤ 4611686018427387904
  c2 : 0 ≤ Xp ∧ Xp ≤ 4611686018427387904
  c3 : 0 ≤ Vp ∧ Vp ≤ 4611686018427387904
  s0 : y1 + y2 ≤ 4611686018427387904
  s1 : Ta + y1 ≤ 4611686018427387904
  s2 : Xa + y2 ≤ 4611686018427387904
  s3 : Va + y3 ≤ 4611686018427387904
theorem whNum {x : Tx} (hok : x.ok = true) {a p : Int} (ha : 0 ≤ a) (hap : a ≤ p) (hp : p ≤ x.t + x.x) : ∃ Ta Xa Va y1 y2 y3 Tp Xp Vp, WhNum x a p Ta Xa Va y1 y2 y3 Tp Xp Vp := by
  obtain ⟨_, _, b3, b4, _, b6⟩ := Tx.ok_bd hok
  have hW : 0 ≤ x.t + x.x := by omega
  have m1 := shI_mono (t := x.t) hW hap
  have m3 := shI_mono (t := x.v) hW hap
  have s1 := shI_step (t := x.t) (W := x.t + x.x) b3.1 (by omega) ha hap
  have s0 := shI_step (t := x.t) (W := x.t + x.x) b3.1 (by omega) (Int.le_refl 0) ha
  have sp := shI_step (t := x.t) (W := x.t + x.x) b3.1 (by omega) (Int.le_refl 0) (show 0 ≤ p by omega)
  have z1 := shI_zero x.t (x.t + x.x) hW
  have z3 := shI_zero x.v (x.t + x.x) hW
  have l1 := shI_le b3.1 hp hW
  have l3 := shI_le b6.1 hp hW
  have l1' := shI_le b3.1 (show a ≤ x.t + x.x by omega) hW
  have l3' := shI_le b6.1 (show a ≤ x.t + x.x by omega) hW
  have p1 := shI_nonneg x.t (x.t + x.x) a
  have p3 := shI_nonneg x.v (x.t + x.x) a
  have r1 := Tx.ret_eq hok ha hap hp
  have r2 := Tx.ret_eq hok (Int.le_refl 0) (show 0 ≤ p by omega) hp
  rw [z1, z3] at r2
  rw [z1] at s0 sp
  refine ⟨shI x.t (x.t + x.x) a, a - shI x.t (x.t + x.x) a, shI x.v (x.t + x.x) a, shI x.t (x.t + x.x) p - shI x.t (x.t + x.x) a, p - a - (shI x.t (x.t + x.x) p - shI x.t (x.t + x.x) a), shI x.v (x.t + x.x) p - shI x.v (x.t + x.x) a,
    shI x.t (x.t + x.x) p, p - shI x.t (x.t + x.x) p, shI x.v (x.t + x.x) p, by omega, by omega, by omega, by omega, by omega, by omega, by omega, by omega, by omega, by omega, r1, ?_, rfl, rfl, by omega, by omega, by omega, by omega, by omega, by omega, by omega⟩
  rw [r2]
  simp
theorem checkTax_one (x : Tx) : (checkTax [x]).1 = if x.ok = false then 5 else 0 := by
  unfold checkTax
  rw [if_neg (by simp)]
  unfold ckTx
  by_cases h : x.ok = false
  · rw [if_pos h, if_pos (by rw [bad_5 h]; decide), bad_5 h]
  · rw [if_neg h, if_neg (by rw [bad_no (by simpa using h) rfl (by simp)]; simp)]
    rfl
theorem reads_iV {w : World} {B n : Nat} {A : Option Addr} {l : List Int} (h : Reads w B 1 A n (iV l)) {k : Nat} (hk : k < l.length) (hn : n = l.length) : ∃ b off, A = some ⟨b, off, none⟩ ∧ b < B ∧ w.cell? ⟨b, off + k, none⟩ = some (.int .i64 l[k]) := by
  subst hn
  obtain ⟨b, off, u, h1, h2, h3, h4⟩ := h.at_ hk
  refine ⟨b, off, h1, h2, ?_⟩
  rw [h4, ← h3]
  simp [iV, hk]

set_option maxRecDepth 100000 in
set_option maxHeartbeats 4000000 in
theorem orderWhole_ok (x : Tx) (steps : List Int) (A : Option Addr) (cap : Nat) (w : World) (hr : Reads w w.heap.size 1 A steps.length (iV steps)) (hok : x.ok = true) (hs : steps.length ≤ 60) :
    Calls Try.prog 4 #[x.V, .slice A steps.length cap] w fun e w' => e = .returned (.bool true) ∧ Ext w w' := by
  obtain ⟨b1, b2, b3, b4, b5, b6⟩ := Tx.ok_bd hok
  have hd1 : decide ((60 : Int) < (steps.length : Int)) = false := by simp; omega
  have HC := Lib.hid (show (checkTax [x]).1 = 0 by rw [checkTax_one, if_neg (by simp [hok])])
  have HO := Lib.hid hok
  clear hok
  have RR := Lib.hid (fun W (h : Ext w W) => hr.ext h)
  have RX := Lib.hid (fun (W : World) => reads_new' W #[.int .i64 x.l, .int .i64 x.j, .int .i64 x.t, .int .i64 x.x, .int .i64 x.r, .int .i64 x.v] 46 1 6 (g := W.heap.size) rfl rfl)
  have B2 := Lib.hid (Blk.new w 46 #[.int .i64 x.l, .int .i64 x.j, .int .i64 x.t, .int .i64 x.x, .int .i64 x.r, .int .i64 x.v])
  clear hr
  unfold Tx.V taxV
  go_enter Try.func4, Try.ntmps4
  go_wp2_with fail
  refine (awake25_any _).mono ?_
  rintro e W1 ⟨rfl, hx1⟩
  have X1 := ((Ext.refl w).alloc _).trans hx1
  replace B2 := B2.out.ext hx1
  clear hx1
  obtain ⟨q2, q2'⟩ := B2.cells
  go_wp2_with fail
  refine (checkTax_any [x] (some ⟨W1.heap.size, 0, none⟩) 1 _ (RX.out W1) (by simp [maxLen])).mono ?_
  rintro e W2 ⟨rfl, hx2⟩
  rw [HC.out]
  replace B2 := (B2.alloc _).ext hx2
  replace X1 := (X1.alloc _).trans hx2
  clear q2 q2' hx2
  obtain ⟨q2, q2'⟩ := B2.cells
  go_wp2_with fail
  have hg9 : w.heap.size ≤ W2.heap.size := X1.size
  have hne : w.heap.size ≠ W2.heap.size := by have := B2.lt; omega
  have B9 := Blk.new W2 46 (sumC x 0)
  have Z1 := shI_zero x.t (x.t + x.x) (by omega)
  have Z2 := shI_zero x.v (x.t + x.x) (by omega)
  unfold sumC at B9
  rw [Z1, Z2, Int.sub_zero] at B9
  have V2 := B2.alloc (.cells #[.int .i64 0, .int .i64 0, .int .i64 0, .int .i64 0, .int .i64 0, .int .i64 0] 46)
  have VX := X1.alloc (.cells #[.int .i64 0, .int .i64 0, .int .i64 0, .int .i64 0, .int .i64 0, .int .i64 0] 46)
  clear q2 q2' X1 B2 RX
  generalize (W2.alloc (.cells #[.int .i64 0, .int .i64 0, .int .i64 0, .int .i64 0, .int .i64 0, .int .i64 0] 46)) = V at V2 VX B9 ⊢
  generalize W2.heap.size = g9 at hg9 hne B9 ⊢
  replace Z1 := Lib.hid Z1
  replace Z2 := Lib.hid Z2
  go_loopw [10, 11] (fun a i wr => WhRel w x steps.length w.heap.size g9 a i wr) (fun _ i _ => steps.length + 1 - (intOf i).toNat)
  case atStart => exact ⟨0, 0, by omega, rfl, rfl, by omega, by omega, by omega, VX, V2, by unfold sumC; rw [Z1.out, Z2.out, Int.sub_zero]; exact B9⟩
  case round =>
    obtain ⟨k, a, hk, rfl, rfl, ha1, ha2, hkW, hx, C2, C9⟩ := hrel
    clear V2 VX B9
    by_cases hle : k ≤ steps.length
    · have hd2 : decide ((k : Int) ≤ (steps.length : Int)) = true := by simp; omega
      obtain ⟨q2, q2'⟩ := C2.cells
      by_cases hlt : k < steps.length
      · have hd3 : decide ((k : Int) < (steps.length : Int)) = true := by simp; omega
        obtain ⟨b, off, rfl, hb, hc⟩ := reads_iV (RR.out _ hx) hlt rfl
        generalize steps[k] = s at *
        obtain ⟨pb1, pb2⟩ := pickI_bd (x := s) (n := 1073741824) (by omega)
        obtain ⟨p, hpe, hap, hpW⟩ : ∃ p, a + min (pickI s 1073741824) (x.t + x.x - a) = p ∧ a ≤ p ∧ p ≤ x.t + x.x := ⟨_, rfl, by omega, by omega⟩
        go_wp2_with (go_at_call 29; refine (pick_any s 1073741824 (by omega) _).mono ?_; rintro e w' ⟨rfl, rfl⟩)
        clear pb1 pb2
        replace hpe := Lib.hid hpe
        obtain ⟨Ta, Xa, Va, y1, y2, y3, Tp, Xp, Vp, N⟩ := whNum HO.out ha1 hap hpW
        rw [N.ha] at C9
        refine (return_any x a p _).mono ?_
        rintro e W3 ⟨rfl, hx3⟩
        rw [N.hr]
        simp only [Tx.V, taxV]
        obtain ⟨n1, n1'⟩ := N.b1
        obtain ⟨n2, n2'⟩ := N.b2
        obtain ⟨n3, n3'⟩ := N.b3
        obtain ⟨n4, n4'⟩ := N.n1
        obtain ⟨n5, n5'⟩ := N.n2
        obtain ⟨n6, n6'⟩ := N.n3
        obtain ⟨n7, n7'⟩ := N.c1
        obtain ⟨n8, n8'⟩ := N.c2
        obtain ⟨n9, n9'⟩ := N.c3
        have d1 : decide (y1 < 0) = false := by simpa using n4
        have d2 : decide (y2 < 0) = false := by simpa using n5
        have d3 : decide (y3 < 0) = false := by simpa using n6
        have d4 : (y1 + y2 != p - a) = false := by simp [N.hy]
        have s0 := N.s0
        have s1 := N.s1
        have s2 := N.s2
        have s3 := N.s3
        have e1 := N.e1
        have e2 := N.e2
        have e3 := N.e3
        have HN := Lib.hid N
        have X3 := hx.trans hx3
        replace C2 := C2.ext hx3
        replace C9 := C9.ext hx3
        clear N q2 q2' hx3 hx
        obtain ⟨q2, q2'⟩ := C2.cells
        obtain ⟨q9, q9'⟩ := C9.cells
        have l2 := C2.lt
        have l9 := C9.lt
        go_wp2_with fail
        refine (return_any x 0 _ _).mono ?_
        rintro e W4 ⟨rfl, hx4⟩
        rw [HN.out.ho]
        simp only [Tx.V, taxV]
        have D9 := Blk.ext ((((C9.set_ 2 (.int .i64 Tp)).set_ 3 (.int .i64 Xp)).set_ 5 (.int .i64 Vp)).alloc (.cells #[.int .i64 x.l, .int .i64 x.j, .int .i64 y1, .int .i64 y2, .int .i64 x.r, .int .i64 y3] 46)) hx4
        have D2 := Blk.ext ((((C2.far (p := ⟨g9, 2, none⟩) hne (.int .i64 Tp)).far (p := ⟨g9, 3, none⟩) hne (.int .i64 Xp)).far (p := ⟨g9, 5, none⟩) hne (.int .i64 Vp)).alloc (.cells #[.int .i64 x.l, .int .i64 x.j, .int .i64 y1, .int .i64 y2, .int .i64 x.r, .int .i64 y3] 46)) hx4
        have X4 := ((((X3.set (p := ⟨g9, 2, none⟩) hg9 (.int .i64 Tp)).set (p := ⟨g9, 3, none⟩) hg9 (.int .i64 Xp)).set (p := ⟨g9, 5, none⟩) hg9 (.int .i64 Vp)).alloc (.cells #[.int .i64 x.l, .int .i64 x.j, .int .i64 y1, .int .i64 y2, .int .i64 x.r, .int .i64 y3] 46)).trans hx4
        clear hx4 C9 C2 X3 q2 q2' q9 q9'
        replace D9 : Blk W4 g9 46 #[.int .i64 0, .int .i64 0, .int .i64 Tp, .int .i64 Xp, .int .i64 0, .int .i64 Vp] := D9
        obtain ⟨q9, q9'⟩ := D9.cells
        have l9 := D9.lt
        go_wp2_with fail
        go_roundw
        case rel => exact ⟨k + 1, _, by omega, by go_num, rfl, by omega, by omega, by omega, X4.alloc _, D2.alloc _, by rw [HN.out.hp]; exact D9.alloc _⟩
        case measure => simp [intOf]; omega
      · have hd3 : decide ((k : Int) < (steps.length : Int)) = false := by simp; omega
        have hap := ha2
        have hpW : x.t + x.x ≤ x.t + x.x := Int.le_refl _
        go_wp2_with fail
        obtain ⟨Ta, Xa, Va, y1, y2, y3, Tp, Xp, Vp, N⟩ := whNum HO.out ha1 hap hpW
        rw [N.ha] at C9
        refine (return_any x a (x.t + x.x) _).mono ?_
        rintro e W3 ⟨rfl, hx3⟩
        rw [N.hr]
        simp only [Tx.V, taxV]
        obtain ⟨n1, n1'⟩ := N.b1
        obtain ⟨n2, n2'⟩ := N.b2
        obtain ⟨n3, n3'⟩ := N.b3
        obtain ⟨n4, n4'⟩ := N.n1
        obtain ⟨n5, n5'⟩ := N.n2
        obtain ⟨n6, n6'⟩ := N.n3
        obtain ⟨n7, n7'⟩ := N.c1
        obtain ⟨n8, n8'⟩ := N.c2
        obtain ⟨n9, n9'⟩ := N.c3
        have d1 : decide (y1 < 0) = false := by simpa using n4
        have d2 : decide (y2 < 0) = false := by simpa using n5
        have d3 : decide (y3 < 0) = false := by simpa using n6
        have d4 : (y1 + y2 != (x.t + x.x) - a) = false := by simp [N.hy]
        have s0 := N.s0
        have s1 := N.s1
        have s2 := N.s2
        have s3 := N.s3
        have e1 := N.e1
        have e2 := N.e2
        have e3 := N.e3
        have HN := Lib.hid N
        have X3 := hx.trans hx3
        replace C2 := C2.ext hx3
        replace C9 := C9.ext hx3
        clear N q2 q2' hx3 hx
        obtain ⟨q2, q2'⟩ := C2.cells
        obtain ⟨q9, q9'⟩ := C9.cells
        have l2 := C2.lt
        have l9 := C9.lt
        go_wp2_with fail
        refine (return_any x 0 _ _).mono ?_
        rintro e W4 ⟨rfl, hx4⟩
        rw [HN.out.ho]
        simp only [Tx.V, taxV]
        have D9 := Blk.ext ((((C9.set_ 2 (.int .i64 Tp)).set_ 3 (.int .i64 Xp)).set_ 5 (.int .i64 Vp)).alloc (.cells #[.int .i64 x.l, .int .i64 x.j, .int .i64 y1, .int .i64 y2, .int .i64 x.r, .int .i64 y3] 46)) hx4
        have D2 := Blk.ext ((((C2.far (p := ⟨g9, 2, none⟩) hne (.int .i64 Tp)).far (p := ⟨g9, 3, none⟩) hne (.int .i64 Xp)).far (p := ⟨g9, 5, none⟩) hne (.int .i64 Vp)).alloc (.cells #[.int .i64 x.l, .int .i64 x.j, .int .i64 y1, .int .i64 y2, .int .i64 x.r, .int .i64 y3] 46)) hx4
        have X4 := ((((X3.set (p := ⟨g9, 2, none⟩) hg9 (.int .i64 Tp)).set (p := ⟨g9, 3, none⟩) hg9 (.int .i64 Xp)).set (p := ⟨g9, 5, none⟩) hg9 (.int .i64 Vp)).alloc (.cells #[.int .i64 x.l, .int .i64 x.j, .int .i64 y1, .int .i64 y2, .int .i64 x.r, .int .i64 y3] 46)).trans hx4
        clear hx4 C9 C2 X3 q2 q2' q9 q9'
        replace D9 : Blk W4 g9 46 #[.int .i64 0, .int .i64 0, .int .i64 Tp, .int .i64 Xp, .int .i64 0, .int .i64 Vp] := D9
        obtain ⟨q9, q9'⟩ := D9.cells
        have l9 := D9.lt
        go_wp2_with fail
        go_roundw
        case rel => exact ⟨k + 1, _, by omega, by go_num, rfl, by omega, by omega, by omega, X4.alloc _, D2.alloc _, by rw [HN.out.hp]; exact D9.alloc _⟩
        case measure => simp [intOf]; omega
    · have hd2 : decide ((k : Int) ≤ (steps.length : Int)) = false := by simp; omega
      have hka := hkW (by omega)
      obtain ⟨q2, q2'⟩ := C2.cells
      by_cases hW : x.t + x.x = 0
      · have hs : sumC x a = #[.int .i64 0, .int .i64 0, .int .i64 x.t, .int .i64 x.x, .int .i64 0, .int .i64 0] := by
          unfold sumC shI
          rw [if_pos hW, if_pos hW]
          have h1 : x.t = 0 := by omega
          have h2 : x.x = 0 := by omega
          rw [h1, h2, show a = 0 by omega]
          rfl
        rw [hs] at C9
        have hz : (x.t + x.x == 0) = true := by simp [hW]
        replace hW := Lib.hid hW
        replace hka := Lib.hid hka
        obtain ⟨q9, q9'⟩ := C9.cells
        cases hv : ((0 : Int) == x.v)
        all_goals
          go_wp2_with fail
          go_ret
          exact ⟨rfl, hx⟩
      · have hs : sumC x a = #[.int .i64 0, .int .i64 0, .int .i64 x.t, .int .i64 x.x, .int .i64 0, .int .i64 x.v] := by
          unfold sumC
          rw [hka, shI_all b3.1 (by omega), shI_all b6.1 (by omega), show x.t + x.x - x.t = x.x by omega]
        rw [hs] at C9
        have hz : (x.t + x.x == 0) = false := by simpa using hW
        replace hW := Lib.hid hW
        replace hka := Lib.hid hka
        obtain ⟨q9, q9'⟩ := C9.cells
        go_wp2_with fail
        go_ret
        exact ⟨rfl, hx⟩

set_option maxRecDepth 100000 in
set_option maxHeartbeats 4000000 in
theorem orderWhole_any (x : Tx) (steps : List Int) (A : Option Addr) (cap : Nat) (w : World) (hr : Reads w w.heap.size 1 A steps.length (iV steps)) :
    Calls Try.prog 4 #[x.V, .slice A steps.length cap] w fun e w' => e = .returned (.bool true) ∧ Ext w w' := by
  by_cases hb : x.ok = true ∧ steps.length ≤ 60
  · exact orderWhole_ok x steps A cap w hr hb.1 hb.2
  have RX := Lib.hid (fun (W : World) => reads_new' W #[.int .i64 x.l, .int .i64 x.j, .int .i64 x.t, .int .i64 x.x, .int .i64 x.r, .int .i64 x.v] 46 1 6 (g := W.heap.size) rfl rfl)
  have B2 := Lib.hid (Blk.new w 46 #[.int .i64 x.l, .int .i64 x.j, .int .i64 x.t, .int .i64 x.x, .int .i64 x.r, .int .i64 x.v])
  have hb' : (((checkTax [x]).1 != 0) = true) ∨ (((checkTax [x]).1 != 0) = false ∧ decide ((60 : Int) < (steps.length : Int)) = true) := by
    rw [checkTax_one]
    cases hok : x.ok
    · exact .inl (by simp)
    · refine .inr ⟨by simp, ?_⟩
      have : ¬ steps.length ≤ 60 := fun h => hb ⟨hok, h⟩
      simp; omega
  clear hr hb
  unfold Tx.V taxV
  rcases hb' with hb' | ⟨hb', hb''⟩
  all_goals
    go_enter Try.func4, Try.ntmps4
    go_wp2_with fail
    refine (awake25_any _).mono ?_
    rintro e W1 ⟨rfl, hx1⟩
    have X1 := ((Ext.refl w).alloc _).trans hx1
    replace B2 := B2.out.ext hx1
    clear hx1
    obtain ⟨q2, q2'⟩ := B2.cells
    go_wp2_with fail
    refine (checkTax_any [x] (some ⟨W1.heap.size, 0, none⟩) 1 _ (RX.out W1) (by simp [maxLen])).mono ?_
    rintro e W2 ⟨rfl, hx2⟩
    replace X1 := (X1.alloc _).trans hx2
    go_wp2_with fail
    go_ret
    exact ⟨rfl, X1⟩
end Go.Proofs.Ytehkmngbknbbaaa
