/-
  apportionlaw18: StreetBetween (printed by tools/genMh.py).
-/
import Derived.Deep.CutRange
import Derived.Test.YtjaponmpfdpemaaGreatDoorMg
import Derived.Test.YtjaponmpfdpemaaGreatDoorBa45
set_option linter.unusedSimpArgs false
set_option linter.unusedVariables false
namespace Go.Proofs.YtjaponmpfdpemaaGreatDoor
open Go.RowKit

theorem srV_back (s : Sr) : srV s.back = .agg #[.string ⟨s.state.toArray⟩, .string ⟨s.city.toArray⟩, .string ⟨s.pre.toArray⟩, .string ⟨s.name.toArray⟩, .string ⟨s.suf.toArray⟩, .string ⟨s.post.toArray⟩, .int .i64 s.fr, .int .i64 s.to_, .int .i64 s.side, .int .i64 s.bx, .int .i64 s.by_, .int .i64 s.ax, .int .i64 s.ay] := rfl
set_option maxRecDepth 100000 in
set_option maxHeartbeats 4000000 in
theorem streetBetween_1 (s : Sr) (n m : Int) (h : longS [s] = true ∨ s.check ≠ 0) (W : World) (hS : Std W) : Calls Tryz.prog 5 #[srV s, .int .i64 n, .int .i64 m] W fun e w' => e = .returned (.bool true) ∧ Ext W w' := by
  have HL := Lib.hid (fun g w (h : Blk w g 25 #[.string ⟨s.state.toArray⟩, .string ⟨s.city.toArray⟩, .string ⟨s.pre.toArray⟩, .string ⟨s.name.toArray⟩, .string ⟨s.suf.toArray⟩, .string ⟨s.post.toArray⟩, .int .i64 s.fr, .int .i64 s.to_, .int .i64 s.side, .int .i64 s.ax, .int .i64 s.ay, .int .i64 s.bx, .int .i64 s.by_]) => l18long_any [s] (some ⟨g, 0, none⟩) 1 w (reads_one h))
  have B0 := Lib.hid (Blk.new W 25 #[.string ⟨s.state.toArray⟩, .string ⟨s.city.toArray⟩, .string ⟨s.pre.toArray⟩, .string ⟨s.name.toArray⟩, .string ⟨s.suf.toArray⟩, .string ⟨s.post.toArray⟩, .int .i64 s.fr, .int .i64 s.to_, .int .i64 s.side, .int .i64 s.ax, .int .i64 s.ay, .int .i64 s.bx, .int .i64 s.by_])
  have X0 := Lib.hid ((Ext.refl W).alloc (.cells #[.string ⟨s.state.toArray⟩, .string ⟨s.city.toArray⟩, .string ⟨s.pre.toArray⟩, .string ⟨s.name.toArray⟩, .string ⟨s.suf.toArray⟩, .string ⟨s.post.toArray⟩, .int .i64 s.fr, .int .i64 s.to_, .int .i64 s.side, .int .i64 s.ax, .int .i64 s.ay, .int .i64 s.bx, .int .i64 s.by_] 25))
  have HW := Lib.hid (fun w (hx : Ext W w) => l18awake_any w (hS.ext hx))
  have e1 : [s].length = 1 := rfl
  rw [e1] at HL
  cases hl : longS [s] with
  | true =>
    rw [hl] at HL
    rw [srV_eq]
    clear hS hl e1 h
    go_enter Tryz.func5, Tryz.ntmps5
    go_wp2_with fail
    refine (HW.out _ X0.out).mono ?_
    rintro e w1 ⟨rfl, hx⟩
    have X1 := Lib.hid (X0.out.trans hx)
    have B1 := B0.out.ext hx
    obtain ⟨qa, _⟩ := B1.cells
    have la := B1.lt
    clear hx X0 B1
    go_wp2_with fail
    refine (HL.out _ _ (Blk.new w1 _ _)).mono ?_
    rintro e w2 ⟨rfl, hx⟩
    have X2 := Lib.hid ((X1.out.alloc _).trans hx)
    clear hx
    go_wp2_with fail
    go_ret
    exact ⟨rfl, X2.out⟩
  | false =>
    have hq : s.check ≠ 0 := h.resolve_left (by rw [hl]; simp)
    rw [hl] at HL
    have hs := (longS_no hl).2 s (by simp)
    have HC := Lib.hid (fun w (hx : Ext W w) => srcheck_any s hs w (hS.ext hx))
    have hqb : (s.check != 0) = true := by simpa using hq
    generalize s.check = q at *
    rw [srV_eq]
    simp only [srV_eq] at HC
    clear hS hl e1 h hq
    go_enter Tryz.func5, Tryz.ntmps5
    go_wp2_with fail
    refine (HW.out _ X0.out).mono ?_
    rintro e w1 ⟨rfl, hx⟩
    have X1 := Lib.hid (X0.out.trans hx)
    have B1 := B0.out.ext hx
    obtain ⟨qa, _⟩ := B1.cells
    have la := B1.lt
    replace B0 := Lib.hid B1
    clear hx X0 B1
    go_wp2_with fail
    refine (HL.out _ _ (Blk.new w1 _ _)).mono ?_
    rintro e w2 ⟨rfl, hx⟩
    have X2 := Lib.hid ((X1.out.alloc _).trans hx)
    have B2 := B0.out.ext (((Ext.refl w1).alloc _).trans hx)
    clear qa la
    obtain ⟨qa, _⟩ := B2.cells
    have la := B2.lt
    clear hx B2
    go_wp2_with fail
    refine (HC.out _ X2.out).mono ?_
    rintro e w3 ⟨rfl, hx⟩
    have X3 := Lib.hid (X2.out.trans hx)
    clear hx
    go_wp2_with fail
    go_ret
    exact ⟨rfl, X3.out⟩
set_option maxRecDepth 100000 in
set_option maxHeartbeats 8000000 in
theorem streetBetween_2 (s : Sr) (n m : Int) (hl : longS [s] = false) (hq : s.check = 0) (W : World) (hS : Std W) : Calls Tryz.prog 5 #[srV s, .int .i64 n, .int .i64 m] W fun e w' => e = .returned (.bool true) ∧ Ext W w' := by
  have HL := Lib.hid (fun g w (h : Blk w g 25 #[.string ⟨s.state.toArray⟩, .string ⟨s.city.toArray⟩, .string ⟨s.pre.toArray⟩, .string ⟨s.name.toArray⟩, .string ⟨s.suf.toArray⟩, .string ⟨s.post.toArray⟩, .int .i64 s.fr, .int .i64 s.to_, .int .i64 s.side, .int .i64 s.ax, .int .i64 s.ay, .int .i64 s.bx, .int .i64 s.by_]) => l18long_any [s] (some ⟨g, 0, none⟩) 1 w (reads_one h))
  have B0 := Lib.hid (Blk.new W 25 #[.string ⟨s.state.toArray⟩, .string ⟨s.city.toArray⟩, .string ⟨s.pre.toArray⟩, .string ⟨s.name.toArray⟩, .string ⟨s.suf.toArray⟩, .string ⟨s.post.toArray⟩, .int .i64 s.fr, .int .i64 s.to_, .int .i64 s.side, .int .i64 s.ax, .int .i64 s.ay, .int .i64 s.bx, .int .i64 s.by_])
  have X0 := Lib.hid ((Ext.refl W).alloc (.cells #[.string ⟨s.state.toArray⟩, .string ⟨s.city.toArray⟩, .string ⟨s.pre.toArray⟩, .string ⟨s.name.toArray⟩, .string ⟨s.suf.toArray⟩, .string ⟨s.post.toArray⟩, .int .i64 s.fr, .int .i64 s.to_, .int .i64 s.side, .int .i64 s.ax, .int .i64 s.ay, .int .i64 s.bx, .int .i64 s.by_] 25))
  have HW := Lib.hid (fun w (hx : Ext W w) => l18awake_any w (hS.ext hx))
  have e1 : [s].length = 1 := rfl
  rw [e1, hl] at HL
  have hs := (longS_no hl).2 s (by simp)
  have hsb : SrS s.back 1000 := ⟨hs.state, hs.city, hs.pre, hs.name, hs.suf, hs.post⟩
  have HC := Lib.hid (fun w (hx : Ext W w) => srcheck_any s hs w (hS.ext hx))
  have HA := Lib.hid (fun k w (hx : Ext W w) => srat_any s hs k w (hS.ext hx))
  have HB := Lib.hid (fun k w (hx : Ext W w) => srat_any s.back hsb k w (hS.ext hx))
  have hN := (Sr.check_ok hq).num
  have bd : 1 ≤ s.fr ∧ s.fr ≤ s.to_ ∧ s.to_ ≤ 999999 := ⟨hN.f1, hN.ft, hN.t9⟩
  have HP1 := Lib.hid (fun w => pickP_any n (s.to_ - s.fr + 1) (by omega) w)
  have HP2 := Lib.hid (fun w => pickP_any m (s.to_ - s.fr + 1) (by omega) w)
  have p1 := pickP_bd (x := n) (n := s.to_ - s.fr + 1) (by omega)
  have p2 := pickP_bd (x := m) (n := s.to_ - s.fr + 1) (by omega)
  generalize pickP n (s.to_ - s.fr + 1) = pn at *
  generalize pickP m (s.to_ - s.fr + 1) = pm at *
  obtain ⟨N, hNn⟩ : ∃ N, s.fr + pn = N := ⟨_, rfl⟩
  obtain ⟨M, hMm⟩ : ∃ M, s.fr + pm = M := ⟨_, rfl⟩
  obtain ⟨L1, L2, L3, L4, L5, L6, L7, L8⟩ := between_law hq (n := N) (m := M) (by omega) (by omega)
  rw [hq] at HC
  replace HB := Lib.hid (HB.out (s.fr + s.to_ - N))
  have HA1 := Lib.hid (HA.out N)
  have HA2 := Lib.hid (HA.out M)
  clear HA
  obtain ⟨A1, hA1⟩ : ∃ A1, s.at_ N = A1 := ⟨_, rfl⟩
  obtain ⟨A2, hA2⟩ : ∃ A2, s.at_ M = A2 := ⟨_, rfl⟩
  obtain ⟨A3, hA3⟩ : ∃ A3, s.back.at_ (s.fr + s.to_ - N) = A3 := ⟨_, rfl⟩
  simp only [hA1, hA2, hA3] at *
  clear hA1 hA2 hA3
  obtain ⟨⟨px, py⟩, bp⟩ := A1
  obtain ⟨⟨qx, qy⟩, bq⟩ := A2
  obtain ⟨⟨rx, ry⟩, br⟩ := A3
  unfold ptV at HA1 HA2 HB
  dsimp only at *
  rw [srV_back] at HB
  simp only [srV_eq] at HA1 HA2 HC ⊢
  replace L1 := Lib.hid L1
  replace L2 := Lib.hid L2
  replace L3 := Lib.hid L3
  replace L4 := Lib.hid L4
  replace L5 := Lib.hid L5
  replace L6 := Lib.hid L6
  replace L7 := Lib.hid L7
  replace L8 := Lib.hid L8
  obtain ⟨bd1, bd2, bd3⟩ := bd
  have w1 : IntKind.i64.wrap (s.to_ - s.fr) = s.to_ - s.fr := by rw [IntKind.wrap_i64]; omega
  have w2 : IntKind.i64.wrap (s.to_ - s.fr + 1) = s.to_ - s.fr + 1 := by rw [IntKind.wrap_i64]; omega
  have w3 : IntKind.i64.wrap (s.fr + pn) = N := by rw [IntKind.wrap_i64]; omega
  have w4 : IntKind.i64.wrap (s.fr + pm) = M := by rw [IntKind.wrap_i64]; omega
  have w5 : IntKind.i64.wrap (s.fr + s.to_) = s.fr + s.to_ := by rw [IntKind.wrap_i64]; omega
  have w6 : IntKind.i64.wrap (s.fr + s.to_ - N) = s.fr + s.to_ - N := by rw [IntKind.wrap_i64]; omega
  have BX := Lib.hid (fun w (hx : Ext (W.alloc (.cells #[.string ⟨s.state.toArray⟩, .string ⟨s.city.toArray⟩, .string ⟨s.pre.toArray⟩, .string ⟨s.name.toArray⟩, .string ⟨s.suf.toArray⟩, .string ⟨s.post.toArray⟩, .int .i64 s.fr, .int .i64 s.to_, .int .i64 s.side, .int .i64 s.ax, .int .i64 s.ay, .int .i64 s.bx, .int .i64 s.by_] 25)) w) => B0.out.ext hx)
  have hNfr := Lib.hid (show s.fr ≤ N ∧ N ≤ s.to_ by omega)
  clear hS hl e1 hq hs hsb hN p1 p2 bd1 bd2 bd3 hNn hMm
  go_enter Tryz.func5, Tryz.ntmps5
  go_wp2_with fail
  refine (HW.out _ X0.out).mono ?_
  rintro e wa ⟨rfl, hx⟩
  have Y1 := Lib.hid hx
  clear hx
  go_upto_region 2 with (fail)
  generalize W.alloc (.cells #[.string ⟨s.state.toArray⟩, .string ⟨s.city.toArray⟩, .string ⟨s.pre.toArray⟩, .string ⟨s.name.toArray⟩, .string ⟨s.suf.toArray⟩, .string ⟨s.post.toArray⟩, .int .i64 s.fr, .int .i64 s.to_, .int .i64 s.side, .int .i64 s.ax, .int .i64 s.ay, .int .i64 s.bx, .int .i64 s.by_] 25) = w0 at *
  generalize W.heap.size = g3 at *
  clear B0
  obtain ⟨qa, _⟩ := (BX.out _ Y1.out).cells
  have la := (BX.out _ Y1.out).lt
  go_wp2_with fail
  refine (HL.out _ _ (Blk.new wa _ _)).mono ?_
  rintro e wb ⟨rfl, hx⟩
  have Y2 := Lib.hid ((Y1.out.alloc _).trans hx)
  clear hx qa la Y1 HL
  obtain ⟨qa, _⟩ := (BX.out _ Y2.out).cells
  have la := (BX.out _ Y2.out).lt
  go_wp2_with fail
  refine (HC.out _ (X0.out.trans Y2.out)).mono ?_
  rintro e wc ⟨rfl, hx⟩
  have Y3 := Lib.hid (Y2.out.trans hx)
  clear hx qa la Y2 HC
  go_upto_region 4 with (fail)
  have HQ := Lib.hid (fun w' (hx : Ext wc w') => (show (w'.cell? ⟨g3, 0, none⟩ = some (.string ⟨s.state.toArray⟩) ∧ w'.cell? ⟨g3, 1, none⟩ = some (.string ⟨s.city.toArray⟩) ∧ w'.cell? ⟨g3, 2, none⟩ = some (.string ⟨s.pre.toArray⟩) ∧ w'.cell? ⟨g3, 3, none⟩ = some (.string ⟨s.name.toArray⟩) ∧ w'.cell? ⟨g3, 4, none⟩ = some (.string ⟨s.suf.toArray⟩) ∧ w'.cell? ⟨g3, 5, none⟩ = some (.string ⟨s.post.toArray⟩) ∧ w'.cell? ⟨g3, 6, none⟩ = some (.int .i64 s.fr) ∧ w'.cell? ⟨g3, 7, none⟩ = some (.int .i64 s.to_) ∧ w'.cell? ⟨g3, 8, none⟩ = some (.int .i64 s.side) ∧ w'.cell? ⟨g3, 9, none⟩ = some (.int .i64 s.ax) ∧ w'.cell? ⟨g3, 10, none⟩ = some (.int .i64 s.ay) ∧ w'.cell? ⟨g3, 11, none⟩ = some (.int .i64 s.bx) ∧ w'.cell? ⟨g3, 12, none⟩ = some (.int .i64 s.by_)) from
    have A := BX.out _ (Y3.out.trans hx)
    ⟨A.cell 0, A.cell 1, A.cell 2, A.cell 3, A.cell 4, A.cell 5, A.cell 6, A.cell 7, A.cell 8, A.cell 9, A.cell 10, A.cell 11, A.cell 12⟩))
  generalize hwk : wc = wk at *
  clear hwk
  go_cut [1, 2] from 16 to 47 (fun u v wx => u = .int .i64 N ∧ v = .int .i64 M ∧ Ext wk wx)
  case first =>
    obtain ⟨p0, p1, p2, p3, p4, p5, p6, p7, p8, p9, p10, p11, p12⟩ := HQ.out _ (Ext.refl wk)
    go_region_held3 (fun w' => (w'.cell? ⟨g3, 0, none⟩ = some (.string ⟨s.state.toArray⟩) ∧ w'.cell? ⟨g3, 1, none⟩ = some (.string ⟨s.city.toArray⟩) ∧ w'.cell? ⟨g3, 2, none⟩ = some (.string ⟨s.pre.toArray⟩) ∧ w'.cell? ⟨g3, 3, none⟩ = some (.string ⟨s.name.toArray⟩) ∧ w'.cell? ⟨g3, 4, none⟩ = some (.string ⟨s.suf.toArray⟩) ∧ w'.cell? ⟨g3, 5, none⟩ = some (.string ⟨s.post.toArray⟩) ∧ w'.cell? ⟨g3, 6, none⟩ = some (.int .i64 s.fr) ∧ w'.cell? ⟨g3, 7, none⟩ = some (.int .i64 s.to_) ∧ w'.cell? ⟨g3, 8, none⟩ = some (.int .i64 s.side) ∧ w'.cell? ⟨g3, 9, none⟩ = some (.int .i64 s.ax) ∧ w'.cell? ⟨g3, 10, none⟩ = some (.int .i64 s.ay) ∧ w'.cell? ⟨g3, 11, none⟩ = some (.int .i64 s.bx) ∧ w'.cell? ⟨g3, 12, none⟩ = some (.int .i64 s.by_)))
      (with_reducible refine HQ.out _ ?_; repeat (first | (with_reducible assumption) | (with_reducible exact Ext.refl _) | (with_reducible refine Ext.drew ?_) | (with_reducible refine Ext.alloc ?_ _)))
      (first
        | (go_at_call 19; with_reducible refine (HP1.out _).mono ?_; rintro e w6 ⟨rfl, rfl⟩)
        | (go_at_call 19; with_reducible refine (HP2.out _).mono ?_; rintro e w7 ⟨rfl, rfl⟩))
    all_goals go_wp2_with fail
    all_goals go_meet
    all_goals exact ⟨rfl, rfl, by first | exact Ext.refl _ | exact (Ext.refl _).drew⟩
  case rest =>
    obtain ⟨rfl, rfl, hx⟩ := hcut
    have Y4 := Lib.hid (Y3.out.trans hx)
    have XA := Lib.hid (X0.out.trans Y4.out)
    replace BX := Lib.hid (fun w (hx : Ext wc w) => BX.out w (Y4.out.trans hx))
    clear hx HQ HP1 HP2 Y3 w1 w2 w3 w4
    generalize hwk : wc = w1 at *
    clear hwk
    have XW := Lib.hid (fun w (hx : Ext w1 w) => XA.out.trans hx)
    obtain ⟨qa, _⟩ := (BX.out _ (Ext.refl w1)).cells
    have la := (BX.out _ (Ext.refl w1)).lt
    go_wp2_with fail
    refine (HA1.out _ XA.out).mono ?_
    rintro e w2 ⟨rfl, hx⟩
    have Y2 := Lib.hid (hx.alloc (.cells #[.int .i64 px, .int .i64 py] 23))
    have B8 := Lib.hid (Blk.new w2 23 #[.int .i64 px, .int .i64 py])
    clear hx qa la HA1
    go_upto_region 6 with (fail)
    generalize w2.alloc (.cells #[.int .i64 px, .int .i64 py] 23) = w3 at *
    generalize w2.heap.size = g8 at *
    obtain ⟨qa, _⟩ := (BX.out _ Y2.out).cells
    have la := (BX.out _ Y2.out).lt
    go_wp2_with fail
    refine (HA2.out _ (XW.out _ Y2.out)).mono ?_
    rintro e w4 ⟨rfl, hx⟩
    have Y4 := Lib.hid (Y2.out.trans (hx.alloc (.cells #[.int .i64 qx, .int .i64 qy] 23)))
    replace B8 := Lib.hid (B8.out.ext (hx.alloc (.cells #[.int .i64 qx, .int .i64 qy] 23)))
    have B10 := Lib.hid (Blk.new w4 23 #[.int .i64 qx, .int .i64 qy])
    clear hx qa la HA2 Y2
    go_upto_region 7 with (fail)
    generalize w4.alloc (.cells #[.int .i64 qx, .int .i64 qy] 23) = w5 at *
    generalize w4.heap.size = g10 at *
    have HC5 := Lib.hid (fun w (hx : Ext w5 w) => (show (∀ i, w.cell? ⟨g3, i, none⟩ = (#[.string ⟨s.state.toArray⟩, .string ⟨s.city.toArray⟩, .string ⟨s.pre.toArray⟩, .string ⟨s.name.toArray⟩, .string ⟨s.suf.toArray⟩, .string ⟨s.post.toArray⟩, .int .i64 s.fr, .int .i64 s.to_, .int .i64 s.side, .int .i64 s.ax, .int .i64 s.ay, .int .i64 s.bx, .int .i64 s.by_] : Array Value)[i]?) ∧ g3 < w.heap.size ∧ (∀ i, w.cell? ⟨g8, i, none⟩ = (#[.int .i64 px, .int .i64 py] : Array Value)[i]?) ∧ g8 < w.heap.size ∧ (∀ i, w.cell? ⟨g10, i, none⟩ = (#[.int .i64 qx, .int .i64 qy] : Array Value)[i]?) ∧ g10 < w.heap.size from
      have A := BX.out _ (Y4.out.trans hx); have B := B8.out.ext hx; have C := B10.out.ext hx
      ⟨A.cell, A.lt, B.cell, B.lt, C.cell, C.lt⟩))
    replace XW := Lib.hid (fun w (hx : Ext w5 w) => XW.out w (Y4.out.trans hx))
    clear BX B8 B10 Y4 XA
    obtain ⟨qa, la, qb, lb, qc, lc⟩ := HC5.out _ (Ext.refl w5)
    obtain ⟨od, hod⟩ : ∃ t, (N.tmod 2 == 1) = t := ⟨_, rfl⟩
    have hL1 := L1.out
    rw [hod] at hL1
    replace hL1 := Lib.hid hL1
    go_upto_region 8 with (fail)
    go_cut [74] from 16 to 74 (fun v wx => v = .bool false ∧ wx = w5)
    case first =>
      have h1 := hL1.out
      obtain ⟨x3, hx3⟩ : ∃ t, (s.side == 3) = t := ⟨_, rfl⟩
      obtain ⟨x1, hx1⟩ : ∃ t, (s.side == 1) = t := ⟨_, rfl⟩
      rw [hx3, hx1] at h1
      clear L2 L3 L4 L5 L6 L7 L8
      cases x3 <;> cases x1 <;> cases od
      all_goals
        simp at h1
        subst h1
        go_wp2_with fail
        go_meet
        case rel => exact ⟨rfl, rfl⟩
    case rest =>
      obtain ⟨rfl, rfl⟩ := hcut
      generalize hwk : wc = w5 at *
      clear hwk hL1 hod
      cases bp with
      | false =>
        have h2 := L2.out rfl
        simp only [Prod.mk.injEq] at h2
        obtain ⟨rfl, rfl⟩ := h2
        clear L2 L3 L4 L5 L6 L7 L8
        go_wp2_with fail
        go_ret
        exact ⟨by simp, XW.out _ (Ext.refl _)⟩
      | true =>
        go_upto_region 12 with (fail)
        obtain ⟨ht1, ht2⟩ := L3.out rfl
        have HT1 := Lib.hid (fun w => between_any px s.ax s.bx w)
        have HT2 := Lib.hid (fun w => between_any py s.ay s.by_ w)
        rw [ht1] at HT1
        rw [ht2] at HT2
        clear ht1 ht2 L2 L3
        go_cut [135] from 16 to 135 (fun v wx => v = .bool false ∧ wx = w5)
        case first =>
          clear HB HW XW L6 L7 L8 HC5
          by_cases hN1 : N = s.fr
          · have hp := L4.out rfl hN1
            simp only [Prod.mk.injEq] at hp
            obtain ⟨rfl, rfl⟩ := hp
            have b1 : (N == s.fr) = true := by simp [hN1]
            by_cases hft : s.fr < s.to_
            · have b2 : (N == s.to_) = false := by rw [beq_eq_false_iff_ne]; omega
              replace hN1 := Lib.hid hN1
              clear L4 L5 hft
              go_wp2_with fail
              refine (HT1.out _).mono ?_
              rintro e wx1 ⟨rfl, rfl⟩
              go_wp2_with fail
              refine (HT2.out _).mono ?_
              rintro e wx2 ⟨rfl, rfl⟩
              go_wp2_with fail
              go_meet
              case rel => exact ⟨by simp, rfl⟩
            · have b2 : decide (s.fr < s.to_) = false := decide_eq_false hft
              by_cases hNt : N = s.to_
              · have b3 : (N == s.to_) = true := by simp [hNt]
                replace hN1 := Lib.hid hN1
                replace hNt := Lib.hid hNt
                clear L4 L5 hft
                go_wp2_with fail
                refine (HT1.out _).mono ?_
                rintro e wx1 ⟨rfl, rfl⟩
                go_wp2_with fail
                refine (HT2.out _).mono ?_
                rintro e wx2 ⟨rfl, rfl⟩
                go_wp2_with fail
                go_meet
                case rel => exact ⟨by simp, rfl⟩
              · have b3 : (N == s.to_) = false := by rw [beq_eq_false_iff_ne]; exact hNt
                replace hN1 := Lib.hid hN1
                replace hNt := Lib.hid hNt
                clear L4 L5 hft
                go_wp2_with fail
                refine (HT1.out _).mono ?_
                rintro e wx1 ⟨rfl, rfl⟩
                go_wp2_with fail
                refine (HT2.out _).mono ?_
                rintro e wx2 ⟨rfl, rfl⟩
                go_wp2_with fail
                go_meet
                case rel => exact ⟨by simp, rfl⟩
          · have b1 : (N == s.fr) = false := by rw [beq_eq_false_iff_ne]; exact hN1
            by_cases hNt : N = s.to_
            · have hlt := hNfr.out
              have hft : s.fr < s.to_ := by omega
              have hp := L5.out rfl hNt hft
              simp only [Prod.mk.injEq] at hp
              obtain ⟨rfl, rfl⟩ := hp
              have b2 : decide (s.fr < s.to_) = true := decide_eq_true hft
              have b3 : (N == s.to_) = true := by simp [hNt]
              replace hN1 := Lib.hid hN1
              replace hNt := Lib.hid hNt
              clear L4 L5 hft hlt
              go_wp2_with fail
              refine (HT1.out _).mono ?_
              rintro e wx1 ⟨rfl, rfl⟩
              go_wp2_with fail
              refine (HT2.out _).mono ?_
              rintro e wx2 ⟨rfl, rfl⟩
              go_wp2_with fail
              go_meet
              case rel => exact ⟨by simp, rfl⟩
            · have b3 : (N == s.to_) = false := by rw [beq_eq_false_iff_ne]; exact hNt
              replace hN1 := Lib.hid hN1
              replace hNt := Lib.hid hNt
              clear L4 L5
              go_wp2_with fail
              refine (HT1.out _).mono ?_
              rintro e wx1 ⟨rfl, rfl⟩
              go_wp2_with fail
              refine (HT2.out _).mono ?_
              rintro e wx2 ⟨rfl, rfl⟩
              go_wp2_with fail
              go_meet
              case rel => exact ⟨by simp, rfl⟩
        case rest =>
          obtain ⟨rfl, rfl⟩ := hcut
          generalize hwk : wc = w5 at *
          clear hwk L4 L5 HT1 HT2
          go_upto_region 14 with (fail)
          go_cut [163] from 16 to 163 (fun v wx => v = .bool false ∧ wx = w5)
          case first =>
            clear HB HW XW L7 L8 HC5
            cases bq with
            | false =>
              clear L6
              go_wp2_with fail
              go_meet
              case rel => exact ⟨by simp, rfl⟩
            | true =>
              by_cases hNM : N ≤ M
              · have b1 : decide (N ≤ M) = true := decide_eq_true hNM
                obtain ⟨ht1, ht2⟩ := L6.out rfl rfl hNM
                have HT1 := Lib.hid (fun w => between_any px s.ax qx w)
                have HT2 := Lib.hid (fun w => between_any py s.ay qy w)
                rw [ht1] at HT1
                rw [ht2] at HT2
                clear ht1 ht2 L6
                go_wp2_with fail
                refine (HT1.out _).mono ?_
                rintro e wx1 ⟨rfl, rfl⟩
                go_wp2_with fail
                refine (HT2.out _).mono ?_
                rintro e wx2 ⟨rfl, rfl⟩
                go_wp2_with fail
                go_meet
                case rel => exact ⟨by simp, rfl⟩
              · have b1 : decide (N ≤ M) = false := decide_eq_false hNM
                clear L6
                go_wp2_with fail
                go_meet
                case rel => exact ⟨by simp, rfl⟩
          case rest =>
            obtain ⟨rfl, rfl⟩ := hcut
            generalize hwk : wc = w5 at *
            clear hwk L6
            go_upto_region 17 with (fail)
            have BN := Lib.hid (Blk.new w5 25 #[.string ⟨s.state.toArray⟩, .string ⟨s.city.toArray⟩, .string ⟨s.pre.toArray⟩, .string ⟨s.name.toArray⟩, .string ⟨s.suf.toArray⟩, .string ⟨s.post.toArray⟩, .int .i64 s.fr, .int .i64 s.to_, .int .i64 s.side, .int .i64 s.ax, .int .i64 s.ay, .int .i64 s.bx, .int .i64 s.by_])
            have X5 := (Ext.refl w5).alloc (.cells #[.string ⟨s.state.toArray⟩, .string ⟨s.city.toArray⟩, .string ⟨s.pre.toArray⟩, .string ⟨s.name.toArray⟩, .string ⟨s.suf.toArray⟩, .string ⟨s.post.toArray⟩, .int .i64 s.fr, .int .i64 s.to_, .int .i64 s.side, .int .i64 s.ax, .int .i64 s.ay, .int .i64 s.bx, .int .i64 s.by_] 25)
            have l13 := Nat.le_refl w5.heap.size
            clear qa la qb lb qc lc
            generalize w5.alloc (.cells #[.string ⟨s.state.toArray⟩, .string ⟨s.city.toArray⟩, .string ⟨s.pre.toArray⟩, .string ⟨s.name.toArray⟩, .string ⟨s.suf.toArray⟩, .string ⟨s.post.toArray⟩, .int .i64 s.fr, .int .i64 s.to_, .int .i64 s.side, .int .i64 s.ax, .int .i64 s.ay, .int .i64 s.bx, .int .i64 s.by_] 25) = w6 at *
            obtain ⟨g13, hg13⟩ : ∃ g, w5.heap.size = g := ⟨_, rfl⟩
            rw [hg13] at BN ⊢
            have l13' : w5.heap.size ≤ g13 := by omega
            clear hg13 l13
            go_cut [6] from 16 to 170 (fun v wx => v = .bool false ∧ Blk wx g13 25 #[.string ⟨s.state.toArray⟩, .string ⟨s.city.toArray⟩, .string ⟨s.pre.toArray⟩, .string ⟨s.name.toArray⟩, .string ⟨s.suf.toArray⟩, .string ⟨s.post.toArray⟩, .int .i64 s.fr, .int .i64 s.to_, .int .i64 s.side, .int .i64 s.bx, .int .i64 s.by_, .int .i64 s.ax, .int .i64 s.ay] ∧ Ext w5 wx)
            case first =>
              have HQ6 := Lib.hid (fun w' (hx : Ext w5 w') => (show w'.cell? ⟨g3, 9, none⟩ = some (.int .i64 s.ax) ∧ w'.cell? ⟨g3, 10, none⟩ = some (.int .i64 s.ay) ∧ w'.cell? ⟨g3, 11, none⟩ = some (.int .i64 s.bx) ∧ w'.cell? ⟨g3, 12, none⟩ = some (.int .i64 s.by_) from
                have A := (HC5.out _ hx).1
                ⟨A 9, A 10, A 11, A 12⟩))
              obtain ⟨z9, z10, z11, z12⟩ := HQ6.out _ X5
              obtain ⟨n0, n1⟩ := BN.out.cells
              have ln := BN.out.lt
              go_region_held3 (fun w' => w'.cell? ⟨g3, 9, none⟩ = some (.int .i64 s.ax) ∧ w'.cell? ⟨g3, 10, none⟩ = some (.int .i64 s.ay) ∧ w'.cell? ⟨g3, 11, none⟩ = some (.int .i64 s.bx) ∧ w'.cell? ⟨g3, 12, none⟩ = some (.int .i64 s.by_))
                (with_reducible refine HQ6.out _ ?_; repeat (first | (with_reducible assumption) | (with_reducible exact Ext.refl _) | (with_reducible refine Ext.drew ?_) | (with_reducible refine Ext.alloc ?_ _) | (with_reducible refine Ext.set ?_ (by first | exact l13' | exact Nat.le_refl _ | exact Ext.size (by assumption)) _)))
                (fail)
              all_goals go_wp2_with fail
              all_goals go_meet
              all_goals first
                | exact ⟨rfl, ((((BN.out.set_ 9 (.int .i64 s.bx)).set_ 10 (.int .i64 s.by_)).set_ 11 (.int .i64 s.ax)).set_ 12 (.int .i64 s.ay)), ((((X5.set (p := ⟨g13, 9, none⟩) l13' (.int .i64 s.bx)).set (p := ⟨g13, 10, none⟩) l13' (.int .i64 s.by_)).set (p := ⟨g13, 11, none⟩) l13' (.int .i64 s.ax)).set (p := ⟨g13, 12, none⟩) l13' (.int .i64 s.ay)).drew⟩
                | exact ⟨rfl, ((((BN.out.set_ 11 (.int .i64 s.ax)).set_ 12 (.int .i64 s.ay)).set_ 9 (.int .i64 s.bx)).set_ 10 (.int .i64 s.by_)), ((((X5.set (p := ⟨g13, 11, none⟩) l13' (.int .i64 s.ax)).set (p := ⟨g13, 12, none⟩) l13' (.int .i64 s.ay)).set (p := ⟨g13, 9, none⟩) l13' (.int .i64 s.bx)).set (p := ⟨g13, 10, none⟩) l13' (.int .i64 s.by_)).drew⟩
            case rest =>
              obtain ⟨rfl, BK, hx⟩ := hcut
              generalize hwk : wc = w7 at *
              clear hwk X5 BN
              replace BK := Lib.hid BK
              have XB := XW.out _ hx
              obtain ⟨qa, la, qb, lb, qc, lc⟩ := HC5.out _ hx
              obtain ⟨qk, _⟩ := BK.out.cells
              have lk := BK.out.lt
              replace HC5 := Lib.hid (fun w (hy : Ext w7 w) => HC5.out w (hx.trans hy))
              clear hx
              go_wp2_with fail
              refine (HB.out _ XB).mono ?_
              rintro e w8 ⟨rfl, hx⟩
              have X8 := Lib.hid (XB.trans (hx.alloc (.cells #[.int .i64 rx, .int .i64 ry] 23)))
              have BR := Blk.new w8 23 #[.int .i64 rx, .int .i64 ry]
              have Y8 := hx.alloc (.cells #[.int .i64 rx, .int .i64 ry] 23)
              clear hx qa la qb lb qc lc qk lk HB
              go_upto_region 19 with (fail)
              generalize w8.alloc (.cells #[.int .i64 rx, .int .i64 ry] 23) = w9 at *
              generalize w8.heap.size = g14 at *
              obtain ⟨qa, la, qb, lb, qc, lc⟩ := HC5.out _ Y8
              obtain ⟨qr, _⟩ := BR.cells
              have lr := BR.lt
              clear Y8 BR HC5
              cases br with
              | false =>
                obtain ⟨h1, h2⟩ := L7.out (by simp) (by simp)
                have b1 : ((s.fr + s.to_).tmod 2 == 1) = true := by rw [h1]; rfl
                have b2 : (s.side != 3) = true := by simpa using h2
                replace h1 := Lib.hid h1
                replace h2 := Lib.hid h2
                clear L7 L8
                go_wp2_with fail
                go_ret
                exact ⟨by simp, X8.out⟩
              | true =>
                by_cases hft : s.fr = s.to_
                · have b1 : (s.fr == s.to_) = true := by simp [hft]
                  replace hft := Lib.hid hft
                  clear L7 L8
                  go_wp2_with fail
                  go_ret
                  exact ⟨by simp, X8.out⟩
                · have b1 : (s.fr == s.to_) = false := by rw [beq_eq_false_iff_ne]; exact hft
                  have hp := L8.out (by simp) (by simp) hft
                  simp only [Prod.mk.injEq] at hp
                  obtain ⟨rfl, rfl⟩ := hp
                  have e1 : rx - rx = 0 := Int.sub_self _
                  have e2 : ry - ry = 0 := Int.sub_self _
                  have e3 : IntKind.i64.wrap 0 = 0 := by decide
                  replace hft := Lib.hid hft
                  clear L7 L8
                  go_wp2_with fail
                  go_ret
                  exact ⟨by simp, X8.out⟩
theorem streetBetween_any (s : Sr) (n m : Int) (W : World) (hS : Std W) : Calls Tryz.prog 5 #[srV s, .int .i64 n, .int .i64 m] W fun e w' => e = .returned (.bool true) ∧ Ext W w' := by
  by_cases h : longS [s] = true ∨ s.check ≠ 0
  · exact streetBetween_1 s n m h W hS
  · refine streetBetween_2 s n m ?_ ?_ W hS
    · cases e : longS [s] with
      | true => exact absurd (.inl e) h
      | false => rfl
    · exact Classical.byContradiction fun e => h (.inr e)
end Go.Proofs.YtjaponmpfdpemaaGreatDoor
