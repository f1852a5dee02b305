/-
  street: At (printed by tools/genLh.py).
-/
import Derived.Deep.RegionHeld3
import Derived.Test.YtjaponmpfdpemaaGreatDoorKb42
set_option linter.unusedVariables false
namespace Go.Proofs.YtjaponmpfdpemaaGreatDoor
open Go.RowKit

theorem Sr.at_no {s : Sr} {n : Int} (h : ¬ (s.check = 0 ∧ s.hasR n = true)) : s.at_ n = ((0, 0), false) := by unfold Sr.at_; rw [if_neg h]
theorem Sr.at_yes {s : Sr} {n : Int} (h : s.check = 0 ∧ s.hasR n = true) : s.at_ n = (s.place n, true) := by unfold Sr.at_; rw [if_pos h]
/-- What a place reckons with lies in its bounds. -/
structure Sr.Bd (s : Sr) (n : Int) : Prop where
  x : FlB (s.bx - s.ax) (n - s.fr) (s.to_ - s.fr)
  y : FlB (s.by_ - s.ay) (n - s.fr) (s.to_ - s.fr)
  ax : -1099511627775 ≤ s.ax ∧ s.ax ≤ 1099511627775
  ay : -1099511627775 ≤ s.ay ∧ s.ay ≤ 1099511627775
  bx : -1099511627775 ≤ s.bx ∧ s.bx ≤ 1099511627775
  by_ : -1099511627775 ≤ s.by_ ∧ s.by_ ≤ 1099511627775
  n1 : 0 ≤ n - s.fr
  n2 : n - s.fr ≤ 999998
  c1 : 0 < s.to_ - s.fr
  c2 : s.to_ - s.fr ≤ 999998
theorem Sr.bd {s : Sr} (h : s.check = 0) {n : Int} (h1 : s.fr ≤ n) (h2 : n ≤ s.to_) (hne : s.fr ≠ s.to_) : s.Bd n := by
  have hk := Sr.check_ok h
  have hn := hk.num
  have := hn.f1
  have := hn.ft
  have := hn.t9
  obtain ⟨⟨a1, a2⟩, ⟨a3, a4⟩⟩ := ptP_iff.1 hk.a
  obtain ⟨⟨b1, b2⟩, ⟨b3, b4⟩⟩ := ptP_iff.1 hk.b
  exact ⟨⟨by omega, by omega, by omega, by omega, by omega, by omega⟩, ⟨by omega, by omega, by omega, by omega, by omega, by omega⟩, ⟨a1, a2⟩, ⟨a3, a4⟩, ⟨b1, b2⟩, ⟨b3, b4⟩, by omega, by omega, by omega, by omega⟩
set_option maxRecDepth 100000 in
set_option maxHeartbeats 4000000 in
theorem srat_any (s : Sr) (h : SrS s 1000) (n : Int) (W : World) (hS : Std W) : Calls Tryz.prog 12 #[srV s, .int .i64 n] W fun e w' => e = .returned (.tuple #[ptV (s.at_ n).1, .bool (s.at_ n).2]) ∧ Ext W w' := by
  have HC := Lib.hid (fun w (hx : Ext W w) => srcheck_any s h w (hS.ext hx))
  have HH := Lib.hid (fun w (_ : Ext W w) => srhas_any s (n.tmod 2) w)
  have HNo := Lib.hid (fun h => Sr.at_no (s := s) (n := n) h)
  have HYe := Lib.hid (fun h => Sr.at_yes (s := s) (n := n) h)
  have HBd := Lib.hid (fun (h : s.check = 0) (h1 : s.fr ≤ n) (h2 : n ≤ s.to_) (hne : s.fr ≠ s.to_) => Sr.bd h h1 h2 hne)
  have HAp := Lib.hid (fun (h : s.check = 0) (h1 : s.fr ≤ n) (h2 : n ≤ s.to_) => Sr.at_prog h n h1 h2)
  have hpl : s.place n = if s.fr = s.to_ then (s.ax, s.ay) else (s.ax + (s.bx - s.ax) * (n - s.fr) / (s.to_ - s.fr), s.ay + (s.by_ - s.ay) * (n - s.fr) / (s.to_ - s.fr)) := rfl
  have hRin : s.hasR n = true → s.fr ≤ n ∧ n ≤ s.to_ := fun hh => by
    unfold Sr.hasR at hh
    simp only [Bool.and_eq_true, Bool.not_eq_true', Bool.or_eq_false_iff, decide_eq_false_iff_not] at hh
    omega
  obtain ⟨R, hR⟩ : ∃ R, s.at_ n = R := ⟨_, rfl⟩
  rw [hR] at HNo HYe ⊢
  clear hR hS h
  generalize s.place n = pl at *
  generalize s.hasR n = hr at *
  generalize s.hasQ (n.tmod 2) = hq at *
  generalize s.check = q at *
  replace hpl := Lib.hid hpl
  replace hRin := Lib.hid hRin
  simp only [srV_eq] at HC HH ⊢
  obtain ⟨zstate, zcity, zpre, zname, zsuf, zpost, zf, zt, zs, zax, zay, zbx, zby⟩ := s
  try dsimp only at *
  obtain ⟨b0, hb0⟩ : ∃ t, (q != 0) = t := ⟨_, rfl⟩
  obtain ⟨a1, ha1⟩ : ∃ t, decide (n < zf) = t := ⟨_, rfl⟩
  obtain ⟨a2, ha2⟩ : ∃ t, decide (zt < n) = t := ⟨_, rfl⟩
  obtain ⟨F1, hF1⟩ : ∃ t, (b0 || a1 || a2 || !hq) = t := ⟨_, rfl⟩
  replace hF1 := Lib.hid hF1
  have X2 := ((Ext.refl W).alloc (.cells #[.string ⟨zstate.toArray⟩, .string ⟨zcity.toArray⟩, .string ⟨zpre.toArray⟩, .string ⟨zname.toArray⟩, .string ⟨zsuf.toArray⟩, .string ⟨zpost.toArray⟩, .int .i64 zf, .int .i64 zt, .int .i64 zs, .int .i64 zax, .int .i64 zay, .int .i64 zbx, .int .i64 zby] 25)).alloc (.cells #[.int .i64 0, .int .i64 0] 23)
  have B2 := (Blk.new W 25 #[.string ⟨zstate.toArray⟩, .string ⟨zcity.toArray⟩, .string ⟨zpre.toArray⟩, .string ⟨zname.toArray⟩, .string ⟨zsuf.toArray⟩, .string ⟨zpost.toArray⟩, .int .i64 zf, .int .i64 zt, .int .i64 zs, .int .i64 zax, .int .i64 zay, .int .i64 zbx, .int .i64 zby]).alloc (.cells #[.int .i64 0, .int .i64 0] 23)
  have B4 := Blk.new (W.alloc (.cells #[.string ⟨zstate.toArray⟩, .string ⟨zcity.toArray⟩, .string ⟨zpre.toArray⟩, .string ⟨zname.toArray⟩, .string ⟨zsuf.toArray⟩, .string ⟨zpost.toArray⟩, .int .i64 zf, .int .i64 zt, .int .i64 zs, .int .i64 zax, .int .i64 zay, .int .i64 zbx, .int .i64 zby] 25)) 23 #[.int .i64 0, .int .i64 0]
  rw [show (W.alloc (.cells #[.string ⟨zstate.toArray⟩, .string ⟨zcity.toArray⟩, .string ⟨zpre.toArray⟩, .string ⟨zname.toArray⟩, .string ⟨zsuf.toArray⟩, .string ⟨zpost.toArray⟩, .int .i64 zf, .int .i64 zt, .int .i64 zs, .int .i64 zax, .int .i64 zay, .int .i64 zbx, .int .i64 zby] 25)).heap.size = W.heap.size + 1 by simp] at B4
  go_enter Tryz.func12, Tryz.ntmps12
  go_upto_region 1 with (fail)
  generalize (W.alloc (.cells #[.string ⟨zstate.toArray⟩, .string ⟨zcity.toArray⟩, .string ⟨zpre.toArray⟩, .string ⟨zname.toArray⟩, .string ⟨zsuf.toArray⟩, .string ⟨zpost.toArray⟩, .int .i64 zf, .int .i64 zt, .int .i64 zs, .int .i64 zax, .int .i64 zay, .int .i64 zbx, .int .i64 zby] 25)).alloc (.cells #[.int .i64 0, .int .i64 0] 23) = w0 at *
  have hg4 : W.heap.size ≤ W.heap.size + 1 := by omega
  have hne4 : W.heap.size + 1 ≠ W.heap.size := by omega
  generalize W.heap.size + 1 = g4 at *
  obtain ⟨ga, hga⟩ : ∃ g, W.heap.size = g := ⟨_, rfl⟩
  rw [hga] at B2 hne4 ⊢
  clear hga
  have X0 := Lib.hid X2
  have BA := Lib.hid (fun w (hx : Ext w0 w) => (show (∀ i, w.cell? ⟨ga, i, none⟩ = (#[.string ⟨zstate.toArray⟩, .string ⟨zcity.toArray⟩, .string ⟨zpre.toArray⟩, .string ⟨zname.toArray⟩, .string ⟨zsuf.toArray⟩, .string ⟨zpost.toArray⟩, .int .i64 zf, .int .i64 zt, .int .i64 zs, .int .i64 zax, .int .i64 zay, .int .i64 zbx, .int .i64 zby] : Array Value)[i]?) ∧ ga < w.heap.size ∧ (∀ i, w.frozen? ⟨ga, i, none⟩ = false) from
    have B := B2.ext hx; ⟨B.cell, B.lt, B.frozen⟩))
  have BP := Lib.hid (fun w (hx : Ext w0 w) => B4.ext hx)
  replace HC := Lib.hid (fun w (hx : Ext w0 w) => HC.out w (X2.trans hx))
  replace HH := Lib.hid (fun w (hx : Ext w0 w) => HH.out w (X2.trans hx))
  have Xw0 := Lib.hid (Ext.refl w0)
  obtain ⟨qa, la, qb⟩ := BA.out _ Xw0.out
  clear B2 B4 X2
  have hFa : F1 = false → q = 0 ∧ zf ≤ n ∧ n ≤ zt ∧ hq = true := fun hh => by
    have := hF1.out
    rw [hh] at this
    simp only [Bool.or_eq_false_iff, Bool.not_eq_false'] at this
    obtain ⟨⟨⟨e1, e2⟩, e3⟩, e4⟩ := this
    rw [e1] at hb0
    rw [e2] at ha1
    rw [e3] at ha2
    refine ⟨by simpa using hb0, ?_, ?_, e4⟩
    · have := of_decide_eq_false ha1; omega
    · have := of_decide_eq_false ha2; omega
  have hFb : F1 = true → ¬ (q = 0 ∧ hr = true) := fun hh hx => by
    obtain ⟨e0, er⟩ := hx
    obtain ⟨r1, r2⟩ := hRin.out er
    have hap := HAp.out e0 r1 r2
    have := hF1.out
    rw [hh, ← hb0, ← ha1, ← ha2, e0, ← hap, er] at this
    simp at this
    omega
  replace hFa := Lib.hid hFa
  replace hFb := Lib.hid hFb
  go_cut [31] from 10 to 31 (fun u wx => u = .bool F1 ∧ Ext w0 wx)
  case first =>
    clear hFa hFb HNo HYe HBd HAp
    go_wp2_with fail
    refine (HC.out _ Xw0.out).mono ?_
    rintro e wb0 ⟨rfl, hx⟩
    have Xwb0 := Lib.hid (Xw0.out.trans hx)
    obtain ⟨qa, la, qb⟩ := BA.out _ Xwb0.out
    clear hx
    cases b0 with
    | false =>
      cases a1 with
      | false =>
        cases a2 with
        | false =>
          go_wp2_with fail
          refine (HH.out _ Xwb0.out).mono ?_
          rintro e whq ⟨rfl, hx⟩
          have Xwhq := Lib.hid (Xwb0.out.trans hx)
          obtain ⟨qa, la, qb⟩ := BA.out _ Xwhq.out
          clear hx
          cases hq with
          | false =>
            have HE := Lib.hid (show Value.bool true = Value.bool F1 ∧ Ext w0 whq from ⟨by rw [← hF1.out]; simp, Xwhq.out⟩)
            go_wp2_with fail
            go_meet
            case rel => exact HE.out
          | true =>
            have HE := Lib.hid (show Value.bool false = Value.bool F1 ∧ Ext w0 whq from ⟨by rw [← hF1.out]; simp, Xwhq.out⟩)
            go_wp2_with fail
            go_meet
            case rel => exact HE.out
        | true =>
          have HE := Lib.hid (show Value.bool true = Value.bool F1 ∧ Ext w0 wb0 from ⟨by rw [← hF1.out]; simp, Xwb0.out⟩)
          go_wp2_with fail
          go_meet
          case rel => exact HE.out
      | true =>
        have HE := Lib.hid (show Value.bool true = Value.bool F1 ∧ Ext w0 wb0 from ⟨by rw [← hF1.out]; simp, Xwb0.out⟩)
        go_wp2_with fail
        go_meet
        case rel => exact HE.out
    | true =>
      have HE := Lib.hid (show Value.bool true = Value.bool F1 ∧ Ext w0 wb0 from ⟨by rw [← hF1.out]; simp, Xwb0.out⟩)
      go_wp2_with fail
      go_meet
      case rel => exact HE.out
  case rest =>
    obtain ⟨rfl, hx⟩ := hcut
    have Xwc := Lib.hid hx
    clear hx qa la qb Xw0 HC HH
    obtain ⟨qa, la, qb⟩ := BA.out _ Xwc.out
    cases F1 with
    | true =>
      have hQ := Lib.hid (HNo.out (hFb.out rfl))
      clear HNo HYe HBd HAp hFa hFb
      have BE := Lib.hid (pt_set (BP.out _ Xwc.out) (.int .i64 0) (.int .i64 0))
      have XE := Lib.hid (((X0.out.trans Xwc.out).set (p := ⟨g4, 0, none⟩) hg4 (.int .i64 0)).set (p := ⟨g4, 1, none⟩) hg4 (.int .i64 0))
      obtain ⟨p4, p4'⟩ := (BP.out _ Xwc.out).cells
      have l4 := (BP.out _ Xwc.out).lt
      go_wp2_with fail
      exact bodyPost_ret (results_ct rfl rfl (ld_pt BE.out)) rfl ⟨by rw [hQ.out]; rfl, XE.out⟩
    | false =>
      obtain ⟨e0, n1, n2, eq_⟩ := hFa.out rfl
      have hap := HAp.out e0 n1 n2
      have hQ := Lib.hid (HYe.out ⟨e0, by rw [hap]; exact eq_⟩)
      have hBd2 := Lib.hid (HBd.out e0 n1 n2)
      clear HNo HYe HBd HAp hFa hFb hap e0 eq_ hF1
      by_cases hz : zf = zt
      · have hpl2 := hpl.out
        rw [if_pos hz] at hpl2
        subst hpl2
        subst hz
        have dz : (zf == zf) = true := by simp
        clear hBd2 hpl n1 n2
        have BE := Lib.hid (pt_set (BP.out _ Xwc.out) (.int .i64 zax) (.int .i64 zay))
        have XE := Lib.hid (((X0.out.trans Xwc.out).set (p := ⟨g4, 0, none⟩) hg4 (.int .i64 zax)).set (p := ⟨g4, 1, none⟩) hg4 (.int .i64 zay))
        obtain ⟨p4, p4'⟩ := (BP.out _ Xwc.out).cells
        have l4 := (BP.out _ Xwc.out).lt
        go_wp2_with fail
        exact bodyPost_ret (results_ct rfl rfl (ld_pt BE.out)) rfl ⟨by rw [hQ.out]; rfl, XE.out⟩
      · have hpl2 := hpl.out
        rw [if_neg hz] at hpl2
        have hB := hBd2.out hz
        have HFx := Lib.hid (fun w => wfl_any hB.x w)
        have HFy := Lib.hid (fun w => wfl_any hB.y w)
        obtain ⟨v1, v2⟩ := hB.x.val
        obtain ⟨v3, v4⟩ := hB.y.val
        obtain ⟨x1, x2⟩ := hB.ax
        obtain ⟨x3, x4⟩ := hB.ay
        obtain ⟨x5, x6⟩ := hB.bx
        obtain ⟨x7, x8⟩ := hB.by_
        have m1 := hB.n1
        have m2 := hB.n2
        have m3 := hB.c1
        have m4 := hB.c2
        clear hB hBd2 hpl
        dsimp only at *
        have dz : (zf == zt) = false := by rw [beq_eq_false_iff_ne]; exact hz
        have e1 : IntKind.i64.wrap (zbx - zax) = zbx - zax := by rw [IntKind.wrap_i64]; omega
        have e2 : IntKind.i64.wrap (zby - zay) = zby - zay := by rw [IntKind.wrap_i64]; omega
        have e3 : IntKind.i64.wrap (n - zf) = n - zf := by rw [IntKind.wrap_i64]; omega
        have e4 : IntKind.i64.wrap (zt - zf) = zt - zf := by rw [IntKind.wrap_i64]; omega
        generalize (zbx - zax) * (n - zf) / (zt - zf) = qx at *
        generalize (zby - zay) * (n - zf) / (zt - zf) = qy at *
        have e5 : IntKind.i64.wrap (zax + qx) = zax + qx := by rw [IntKind.wrap_i64]; omega
        have e6 : IntKind.i64.wrap (zay + qy) = zay + qy := by rw [IntKind.wrap_i64]; omega
        subst hpl2
        clear v1 v2 v3 v4 x1 x2 x3 x4 x5 x6 x7 x8 m1 m2 m3 m4 hz n1 n2
        go_wp2_with fail
        refine (HFx.out _).mono ?_
        rintro e w5 ⟨rfl, hx5⟩
        have X5 := Lib.hid (Xwc.out.trans hx5)
        clear hx5 qa la qb HFx
        obtain ⟨qa, la, qb⟩ := BA.out _ X5.out
        go_wp2_with fail
        refine (HFy.out _).mono ?_
        rintro e w6 ⟨rfl, hx6⟩
        have X6 := Lib.hid (X5.out.trans hx6)
        clear hx6 qa la qb HFy
        obtain ⟨qa, la, qb⟩ := BA.out _ X6.out
        have BE := Lib.hid (pt_set (BP.out _ X6.out) (.int .i64 (zax + qx)) (.int .i64 (zay + qy)))
        have XE := Lib.hid (((X0.out.trans X6.out).set (p := ⟨g4, 0, none⟩) hg4 (.int .i64 (zax + qx))).set (p := ⟨g4, 1, none⟩) hg4 (.int .i64 (zay + qy)))
        obtain ⟨p4, p4'⟩ := (BP.out _ X6.out).cells
        have l4 := (BP.out _ X6.out).lt
        go_wp2_with fail
        exact bodyPost_ret (results_ct rfl rfl (ld_pt BE.out)) rfl ⟨by rw [hQ.out]; rfl, XE.out⟩
end Go.Proofs.YtjaponmpfdpemaaGreatDoor
