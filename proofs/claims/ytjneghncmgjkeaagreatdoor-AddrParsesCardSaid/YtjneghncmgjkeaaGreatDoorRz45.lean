/-
  apportionref17: Parse, the city and the name (printed by tools/genIf.py).
-/
import Derived.Deep.RegionHeld3
import Derived.Test.YtjneghncmgjkeaaGreatDoorRz44
set_option linter.unusedVariables false
namespace Go.Proofs.YtjneghncmgjkeaaGreatDoor
open Go.RowKit

set_option maxRecDepth 100000 in
set_option maxHeartbeats 4000000 in
theorem rpa22 (W wp w : World) (g2 g3 g9 gO cO L : Nat) (a : Ad) (ps : List (List Tok)) (r : Ad × Int × Int) (S : RpAt W wp w g2 g3 g9 a) (P : PtsAt wp gO ps) (M : Nat) (hM : L = M + 1) (hL3 : L ≤ 3) (hL : L < ps.length) (h0 : 0 < (ps.getD L []).length) (hr : r = rqC a (ps.getD M []) (ps.getD L []) (L : Int)) (hm0 : a.more = []) (hc0 : a.city = []) ⦃u0 u1 u4 u5 u7 u10 u11 u12 u13 u19 u20 u21 u22 u23 u24 u25 u26 u27 u28 u29 u30 u31 u32 u33 u34 u35 u36 u37 u38 u39 u40 u41 u42 u43 u44 u45 u46 u47 u48 u49 u50 u51 u52 u53 u54 u55 u56 u57 u58 u59 u60 u61 u62 u63 u64 u65 u66 u67 u68 u69 u70 u71 u72 u73 u74 u75 u76 u77 u78 u79 u80 u81 u82 u83 u84 u85 u86 u87 u88 u89 u90 u91 u92 u93 u94 u95 u96 u97 u98 u99 u100 u101 u102 u103 u104 u105 u106 u107 u108 u109 u110 u111 u112 u113 u114 : Value⦄ : KF1 Tryz.prog (bodyPost Tryz.prog Tryz.f11 (PsR W r)) ⟨#[u0, u1, .pointer (some ⟨g2, 0, none⟩), .pointer (some ⟨g3, 0, none⟩), u4, u5, .slice (some ⟨gO, 0, none⟩) ps.length cO, u7, .int .i64 (L : Int), .pointer (some ⟨g9, 0, none⟩), u10, u11, u12, u13, undef, undef, undef, undef, undef, u19, u20, u21, u22, u23, u24, u25, u26, u27, u28, u29, u30, u31, u32, u33, u34, u35, u36, u37, u38, u39, u40, u41, u42, u43, u44, u45, u46, u47, u48, u49, u50, u51, u52, u53, u54, u55, u56, u57, u58, u59, u60, u61, u62, u63, u64, u65, u66, u67, u68, u69, u70, u71, u72, u73, u74, u75, u76, u77, u78, u79, u80, u81, u82, u83, u84, u85, u86, u87, u88, u89, u90, u91, u92, u93, u94, u95, u96, u97, u98, u99, u100, u101, u102, u103, u104, u105, u106, u107, u108, u109, u110, u111, u112, u113, u114, undef, undef, undef, undef, undef, undef, undef, undef, undef, undef, undef, undef, undef, undef, undef, undef, undef, undef, undef, undef, undef, undef, undef, undef, undef, undef, undef, undef, undef, undef, undef, undef, undef, undef, undef, undef, undef, undef, undef, undef, undef, undef, undef, undef, undef, undef, undef, undef, undef, undef, undef, undef, undef, undef, undef, undef, undef, undef, undef, undef, undef, undef, undef, undef, undef, undef, undef, undef, undef, undef, undef, undef, undef, undef, undef, undef, undef, undef, undef, undef, undef, undef, undef, undef, undef, undef, undef, undef, undef, undef, undef, undef, undef], []⟩ w (rpaAt1 22) := by
  obtain ⟨zn, zh, zpre, zname, zsuf, zpost, zunit, zcity, zstate, zzip, zmore⟩ := a
  have S0 := Lib.hid S
  dsimp only at hm0 hc0
  subst hm0 hc0
  have H26 := Lib.hid (fun (w' : World) (cx : Bs) (S' : RpAt W wp w' g2 g3 g9 ⟨zn, zh, zpre, zname, zsuf, zpost, zunit, cx, zstate, zzip, []⟩) => fun (hr' : r = rqZ ⟨zn, zh, zpre, zname, zsuf, zpost, zunit, cx, zstate, zzip, []⟩ (ps.getD L []) (L : Int)) => rpa26 W wp w' g2 g3 g9 gO cO L _ ps r S' P hL h0 hr' rfl)
  obtain ⟨A, c, q5, T⟩ := P.get (i := M) (by omega)
  have lO := P.lt
  unfold rqC at hr
  dsimp only at hr
  generalize ps.getD L [] = pl at *
  generalize ps.getD M [] = ct at *
  have h40 := T.l40
  have HX := Lib.hid (fun w' (hx : Ext wp w') => (show w'.cell? ⟨gO, M, none⟩ = some (.slice A ct.length c) ∧ gO < w'.heap.size from ⟨(hx.cell _ _ none lO).trans q5, Nat.lt_of_lt_of_le lO hx.size⟩))
  have HT := Lib.hid (fun w' (hx : Ext wp w') => rtexts_any ct A ct.length c w' (T.ext hx))
  have HK := Lib.hid (fun w' (hx : Ext wp w') => rkinds_any ct A ct.length c 1 w' (T.ext hx))
  have ew : IntKind.i64.wrap ((L : Int) - 1) = (M : Int) := by rw [IntKind.wrap_i64]; omega
  have L0 : (0 : Int) ≤ (M : Int) := by omega
  have L1 : (M : Int) < (ps.length : Int) := by omega
  have hLM := Lib.hid (show (L : Int) - 1 = (M : Int) by omega)
  obtain ⟨cx, hcx⟩ : ∃ cx, textsP ct = cx := ⟨_, rfl⟩
  rw [hcx] at hr
  simp only [hcx] at HT
  obtain ⟨al, hal⟩ : ∃ t, (ct.all fun t => t.k == 1) = t := ⟨_, rfl⟩
  rw [hal] at hr
  simp only [hal] at HK
  obtain ⟨t8, ht8⟩ : ∃ t, decide (8 < ct.length) = t := ⟨_, rfl⟩
  have ht8' : decide ((8 : Int) < (ct.length : Int)) = t8 := by rw [← ht8, decide_eq_decide]; omega
  obtain ⟨t9, ht9⟩ : ∃ t, decide (40 < cx.length) = t := ⟨_, rfl⟩
  have ht9' : decide ((40 : Int) < (cx.length : Int)) = t9 := by rw [← ht9, decide_eq_decide]; omega
  have hFE : (al = false ∨ 8 < ct.length ∨ 40 < cx.length) ↔ (!al || t8 || t9) = true := by
    rw [← ht8, ← ht9]
    cases al <;> simp
  obtain ⟨F1, hF1⟩ : ∃ F, (!al || t8 || t9) = F := ⟨_, rfl⟩
  rw [hF1] at hFE
  replace hF1 := Lib.hid hF1
  replace hFE := Lib.hid hFE
  replace hr := Lib.hid hr
  replace hcx := Lib.hid hcx
  replace hal := Lib.hid hal
  replace hM := Lib.hid hM
  obtain ⟨k1, k2⟩ := HX.out _ S.ext
  clear S P T h0 hL q5 lO
  conv => arg 5; whnf
  conv => arg 5; arg 1; whnf
  conv => arg 5; arg 2; whnf
  unfold KF1
  dsimp only
  intro K1 hK1
  go_wp2_with fail
  refine (HT.out _ S0.out.ext).mono ?_
  rintro e w1 ⟨rfl, hx1⟩
  have B := (S0.out.to hx1).b
  have lb := B.lt
  have S1 := Lib.hid ((S0.out.to hx1).put 7 (.string ⟨cx.toArray⟩) (b := ⟨zn, zh, zpre, zname, zsuf, zpost, zunit, cx, zstate, zzip, []⟩) rfl)
  unfold adC at B
  dsimp only at B
  obtain ⟨s0, s1⟩ := B.cells
  clear B hx1 S0 HT k1 k2
  go_upto_region 23 with (fail)
  clear s0 s1 lb
  generalize w1.setCell ⟨g9, 7, none⟩ (.string ⟨cx.toArray⟩) = w2 at *
  obtain ⟨k1, k2⟩ := HX.out _ S1.out.ext
  go_wp2_with fail
  refine (HK.out _ S1.out.ext).mono ?_
  rintro e w3 ⟨rfl, hx3⟩
  have S2 := Lib.hid (S1.out.to hx3)
  clear hx3 S1 HK k1 k2
  obtain ⟨k1, k2⟩ := HX.out _ S2.out.ext
  have B := S2.out.b
  have lb := B.lt
  unfold adC at B
  dsimp only at B
  obtain ⟨s0, s1⟩ := B.cells
  clear B
  go_upto_region 24 with (fail)
  go_cut [147] from 131 to 147 (fun u wx => u = .bool F1 ∧ wx = w3)
  case first =>
    cases al with
    | false =>
      have HE := Lib.hid (show Value.bool true = Value.bool F1 by rw [← hF1.out]; simp)
      go_wp2_with fail
      go_meet
      case rel => exact ⟨HE.out, rfl⟩
    | true =>
      cases t8 with
      | false =>
        cases t9 with
        | false =>
          have HE := Lib.hid (show Value.bool false = Value.bool F1 by rw [← hF1.out]; simp)
          go_wp2_with fail
          go_meet
          case rel => exact ⟨HE.out, rfl⟩
        | true =>
          have HE := Lib.hid (show Value.bool true = Value.bool F1 by rw [← hF1.out]; simp)
          go_wp2_with fail
          go_meet
          case rel => exact ⟨HE.out, rfl⟩
      | true =>
        have HE := Lib.hid (show Value.bool true = Value.bool F1 by rw [← hF1.out]; simp)
        go_wp2_with fail
        go_meet
        case rel => exact ⟨HE.out, rfl⟩
  case rest =>
    obtain ⟨rfl, hwc⟩ := hcut
    subst hwc
    clear k1 k2 s0 s1 lb
    cases F1 with
    | true =>
      have eat : IntKind.i64.wrap ((L : Int) - 1) = (M : Int) := ew
      have hQ := Lib.hid (show r = (Ad.zero, 274, (M : Int)) by rw [hr.out, if_pos (hFE.out.2 rfl), hLM.out]; rfl)
      go_wp2_with fail
      refine (rfault_any 274 (M : Int) _).mono ?_
      rintro e wf ⟨rfl, hxf⟩
      have SF := ((S2.out).to hxf)
      clear hxf
      have E2 := SF.r2.ext SF.ext
      have E3 := SF.r3.ext SF.ext
      have hne23 : g2 ≠ g3 := E2.ne_ E3 (by decide)
      obtain ⟨A1, A2, A3⟩ := rp_end (SF.x0.trans SF.ext) E2 E3 SF.l2 SF.l3 Ad.zero 274 (M : Int)
      replace A1 := Lib.hid A1
      replace A2 := Lib.hid A2
      replace A3 := Lib.hid A3
      replace SF := Lib.hid SF
      unfold adC Ad.zero at E2
      dsimp only at E2
      obtain ⟨p0, p1⟩ := E2.cells
      obtain ⟨q0, q1⟩ := E3.cells
      have e2 := E2.lt
      have e3 := E3.lt
      clear E2 E3
      try rw [adV_eq]
      try unfold Ad.zero
      try dsimp only
      go_wp2_with fail
      exact bodyPost_ret (results_cc rfl rfl (ld_ad A1.out) rfl (ld_fault A2.out)) rfl ⟨by rw [hQ.out], A3.out⟩
    | false =>
      have hr2 := hr.out
      rw [if_neg (fun h => by have := hFE.out.1 h; cases this)] at hr2
      have HN := H26.out _ cx S2.out hr2
      replace HN := Lib.hid HN
      go_upto_region 26 with (fail)
      exact HN.out _ (by assumption)
set_option maxRecDepth 100000 in
set_option maxHeartbeats 4000000 in
theorem rpa19 (W wp w : World) (g2 g3 g9 gO cO L : Nat) (a : Ad) (ps : List (List Tok)) (r : Ad × Int × Int) (S : RpAt W wp w g2 g3 g9 a) (P : PtsAt wp gO ps) (A : Option Addr) (c : Nat) (nm : List Tok) (T : TokS wp A nm.length c nm) (M : Nat) (hM : L = M + 1) (hL3 : L ≤ 3) (hL : L < ps.length) (h0 : 0 < (ps.getD L []).length) (hr : r = rqN a nm (ps.getD M []) (ps.getD L []) (L : Int)) (hm0 : a.more = []) (hc0 : a.city = []) ⦃u0 u1 u4 u5 u7 u11 u19 u20 u21 u22 u23 u24 u25 u26 u27 u28 u29 u30 u31 u32 u33 u34 u35 u36 u37 u38 u39 u40 u41 u42 u43 u44 u45 u46 u47 u48 u49 u50 u51 u52 u53 u54 u55 u56 u57 u58 u59 u60 u61 u62 u63 u64 u65 u66 u67 u68 u69 u70 u71 u72 u73 u74 u75 u76 u77 u78 u79 u80 u81 u82 u83 u84 u85 u86 u87 u88 u89 u90 : Value⦄ : KF1 Tryz.prog (bodyPost Tryz.prog Tryz.f11 (PsR W r)) ⟨#[u0, u1, .pointer (some ⟨g2, 0, none⟩), .pointer (some ⟨g3, 0, none⟩), u4, u5, .slice (some ⟨gO, 0, none⟩) ps.length cO, u7, .int .i64 (L : Int), .pointer (some ⟨g9, 0, none⟩), .slice A nm.length c, u11, undef, undef, undef, undef, undef, undef, undef, u19, u20, u21, u22, u23, u24, u25, u26, u27, u28, u29, u30, u31, u32, u33, u34, u35, u36, u37, u38, u39, u40, u41, u42, u43, u44, u45, u46, u47, u48, u49, u50, u51, u52, u53, u54, u55, u56, u57, u58, u59, u60, u61, u62, u63, u64, u65, u66, u67, u68, u69, u70, u71, u72, u73, u74, u75, u76, u77, u78, u79, u80, u81, u82, u83, u84, u85, u86, u87, u88, u89, u90, undef, undef, undef, undef, undef, undef, undef, undef, undef, undef, undef, undef, undef, undef, undef, undef, undef, undef, undef, undef, undef, undef, undef, undef, undef, undef, undef, undef, undef, undef, undef, undef, undef, undef, undef, undef, undef, undef, undef, undef, undef, undef, undef, undef, undef, undef, undef, undef, undef, undef, undef, undef, undef, undef, undef, undef, undef, undef, undef, undef, undef, undef, undef, undef, undef, undef, undef, undef, undef, undef, undef, undef, undef, undef, undef, undef, undef, undef, undef, undef, undef, undef, undef, undef, undef, undef, undef, undef, undef, undef, undef, undef, undef, undef, undef, undef, undef, undef, undef, undef, undef, undef, undef, undef, undef, undef, undef, undef, undef, undef, undef, undef, undef, undef, undef, undef, undef], []⟩ w (rpaAt1 19) := by
  have S0 := Lib.hid S
  have H22 := Lib.hid (fun (w' : World) (S' : RpAt W wp w' g2 g3 g9 a) => fun (hr' : r = rqC a (ps.getD M []) (ps.getD L []) (L : Int)) => rpa22 W wp w' g2 g3 g9 gO cO L a ps r S' P M hM hL3 hL h0 hr' hm0 hc0)
  unfold rqN at hr
  have h40 := T.l40
  have HK := Lib.hid (rkinds_any nm A nm.length c 5 w (T.ext S.ext))
  obtain ⟨od, hod⟩ : ∃ t, (nm.any fun t => t.k == 5) = t := ⟨_, rfl⟩
  rw [hod] at hr HK
  obtain ⟨t0, ht0⟩ : ∃ t, decide (nm.length = 0) = t := ⟨_, rfl⟩
  have ht0' : ((nm.length : Int) == 0) = t0 := by
    rw [← ht0]
    by_cases h : nm.length = 0
    · rw [decide_eq_true h, h]; rfl
    · rw [decide_eq_false h, beq_eq_false_iff_ne]; omega
  obtain ⟨t8, ht8⟩ : ∃ t, decide (8 < nm.length) = t := ⟨_, rfl⟩
  have ht8' : decide ((8 : Int) < (nm.length : Int)) = t8 := by rw [← ht8, decide_eq_decide]; omega
  obtain ⟨t9, ht9⟩ : ∃ t, decide (40 < a.name.length) = t := ⟨_, rfl⟩
  have ht9' : decide ((40 : Int) < (a.name.length : Int)) = t9 := by rw [← ht9, decide_eq_decide]; omega
  have hFE : (nm.length = 0 ∨ od = true ∨ 8 < nm.length ∨ 40 < a.name.length) ↔ (t0 || od || t8 || t9) = true := by
    rw [← ht0, ← ht8, ← ht9]
    simp [or_assoc]
  obtain ⟨F1, hF1⟩ : ∃ F, (t0 || od || t8 || t9) = F := ⟨_, rfl⟩
  rw [hF1] at hFE
  replace hF1 := Lib.hid hF1
  replace hFE := Lib.hid hFE
  replace hr := Lib.hid hr
  replace hod := Lib.hid hod
  replace ht0 := Lib.hid ht0
  clear S P T h0 hL hm0 hc0 hM
  obtain ⟨zn, zh, zpre, zname, zsuf, zpost, zunit, zcity, zstate, zzip, zmore⟩ := a
  dsimp only at *
  conv => arg 5; whnf
  conv => arg 5; arg 1; whnf
  conv => arg 5; arg 2; whnf
  unfold KF1
  dsimp only
  intro K1 hK1
  go_wp2_with fail
  refine HK.out.mono ?_
  rintro e w1 ⟨rfl, hx1⟩
  have S1 := Lib.hid (S0.out.to hx1)
  clear hx1 S0 HK
  have B := S1.out.b
  have lb := B.lt
  unfold adC at B
  dsimp only at B
  obtain ⟨s0, s1⟩ := B.cells
  clear B
  go_upto_region 20 with (fail)
  go_cut [111] from 95 to 111 (fun u wx => u = .bool F1 ∧ wx = w1)
  case first =>
    cases t0 with
    | false =>
      cases od with
      | false =>
        cases t8 with
        | false =>
          cases t9 with
          | false =>
            have HE := Lib.hid (show Value.bool false = Value.bool F1 by rw [← hF1.out]; simp)
            go_wp2_with fail
            go_meet
            case rel => exact ⟨HE.out, rfl⟩
          | true =>
            have HE := Lib.hid (show Value.bool true = Value.bool F1 by rw [← hF1.out]; simp)
            go_wp2_with fail
            go_meet
            case rel => exact ⟨HE.out, rfl⟩
        | true =>
          have HE := Lib.hid (show Value.bool true = Value.bool F1 by rw [← hF1.out]; simp)
          go_wp2_with fail
          go_meet
          case rel => exact ⟨HE.out, rfl⟩
      | true =>
        have HE := Lib.hid (show Value.bool true = Value.bool F1 by rw [← hF1.out]; simp)
        go_wp2_with fail
        go_meet
        case rel => exact ⟨HE.out, rfl⟩
    | true =>
      have HE := Lib.hid (show Value.bool true = Value.bool F1 by rw [← hF1.out]; simp)
      go_wp2_with fail
      go_meet
      case rel => exact ⟨HE.out, rfl⟩
  case rest =>
    obtain ⟨rfl, hwc⟩ := hcut
    subst hwc
    clear s0 s1 lb
    cases F1 with
    | true =>
      have hQ := Lib.hid (show r = (Ad.zero, 273, 0) by rw [hr.out, if_pos (hFE.out.2 rfl)]; rfl)
      go_wp2_with fail
      refine (rfault_any 273 0 _).mono ?_
      rintro e wf ⟨rfl, hxf⟩
      have SF := ((S1.out).to hxf)
      clear hxf
      have E2 := SF.r2.ext SF.ext
      have E3 := SF.r3.ext SF.ext
      have hne23 : g2 ≠ g3 := E2.ne_ E3 (by decide)
      obtain ⟨A1, A2, A3⟩ := rp_end (SF.x0.trans SF.ext) E2 E3 SF.l2 SF.l3 Ad.zero 273 0
      replace A1 := Lib.hid A1
      replace A2 := Lib.hid A2
      replace A3 := Lib.hid A3
      replace SF := Lib.hid SF
      unfold adC Ad.zero at E2
      dsimp only at E2
      obtain ⟨p0, p1⟩ := E2.cells
      obtain ⟨q0, q1⟩ := E3.cells
      have e2 := E2.lt
      have e3 := E3.lt
      clear E2 E3
      try rw [adV_eq]
      try unfold Ad.zero
      try dsimp only
      go_wp2_with fail
      exact bodyPost_ret (results_cc rfl rfl (ld_ad A1.out) rfl (ld_fault A2.out)) rfl ⟨by rw [hQ.out], A3.out⟩
    | false =>
      have hr2 := hr.out
      rw [if_neg (fun h => by have := hFE.out.1 h; cases this)] at hr2
      have HN := H22.out _ S1.out hr2
      replace HN := Lib.hid HN
      go_upto_region 22 with (fail)
      exact HN.out _ (by assumption)
end Go.Proofs.YtjneghncmgjkeaaGreatDoor

set_option linter.unusedVariables false
namespace Go.Proofs.YtjneghncmgjkeaaGreatDoor
open Go.RowKit

theorem sl_ne (b o n c : Nat) (w : World) : (binOp .neq 51 (.slice (some ⟨b, o, none⟩) n c) (.slice none 0 0)).run Tryz.prog w = .ok (.bool true) w := by
  have e : (Op.equal 51 (Value.slice (some ⟨b, o, none⟩) n c) (Value.slice none 0 0)).run Tryz.prog w = .ok false w := by
    kernel_rfl
  simp [go_sem, binOp, e]
theorem sl_nn (w : World) : (binOp .neq 51 (.slice none 0 0) (.slice none 0 0)).run Tryz.prog w = .ok (.bool false) w := by
  kernel_rfl
set_option maxRecDepth 100000 in
set_option maxHeartbeats 4000000 in
theorem rpa15 (W wp w : World) (g2 g3 g9 gO cO L : Nat) (a : Ad) (ps : List (List Tok)) (r : Ad × Int × Int) (S : RpAt W wp w g2 g3 g9 a) (P : PtsAt wp gO ps) (A : Option Addr) (c : Nat) (nm : List Tok) (T : TokS wp A nm.length c nm) (uV : Value) (inT : Option (List Tok)) (I : InIs wp wp.heap.size uV inT) (M : Nat) (hM : L = M + 1) (hL3 : L ≤ 3) (hL : L < ps.length) (h0 : 0 < (ps.getD L []).length) (hun : inT = none → a.unit = []) (hr : r = rqU a nm (ps.getD M []) (ps.getD L []) inT (L : Int)) (hm0 : a.more = []) (hc0 : a.city = []) ⦃u0 u1 u4 u5 u7 u19 u20 u21 u22 u23 u24 u25 u26 u27 u28 u29 u30 u31 u32 u33 u34 u35 u36 u37 u38 u39 u40 u41 u42 u43 u44 u45 u46 u47 u48 u49 u50 u51 u52 u53 u54 u55 u56 u57 u58 u59 u60 u61 u62 u63 u64 u65 u66 u67 u68 : Value⦄ : KF2 Tryz.prog (bodyPost Tryz.prog Tryz.f11 (PsR W r)) ⟨#[u0, u1, .pointer (some ⟨g2, 0, none⟩), .pointer (some ⟨g3, 0, none⟩), u4, u5, .slice (some ⟨gO, 0, none⟩) ps.length cO, u7, .int .i64 (L : Int), .pointer (some ⟨g9, 0, none⟩), .slice A nm.length c, uV, undef, undef, undef, undef, undef, undef, undef, u19, u20, u21, u22, u23, u24, u25, u26, u27, u28, u29, u30, u31, u32, u33, u34, u35, u36, u37, u38, u39, u40, u41, u42, u43, u44, u45, u46, u47, u48, u49, u50, u51, u52, u53, u54, u55, u56, u57, u58, u59, u60, u61, u62, u63, u64, u65, u66, u67, u68, undef, undef, undef, undef, undef, undef, undef, undef, undef, undef, undef, undef, undef, undef, undef, undef, undef, undef, undef, undef, undef, undef, undef, undef, undef, undef, undef, undef, undef, undef, undef, undef, undef, undef, undef, undef, undef, undef, undef, undef, undef, undef, undef, undef, undef, undef, undef, undef, undef, undef, undef, undef, undef, undef, undef, undef, undef, undef, undef, undef, undef, undef, undef, undef, undef, undef, undef, undef, undef, undef, undef, undef, undef, undef, undef, undef, undef, undef, undef, undef, undef, undef, undef, undef, undef, undef, undef, undef, undef, undef, undef, undef, undef, undef, undef, undef, undef, undef, undef, undef, undef, undef, undef, undef, undef, undef, undef, undef, undef, undef, undef, undef, undef, undef, undef, undef, undef, undef, undef, undef, undef, undef, undef, undef, undef, undef, undef, undef, undef, undef, undef, undef, undef, undef, undef, undef, undef, undef, undef], []⟩ w (rpaAt2 15) := by
  obtain ⟨zn, zh, zpre, zname, zsuf, zpost, zunit, zcity, zstate, zzip, zmore⟩ := a
  have S0 := Lib.hid S
  dsimp only at hm0 hc0 hun
  subst hm0 hc0
  have H19 := Lib.hid (fun (u : Bs) (w' : World) (S' : RpAt W wp w' g2 g3 g9 ⟨zn, zh, zpre, zname, zsuf, zpost, u, [], zstate, zzip, []⟩) => fun (hr' : r = rqN ⟨zn, zh, zpre, zname, zsuf, zpost, u, [], zstate, zzip, []⟩ nm (ps.getD M []) (ps.getD L []) (L : Int)) => rpa19 W wp w' g2 g3 g9 gO cO L _ ps r S' P A c nm T M hM hL3 hL h0 hr' rfl rfl)
  unfold rqU at hr
  conv => arg 5; whnf
  conv => arg 5; arg 1; whnf
  conv => arg 5; arg 2; whnf
  conv => arg 5; arg 2; arg 1; whnf
  conv => arg 5; arg 2; arg 2; whnf
  unfold KF2
  dsimp only
  intro K1 hK1 K2 hK2
  cases inT with
  | none =>
    have hu0 := hun rfl
    subst hu0
    obtain rfl : uV = .slice none 0 0 := I
    rw [if_neg (by simp)] at hr
    have HN := Lib.hid (H19.out [] w S hr)
    clear S P T hr H19 hun h0 hL hM S0
    have hnn := sl_nn
    go_upto_region 19 with (fail)
    exact HN.out _ (by assumption)
  | some u =>
    obtain ⟨Au, un, uc, rfl, TU, hu0, hub⟩ := I
    obtain rfl := TU.len
    have hu40 := TU.l40
    simp only [Option.any_some] at hr
    have HU := Lib.hid (fun w' (hx : Ext wp w') => runit_any u Au u.length uc w' (TU.ext hx))
    have HV := Lib.hid (fun w' (hx : Ext wp w') => runitText_any u Au u.length uc w' (TU.ext hx))
    obtain ⟨ut, hut⟩ : ∃ t, (unitP u).1 = t := ⟨_, rfl⟩
    obtain ⟨ub, hub'⟩ : ∃ t, (unitP u).2 = t := ⟨_, rfl⟩
    simp only [hut, hub'] at hr HU HV
    have ew2 : IntKind.i64.wrap ((L : Int) - 2) = (L : Int) - 2 := by rw [IntKind.wrap_i64]; omega
    obtain ⟨b, o, rfl, _, _⟩ := TU.at_ (k := 0) hu0
    have hnn := sl_ne b o u.length uc
    cases ub with
    | false =>
      rw [Bool.not_false, Bool.true_or, if_pos rfl] at hr
      replace hr := Lib.hid hr
      clear S P T h0 hL hM hun H19 HV hub TU
      go_wp2_with fail
      refine (HU.out _ S0.out.ext).mono ?_
      rintro e w1 ⟨rfl, hx1⟩
      have S1 := Lib.hid (S0.out.to hx1)
      clear hx1 S0 HU
      have hQ := Lib.hid (show r = (Ad.zero, 272, ((L : Int) - 2)) by rw [hr.out]; rfl)
      go_wp2_with fail
      refine (rfault_any 272 ((L : Int) - 2) _).mono ?_
      rintro e wf ⟨rfl, hxf⟩
      have SF := ((S1.out).to hxf)
      clear hxf
      have E2 := SF.r2.ext SF.ext
      have E3 := SF.r3.ext SF.ext
      have hne23 : g2 ≠ g3 := E2.ne_ E3 (by decide)
      obtain ⟨A1, A2, A3⟩ := rp_end (SF.x0.trans SF.ext) E2 E3 SF.l2 SF.l3 Ad.zero 272 ((L : Int) - 2)
      replace A1 := Lib.hid A1
      replace A2 := Lib.hid A2
      replace A3 := Lib.hid A3
      replace SF := Lib.hid SF
      unfold adC Ad.zero at E2
      dsimp only at E2
      obtain ⟨p0, p1⟩ := E2.cells
      obtain ⟨q0, q1⟩ := E3.cells
      have e2 := E2.lt
      have e3 := E3.lt
      clear E2 E3
      try rw [adV_eq]
      try unfold Ad.zero
      try dsimp only
      go_wp2_with fail
      exact bodyPost_ret (results_cc rfl rfl (ld_ad A1.out) rfl (ld_fault A2.out)) rfl ⟨by rw [hQ.out], A3.out⟩
    | true =>
      have hl2 : u.length = 2 := by
        by_cases h2 : u.length = 2
        · exact h2
        · rw [unitP_len h2] at hub'; cases hub'
      obtain ⟨b', o', e', hb, t0, t1⟩ := TU.at_ (k := 1) (by omega)
      injection e' with e'
      injection e' with e1 e2 _
      subst e1 e2
      simp only [Nat.one_mul] at t0 t1
      have hgd : u.getD 1 ⟨0, []⟩ = u[1] := by rw [List.getD_eq_getElem?_getD, List.getElem?_eq_getElem (by omega)]; rfl
      rw [hgd, Bool.not_true, Bool.false_or] at hr
      obtain ⟨tl, htl⟩ : ∃ n, u[1].t.length = n := ⟨_, rfl⟩
      have hsm := TU.sm u[1] (List.getElem_mem _)
      rw [htl] at hr hsm
      obtain ⟨bl, hbl⟩ : ∃ t, decide (10 < tl) = t := ⟨_, rfl⟩
      have hbl' : decide ((10 : Int) < (tl : Int)) = bl := by rw [← hbl, decide_eq_decide]; omega
      rw [hbl] at hr
      have HX := Lib.hid (fun w' (hx : Ext wp w') => (show w'.cell? ⟨b, o + 2 + 1, none⟩ = some (.string ⟨u[1].t.toArray⟩) from (hx.cell _ _ none hb).trans t1))
      generalize u[1].t = tt at *
      have n0 : (0 : Int) ≤ 1 := by omega
      have n1 : (1 : Int) < (u.length : Int) := by omega
      have n2 : 1 < u.length := by omega
      replace hr := Lib.hid hr
      clear S P T h0 hL hM hun hub TU t0 t1 hgd hb
      have hl2' := Lib.hid hl2
      clear hl2
      go_wp2_with fail
      refine (HU.out _ S0.out.ext).mono ?_
      rintro e w1 ⟨rfl, hx1⟩
      have S1 := Lib.hid (S0.out.to hx1)
      have kt := HX.out _ S1.out.ext
      clear hx1 S0 HU
      cases bl with
      | true =>
        have hQ := Lib.hid (show r = (Ad.zero, 272, ((L : Int) - 2)) by rw [hr.out]; rfl)
        go_wp2_with fail
        refine (rfault_any 272 ((L : Int) - 2) _).mono ?_
        rintro e wf ⟨rfl, hxf⟩
        have SF := ((S1.out).to hxf)
        clear hxf
        have E2 := SF.r2.ext SF.ext
        have E3 := SF.r3.ext SF.ext
        have hne23 : g2 ≠ g3 := E2.ne_ E3 (by decide)
        obtain ⟨A1, A2, A3⟩ := rp_end (SF.x0.trans SF.ext) E2 E3 SF.l2 SF.l3 Ad.zero 272 ((L : Int) - 2)
        replace A1 := Lib.hid A1
        replace A2 := Lib.hid A2
        replace A3 := Lib.hid A3
        replace SF := Lib.hid SF
        unfold adC Ad.zero at E2
        dsimp only at E2
        obtain ⟨p0, p1⟩ := E2.cells
        obtain ⟨q0, q1⟩ := E3.cells
        have e2 := E2.lt
        have e3 := E3.lt
        clear E2 E3
        try rw [adV_eq]
        try unfold Ad.zero
        try dsimp only
        go_wp2_with fail
        exact bodyPost_ret (results_cc rfl rfl (ld_ad A1.out) rfl (ld_fault A2.out)) rfl ⟨by rw [hQ.out], A3.out⟩
      | false =>
        have hr2 := hr.out
        rw [if_neg (by simp)] at hr2
        go_wp2_with fail
        refine (HV.out _ S1.out.ext (by trivial)).mono ?_
        rintro e w2 ⟨rfl, hx2⟩
        have S2 := Lib.hid (S1.out.to hx2)
        have B := S2.out.b
        have lb := B.lt
        have S3 := Lib.hid (S2.out.put 6 (.string ⟨ut.toArray⟩) (b := ⟨zn, zh, zpre, zname, zsuf, zpost, ut, [], zstate, zzip, []⟩) rfl)
        unfold adC at B
        dsimp only at B
        obtain ⟨s0, s1⟩ := B.cells
        have HN := Lib.hid (H19.out ut _ S3.out hr2)
        clear B hx2 S1 HV kt HX H19 hr hr2
        go_upto_region 19 with (fail)
        exact HN.out _ (by assumption)
set_option maxRecDepth 100000 in
set_option maxHeartbeats 4000000 in
theorem rpa12 (W wp w : World) (g2 g3 g9 gO cO L : Nat) (a : Ad) (ps : List (List Tok)) (r : Ad × Int × Int) (S : RpAt W wp w g2 g3 g9 a) (P : PtsAt wp gO ps) (n : Int) (A : Option Addr) (c : Nat) (nm : List Tok) (T : TokS wp A nm.length c nm) (uV : Value) (io : Option (List Tok)) (I : InIs wp wp.heap.size uV io) (M : Nat) (hM : L = M + 1) (hL3 : L ≤ 3) (hL : L < ps.length) (hne : ∀ i, i < ps.length → 0 < (ps.getD i []).length) (hun : io = none → a.unit = []) (hr : r = rqU ⟨n, a.half, a.pre, a.name, a.suf, a.post, a.unit, a.city, a.state, a.zip, a.more⟩ nm (ps.getD M []) (ps.getD L []) (if L = 3 then some (ps.getD 1 []) else io) (L : Int)) (hm0 : a.more = []) (hc0 : a.city = []) ⦃u0 u1 u4 u5 u19 u20 u21 u22 u23 u24 u25 u26 u27 u28 u29 u30 u31 u32 u33 u34 u35 u36 u37 u38 u39 u40 u41 u42 u43 u44 u45 u46 u47 u48 u49 u50 u51 u52 u53 u54 u55 u56 u57 u58 u59 u60 u61 : Value⦄ : KF1 Tryz.prog (bodyPost Tryz.prog Tryz.f11 (PsR W r)) ⟨#[u0, u1, .pointer (some ⟨g2, 0, none⟩), .pointer (some ⟨g3, 0, none⟩), u4, u5, .slice (some ⟨gO, 0, none⟩) ps.length cO, .int .i64 n, .int .i64 (L : Int), .pointer (some ⟨g9, 0, none⟩), .slice A nm.length c, uV, undef, undef, undef, undef, undef, undef, undef, u19, u20, u21, u22, u23, u24, u25, u26, u27, u28, u29, u30, u31, u32, u33, u34, u35, u36, u37, u38, u39, u40, u41, u42, u43, u44, u45, u46, u47, u48, u49, u50, u51, u52, u53, u54, u55, u56, u57, u58, u59, u60, u61, undef, undef, undef, undef, undef, undef, undef, undef, undef, undef, undef, undef, undef, undef, undef, undef, undef, undef, undef, undef, undef, undef, undef, undef, undef, undef, undef, undef, undef, undef, undef, undef, undef, undef, undef, undef, undef, undef, undef, undef, undef, undef, undef, undef, undef, undef, undef, undef, undef, undef, undef, undef, undef, undef, undef, undef, undef, undef, undef, undef, undef, undef, undef, undef, undef, undef, undef, undef, undef, undef, undef, undef, undef, undef, undef, undef, undef, undef, undef, undef, undef, undef, undef, undef, undef, undef, undef, undef, undef, undef, undef, undef, undef, undef, undef, undef, undef, undef, undef, undef, undef, undef, undef, undef, undef, undef, undef, undef, undef, undef, undef, undef, undef, undef, undef, undef, undef, undef, undef, undef, undef, undef, undef, undef, undef, undef, undef, undef, undef, undef, undef, undef, undef, undef, undef, undef, undef, undef, undef, undef, undef, undef, undef, undef, undef, undef], []⟩ w (rpaAt1 12) := by
  obtain ⟨zn, zh, zpre, zname, zsuf, zpost, zunit, zcity, zstate, zzip, zmore⟩ := a
  have S0 := Lib.hid S
  dsimp only at hm0 hc0 hun hr
  subst hm0 hc0
  have S1 := Lib.hid (S.put 0 (.int .i64 n) (b := ⟨n, zh, zpre, zname, zsuf, zpost, zunit, [], zstate, zzip, []⟩) rfl)
  have H15 := Lib.hid (fun (w' : World) (S' : RpAt W wp w' g2 g3 g9 ⟨n, zh, zpre, zname, zsuf, zpost, zunit, [], zstate, zzip, []⟩) (uV : Value) (inT : Option (List Tok)) (I' : InIs wp wp.heap.size uV inT) (hun' : inT = none → zunit = []) => fun (hr' : r = rqU ⟨n, zh, zpre, zname, zsuf, zpost, zunit, [], zstate, zzip, []⟩ nm (ps.getD M []) (ps.getD L []) inT (L : Int)) => rpa15 W wp w' g2 g3 g9 gO cO L _ ps r S' P A c nm T uV inT I' M hM hL3 hL (hne _ hL) hun' hr' rfl rfl)
  have B := S.b
  have lb := B.lt
  unfold adC at B
  dsimp only at B
  obtain ⟨s0, s1⟩ := B.cells
  clear B
  conv => arg 5; whnf
  conv => arg 5; arg 1; whnf
  conv => arg 5; arg 2; whnf
  unfold KF1
  dsimp only
  intro K1 hK1
  by_cases h3 : L = 3
  · have d3 : ((L : Int) == 3) = true := by rw [beq_iff_eq]; omega
    rw [if_pos h3] at hr
    have hp1 := hne 1 (by omega)
    obtain ⟨A1, c1, q5, T1⟩ := P.get (i := 1) (by omega)
    obtain ⟨b1, o1, rfl, hb1, hb2⟩ := T1.at_ (k := 0) hp1
    clear hb2
    have hI : InIs wp wp.heap.size (.slice (some ⟨b1, o1, none⟩) (ps.getD 1 []).length c1) (some (ps.getD 1 [])) := ⟨_, _, _, rfl, T1, hp1, fun b o e => by cases e; exact hb1⟩
    have HN := Lib.hid (H15.out _ S1.out _ _ hI (fun h => by cases h) hr)
    have q5' := ((S1.out.ext).cell _ _ none P.lt).trans q5
    have lO := Nat.lt_of_lt_of_le P.lt S1.out.ext.size
    have n1 : (1 : Int) < (ps.length : Int) := by omega
    have n2 : 1 < ps.length := by omega
    clear S S0 P T I hL hne hun hr H15 T1 hI hp1 q5 hM h3
    generalize (ps.getD 1 []).length = pl1 at *
    go_upto_region 13 with (fail)
    clear s0 s1 lb
    generalize w.setCell ⟨g9, 0, none⟩ (.int .i64 n) = w1 at *
    go_upto_region 15 with (fail)
    exact HN.out _ (by assumption) _ (by assumption)
  · have d3 : ((L : Int) == 3) = false := by rw [beq_eq_false_iff_ne]; omega
    rw [if_neg h3] at hr
    have HN := Lib.hid (H15.out _ S1.out uV io I hun hr)
    clear S S0 P T I hL hne hun hr H15 hM h3
    go_upto_region 15 with (fail)
    exact HN.out _ (by assumption) _ (by assumption)
end Go.Proofs.YtjneghncmgjkeaaGreatDoor
