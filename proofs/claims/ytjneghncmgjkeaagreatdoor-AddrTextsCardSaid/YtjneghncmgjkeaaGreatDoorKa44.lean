/-
  apportionref17: Check, from the number on (printed by tools/genIa.py).
-/
import Derived.Deep.RegionHeld3
import Derived.Test.YtjneghncmgjkeaaGreatDoorKa43
set_option linter.unusedVariables false
namespace Go.Proofs.YtjneghncmgjkeaaGreatDoor
open Go.RowKit

theorem rdigits_55 (s : Bs) (hs : s.length ≤ 100000) (w : World) : Calls Tryz.prog 62 #[.string ⟨s.toArray⟩, .int .i64 5, .int .i64 5] w fun e w' => e = .returned (.bool (digitsP s 5 5)) ∧ Ext w w' := rdigits_any s 5 5 hs ⟨by omega, by omega⟩ w
theorem rdigits_44 (s : Bs) (hs : s.length ≤ 100000) (w : World) : Calls Tryz.prog 62 #[.string ⟨s.toArray⟩, .int .i64 4, .int .i64 4] w fun e w' => e = .returned (.bool (digitsP s 4 4)) ∧ Ext w w' := rdigits_any s 4 4 hs ⟨by omega, by omega⟩ w
set_option maxRecDepth 100000 in
set_option maxHeartbeats 4000000 in
theorem rck6 (W w : World) (ga : Nat) (a : Ad) (R : Int) (h : AdS a 1000) (X : Ext W w) (BA0 : Blk w ga 23 (adC a)) (hR : R = (if (a.state == [] || !ownP 3 a.state || !digitsP a.zip 5 5 || (a.more != [] && !digitsP a.more 4 4)) = true then 2 else
      (if (a.unit != [] && (!(unitP (tokensP a.unit).1).2 || (unitP (tokensP a.unit).1).1 != a.unit || decide (10 < (((tokensP a.unit).1.getD 1 ⟨0, []⟩).t).length))) = true then 2 else
      (let r := tokensP (lineP a)
      let b := (streetP r.1 (a.unit == [])).1
      if (r.2.1 != 0 || !(a.pre == b.pre && a.name == b.name && a.suf == b.suf && a.post == b.post && a.half == b.half && b.unit == [])) = true then (2 : Int) else 0)))) ⦃u0 u2 u3 u4 u5 u6 u7 u8 u17 u18 u19 u20 u21 u22 u23 u24 u25 u26 u27 u28 u29 u30 u31 u32 u33 u34 u35 u36 u37 u38 u39 u40 u41 u42 u43 u44 u45 u46 u47 u48 u49 u50 u51 u52 u53 u54 u55 u56 u57 u58 u59 u60 u61 u62 u63 u64 u65 u66 u67 u68 u69 u70 u71 : Value⦄ : KF2 Tryz.prog (bodyPost Tryz.prog Tryz.f19 (CkR W R)) ⟨#[u0, .pointer (some ⟨ga, 0, none⟩), u2, u3, u4, u5, u6, u7, u8, undef, undef, undef, undef, undef, undef, undef, undef, u17, u18, u19, u20, u21, u22, u23, u24, u25, u26, u27, u28, u29, u30, u31, u32, u33, u34, u35, u36, u37, u38, u39, u40, u41, u42, u43, u44, u45, u46, u47, u48, u49, u50, u51, u52, u53, u54, u55, u56, u57, u58, u59, u60, u61, u62, u63, u64, u65, u66, u67, u68, u69, u70, u71, undef, undef, undef, undef, undef, undef, undef, undef, undef, undef, undef, undef, undef, undef, undef, undef, undef, undef, undef, undef, undef, undef, undef, undef, undef, undef, undef, undef, undef, undef, undef, undef, undef, undef, undef, undef, undef, undef, undef, undef, undef, undef, undef, undef, undef, undef, undef, undef, undef, undef, undef, undef, undef, undef, undef, undef, undef, undef, undef, undef, undef, undef, undef, undef, undef, undef, undef, undef, undef, undef, undef, undef, undef, undef, undef, undef, undef, undef, undef, undef, undef, undef, undef, undef, undef, undef, undef, undef, undef, undef, undef, undef, undef, undef, undef, undef, undef, undef, undef, undef, undef, undef, undef, undef, undef, undef, undef, undef, undef, undef, undef, undef, undef], []⟩ w (rckAt2 6) := by
  have h8 := h.zip
  have h9 := h.more
  have H8t := Lib.hid (fun (w' : World) (hy : Ext w w') => rck8 (W := W) w' ga a R h (X.trans hy) (BA0.ext hy))
  obtain ⟨RT, hRT⟩ : ∃ t, (if (a.unit != [] && (!(unitP (tokensP a.unit).1).2 || (unitP (tokensP a.unit).1).1 != a.unit || decide (10 < (((tokensP a.unit).1.getD 1 ⟨0, []⟩).t).length))) = true then 2 else
      (let r := tokensP (lineP a)
      let b := (streetP r.1 (a.unit == [])).1
      if (r.2.1 != 0 || !(a.pre == b.pre && a.name == b.name && a.suf == b.suf && a.post == b.post && a.half == b.half && b.unit == [])) = true then (2 : Int) else 0)) = t := ⟨_, rfl⟩
  simp only [hRT] at H8t
  rw [hRT] at hR
  replace hRT := Lib.hid hRT
  have H6 := Lib.hid (fun w' (_ : Ext w w') => rown_any 3 (.inr (.inr (.inl rfl))) a.state w')
  have H8 := Lib.hid (fun w' (_ : Ext w w') => rdigits_55 a.zip (by omega) w')
  have H9 := Lib.hid (fun w' (_ : Ext w w') => rdigits_44 a.more (by omega) w')
  clear h
  obtain ⟨zn, zh, zpre, zname, zsuf, zpost, zunit, zcity, zstate, zzip, zmore⟩ := a
  unfold adC at BA0
  dsimp only at *
  generalize ownP 3 zstate = o4 at *
  generalize digitsP zzip 5 5 = d5 at *
  generalize digitsP zmore 4 4 = d4 at *
  obtain ⟨es, hes⟩ : ∃ t, (zstate == []) = t := ⟨_, rfl⟩
  obtain ⟨nm, hnm⟩ : ∃ t, (zmore != []) = t := ⟨_, rfl⟩
  rw [hes, hnm] at hR
  have hes1 : decide (zstate = []) = es := by rw [bs_dec]; exact hes
  have hnm1 : (!decide (zmore = [])) = nm := by rw [bs_dec]; exact hnm
  have hes2 : zstate.isEmpty = es := by rw [← hes]; cases zstate <;> rfl
  have hnm2 : zmore.isEmpty = (!nm) := by rw [← hnm]; cases zmore <;> rfl
  clear hes hnm
  obtain ⟨F2, hF2⟩ : ∃ F, (es || !o4 || !d5 || (nm && !d4)) = F := ⟨_, rfl⟩
  rw [hF2] at hR
  replace hF2 := Lib.hid hF2
  replace hR := Lib.hid hR
  have BA := Lib.hid (fun w' (hx : Ext w w') => (show (∀ i, w'.cell? ⟨ga, i, none⟩ = (#[.int .i64 zn, .bool zh, .string ⟨zpre.toArray⟩, .string ⟨zname.toArray⟩, .string ⟨zsuf.toArray⟩, .string ⟨zpost.toArray⟩, .string ⟨zunit.toArray⟩, .string ⟨zcity.toArray⟩, .string ⟨zstate.toArray⟩, .string ⟨zzip.toArray⟩, .string ⟨zmore.toArray⟩] : Array Value)[i]?) ∧ ga < w'.heap.size ∧ (∀ i, w'.frozen? ⟨ga, i, none⟩ = false) from
    have B := BA0.ext hx; ⟨B.cell, B.lt, B.frozen⟩))
  have Xw := Lib.hid (Ext.refl w)
  obtain ⟨qa, la, qb⟩ := BA.out _ Xw.out
  have X0 := Lib.hid X
  clear X BA0
  conv => arg 5; whnf
  conv => arg 5; arg 1; whnf
  conv => arg 5; arg 2; whnf
  conv => arg 5; arg 2; arg 1; whnf
  conv => arg 5; arg 2; arg 2; whnf
  unfold KF2
  dsimp only
  intro K1 hK1 K2 hK2
  go_cut [97] from 72 to 97 (fun u wx => u = .bool F2 ∧ Ext w wx)
  case first =>
    clear H8t X0 hR
    cases es with
    | false =>
      go_wp2_with fail
      refine (H6.out _ Xw.out).mono ?_
      rintro e wo4 ⟨rfl, hx⟩
      have Xwo4 := Lib.hid (Xw.out.trans hx)
      obtain ⟨qa, la, qb⟩ := BA.out _ Xwo4.out
      clear hx
      cases o4 with
      | false =>
        have HE := Lib.hid (show Value.bool true = Value.bool F2 ∧ Ext w wo4 from ⟨by rw [← hF2.out]; simp, Xwo4.out⟩)
        go_wp2_with fail
        go_meet
        case rel => exact HE.out
      | true =>
        go_wp2_with fail
        refine (H8.out _ Xwo4.out).mono ?_
        rintro e wd5 ⟨rfl, hx⟩
        have Xwd5 := Lib.hid (Xwo4.out.trans hx)
        obtain ⟨qa, la, qb⟩ := BA.out _ Xwd5.out
        clear hx
        cases d5 with
        | false =>
          have HE := Lib.hid (show Value.bool true = Value.bool F2 ∧ Ext w wd5 from ⟨by rw [← hF2.out]; simp, Xwd5.out⟩)
          go_wp2_with fail
          go_meet
          case rel => exact HE.out
        | true =>
          cases nm with
          | false =>
            have HE := Lib.hid (show Value.bool false = Value.bool F2 ∧ Ext w wd5 from ⟨by rw [← hF2.out]; simp, Xwd5.out⟩)
            go_wp2_with fail
            go_meet
            case rel => exact HE.out
          | true =>
            go_wp2_with fail
            refine (H9.out _ Xwd5.out).mono ?_
            rintro e wd4 ⟨rfl, hx⟩
            have Xwd4 := Lib.hid (Xwd5.out.trans hx)
            obtain ⟨qa, la, qb⟩ := BA.out _ Xwd4.out
            clear hx
            cases d4 with
            | false =>
              have HE := Lib.hid (show Value.bool true = Value.bool F2 ∧ Ext w wd4 from ⟨by rw [← hF2.out]; simp, Xwd4.out⟩)
              go_wp2_with fail
              go_meet
              case rel => exact HE.out
            | true =>
              have HE := Lib.hid (show Value.bool false = Value.bool F2 ∧ Ext w wd4 from ⟨by rw [← hF2.out]; simp, Xwd4.out⟩)
              go_wp2_with fail
              go_meet
              case rel => exact HE.out
    | true =>
      have HE := Lib.hid (show Value.bool true = Value.bool F2 ∧ Ext w w from ⟨by rw [← hF2.out]; simp, Xw.out⟩)
      go_wp2_with fail
      go_meet
      case rel => exact HE.out
  case rest =>
    obtain ⟨rfl, hx⟩ := hcut
    cases F2 with
    | true =>
      have hQ := Lib.hid (show R = 2 by rw [hR.out]; rfl)
      have XE := Lib.hid (X0.out.trans hx)
      clear hR hx
      go_wp2_with fail
      go_ret
      exact ⟨by rw [hQ.out]; rfl, XE.out⟩
    | false =>
      go_upto_region 8 with (fail)
      exact H8t.out _ hx (by rw [hR.out]; rfl) _ (by assumption) _ (by assumption)
set_option maxRecDepth 100000 in
set_option maxHeartbeats 4000000 in
theorem rck4 (W w : World) (ga : Nat) (a : Ad) (n1 n2 al : Bool) (R : Int) (h : AdS a 1000) (X : Ext W w) (BA0 : Blk w ga 23 (adC a)) (hR : R = (if (decide (a.n < 1) || decide (999999 < a.n) || !n1 || !n2 || !al || !ownP 2 a.pre || !ownP 2 a.post || !ownP 1 a.suf) = true then 2 else
      (if (a.state == [] || !ownP 3 a.state || !digitsP a.zip 5 5 || (a.more != [] && !digitsP a.more 4 4)) = true then 2 else
      (if (a.unit != [] && (!(unitP (tokensP a.unit).1).2 || (unitP (tokensP a.unit).1).1 != a.unit || decide (10 < (((tokensP a.unit).1.getD 1 ⟨0, []⟩).t).length))) = true then 2 else
      (let r := tokensP (lineP a)
      let b := (streetP r.1 (a.unit == [])).1
      if (r.2.1 != 0 || !(a.pre == b.pre && a.name == b.name && a.suf == b.suf && a.post == b.post && a.half == b.half && b.unit == [])) = true then (2 : Int) else 0))))) ⦃u0 u2 u3 u5 u8 u17 u18 u19 u20 u21 u22 u23 u24 u25 u26 u27 u28 u29 u30 u31 u32 u33 : Value⦄ : KF2 Tryz.prog (bodyPost Tryz.prog Tryz.f19 (CkR W R)) ⟨#[u0, .pointer (some ⟨ga, 0, none⟩), u2, u3, .bool n1, u5, .bool n2, .bool al, u8, undef, undef, undef, undef, undef, undef, undef, undef, u17, u18, u19, u20, u21, u22, u23, u24, u25, u26, u27, u28, u29, u30, u31, u32, u33, undef, undef, undef, undef, undef, undef, undef, undef, undef, undef, undef, undef, undef, undef, undef, undef, undef, undef, undef, undef, undef, undef, undef, undef, undef, undef, undef, undef, undef, undef, undef, undef, undef, undef, undef, undef, undef, undef, undef, undef, undef, undef, undef, undef, undef, undef, undef, undef, undef, undef, undef, undef, undef, undef, undef, undef, undef, undef, undef, undef, undef, undef, undef, undef, undef, undef, undef, undef, undef, undef, undef, undef, undef, undef, undef, undef, undef, undef, undef, undef, undef, undef, undef, undef, undef, undef, undef, undef, undef, undef, undef, undef, undef, undef, undef, undef, undef, undef, undef, undef, undef, undef, undef, undef, undef, undef, undef, undef, undef, undef, undef, undef, undef, undef, undef, undef, undef, undef, undef, undef, undef, undef, undef, undef, undef, undef, undef, undef, undef, undef, undef, undef, undef, undef, undef, undef, undef, undef, undef, undef, undef, undef, undef, undef, undef, undef, undef, undef, undef, undef, undef], []⟩ w (rckAt2 4) := by
  have H6t := Lib.hid (fun (w' : World) (hy : Ext w w') => rck6 (W := W) w' ga a R h (X.trans hy) (BA0.ext hy))
  obtain ⟨RT, hRT⟩ : ∃ t, (if (a.state == [] || !ownP 3 a.state || !digitsP a.zip 5 5 || (a.more != [] && !digitsP a.more 4 4)) = true then 2 else
      (if (a.unit != [] && (!(unitP (tokensP a.unit).1).2 || (unitP (tokensP a.unit).1).1 != a.unit || decide (10 < (((tokensP a.unit).1.getD 1 ⟨0, []⟩).t).length))) = true then 2 else
      (let r := tokensP (lineP a)
      let b := (streetP r.1 (a.unit == [])).1
      if (r.2.1 != 0 || !(a.pre == b.pre && a.name == b.name && a.suf == b.suf && a.post == b.post && a.half == b.half && b.unit == [])) = true then (2 : Int) else 0))) = t := ⟨_, rfl⟩
  simp only [hRT] at H6t
  rw [hRT] at hR
  replace hRT := Lib.hid hRT
  have H3 := Lib.hid (fun w' (_ : Ext w w') => rown_any 2 (.inr (.inl rfl)) a.pre w')
  have H4 := Lib.hid (fun w' (_ : Ext w w') => rown_any 2 (.inr (.inl rfl)) a.post w')
  have H5 := Lib.hid (fun w' (_ : Ext w w') => rown_any 1 (.inl rfl) a.suf w')
  clear h
  obtain ⟨zn, zh, zpre, zname, zsuf, zpost, zunit, zcity, zstate, zzip, zmore⟩ := a
  unfold adC at BA0
  dsimp only at *
  generalize ownP 2 zpre = o1 at *
  generalize ownP 2 zpost = o2 at *
  generalize ownP 1 zsuf = o3 at *
  obtain ⟨t1, ht1⟩ : ∃ t, decide (zn < 1) = t := ⟨_, rfl⟩
  obtain ⟨t2, ht2⟩ : ∃ t, decide (999999 < zn) = t := ⟨_, rfl⟩
  rw [ht1, ht2] at hR
  obtain ⟨F1, hF1⟩ : ∃ F, (t1 || t2 || !n1 || !n2 || !al || !o1 || !o2 || !o3) = F := ⟨_, rfl⟩
  rw [hF1] at hR
  replace hF1 := Lib.hid hF1
  replace hR := Lib.hid hR
  have BA := Lib.hid (fun w' (hx : Ext w w') => (show (∀ i, w'.cell? ⟨ga, i, none⟩ = (#[.int .i64 zn, .bool zh, .string ⟨zpre.toArray⟩, .string ⟨zname.toArray⟩, .string ⟨zsuf.toArray⟩, .string ⟨zpost.toArray⟩, .string ⟨zunit.toArray⟩, .string ⟨zcity.toArray⟩, .string ⟨zstate.toArray⟩, .string ⟨zzip.toArray⟩, .string ⟨zmore.toArray⟩] : Array Value)[i]?) ∧ ga < w'.heap.size ∧ (∀ i, w'.frozen? ⟨ga, i, none⟩ = false) from
    have B := BA0.ext hx; ⟨B.cell, B.lt, B.frozen⟩))
  have Xw := Lib.hid (Ext.refl w)
  obtain ⟨qa, la, qb⟩ := BA.out _ Xw.out
  have X0 := Lib.hid X
  clear X BA0
  conv => arg 5; whnf
  conv => arg 5; arg 1; whnf
  conv => arg 5; arg 2; whnf
  conv => arg 5; arg 2; arg 1; whnf
  conv => arg 5; arg 2; arg 2; whnf
  unfold KF2
  dsimp only
  intro K1 hK1 K2 hK2
  go_cut [71] from 34 to 71 (fun u wx => u = .bool F1 ∧ Ext w wx)
  case first =>
    clear H6t X0 hR
    cases t1 with
    | false =>
      cases t2 with
      | false =>
        cases n1 with
        | false =>
          have HE := Lib.hid (show Value.bool true = Value.bool F1 ∧ Ext w w from ⟨by rw [← hF1.out]; simp, Xw.out⟩)
          go_wp2_with fail
          go_meet
          case rel => exact HE.out
        | true =>
          cases n2 with
          | false =>
            have HE := Lib.hid (show Value.bool true = Value.bool F1 ∧ Ext w w from ⟨by rw [← hF1.out]; simp, Xw.out⟩)
            go_wp2_with fail
            go_meet
            case rel => exact HE.out
          | true =>
            cases al with
            | false =>
              have HE := Lib.hid (show Value.bool true = Value.bool F1 ∧ Ext w w from ⟨by rw [← hF1.out]; simp, Xw.out⟩)
              go_wp2_with fail
              go_meet
              case rel => exact HE.out
            | true =>
              go_wp2_with fail
              refine (H3.out _ Xw.out).mono ?_
              rintro e wo1 ⟨rfl, hx⟩
              have Xwo1 := Lib.hid (Xw.out.trans hx)
              obtain ⟨qa, la, qb⟩ := BA.out _ Xwo1.out
              clear hx
              cases o1 with
              | false =>
                have HE := Lib.hid (show Value.bool true = Value.bool F1 ∧ Ext w wo1 from ⟨by rw [← hF1.out]; simp, Xwo1.out⟩)
                go_wp2_with fail
                go_meet
                case rel => exact HE.out
              | true =>
                go_wp2_with fail
                refine (H4.out _ Xwo1.out).mono ?_
                rintro e wo2 ⟨rfl, hx⟩
                have Xwo2 := Lib.hid (Xwo1.out.trans hx)
                obtain ⟨qa, la, qb⟩ := BA.out _ Xwo2.out
                clear hx
                cases o2 with
                | false =>
                  have HE := Lib.hid (show Value.bool true = Value.bool F1 ∧ Ext w wo2 from ⟨by rw [← hF1.out]; simp, Xwo2.out⟩)
                  go_wp2_with fail
                  go_meet
                  case rel => exact HE.out
                | true =>
                  go_wp2_with fail
                  refine (H5.out _ Xwo2.out).mono ?_
                  rintro e wo3 ⟨rfl, hx⟩
                  have Xwo3 := Lib.hid (Xwo2.out.trans hx)
                  obtain ⟨qa, la, qb⟩ := BA.out _ Xwo3.out
                  clear hx
                  cases o3 with
                  | false =>
                    have HE := Lib.hid (show Value.bool true = Value.bool F1 ∧ Ext w wo3 from ⟨by rw [← hF1.out]; simp, Xwo3.out⟩)
                    go_wp2_with fail
                    go_meet
                    case rel => exact HE.out
                  | true =>
                    have HE := Lib.hid (show Value.bool false = Value.bool F1 ∧ Ext w wo3 from ⟨by rw [← hF1.out]; simp, Xwo3.out⟩)
                    go_wp2_with fail
                    go_meet
                    case rel => exact HE.out
      | true =>
        have HE := Lib.hid (show Value.bool true = Value.bool F1 ∧ Ext w w from ⟨by rw [← hF1.out]; simp, Xw.out⟩)
        go_wp2_with fail
        go_meet
        case rel => exact HE.out
    | true =>
      have HE := Lib.hid (show Value.bool true = Value.bool F1 ∧ Ext w w from ⟨by rw [← hF1.out]; simp, Xw.out⟩)
      go_wp2_with fail
      go_meet
      case rel => exact HE.out
  case rest =>
    obtain ⟨rfl, hx⟩ := hcut
    cases F1 with
    | true =>
      have hQ := Lib.hid (show R = 2 by rw [hR.out]; rfl)
      have XE := Lib.hid (X0.out.trans hx)
      clear hR hx
      go_wp2_with fail
      go_ret
      exact ⟨by rw [hQ.out]; rfl, XE.out⟩
    | false =>
      go_upto_region 6 with (fail)
      exact H6t.out _ hx (by rw [hR.out]; rfl) _ (by assumption) _ (by assumption)
end Go.Proofs.YtjneghncmgjkeaaGreatDoor
