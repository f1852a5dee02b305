/-
  apportionref17: Check, from the number on (printed by tools/genIa.py).
-/
import Derived.Deep.RegionHeld3
import Derived.Test.YtjaponmpfdpemaaGreatDoorBb32
import Derived.Test.YtjaponmpfdpemaaGreatDoorBb20
import Derived.Test.YtjaponmpfdpemaaGreatDoorBb07
set_option linter.unusedSimpArgs false
set_option linter.unusedVariables false
namespace Go.Proofs.YtjaponmpfdpemaaGreatDoor
open Go.RowKit
theorem rdigits_55 (s : Bs) (hs : s.length ≤ 100000) (w : World) : Calls Tryz.prog 64 #[.string ⟨s.toArray⟩, .int .i64 5, .int .i64 5] w fun e w' => e = .returned (.bool (digitsP s 5 5)) ∧ Ext w w' := rdigits_any s 5 5 hs ⟨by omega, by omega⟩ w
theorem rdigits_44 (s : Bs) (hs : s.length ≤ 100000) (w : World) : Calls Tryz.prog 64 #[.string ⟨s.toArray⟩, .int .i64 4, .int .i64 4] w fun e w' => e = .returned (.bool (digitsP s 4 4)) ∧ Ext w w' := rdigits_any s 4 4 hs ⟨by omega, by omega⟩ w
set_option maxRecDepth 100000 in
set_option maxHeartbeats 4000000 in
theorem rck6 (W w : World) (ga : Nat) (a : Ad) (R : Int) (h : AdS a 1000) (X : Ext W w) (BA0 : Blk w ga 45 (adC a)) (hR : R = (if (a.state == [] || !ownP 3 a.state || !digitsP a.zip 5 5 || (a.more != [] && !digitsP a.more 4 4)) = true then 2 else
   (if (a.unit != [] && (!(unitP (tokensP a.unit).1).2 || (unitP (tokensP a.unit).1).1 != a.unit || decide (10 < (((tokensP a.unit).1.getD 1 ⟨0, []⟩).t).length))) = true then 2 else
   (let r := tokensP (lineP a)
   let b := (streetP r.1 (a.unit == [])).1
   if (r.2.1 != 0 || !(a.pre == b.pre && a.name == b.name && a.suf == b.suf && a.post == b.post && a.half == b.half && b.unit == [])) = true then (2 : Int) else 0)))) ⦃u0 u2 u3 u4 u5 u6 u7 u8 u17 u18 u19 u20 u21 u22 u23 u24 u25 u26 u27 u28 u29 u30 u31 u32 u33 u34 u35 u36 u37 u38 u39 u40 u41 u42 u43 u44 u45 u46 u47 u48 u49 u50 u51 u52 u53 u54 u55 u56 u57 u58 u59 u60 u61 u62 u63 u64 u65 u66 u67 u68 u69 u70 u71 : Value⦄ : KF2 Tryz.prog (bodyPost Tryz.prog Tryz.f36 (CkR W R)) ⟨#[u0, .pointer (some ⟨ga, 0, none⟩), u2, u3, u4, u5, u6, u7, u8, undef, undef, undef, undef, undef, undef, undef, undef, u17, u18, u19, u20, u21, u22, u23, u24, u25, u26, u27, u28, u29, u30, u31, u32, u33, u34, u35, u36, u37, u38, u39, u40, u41, u42, u43, u44, u45, u46, u47, u48, u49, u50, u51, u52, u53, u54, u55, u56, u57, u58, u59, u60, u61, u62, u63, u64, u65, u66, u67, u68, u69, u70, u71, undef, undef, undef, undef, undef, undef, undef, undef, undef, undef, undef, undef, undef, undef, undef, undef, undef, undef, undef, undef, undef, undef, undef, undef, undef, undef, undef, undef, undef, undef, undef, undef, undef, undef, undef, undef, undef, undef, undef, undef, undef, undef, undef, undef, undef, undef, undef, undef, undef, undef, undef, undef, undef, undef, undef, undef, undef, undef, undef, undef, undef, undef, undef, undef, undef, undef, undef, undef, undef, undef, undef, undef, undef, undef, undef, undef, undef, undef, undef, undef, undef, undef, undef, undef, undef, undef, undef, undef, undef, undef, undef, undef, undef, undef, undef, undef, undef, undef, undef, undef, undef, undef, undef, undef, undef, undef, undef, undef, undef, undef, undef, undef, undef], []⟩ w (rckAt2 6) := by
 have h8 := h.zip
 have h9 := h.more
 have H8t := Lib.hid (fun (w' : World) (hy : Ext w w') => rck8 (W := W) w' ga a R h (X.trans hy) (BA0.ext hy))
 obtain ⟨RT, hRT⟩ : ∃ t, (if (a.unit != [] && (!(unitP (tokensP a.unit).1).2 || (unitP (tokensP a.unit).1).1 != a.unit || decide (10 < (((tokensP a.unit).1.getD 1 ⟨0, []⟩).t).length))) = true then 2 else
   (let r := tokensP (lineP a)
   let b := (streetP r.1 (a.unit == [])).1
   if (r.2.1 != 0 || !(a.pre == b.pre && a.name == b.name && a.suf == b.suf && a.post == b.post && a.half == b.half && b.unit == [])) = true then (2 : Int) else 0)) = t := ⟨_, rfl⟩
 simp only [hRT] at H8t
 rw [hRT] at hR
 replace hRT := Lib.hid hRT
 have H6 := Lib.hid (fun w' (_ : Ext w w') => rown_any 3 (.inr (.inr (.inl rfl))) a.state w')
 have H8 := Lib.hid (fun w' (_ : Ext w w') => rdigits_55 a.zip (by omega) w')
 have H9 := Lib.hid (fun w' (_ : Ext w w') => rdigits_44 a.more (by omega) w')
 clear h
 obtain ⟨zn, zh, zpre, zname, zsuf, zpost, zunit, zcity, zstate, zzip, zmore⟩ := a
 unfold adC at BA0
 dsimp only at *
 generalize ownP 3 zstate = o4 at *
 generalize digitsP zzip 5 5 = d5 at *
 generalize digitsP zmore 4 4 = d4 at *
 obtain ⟨es, hes⟩ : ∃ t, (zstate == []) = t := ⟨_, rfl⟩
 obtain ⟨nm, hnm⟩ : ∃ t, (zmore != []) = t := ⟨_, rfl⟩
 rw [hes, hnm] at hR
 have hes1 : decide (zstate = []) = es := by rw [bs_dec]; exact hes
 have hnm1 : (!decide (zmore = [])) = nm := by rw [bs_dec]; exact hnm
 have hes2 : zstate.isEmpty = es := by rw [← hes]; cases zstate <;> rfl
 have hnm2 : zmore.isEmpty = (!nm) := by rw [← hnm]; cases zmore <;> rfl
 clear hes hnm
 obtain ⟨F2, hF2⟩ : ∃ F, (es || !o4 || !d5 || (nm && !d4)) = F := ⟨_, rfl⟩
 rw [hF2] at hR
 replace hF2 := Lib.hid hF2
 replace hR := Lib.hid hR
 have BA := Lib.hid (fun w' (hx : Ext w w') => (show (∀ i, w'.cell? ⟨ga, i, none⟩ = (#[.int .i64 zn, .bool zh, .string ⟨zpre.toArray⟩, .string ⟨zname.toArray⟩, .string ⟨zsuf.toArray⟩, .string ⟨zpost.toArray⟩, .string ⟨zunit.toArray⟩, .string ⟨zcity.toArray⟩, .string ⟨zstate.toArray⟩, .string ⟨zzip.toArray⟩, .string ⟨zmore.toArray⟩] : Array Value)[i]?) ∧ ga < w'.heap.size ∧ (∀ i, w'.frozen? ⟨ga, i, none⟩ = false) from
  have B := BA0.ext hx; ⟨B.cell, B.lt, B.frozen⟩))
 have Xw := Lib.hid (Ext.refl w)
 obtain ⟨qa, la, qb⟩ := BA.out _ Xw.out
 have X0 := Lib.hid X
 clear X BA0
 conv => arg 5; whnf
 conv => arg 5; arg 1; whnf
 conv => arg 5; arg 2; whnf
 conv => arg 5; arg 2; arg 1; whnf
 conv => arg 5; arg 2; arg 2; whnf
 unfold KF2
 dsimp only
 intro K1 hK1 K2 hK2
 go_cut [97] from 72 to 97 (fun u wx => u = .bool F2 ∧ Ext w wx)
 case first =>
  clear H8t X0 hR
  cases es with
  | false =>
   go_wp2_with fail
   refine (H6.out _ Xw.out).mono ?_
   rintro e wo4 ⟨rfl, hx⟩
   have Xwo4 := Lib.hid (Xw.out.trans hx)
   obtain ⟨qa, la, qb⟩ := BA.out _ Xwo4.out
   clear hx
   cases o4 with
   | false =>
    have HE := Lib.hid (show Value.bool true = Value.bool F2 ∧ Ext w wo4 from ⟨by rw [← hF2.out]; simp, Xwo4.out⟩)
    go_wp2_with fail
    go_meet
    case rel => exact HE.out
   | true =>
    go_wp2_with fail
    refine (H8.out _ Xwo4.out).mono ?_
    rintro e wd5 ⟨rfl, hx⟩
    have Xwd5 := Lib.hid (Xwo4.out.trans hx)
    obtain ⟨qa, la, qb⟩ := BA.out _ Xwd5.out
    clear hx
    cases d5 with
    | false =>
     have HE := Lib.hid (show Value.bool true = Value.bool F2 ∧ Ext w wd5 from ⟨by rw [← hF2.out]; simp, Xwd5.out⟩)
     go_wp2_with fail
     go_meet
     case rel => exact HE.out
    | true =>
     cases nm with
     | false =>
      have HE := Lib.hid (show Value.bool false = Value.bool F2 ∧ Ext w wd5 from ⟨by rw [← hF2.out]; simp, Xwd5.out⟩)
      go_wp2_with fail
      go_meet
      case rel => exact HE.out
     | true =>
      go_wp2_with fail
      refine (H9.out _ Xwd5.out).mono ?_
      rintro e wd4 ⟨rfl, hx⟩
      have Xwd4 := Lib.hid (Xwd5.out.trans hx)
      obtain ⟨qa, la, qb⟩ := BA.out _ Xwd4.out
      clear hx
      cases d4 with
      | false =>
       have HE := Lib.hid (show Value.bool true = Value.bool F2 ∧ Ext w wd4 from ⟨by rw [← hF2.out]; simp, Xwd4.out⟩)
       go_wp2_with fail
       go_meet
       case rel => exact HE.out
      | true =>
       have HE := Lib.hid (show Value.bool false = Value.bool F2 ∧ Ext w wd4 from ⟨by rw [← hF2.out]; simp, Xwd4.out⟩)
       go_wp2_with fail
       go_meet
       case rel => exact HE.out
  | true =>
   have HE := Lib.hid (show Value.bool true = Value.bool F2 ∧ Ext w w from ⟨by rw [← hF2.out]; simp, Xw.out⟩)
   go_wp2_with fail
   go_meet
   case rel => exact HE.out
 case rest =>
  obtain ⟨rfl, hx⟩ := hcut
  cases F2 with
  | true =>
   have hQ := Lib.hid (show R = 2 by rw [hR.out]; rfl)
   have XE := Lib.hid (X0.out.trans hx)
   clear hR hx
   go_wp2_with fail
   go_ret
   exact ⟨by rw [hQ.out]; rfl, XE.out⟩
  | false =>
   go_upto_region 8 with (fail)
   exact H8t.out _ hx (by rw [hR.out]; rfl) _ (by assumption) _ (by assumption)
set_option maxRecDepth 100000 in
set_option maxHeartbeats 4000000 in
theorem rck4 (W w : World) (ga : Nat) (a : Ad) (n1 n2 al : Bool) (R : Int) (h : AdS a 1000) (X : Ext W w) (BA0 : Blk w ga 45 (adC a)) (hR : R = (if (decide (a.n < 1) || decide (999999 < a.n) || !n1 || !n2 || !al || !ownP 2 a.pre || !ownP 2 a.post || !ownP 1 a.suf) = true then 2 else
   (if (a.state == [] || !ownP 3 a.state || !digitsP a.zip 5 5 || (a.more != [] && !digitsP a.more 4 4)) = true then 2 else
   (if (a.unit != [] && (!(unitP (tokensP a.unit).1).2 || (unitP (tokensP a.unit).1).1 != a.unit || decide (10 < (((tokensP a.unit).1.getD 1 ⟨0, []⟩).t).length))) = true then 2 else
   (let r := tokensP (lineP a)
   let b := (streetP r.1 (a.unit == [])).1
   if (r.2.1 != 0 || !(a.pre == b.pre && a.name == b.name && a.suf == b.suf && a.post == b.post && a.half == b.half && b.unit == [])) = true then (2 : Int) else 0))))) ⦃u0 u2 u3 u5 u8 u17 u18 u19 u20 u21 u22 u23 u24 u25 u26 u27 u28 u29 u30 u31 u32 u33 : Value⦄ : KF2 Tryz.prog (bodyPost Tryz.prog Tryz.f36 (CkR W R)) ⟨#[u0, .pointer (some ⟨ga, 0, none⟩), u2, u3, .bool n1, u5, .bool n2, .bool al, u8, undef, undef, undef, undef, undef, undef, undef, undef, u17, u18, u19, u20, u21, u22, u23, u24, u25, u26, u27, u28, u29, u30, u31, u32, u33, undef, undef, undef, undef, undef, undef, undef, undef, undef, undef, undef, undef, undef, undef, undef, undef, undef, undef, undef, undef, undef, undef, undef, undef, undef, undef, undef, undef, undef, undef, undef, undef, undef, undef, undef, undef, undef, undef, undef, undef, undef, undef, undef, undef, undef, undef, undef, undef, undef, undef, undef, undef, undef, undef, undef, undef, undef, undef, undef, undef, undef, undef, undef, undef, undef, undef, undef, undef, undef, undef, undef, undef, undef, undef, undef, undef, undef, undef, undef, undef, undef, undef, undef, undef, undef, undef, undef, undef, undef, undef, undef, undef, undef, undef, undef, undef, undef, undef, undef, undef, undef, undef, undef, undef, undef, undef, undef, undef, undef, undef, undef, undef, undef, undef, undef, undef, undef, undef, undef, undef, undef, undef, undef, undef, undef, undef, undef, undef, undef, undef, undef, undef, undef, undef, undef, undef, undef, undef, undef, undef, undef, undef, undef, undef, undef, undef, undef, undef, undef, undef, undef], []⟩ w (rckAt2 4) := by
 have H6t := Lib.hid (fun (w' : World) (hy : Ext w w') => rck6 (W := W) w' ga a R h (X.trans hy) (BA0.ext hy))
 obtain ⟨RT, hRT⟩ : ∃ t, (if (a.state == [] || !ownP 3 a.state || !digitsP a.zip 5 5 || (a.more != [] && !digitsP a.more 4 4)) = true then 2 else
   (if (a.unit != [] && (!(unitP (tokensP a.unit).1).2 || (unitP (tokensP a.unit).1).1 != a.unit || decide (10 < (((tokensP a.unit).1.getD 1 ⟨0, []⟩).t).length))) = true then 2 else
   (let r := tokensP (lineP a)
   let b := (streetP r.1 (a.unit == [])).1
   if (r.2.1 != 0 || !(a.pre == b.pre && a.name == b.name && a.suf == b.suf && a.post == b.post && a.half == b.half && b.unit == [])) = true then (2 : Int) else 0))) = t := ⟨_, rfl⟩
 simp only [hRT] at H6t
 rw [hRT] at hR
 replace hRT := Lib.hid hRT
 have H3 := Lib.hid (fun w' (_ : Ext w w') => rown_any 2 (.inr (.inl rfl)) a.pre w')
 have H4 := Lib.hid (fun w' (_ : Ext w w') => rown_any 2 (.inr (.inl rfl)) a.post w')
 have H5 := Lib.hid (fun w' (_ : Ext w w') => rown_any 1 (.inl rfl) a.suf w')
 clear h
 obtain ⟨zn, zh, zpre, zname, zsuf, zpost, zunit, zcity, zstate, zzip, zmore⟩ := a
 unfold adC at BA0
 dsimp only at *
 generalize ownP 2 zpre = o1 at *
 generalize ownP 2 zpost = o2 at *
 generalize ownP 1 zsuf = o3 at *
 obtain ⟨t1, ht1⟩ : ∃ t, decide (zn < 1) = t := ⟨_, rfl⟩
 obtain ⟨t2, ht2⟩ : ∃ t, decide (999999 < zn) = t := ⟨_, rfl⟩
 rw [ht1, ht2] at hR
 obtain ⟨F1, hF1⟩ : ∃ F, (t1 || t2 || !n1 || !n2 || !al || !o1 || !o2 || !o3) = F := ⟨_, rfl⟩
 rw [hF1] at hR
 replace hF1 := Lib.hid hF1
 replace hR := Lib.hid hR
 have BA := Lib.hid (fun w' (hx : Ext w w') => (show (∀ i, w'.cell? ⟨ga, i, none⟩ = (#[.int .i64 zn, .bool zh, .string ⟨zpre.toArray⟩, .string ⟨zname.toArray⟩, .string ⟨zsuf.toArray⟩, .string ⟨zpost.toArray⟩, .string ⟨zunit.toArray⟩, .string ⟨zcity.toArray⟩, .string ⟨zstate.toArray⟩, .string ⟨zzip.toArray⟩, .string ⟨zmore.toArray⟩] : Array Value)[i]?) ∧ ga < w'.heap.size ∧ (∀ i, w'.frozen? ⟨ga, i, none⟩ = false) from
  have B := BA0.ext hx; ⟨B.cell, B.lt, B.frozen⟩))
 have Xw := Lib.hid (Ext.refl w)
 obtain ⟨qa, la, qb⟩ := BA.out _ Xw.out
 have X0 := Lib.hid X
 clear X BA0
 conv => arg 5; whnf
 conv => arg 5; arg 1; whnf
 conv => arg 5; arg 2; whnf
 conv => arg 5; arg 2; arg 1; whnf
 conv => arg 5; arg 2; arg 2; whnf
 unfold KF2
 dsimp only
 intro K1 hK1 K2 hK2
 go_cut [71] from 34 to 71 (fun u wx => u = .bool F1 ∧ Ext w wx)
 case first =>
  clear H6t X0 hR
  cases t1 with
  | false =>
   cases t2 with
   | false =>
    cases n1 with
    | false =>
     have HE := Lib.hid (show Value.bool true = Value.bool F1 ∧ Ext w w from ⟨by rw [← hF1.out]; simp, Xw.out⟩)
     go_wp2_with fail
     go_meet
     case rel => exact HE.out
    | true =>
     cases n2 with
     | false =>
      have HE := Lib.hid (show Value.bool true = Value.bool F1 ∧ Ext w w from ⟨by rw [← hF1.out]; simp, Xw.out⟩)
      go_wp2_with fail
      go_meet
      case rel => exact HE.out
     | true =>
      cases al with
      | false =>
       have HE := Lib.hid (show Value.bool true = Value.bool F1 ∧ Ext w w from ⟨by rw [← hF1.out]; simp, Xw.out⟩)
       go_wp2_with fail
       go_meet
       case rel => exact HE.out
      | true =>
       go_wp2_with fail
       refine (H3.out _ Xw.out).mono ?_
       rintro e wo1 ⟨rfl, hx⟩
       have Xwo1 := Lib.hid (Xw.out.trans hx)
       obtain ⟨qa, la, qb⟩ := BA.out _ Xwo1.out
       clear hx
       cases o1 with
       | false =>
        have HE := Lib.hid (show Value.bool true = Value.bool F1 ∧ Ext w wo1 from ⟨by rw [← hF1.out]; simp, Xwo1.out⟩)
        go_wp2_with fail
        go_meet
        case rel => exact HE.out
       | true =>
        go_wp2_with fail
        refine (H4.out _ Xwo1.out).mono ?_
        rintro e wo2 ⟨rfl, hx⟩
        have Xwo2 := Lib.hid (Xwo1.out.trans hx)
        obtain ⟨qa, la, qb⟩ := BA.out _ Xwo2.out
        clear hx
        cases o2 with
        | false =>
         have HE := Lib.hid (show Value.bool true = Value.bool F1 ∧ Ext w wo2 from ⟨by rw [← hF1.out]; simp, Xwo2.out⟩)
         go_wp2_with fail
         go_meet
         case rel => exact HE.out
        | true =>
         go_wp2_with fail
         refine (H5.out _ Xwo2.out).mono ?_
         rintro e wo3 ⟨rfl, hx⟩
         have Xwo3 := Lib.hid (Xwo2.out.trans hx)
         obtain ⟨qa, la, qb⟩ := BA.out _ Xwo3.out
         clear hx
         cases o3 with
         | false =>
          have HE := Lib.hid (show Value.bool true = Value.bool F1 ∧ Ext w wo3 from ⟨by rw [← hF1.out]; simp, Xwo3.out⟩)
          go_wp2_with fail
          go_meet
          case rel => exact HE.out
         | true =>
          have HE := Lib.hid (show Value.bool false = Value.bool F1 ∧ Ext w wo3 from ⟨by rw [← hF1.out]; simp, Xwo3.out⟩)
          go_wp2_with fail
          go_meet
          case rel => exact HE.out
   | true =>
    have HE := Lib.hid (show Value.bool true = Value.bool F1 ∧ Ext w w from ⟨by rw [← hF1.out]; simp, Xw.out⟩)
    go_wp2_with fail
    go_meet
    case rel => exact HE.out
  | true =>
   have HE := Lib.hid (show Value.bool true = Value.bool F1 ∧ Ext w w from ⟨by rw [← hF1.out]; simp, Xw.out⟩)
   go_wp2_with fail
   go_meet
   case rel => exact HE.out
 case rest =>
  obtain ⟨rfl, hx⟩ := hcut
  cases F1 with
  | true =>
   have hQ := Lib.hid (show R = 2 by rw [hR.out]; rfl)
   have XE := Lib.hid (X0.out.trans hx)
   clear hR hx
   go_wp2_with fail
   go_ret
   exact ⟨by rw [hQ.out]; rfl, XE.out⟩
  | false =>
   go_upto_region 6 with (fail)
   exact H6t.out _ hx (by rw [hR.out]; rfl) _ (by assumption) _ (by assumption)
end Go.Proofs.YtjaponmpfdpemaaGreatDoor
set_option linter.unusedSimpArgs false
set_option linter.unusedVariables false
namespace Go.Proofs.YtjaponmpfdpemaaGreatDoor
open Go.RowKit
set_option maxRecDepth 100000 in
set_option maxHeartbeats 4000000 in
theorem rcheck_any (a : Ad) (h : AdS a 1000) (W : World) :
  Calls Tryz.prog 36 #[adV a] W fun e w' => e = .returned (.int .i64 (checkP a)) ∧ Ext W w' := by
 rw [← rcheck_eq]
 have h2 := h.name
 have h6 := h.city
 have B0 := Blk.new W 45 (adC a)
 have H4t := Lib.hid (fun (w' : World) (hy : Ext (W.alloc (.cells (adC a) 45)) w') => rck4 (W := W) w' W.heap.size a (namedP a.name [1, 2, 3]) (namedP a.city [1, 2, 3]) ((if namedP a.city [1, 2, 3] then (tokensP a.city).1 else []).all fun t => t.k == 1) (rcheckP a) h (((Ext.refl W).alloc _).trans hy) (B0.ext hy) rfl)
 have H1 := Lib.hid (fun w => rlist_any a.name (by omega) w)
 have H2 := Lib.hid (fun w => rlist_any a.city (by omega) w)
 have hsm : ∀ t ∈ (if namedP a.city [1, 2, 3] then (tokensP a.city).1 else []), t.t.length ≤ 300 := by
  intro t ht
  split at ht
  ·exact tokensP_sm _ t ht
  ·cases ht
 have hl40 : (if namedP a.city [1, 2, 3] then (tokensP a.city).1 else []).length ≤ 100 := by
  have := (tokensP_ok a.city).l40
  split
  ·omega
  ·simp
 clear h
 unfold LiR at H1 H2
 generalize namedP a.name [1, 2, 3] = n1 at *
 generalize (if n1 then (tokensP a.name).1 else []) = ln at *
 generalize (if namedP a.city [1, 2, 3] then (tokensP a.city).1 else []) = lc at *
 generalize namedP a.city [1, 2, 3] = n2 at *
 generalize rcheckP a = R at *
 obtain ⟨zn, zh, zpre, zname, zsuf, zpost, zunit, zcity, zstate, zzip, zmore⟩ := a
 rw [adV_eq]
 unfold adC at B0 H4t
 dsimp only at *
 go_enter Tryz.func36, Tryz.ntmps36
 go_upto_region 1 with (fail)
 generalize W.alloc (.cells #[.int .i64 zn, .bool zh, .string ⟨zpre.toArray⟩, .string ⟨zname.toArray⟩, .string ⟨zsuf.toArray⟩, .string ⟨zpost.toArray⟩, .string ⟨zunit.toArray⟩, .string ⟨zcity.toArray⟩, .string ⟨zstate.toArray⟩, .string ⟨zzip.toArray⟩, .string ⟨zmore.toArray⟩] 45) = w at *
 generalize W.heap.size = ga at *
 have BA := Lib.hid (fun w' (hx : Ext w w') => (show (∀ i, w'.cell? ⟨ga, i, none⟩ = (#[.int .i64 zn, .bool zh, .string ⟨zpre.toArray⟩, .string ⟨zname.toArray⟩, .string ⟨zsuf.toArray⟩, .string ⟨zpost.toArray⟩, .string ⟨zunit.toArray⟩, .string ⟨zcity.toArray⟩, .string ⟨zstate.toArray⟩, .string ⟨zzip.toArray⟩, .string ⟨zmore.toArray⟩] : Array Value)[i]?) ∧ ga < w'.heap.size ∧ (∀ i, w'.frozen? ⟨ga, i, none⟩ = false) from
  have B := B0.ext hx; ⟨B.cell, B.lt, B.frozen⟩))
 clear B0
 have Xw := Lib.hid (Ext.refl w)
 obtain ⟨qa, la, qb⟩ := BA.out _ Xw.out
 go_wp2_with fail
 refine (H1.out _).mono ?_
 rintro e w1 ⟨v1, rfl, _, hx1⟩
 replace Xw := Lib.hid (Xw.out.trans hx1)
 clear hx1 H1
 obtain ⟨qa, la, qb⟩ := BA.out _ Xw.out
 go_wp2_with fail
 refine (H2.out _).mono ?_
 rintro e w2 ⟨v2, rfl, hown, hx2⟩
 obtain ⟨A, cp, rfl, c1, c2, c3⟩ := own_slice hown
 have T2 : TokS w2 A lc.length cp lc := ⟨rfl, c3, c1, c2, hl40, hsm⟩
 have HK := Lib.hid (rkinds_any lc A lc.length cp 1 w2 T2)
 replace Xw := Lib.hid (Xw.out.trans hx2)
 clear hx2 H2 hown c1 c2 c3 T2 hl40 hsm
 obtain ⟨qa, la, qb⟩ := BA.out _ Xw.out
 go_wp2_with fail
 refine HK.out.mono ?_
 rintro e w3 ⟨rfl, hx3⟩
 have X3 := Xw.out.trans hx3
 clear hx3 HK qa la qb
 go_upto_region 4 with (fail)
 exact H4t.out _ X3 _ (by assumption) _ (by assumption)
end Go.Proofs.YtjaponmpfdpemaaGreatDoor
set_option linter.unusedSimpArgs false
set_option linter.unusedVariables false
namespace Go.Proofs.YtjaponmpfdpemaaGreatDoor
open Go.RowKit
set_option maxRecDepth 100000 in
set_option maxHeartbeats 4000000 in
theorem rsrcheck_any (s : Sr) (h : SrS s 1000) (W : World) : Calls Tryz.prog 15 #[srV s] W fun e w' => e = .returned (.int .i64 s.check) ∧ Ext W w' := by
 rw [← Sr.check_eq]
 have HD := Lib.hid (fun w => raddress_any s w)
 have HC := Lib.hid (fun w (hx : Ext W w) => rcheck_any s.ad (h.ad (by decide)) w)
 rw [srad_V] at HC HD
 have HA := Lib.hid (fun w (_ : Ext W w) => rptvalid_any s.ax s.ay w)
 have HB := Lib.hid (fun w (_ : Ext W w) => rptvalid_any s.bx s.by_ w)
 have HX1 := Lib.hid (fun w (_ : Ext W w) => rsrhas_any s s.fr w)
 have HX2 := Lib.hid (fun w (_ : Ext W w) => rsrhas_any s (s.fr + 1) w)
 obtain ⟨R, hR⟩ : ∃ R, s.checkR = R := ⟨_, rfl⟩
 have hP : R = if (!s.fine || !ptP s.ax s.ay || !ptP s.bx s.by_ || (!s.hasR s.fr && !s.hasR (s.fr + 1))) = true then 2 else 0 := by rw [← hR]; rfl
 have hf : s.fine = (decide (checkP s.ad = 0) && decide (1 ≤ s.fr) && decide (s.fr ≤ s.to_) && decide (s.to_ ≤ 999999) && decide (1 ≤ s.side) && decide (s.side ≤ 3)) := rfl
 have hwr : s.fine = true → IntKind.i64.wrap (s.fr + 1) = s.fr + 1 := fun hh => by have := (Sr.fine_num hh).f1; have := (Sr.fine_num hh).ft; have := (Sr.fine_num hh).t9; rw [IntKind.wrap_i64]; omega
 rw [hR]
 clear hR h
 generalize checkP s.ad = q at *
 generalize s.fine = F1 at *
 generalize ptP s.ax s.ay = pa at *
 generalize ptP s.bx s.by_ = pb at *
 generalize s.hasR s.fr = h1 at *
 generalize s.hasR (s.fr + 1) = h2 at *
 simp only [srV_eq] at HX1 HX2 HD
 obtain ⟨zstate, zcity, zpre, zname, zsuf, zpost, zf, zt, zs, zax, zay, zbx, zby⟩ := s
 rw [srV_eq]
 dsimp only at *
 obtain ⟨t1, ht1⟩ : ∃ t, decide (1 ≤ zf) = t := ⟨_, rfl⟩
 obtain ⟨t2, ht2⟩ : ∃ t, decide (zf ≤ zt) = t := ⟨_, rfl⟩
 obtain ⟨t3, ht3⟩ : ∃ t, decide (zt ≤ 999999) = t := ⟨_, rfl⟩
 obtain ⟨t4, ht4⟩ : ∃ t, decide (1 ≤ zs) = t := ⟨_, rfl⟩
 obtain ⟨t5, ht5⟩ : ∃ t, decide (zs ≤ 3) = t := ⟨_, rfl⟩
 obtain ⟨b0, hb0⟩ : ∃ t, (q == 0) = t := ⟨_, rfl⟩
 have hb1 : decide (q = 0) = b0 := by rw [← hb0]; by_cases h : q = 0 <;> simp [h]
 rw [hb1, ht1, ht2, ht3, ht4, ht5] at hf
 have hF1 := Lib.hid hf.symm
 obtain ⟨F2, hF2⟩ : ∃ t, (!F1 || !pa || !pb || (!h1 && !h2)) = t := ⟨_, rfl⟩
 rw [hF2] at hP
 replace hF2 := Lib.hid hF2
 replace hP := Lib.hid hP
 replace hwr := Lib.hid hwr
 clear hf hb1
 have X2 := (Ext.refl W).alloc (.cells #[.string ⟨zstate.toArray⟩, .string ⟨zcity.toArray⟩, .string ⟨zpre.toArray⟩, .string ⟨zname.toArray⟩, .string ⟨zsuf.toArray⟩, .string ⟨zpost.toArray⟩, .int .i64 zf, .int .i64 zt, .int .i64 zs, .int .i64 zax, .int .i64 zay, .int .i64 zbx, .int .i64 zby] 25)
 have B2 := Blk.new W 25 #[.string ⟨zstate.toArray⟩, .string ⟨zcity.toArray⟩, .string ⟨zpre.toArray⟩, .string ⟨zname.toArray⟩, .string ⟨zsuf.toArray⟩, .string ⟨zpost.toArray⟩, .int .i64 zf, .int .i64 zt, .int .i64 zs, .int .i64 zax, .int .i64 zay, .int .i64 zbx, .int .i64 zby]
 go_enter Tryz.func15, Tryz.ntmps15
 go_upto_region 1 with (fail)
 generalize W.alloc (.cells #[.string ⟨zstate.toArray⟩, .string ⟨zcity.toArray⟩, .string ⟨zpre.toArray⟩, .string ⟨zname.toArray⟩, .string ⟨zsuf.toArray⟩, .string ⟨zpost.toArray⟩, .int .i64 zf, .int .i64 zt, .int .i64 zs, .int .i64 zax, .int .i64 zay, .int .i64 zbx, .int .i64 zby] 25) = w0 at *
 generalize hga : W.heap.size = ga at *
 clear hga
 have X0 := Lib.hid X2
 have BA := Lib.hid (fun w (hx : Ext w0 w) => (show (∀ i, w.cell? ⟨ga, i, none⟩ = (#[.string ⟨zstate.toArray⟩, .string ⟨zcity.toArray⟩, .string ⟨zpre.toArray⟩, .string ⟨zname.toArray⟩, .string ⟨zsuf.toArray⟩, .string ⟨zpost.toArray⟩, .int .i64 zf, .int .i64 zt, .int .i64 zs, .int .i64 zax, .int .i64 zay, .int .i64 zbx, .int .i64 zby] : Array Value)[i]?) ∧ ga < w.heap.size ∧ (∀ i, w.frozen? ⟨ga, i, none⟩ = false) from
  have B := B2.ext hx; ⟨B.cell, B.lt, B.frozen⟩))
 replace HC := Lib.hid (fun w (hx : Ext w0 w) => HC.out w (X2.trans hx))
 replace HA := Lib.hid (fun w (hx : Ext w0 w) => HA.out w (X2.trans hx))
 replace HB := Lib.hid (fun w (hx : Ext w0 w) => HB.out w (X2.trans hx))
 replace HX1 := Lib.hid (fun w (hx : Ext w0 w) => HX1.out w (X2.trans hx))
 replace HX2 := Lib.hid (fun w (hx : Ext w0 w) => HX2.out w (X2.trans hx))
 have Xw0 := Lib.hid (Ext.refl w0)
 obtain ⟨qa, la, qb⟩ := BA.out _ Xw0.out
 clear B2 X2
 go_cut [3] from 4 to 34 (fun u wx => u = .bool F1 ∧ Ext w0 wx)
 case first =>
  clear HX1 HX2 HA HB hP hF2 hwr
  go_wp2_with fail
  refine (HD.out _).mono ?_
  rintro e wD ⟨rfl, hx⟩
  have XwD := Lib.hid (Xw0.out.trans hx)
  clear qa la qb
  obtain ⟨qa, la, qb⟩ := BA.out _ XwD.out
  clear hx
  go_wp2_with fail
  refine (HC.out _ XwD.out).mono ?_
  rintro e wb0 ⟨rfl, hx⟩
  have Xwb0 := Lib.hid (XwD.out.trans hx)
  obtain ⟨qa, la, qb⟩ := BA.out _ Xwb0.out
  clear hx
  cases b0 with
  | false =>
   have HE := Lib.hid (show Value.bool false = Value.bool F1 ∧ Ext w0 wb0 from ⟨by rw [← hF1.out]; simp, Xwb0.out⟩)
   go_wp2_with fail
   go_meet
   case rel => exact HE.out
  | true =>
   cases t1 with
   | false =>
    have HE := Lib.hid (show Value.bool false = Value.bool F1 ∧ Ext w0 wb0 from ⟨by rw [← hF1.out]; simp, Xwb0.out⟩)
    go_wp2_with fail
    go_meet
    case rel => exact HE.out
   | true =>
    cases t2 with
    | false =>
     have HE := Lib.hid (show Value.bool false = Value.bool F1 ∧ Ext w0 wb0 from ⟨by rw [← hF1.out]; simp, Xwb0.out⟩)
     go_wp2_with fail
     go_meet
     case rel => exact HE.out
    | true =>
     cases t3 with
     | false =>
      have HE := Lib.hid (show Value.bool false = Value.bool F1 ∧ Ext w0 wb0 from ⟨by rw [← hF1.out]; simp, Xwb0.out⟩)
      go_wp2_with fail
      go_meet
      case rel => exact HE.out
     | true =>
      cases t4 with
      | false =>
       have HE := Lib.hid (show Value.bool false = Value.bool F1 ∧ Ext w0 wb0 from ⟨by rw [← hF1.out]; simp, Xwb0.out⟩)
       go_wp2_with fail
       go_meet
       case rel => exact HE.out
      | true =>
       cases t5 with
       | false =>
        have HE := Lib.hid (show Value.bool false = Value.bool F1 ∧ Ext w0 wb0 from ⟨by rw [← hF1.out]; simp, Xwb0.out⟩)
        go_wp2_with fail
        go_meet
        case rel => exact HE.out
       | true =>
        have HE := Lib.hid (show Value.bool true = Value.bool F1 ∧ Ext w0 wb0 from ⟨by rw [← hF1.out]; simp, Xwb0.out⟩)
        go_wp2_with fail
        go_meet
        case rel => exact HE.out
 case rest =>
  obtain ⟨rfl, hx⟩ := hcut
  have Xwc := Lib.hid hx
  clear hx qa la qb Xw0 HC HD hF1
  obtain ⟨qa, la, qb⟩ := BA.out _ Xwc.out
  go_upto_region 2 with (fail)
  go_cut [63] from 35 to 63 (fun u wx => u = .bool F2 ∧ Ext w0 wx)
  case first =>
   clear hP
   cases F1 with
   | false =>
    have HE := Lib.hid (show Value.bool true = Value.bool F2 ∧ Ext w0 wc from ⟨by rw [← hF2.out]; simp, Xwc.out⟩)
    go_wp2_with fail
    go_meet
    case rel => exact HE.out
   | true =>
    go_wp2_with fail
    refine (HA.out _ Xwc.out).mono ?_
    rintro e wpa ⟨rfl, hx⟩
    have Xwpa := Lib.hid (Xwc.out.trans hx)
    obtain ⟨qa, la, qb⟩ := BA.out _ Xwpa.out
    clear hx
    cases pa with
    | false =>
     have HE := Lib.hid (show Value.bool true = Value.bool F2 ∧ Ext w0 wpa from ⟨by rw [← hF2.out]; simp, Xwpa.out⟩)
     go_wp2_with fail
     go_meet
     case rel => exact HE.out
    | true =>
     go_wp2_with fail
     refine (HB.out _ Xwpa.out).mono ?_
     rintro e wpb ⟨rfl, hx⟩
     have Xwpb := Lib.hid (Xwpa.out.trans hx)
     obtain ⟨qa, la, qb⟩ := BA.out _ Xwpb.out
     clear hx
     cases pb with
     | false =>
      have HE := Lib.hid (show Value.bool true = Value.bool F2 ∧ Ext w0 wpb from ⟨by rw [← hF2.out]; simp, Xwpb.out⟩)
      go_wp2_with fail
      go_meet
      case rel => exact HE.out
     | true =>
      have hw := hwr.out (by first | rfl | trivial)
      go_wp2_with fail
      refine (HX1.out _ Xwpb.out).mono ?_
      rintro e wh1 ⟨rfl, hx⟩
      have Xwh1 := Lib.hid (Xwpb.out.trans hx)
      obtain ⟨qa, la, qb⟩ := BA.out _ Xwh1.out
      clear hx
      cases h1 with
      | false =>
       go_wp2_with fail
       refine (HX2.out _ Xwh1.out).mono ?_
       rintro e wh2 ⟨rfl, hx⟩
       have Xwh2 := Lib.hid (Xwh1.out.trans hx)
       obtain ⟨qa, la, qb⟩ := BA.out _ Xwh2.out
       clear hx
       cases h2 with
       | false =>
        have HE := Lib.hid (show Value.bool true = Value.bool F2 ∧ Ext w0 wh2 from ⟨by rw [← hF2.out]; simp, Xwh2.out⟩)
        go_wp2_with fail
        go_meet
        case rel => exact HE.out
       | true =>
        have HE := Lib.hid (show Value.bool false = Value.bool F2 ∧ Ext w0 wh2 from ⟨by rw [← hF2.out]; simp, Xwh2.out⟩)
        go_wp2_with fail
        go_meet
        case rel => exact HE.out
      | true =>
       have HE := Lib.hid (show Value.bool false = Value.bool F2 ∧ Ext w0 wh1 from ⟨by rw [← hF2.out]; simp, Xwh1.out⟩)
       go_wp2_with fail
       go_meet
       case rel => exact HE.out
  case rest =>
   obtain ⟨rfl, hx⟩ := hcut
   clear qa la qb Xwc HA HB HX1 HX2
   have Xwc := Lib.hid (X0.out.trans hx)
   clear hx
   cases F2 with
   | true =>
    have hQ := Lib.hid (show R = 2 by rw [hP.out]; rfl)
    clear hP
    go_wp2_with fail
    go_ret
    exact ⟨by rw [hQ.out]; rfl, Xwc.out⟩
   | false =>
    have hQ := Lib.hid (show R = 0 by rw [hP.out]; rfl)
    clear hP
    go_wp2_with fail
    go_ret
    exact ⟨by rw [hQ.out]; rfl, Xwc.out⟩
end Go.Proofs.YtjaponmpfdpemaaGreatDoor
set_option linter.unusedSimpArgs false
set_option linter.unusedVariables false
namespace Go.Proofs.YtjaponmpfdpemaaGreatDoor
def sumD (f : Nat → Nat) : Nat → Nat
 | 0 => 0
 | k + 1 => sumD f k + f k * 65536 ^ k
def dig (n i : Nat) : Nat := n / 65536 ^ i % 65536
theorem B_pos (k : Nat) : 0 < 65536 ^ k := Nat.pow_pos (by decide)
theorem dig_lt (n i : Nat) : dig n i < 65536 := Nat.mod_lt _ (by decide)
theorem sumD_lt {f : Nat → Nat} : ∀ {k : Nat}, (∀ i, i < k → f i < 65536) → sumD f k < 65536 ^ k
 | 0, _ => by simp [sumD]
 | k + 1, h => by
  have h1 := sumD_lt (f := f) (k := k) fun i hi => h i (by omega)
  have h2 := Nat.mul_le_mul_right (65536 ^ k) (show f k + 1 ≤ 65536 from h k (by omega))
  rw [Nat.add_mul, Nat.one_mul] at h2
  rw [sumD, Nat.pow_succ, Nat.mul_comm (65536 ^ k) 65536]
  omega
theorem sumD_congr {f g : Nat → Nat} : ∀ {k : Nat}, (∀ i, i < k → f i = g i) → sumD f k = sumD g k
 | 0, _ => rfl
 | k + 1, h => by rw [sumD, sumD, sumD_congr (fun i hi => h i (by omega)), h k (by omega)]
theorem sumD_dig (n : Nat) : ∀ k, sumD (dig n) k = n % 65536 ^ k
 | 0 => by simp [sumD, Nat.mod_one]
 | k + 1 => by
  rw [sumD, sumD_dig n k, Nat.pow_succ, Nat.mod_mul, dig, Nat.mul_comm]
theorem sumD_dig12 {n : Nat} (h : n < 65536 ^ 12) : sumD (dig n) 12 = n := by rw [sumD_dig, Nat.mod_eq_of_lt h]
theorem sumD_add (f g : Nat → Nat) : ∀ k, sumD (fun i => f i + g i) k = sumD f k + sumD g k
 | 0 => rfl
 | k + 1 => by rw [sumD, sumD, sumD, sumD_add f g k, Nat.add_mul]; omega
theorem sum_div (f : Nat → Nat) (k : Nat) : sumD f (k + 1) / 65536 ^ k = sumD f k / 65536 ^ k + f k := by
 rw [sumD, Nat.add_mul_div_right _ _ (B_pos k)]
theorem dig_more (f : Nat → Nat) {i k : Nat} (h : i < k) : dig (sumD f (k + 1)) i = dig (sumD f k) i := by
 unfold dig
 have e : f k * 65536 ^ k = f k * 65536 ^ (k - i - 1) * 65536 * 65536 ^ i := by
  have : 65536 ^ k = 65536 ^ (k - i - 1) * 65536 * 65536 ^ i := by
   rw [← Nat.pow_succ, ← Nat.pow_add]; congr 1; omega
  rw [this, ← Nat.mul_assoc, ← Nat.mul_assoc]
 rw [sumD, e, Nat.add_mul_div_right _ _ (B_pos i), Nat.add_mul_mod_self_right]
def upd (f : Nat → Nat) (k v : Nat) : Nat → Nat := fun i => if i = k then v else f i
def cst (f : Nat → Nat) (k : Nat) : Nat → Nat := fun i => if i < k then dig (sumD f k) i else if i = k then f k + sumD f k / 65536 ^ k else f i
theorem cst_0 (f : Nat → Nat) : cst f 0 = f := by
 funext i
 unfold cst
 rw [if_neg (by omega)]
 split
 ·next h => subst h; simp [sumD]
 ·rfl
theorem cst_k (f : Nat → Nat) (k : Nat) : cst f k k = f k + sumD f k / 65536 ^ k := by
 unfold cst
 rw [if_neg (by omega), if_pos rfl]
theorem cst_up (f : Nat → Nat) {k i : Nat} (h : k < i) : cst f k i = f i := by
 unfold cst
 rw [if_neg (by omega), if_neg (by omega)]
theorem cst_step (f : Nat → Nat) (k : Nat) : cst f (k + 1) = upd (upd (cst f k) (k + 1) (cst f k (k + 1) + cst f k k / 65536)) k (cst f k k % 65536) := by
 funext i
 have hs := sum_div f k
 unfold upd
 by_cases h1 : i = k
 ·subst h1
  rw [if_pos rfl, cst_k]
  unfold cst
  rw [if_pos (by omega)]
  unfold dig
  rw [hs, Nat.add_comm]
 rw [if_neg h1]
 by_cases h2 : i = k + 1
 ·subst h2
  rw [if_pos rfl, cst_k, cst_up f (by omega), cst_k, Nat.pow_succ, ← Nat.div_div_eq_div_mul, hs, Nat.add_comm (f k)]
 rw [if_neg h2]
 unfold cst
 by_cases h3 : i < k
 ·rw [if_pos (by omega), if_pos h3, dig_more f h3]
 ·rw [if_neg (by omega), if_neg h2, if_neg h3, if_neg h1]
theorem cst_end {f : Nat → Nat} (h : sumD f 12 < 65536 ^ 12) {i : Nat} (hi : i < 12) : cst f 11 i = dig (sumD f 12) i := by
 unfold cst
 by_cases h1 : i < 11
 ·rw [if_pos h1, dig_more f h1]
 ·have h2 : i = 11 := by omega
  subst h2
  rw [if_neg (by omega), if_pos rfl]
  have hs := sum_div f 11
  unfold dig
  rw [Nat.mod_eq_of_lt, hs, Nat.add_comm]
  exact (Nat.div_lt_iff_lt_mul (B_pos 11)).2 (by rw [Nat.mul_comm, ← Nat.pow_succ]; exact h)
theorem carry_bd {f : Nat → Nat} {M : Nat} (hM : 2 ≤ M) (h : ∀ i, f i ≤ M) : ∀ k, sumD f k / 65536 ^ k ≤ M
 | 0 => by simp [sumD]
 | k + 1 => by
  have h1 := carry_bd hM h k
  have h2 := h k
  rw [Nat.pow_succ, ← Nat.div_div_eq_div_mul, sum_div]
  omega
theorem cst_bd {f : Nat → Nat} {M : Nat} (hM : 65536 ≤ M) (h : ∀ i, f i ≤ M) (k i : Nat) : cst f k i ≤ 2 * M := by
 unfold cst
 split
 ·have := dig_lt (sumD f k) i; omega
 split
 ·have := carry_bd (by omega) h k
  have := h k
  omega
 ·have := h i; omega
theorem top_eq {n i : Nat} : n / 65536 ^ i = 65536 * (n / 65536 ^ (i + 1)) + dig n i := by
 unfold dig
 rw [Nat.pow_succ, ← Nat.div_div_eq_div_mul]
 omega
theorem top_lt {m n i : Nat} (h : m / 65536 ^ (i + 1) = n / 65536 ^ (i + 1)) (hl : dig m i < dig n i) : m < n := by
 have e1 := top_eq (n := m) (i := i)
 have e2 := top_eq (n := n) (i := i)
 rcases Nat.lt_or_ge m n with hlt | hge
 ·exact hlt
 ·have := Nat.div_le_div_right (c := 65536 ^ i) hge
  omega
theorem top_next {m n i : Nat} (h : m / 65536 ^ (i + 1) = n / 65536 ^ (i + 1)) (hl : dig m i = dig n i) : m / 65536 ^ i = n / 65536 ^ i := by
 rw [top_eq (n := m), top_eq (n := n), h, hl]
def cmpN (m n : Nat) : Int := if m < n then -1 else if n < m then 1 else 0
def brw (m n k : Nat) : Nat := if m % 65536 ^ k < n % 65536 ^ k then 1 else 0
theorem brw_0 (m n : Nat) : brw m n 0 = 0 := by simp [brw, Nat.mod_one]
theorem mod_step (n k : Nat) : n % 65536 ^ (k + 1) = n % 65536 ^ k + dig n k * 65536 ^ k := by
 rw [Nat.pow_succ, Nat.mod_mul, dig, Nat.mul_comm (n / 65536 ^ k % 65536)]
theorem mod_lt_pow (n k : Nat) : n % 65536 ^ k < 65536 ^ k := Nat.mod_lt _ (B_pos k)
theorem sub_mod {m n k : Nat} (h : n ≤ m) : (m - n) % 65536 ^ k + n % 65536 ^ k = m % 65536 ^ k + brw m n k * 65536 ^ k := by
 have e : m = (m - n) + n := by omega
 generalize m - n = d at *
 subst e
 unfold brw
 have h1 := mod_lt_pow d k
 have h2 := mod_lt_pow n k
 rw [Nat.add_mod]
 generalize d % 65536 ^ k = a at *
 generalize n % 65536 ^ k = b at *
 generalize 65536 ^ k = P at *
 rcases Nat.lt_or_ge (a + b) P with hl | hl
 ·rw [Nat.mod_eq_of_lt hl, if_neg (by omega)]; omega
 ·have : (a + b) % P = a + b - P := by rw [Nat.mod_eq_sub_mod hl, Nat.mod_eq_of_lt (by omega)]
  rw [this, if_pos (by omega)]; omega
theorem sub_dig {m n : Nat} (h : n ≤ m) (k : Nat) : (dig (m - n) k : Int) = (dig m k : Int) - (brw m n k : Int) - (dig n k : Int) + (brw m n (k + 1) : Int) * 65536 := by
 have s1 := sub_mod (k := k) h
 have s2 := sub_mod (k := k + 1) h
 rw [mod_step, mod_step n, mod_step m, Nat.pow_succ] at s2
 generalize (m - n) % 65536 ^ k = a at *
 generalize n % 65536 ^ k = b at *
 generalize m % 65536 ^ k = c at *
 have hP := B_pos k
 generalize 65536 ^ k = P at *
 generalize brw m n k = x at *
 generalize brw m n (k + 1) = y at *
 generalize dig (m - n) k = d at *
 generalize dig m k = u at *
 generalize dig n k = v at *
 have s3 : (d + v + x) * P = (u + y * 65536) * P := by
  have e1 : (d + v + x) * P = d * P + v * P + x * P := by rw [Nat.add_mul, Nat.add_mul]
  have e2 : (u + y * 65536) * P = u * P + y * (P * 65536) := by rw [Nat.add_mul, Nat.mul_assoc, Nat.mul_comm 65536 P]
  omega
 have := Nat.eq_of_mul_eq_mul_right hP s3
 omega
theorem brw_12 {m n : Nat} (h : n ≤ m) (hm : m < 65536 ^ 12) : brw m n 12 = 0 := by
 unfold brw
 rw [Nat.mod_eq_of_lt hm, Nat.mod_eq_of_lt (by omega), if_neg (by omega)]
theorem brw_le (m n k : Nat) : brw m n k ≤ 1 := by unfold brw; split <;> omega
theorem bit_dig (x i : Nat) : dig x (i / 16) / 2 ^ (i % 16) % 2 = x / 2 ^ i % 2 := by
 unfold dig
 have e : 65536 ^ (i / 16) = 2 ^ (16 * (i / 16)) := by rw [Nat.pow_mul]
 have h16 : (65536 : Nat) = 2 ^ (i % 16) * 2 * 2 ^ (15 - i % 16) := by
  rw [← Nat.pow_succ, ← Nat.pow_add, show i % 16 + 1 + (15 - i % 16) = 16 by omega]
 have hi : 2 ^ i = 65536 ^ (i / 16) * 2 ^ (i % 16) := by rw [e, ← Nat.pow_add]; congr 1; omega
 rw [hi, ← Nat.div_div_eq_div_mul]
 generalize x / 65536 ^ (i / 16) = y
 conv => lhs; rw [h16]
 rw [Nat.mul_assoc, Nat.mod_mul_right_div_self, Nat.mod_mul_right_mod]
theorem div_bit {x i c : Nat} (hc : 0 < c) (q r : Nat) (hq : q = x / 2 ^ (i + 1) / c) (hr : r = x / 2 ^ (i + 1) % c) :
  x / 2 ^ i / c = (if c ≤ 2 * r + x / 2 ^ i % 2 then 2 * q + 1 else 2 * q) ∧ x / 2 ^ i % c = (if c ≤ 2 * r + x / 2 ^ i % 2 then 2 * r + x / 2 ^ i % 2 - c else 2 * r + x / 2 ^ i % 2) := by
 have e : x / 2 ^ (i + 1) = x / 2 ^ i / 2 := by rw [Nat.pow_succ, Nat.div_div_eq_div_mul]
 rw [e] at hq hr
 generalize x / 2 ^ i = y at *
 have hd := Nat.div_add_mod (y / 2) c
 rw [← hq, ← hr] at hd
 have hrc : r < c := by rw [hr]; exact Nat.mod_lt _ hc
 have hy : y = c * (2 * q) + (2 * r + y % 2) := by
  have : c * (2 * q) = 2 * (c * q) := by rw [Nat.mul_left_comm]
  omega
 have hb : y % 2 < 2 := Nat.mod_lt _ (by decide)
 generalize y % 2 = b at *
 by_cases h : c ≤ 2 * r + b
 ·rw [if_pos h, if_pos h]
  have hy2 : y = c * (2 * q + 1) + (2 * r + b - c) := by rw [Nat.mul_add, Nat.mul_one]; omega
  constructor
  ·rw [hy2, Nat.mul_add_div hc, Nat.div_eq_of_lt (by omega), Nat.add_zero]
  ·rw [hy2, Nat.mul_add_mod, Nat.mod_eq_of_lt (by omega)]
 ·rw [if_neg h, if_neg h]
  constructor
  ·rw [hy, Nat.mul_add_div hc, Nat.div_eq_of_lt (by omega), Nat.add_zero]
  ·rw [hy, Nat.mul_add_mod, Nat.mod_eq_of_lt (by omega)]
end Go.Proofs.YtjaponmpfdpemaaGreatDoor
