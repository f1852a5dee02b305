/-
  apportionref17: Check, from the line on (printed by tools/genIa.py).
-/
import Derived.Deep.RegionHeld3
import Derived.Test.YtjaponmpfdpemaaGreatDoorBb31
import Derived.Test.YtjaponmpfdpemaaGreatDoorBb19
set_option linter.unusedSimpArgs false
set_option linter.unusedVariables false
namespace Go.Proofs.YtjaponmpfdpemaaGreatDoor
open Go.RowKit
def CkR (W : World) (R : Int) (e : Ending) (w' : World) : Prop := e = .returned (.int .i64 R) ∧ Ext W w'
noncomputable def rckAt1 (n : Nat) : Code × Code := cut1 (Tryz.f36.body.bind (tailIn n))
noncomputable def rckAt2 (n : Nat) : Code × Code × Code := cut2 (Tryz.f36.body.bind (tailIn n))
set_option maxRecDepth 100000 in
set_option maxHeartbeats 4000000 in
theorem rck14 (W w : World) (ga gf gs : Nat) (a st : Ad) (fe fa R : Int) (X : Ext W w) (BA0 : Blk w ga 45 (adC a)) (BF : Blk w gf 36 #[.int .i64 fe, .int .i64 fa]) (BS : Blk w gs 45 (adC st)) (hR : R = if (fe != 0 || !(a.pre == st.pre && a.name == st.name && a.suf == st.suf && a.post == st.post && a.half == st.half && st.unit == [])) = true then 2 else 0) ⦃u0 u2 u3 u4 u5 u6 u7 u8 u9 u10 u11 u14 u15 u17 u18 u19 u20 u21 u22 u23 u24 u25 u26 u27 u28 u29 u30 u31 u32 u33 u34 u35 u36 u37 u38 u39 u40 u41 u42 u43 u44 u45 u46 u47 u48 u49 u50 u51 u52 u53 u54 u55 u56 u57 u58 u59 u60 u61 u62 u63 u64 u65 u66 u67 u68 u69 u70 u71 u72 u73 u74 u75 u76 u77 u78 u79 u80 u81 u82 u83 u84 u85 u86 u87 u88 u89 u90 u91 u92 u93 u94 u95 u96 u97 u98 u99 u100 u101 u102 u103 u104 u105 u106 u107 u108 u109 u110 u111 u112 u113 u114 u115 u116 u117 u118 u119 u120 u121 u122 u123 u124 u125 u126 u127 u128 u129 u130 u131 u132 u133 u134 u135 u136 u137 u138 u139 : Value⦄ : KF1 Tryz.prog (bodyPost Tryz.prog Tryz.f36 (CkR W R)) ⟨#[u0, .pointer (some ⟨ga, 0, none⟩), u2, u3, u4, u5, u6, u7, u8, u9, u10, u11, .pointer (some ⟨gf, 0, none⟩), .pointer (some ⟨gs, 0, none⟩), u14, u15, undef, u17, u18, u19, u20, u21, u22, u23, u24, u25, u26, u27, u28, u29, u30, u31, u32, u33, u34, u35, u36, u37, u38, u39, u40, u41, u42, u43, u44, u45, u46, u47, u48, u49, u50, u51, u52, u53, u54, u55, u56, u57, u58, u59, u60, u61, u62, u63, u64, u65, u66, u67, u68, u69, u70, u71, u72, u73, u74, u75, u76, u77, u78, u79, u80, u81, u82, u83, u84, u85, u86, u87, u88, u89, u90, u91, u92, u93, u94, u95, u96, u97, u98, u99, u100, u101, u102, u103, u104, u105, u106, u107, u108, u109, u110, u111, u112, u113, u114, u115, u116, u117, u118, u119, u120, u121, u122, u123, u124, u125, u126, u127, u128, u129, u130, u131, u132, u133, u134, u135, u136, u137, u138, u139, undef, undef, undef, undef, undef, undef, undef, undef, undef, undef, undef, undef, undef, undef, undef, undef, undef, undef, undef, undef, undef, undef, undef, undef, undef, undef, undef, undef, undef, undef, undef, undef, undef, undef, undef, undef, undef, undef, undef, undef, undef, undef, undef, undef, undef], []⟩ w (rckAt1 14) := by
 obtain ⟨zn, zh, zpre, zname, zsuf, zpost, zunit, zcity, zstate, zzip, zmore⟩ := a
 obtain ⟨s1, s2, s3, s4, s5, s6, s7, s8, s9, s10, s11⟩ := st
 unfold adC at BA0 BS
 dsimp only at *
 obtain ⟨qa, _⟩ := BA0.cells
 obtain ⟨qs, _⟩ := BS.cells
 have la := BA0.lt
 have ls := BS.lt
 have c0 : w.cell? ⟨gf, 0, none⟩ = some (.int .i64 fe) := BF.cell 0
 have lf := BF.lt
 have Xw := Lib.hid (Ext.refl w)
 have XW := Lib.hid X
 obtain ⟨b1, hb1⟩ : ∃ t, (zpre == s3) = t := ⟨_, rfl⟩
 have hc1 : decide (zpre = s3) = b1 := by rw [← hb1]; by_cases h : zpre = s3 <;> simp [h]
 obtain ⟨b2, hb2⟩ : ∃ t, (zname == s4) = t := ⟨_, rfl⟩
 have hc2 : decide (zname = s4) = b2 := by rw [← hb2]; by_cases h : zname = s4 <;> simp [h]
 obtain ⟨b3, hb3⟩ : ∃ t, (zsuf == s5) = t := ⟨_, rfl⟩
 have hc3 : decide (zsuf = s5) = b3 := by rw [← hb3]; by_cases h : zsuf = s5 <;> simp [h]
 obtain ⟨b4, hb4⟩ : ∃ t, (zpost == s6) = t := ⟨_, rfl⟩
 have hc4 : decide (zpost = s6) = b4 := by rw [← hb4]; by_cases h : zpost = s6 <;> simp [h]
 obtain ⟨b5, hb5⟩ : ∃ t, (zh == s2) = t := ⟨_, rfl⟩
 have hc5 : decide (zh = s2) = b5 := by rw [← hb5]; cases zh <;> cases s2 <;> rfl
 obtain ⟨b6, hb6⟩ : ∃ t, (s7 == []) = t := ⟨_, rfl⟩
 have hc6 : decide (s7 = []) = b6 := by rw [bs_dec]; exact hb6
 have hd6 : s7.isEmpty = b6 := by rw [← hb6]; cases s7 <;> rfl
 obtain ⟨b7, hb7⟩ : ∃ t, (fe != 0) = t := ⟨_, rfl⟩
 rw [hb1, hb2, hb3, hb4, hb5, hb6, hb7] at hR
 obtain ⟨F1, hF1⟩ : ∃ F, (b1 && b2 && b3 && b4 && b5 && b6) = F := ⟨_, rfl⟩
 rw [hF1] at hR
 replace hR := Lib.hid hR
 replace hF1 := Lib.hid hF1
 clear BA0 BS BF X hb6
 conv => arg 5; whnf
 conv => arg 5; arg 1; whnf
 conv => arg 5; arg 2; whnf
 unfold KF1
 dsimp only
 intro K1 hK1
 go_cut [16] from 140 to 177 (fun u wx => u = .bool F1 ∧ Ext w wx)
 case first =>
  cases b1 with
  | false =>
   have HE := Lib.hid (show Value.bool false = Value.bool F1 ∧ Ext w w from ⟨by rw [← hF1.out]; simp, Xw.out⟩)
   go_wp2_with fail
   go_meet
   case rel => exact HE.out
  | true =>
   cases b2 with
   | false =>
    have HE := Lib.hid (show Value.bool false = Value.bool F1 ∧ Ext w w from ⟨by rw [← hF1.out]; simp, Xw.out⟩)
    go_wp2_with fail
    go_meet
    case rel => exact HE.out
   | true =>
    cases b3 with
    | false =>
     have HE := Lib.hid (show Value.bool false = Value.bool F1 ∧ Ext w w from ⟨by rw [← hF1.out]; simp, Xw.out⟩)
     go_wp2_with fail
     go_meet
     case rel => exact HE.out
    | true =>
     cases b4 with
     | false =>
      have HE := Lib.hid (show Value.bool false = Value.bool F1 ∧ Ext w w from ⟨by rw [← hF1.out]; simp, Xw.out⟩)
      go_wp2_with fail
      go_meet
      case rel => exact HE.out
     | true =>
      cases b5 with
      | false =>
       have HE := Lib.hid (show Value.bool false = Value.bool F1 ∧ Ext w w from ⟨by rw [← hF1.out]; simp, Xw.out⟩)
       go_wp2_with fail
       go_meet
       case rel => exact HE.out
      | true =>
       cases b6 with
       | false =>
        have HE := Lib.hid (show Value.bool false = Value.bool F1 ∧ Ext w w from ⟨by rw [← hF1.out]; simp, Xw.out⟩)
        go_wp2_with fail
        go_meet
        case rel => exact HE.out
       | true =>
        have HE := Lib.hid (show Value.bool true = Value.bool F1 ∧ Ext w w from ⟨by rw [← hF1.out]; simp, Xw.out⟩)
        go_wp2_with fail
        go_meet
        case rel => exact HE.out
 case rest =>
  obtain ⟨rfl, hx⟩ := hcut
  have c0' := (hx.cell gf 0 none lf).trans c0
  have lf' := Nat.lt_of_lt_of_le lf hx.size
  replace XW := Lib.hid (XW.out.trans hx)
  clear hx qa qs la ls c0 lf
  cases b7 with
  | true =>
   have hQ := Lib.hid (show R = 2 by rw [hR.out]; rfl)
   go_wp2_with fail
   go_ret
   exact ⟨by rw [hQ.out]; rfl, XW.out⟩
  | false =>
   cases F1 with
   | true =>
    have hQ := Lib.hid (show R = 0 by rw [hR.out]; rfl)
    go_wp2_with fail
    go_ret
    exact ⟨by rw [hQ.out]; rfl, XW.out⟩
   | false =>
    have hQ := Lib.hid (show R = 2 by rw [hR.out]; rfl)
    go_wp2_with fail
    go_ret
    exact ⟨by rw [hQ.out]; rfl, XW.out⟩
set_option maxRecDepth 100000 in
set_option maxHeartbeats 4000000 in
theorem rck12 (W w : World) (ga : Nat) (a : Ad) (R : Int) (h : AdS a 1000) (X : Ext W w) (BA0 : Blk w ga 45 (adC a)) (hR : R = (let r := tokensP (lineP a)
   let b := (streetP r.1 (a.unit == [])).1
   if (r.2.1 != 0 || !(a.pre == b.pre && a.name == b.name && a.suf == b.suf && a.post == b.post && a.half == b.half && b.unit == [])) = true then (2 : Int) else 0)) ⦃u0 u2 u3 u4 u5 u6 u7 u8 u9 u10 u17 u18 u19 u20 u21 u22 u23 u24 u25 u26 u27 u28 u29 u30 u31 u32 u33 u34 u35 u36 u37 u38 u39 u40 u41 u42 u43 u44 u45 u46 u47 u48 u49 u50 u51 u52 u53 u54 u55 u56 u57 u58 u59 u60 u61 u62 u63 u64 u65 u66 u67 u68 u69 u70 u71 u72 u73 u74 u75 u76 u77 u78 u79 u80 u81 u82 u83 u84 u85 u86 u87 u88 u89 u90 u91 u92 u93 u94 u95 u96 u97 u98 u99 u100 u101 u102 u103 u104 u105 u106 u107 u108 u109 u110 u111 u112 u113 u114 u115 u116 u117 u118 u119 u120 u121 u122 u123 u124 : Value⦄ : KF1 Tryz.prog (bodyPost Tryz.prog Tryz.f36 (CkR W R)) ⟨#[u0, .pointer (some ⟨ga, 0, none⟩), u2, u3, u4, u5, u6, u7, u8, u9, u10, undef, undef, undef, undef, undef, undef, u17, u18, u19, u20, u21, u22, u23, u24, u25, u26, u27, u28, u29, u30, u31, u32, u33, u34, u35, u36, u37, u38, u39, u40, u41, u42, u43, u44, u45, u46, u47, u48, u49, u50, u51, u52, u53, u54, u55, u56, u57, u58, u59, u60, u61, u62, u63, u64, u65, u66, u67, u68, u69, u70, u71, u72, u73, u74, u75, u76, u77, u78, u79, u80, u81, u82, u83, u84, u85, u86, u87, u88, u89, u90, u91, u92, u93, u94, u95, u96, u97, u98, u99, u100, u101, u102, u103, u104, u105, u106, u107, u108, u109, u110, u111, u112, u113, u114, u115, u116, u117, u118, u119, u120, u121, u122, u123, u124, undef, undef, undef, undef, undef, undef, undef, undef, undef, undef, undef, undef, undef, undef, undef, undef, undef, undef, undef, undef, undef, undef, undef, undef, undef, undef, undef, undef, undef, undef, undef, undef, undef, undef, undef, undef, undef, undef, undef, undef, undef, undef, undef, undef, undef, undef, undef, undef, undef, undef, undef, undef, undef, undef, undef, undef, undef, undef, undef, undef], []⟩ w (rckAt1 12) := by
 have h1 := h.pre
 have h2 := h.name
 have h3 := h.suf
 have h4 := h.post
 have HLn := Lib.hid (fun w => rline_any a (by omega) (by omega) (by omega) (by omega) w)
 have hll : (lineP a).length ≤ 100000 := by
  have := lineK_len h 4 (by decide)
  rw [lineK_4] at this
  omega
 have HTk := Lib.hid (fun w => rtokens_any (lineP a) w hll)
 have H14 := Lib.hid (fun (w' : World) (gf gs : Nat) (st : Ad) (fe fa : Int) => fun (hx : Ext W w') (hy : Ext w w') => rck14 (W := W) w' ga gf gs a st fe fa R hx (BA0.ext hy))
 obtain ⟨L, hL⟩ : ∃ L, lineP a = L := ⟨_, rfl⟩
 rw [hL] at hR HLn HTk
 replace hL := Lib.hid hL
 dsimp only at hR
 obtain ⟨tu, htu⟩ : ∃ t, (a.unit == []) = t := ⟨_, rfl⟩
 rw [htu] at hR
 have hu1 : decide (a.unit = []) = tu := by rw [bs_dec]; exact htu
 have hu2 : a.unit.isEmpty = tu := by rw [← htu]; cases a.unit <;> rfl
 replace hR := Lib.hid hR
 clear h hll h1 h2 h3 h4 htu
 obtain ⟨zn, zh, zpre, zname, zsuf, zpost, zunit, zcity, zstate, zzip, zmore⟩ := a
 unfold adC at BA0
 rw [adV_eq] at HLn
 dsimp only at *
 have BA := Lib.hid (fun w' (hx : Ext w w') => (show (∀ i, w'.cell? ⟨ga, i, none⟩ = (#[.int .i64 zn, .bool zh, .string ⟨zpre.toArray⟩, .string ⟨zname.toArray⟩, .string ⟨zsuf.toArray⟩, .string ⟨zpost.toArray⟩, .string ⟨zunit.toArray⟩, .string ⟨zcity.toArray⟩, .string ⟨zstate.toArray⟩, .string ⟨zzip.toArray⟩, .string ⟨zmore.toArray⟩] : Array Value)[i]?) ∧ ga < w'.heap.size ∧ (∀ i, w'.frozen? ⟨ga, i, none⟩ = false) from
  have B := BA0.ext hx; ⟨B.cell, B.lt, B.frozen⟩))
 have Xw := Lib.hid (Ext.refl w)
 obtain ⟨qa, la, qb⟩ := BA.out _ Xw.out
 have X0 := Lib.hid X
 clear X BA0
 conv => arg 5; whnf
 conv => arg 5; arg 1; whnf
 conv => arg 5; arg 2; whnf
 unfold KF1
 dsimp only
 intro K1 hK1
 go_wp2_with fail
 refine (HLn.out _).mono ?_
 rintro e w6 ⟨rfl, hx6⟩
 have X6 := Lib.hid (X0.out.trans hx6)
 have Y6 := Lib.hid hx6
 clear hx6 X0 HLn
 go_wp2_with fail
 refine (HTk.out _).mono ?_
 rintro e w7 ⟨v, rfl, hown, hx7⟩
 obtain ⟨A, cp, rfl, T7⟩ := own_tokens hown
 have h40 := T7.l40
 have X7 := Lib.hid (X6.out.trans hx7)
 have Y7 := Lib.hid (Y6.out.trans hx7)
 clear hown hx7 HTk X6 Y6
 generalize tokensP L = tk at *
 obtain ⟨l, fe, fa⟩ := tk
 dsimp only at *
 go_upto_region 13 with (fail)
 have XX := (Ext.refl w7).alloc (.cells #[.int .i64 fe, .int .i64 fa] 36)
 have BF := Blk.new w7 36 #[.int .i64 fe, .int .i64 fa]
 have X8 := Lib.hid (X7.out.trans XX)
 have Y8 := Lib.hid (Y7.out.trans XX)
 have T8 := T7.ext XX
 clear T7 XX X7 Y7 qa la qb Xw
 generalize w7.alloc (.cells #[.int .i64 fe, .int .i64 fa] 36) = w8 at *
 generalize w7.heap.size = gf at *
 have HS8 := Lib.hid (rstreet_any l tu A l.length cp w8 T8)
 replace BF := Lib.hid BF
 clear T8
 obtain ⟨qa, la, qb⟩ := BA.out _ Y8.out
 obtain ⟨st, hst⟩ : ∃ st, (streetP l tu).1 = st := ⟨_, rfl⟩
 rw [hst] at hR HS8
 replace hst := Lib.hid hst
 go_wp2_with fail
 refine HS8.out.mono ?_
 rintro e w9 ⟨An, nn, cn, inV, rfl, _, _, hx9⟩
 have BF9 := BF.out.ext hx9
 have X9 := Lib.hid (X8.out.trans hx9)
 have Y9 := Lib.hid (Y8.out.trans hx9)
 obtain ⟨s1, s2, s3, s4, s5, s6, s7, s8, s9, s10, s11⟩ := st
 rw [adV_eq]
 dsimp only at *
 clear hx9 X8 Y8 BF HS8 qa la qb
 go_upto_region 14 with (fail)
 have XX := (Ext.refl w9).alloc (.cells #[.int .i64 s1, .bool s2, .string ⟨s3.toArray⟩, .string ⟨s4.toArray⟩, .string ⟨s5.toArray⟩, .string ⟨s6.toArray⟩, .string ⟨s7.toArray⟩, .string ⟨s8.toArray⟩, .string ⟨s9.toArray⟩, .string ⟨s10.toArray⟩, .string ⟨s11.toArray⟩] 45)
 have BS := Blk.new w9 45 #[.int .i64 s1, .bool s2, .string ⟨s3.toArray⟩, .string ⟨s4.toArray⟩, .string ⟨s5.toArray⟩, .string ⟨s6.toArray⟩, .string ⟨s7.toArray⟩, .string ⟨s8.toArray⟩, .string ⟨s9.toArray⟩, .string ⟨s10.toArray⟩, .string ⟨s11.toArray⟩]
 have BF10 := BF9.ext XX
 have X10 := X9.out.trans XX
 have Y10 := Y9.out.trans XX
 go_upto_region 14 with (fail)
 exact H14.out _ _ _ ⟨s1, s2, s3, s4, s5, s6, s7, s8, s9, s10, s11⟩ fe fa X10 Y10 BF10 BS hR.out _ (by assumption)
end Go.Proofs.YtjaponmpfdpemaaGreatDoor
set_option linter.unusedSimpArgs false
set_option linter.unusedVariables false
namespace Go.Proofs.YtjaponmpfdpemaaGreatDoor
open Go.RowKit
set_option maxRecDepth 100000 in
set_option maxHeartbeats 4000000 in
theorem rck8 (W w : World) (ga : Nat) (a : Ad) (R : Int) (h : AdS a 1000) (X : Ext W w) (BA0 : Blk w ga 45 (adC a)) (hR : R = if (a.unit != [] && (!(unitP (tokensP a.unit).1).2 || (unitP (tokensP a.unit).1).1 != a.unit || decide (10 < (((tokensP a.unit).1.getD 1 ⟨0, []⟩).t).length))) = true then 2 else
   (let r := tokensP (lineP a)
   let b := (streetP r.1 (a.unit == [])).1
   if (r.2.1 != 0 || !(a.pre == b.pre && a.name == b.name && a.suf == b.suf && a.post == b.post && a.half == b.half && b.unit == [])) = true then (2 : Int) else 0)) ⦃u0 u2 u3 u4 u5 u6 u7 u8 u17 u18 u19 u20 u21 u22 u23 u24 u25 u26 u27 u28 u29 u30 u31 u32 u33 u34 u35 u36 u37 u38 u39 u40 u41 u42 u43 u44 u45 u46 u47 u48 u49 u50 u51 u52 u53 u54 u55 u56 u57 u58 u59 u60 u61 u62 u63 u64 u65 u66 u67 u68 u69 u70 u71 u72 u73 u74 u75 u76 u77 u78 u79 u80 u81 u82 u83 u84 u85 u86 u87 u88 u89 u90 u91 u92 u93 u94 u95 u96 u97 : Value⦄ : KF2 Tryz.prog (bodyPost Tryz.prog Tryz.f36 (CkR W R)) ⟨#[u0, .pointer (some ⟨ga, 0, none⟩), u2, u3, u4, u5, u6, u7, u8, undef, undef, undef, undef, undef, undef, undef, undef, u17, u18, u19, u20, u21, u22, u23, u24, u25, u26, u27, u28, u29, u30, u31, u32, u33, u34, u35, u36, u37, u38, u39, u40, u41, u42, u43, u44, u45, u46, u47, u48, u49, u50, u51, u52, u53, u54, u55, u56, u57, u58, u59, u60, u61, u62, u63, u64, u65, u66, u67, u68, u69, u70, u71, u72, u73, u74, u75, u76, u77, u78, u79, u80, u81, u82, u83, u84, u85, u86, u87, u88, u89, u90, u91, u92, u93, u94, u95, u96, u97, undef, undef, undef, undef, undef, undef, undef, undef, undef, undef, undef, undef, undef, undef, undef, undef, undef, undef, undef, undef, undef, undef, undef, undef, undef, undef, undef, undef, undef, undef, undef, undef, undef, undef, undef, undef, undef, undef, undef, undef, undef, undef, undef, undef, undef, undef, undef, undef, undef, undef, undef, undef, undef, undef, undef, undef, undef, undef, undef, undef, undef, undef, undef, undef, undef, undef, undef, undef, undef, undef, undef, undef, undef, undef, undef, undef, undef, undef, undef, undef, undef, undef, undef, undef, undef, undef, undef], []⟩ w (rckAt2 8) := by
 have hu := h.unit
 have H12 := Lib.hid (fun (w' : World) (hy : Ext w w') => rck12 (W := W) w' ga a R h (X.trans hy) (BA0.ext hy))
 have HTk := Lib.hid (fun w => rtokens_any a.unit w (by omega))
 obtain ⟨tu, htu⟩ : ∃ t, (a.unit == []) = t := ⟨_, rfl⟩
 have hu1 : decide (a.unit = []) = tu := by rw [bs_dec]; exact htu
 have hu2 : a.unit.isEmpty = tu := by rw [← htu]; cases a.unit <;> rfl
 have hu3 : (a.unit != []) = !tu := by rw [← htu]; rfl
 obtain ⟨RT, hRT⟩ : ∃ t, (let r := tokensP (lineP a)
   let b := (streetP r.1 (a.unit == [])).1
   if (r.2.1 != 0 || !(a.pre == b.pre && a.name == b.name && a.suf == b.suf && a.post == b.post && a.half == b.half && b.unit == [])) = true then (2 : Int) else 0) = t := ⟨_, rfl⟩
 simp only [hRT] at H12
 rw [hRT, hu3] at hR
 replace hRT := Lib.hid hRT
 replace htu := Lib.hid htu
 replace hu3 := Lib.hid hu3
 replace hR := Lib.hid hR
 clear h
 obtain ⟨zn, zh, zpre, zname, zsuf, zpost, zunit, zcity, zstate, zzip, zmore⟩ := a
 unfold adC at BA0
 dsimp only at *
 have BA := Lib.hid (fun w' (hx : Ext w w') => (show (∀ i, w'.cell? ⟨ga, i, none⟩ = (#[.int .i64 zn, .bool zh, .string ⟨zpre.toArray⟩, .string ⟨zname.toArray⟩, .string ⟨zsuf.toArray⟩, .string ⟨zpost.toArray⟩, .string ⟨zunit.toArray⟩, .string ⟨zcity.toArray⟩, .string ⟨zstate.toArray⟩, .string ⟨zzip.toArray⟩, .string ⟨zmore.toArray⟩] : Array Value)[i]?) ∧ ga < w'.heap.size ∧ (∀ i, w'.frozen? ⟨ga, i, none⟩ = false) from
  have B := BA0.ext hx; ⟨B.cell, B.lt, B.frozen⟩))
 have Xw := Lib.hid (Ext.refl w)
 obtain ⟨qa, la, qb⟩ := BA.out _ Xw.out
 have X0 := Lib.hid X
 clear X BA0
 conv => arg 5; whnf
 conv => arg 5; arg 1; whnf
 conv => arg 5; arg 2; whnf
 conv => arg 5; arg 2; arg 1; whnf
 conv => arg 5; arg 2; arg 2; whnf
 unfold KF2
 dsimp only
 intro K1 hK1 K2 hK2
 go_upto_if 100 with (fail)
 go_cut [9, 10] from 101 to 124 (fun _ _ wx => Ext w wx ∧ R = RT)
 case first =>
  cases tu with
  | true =>
   have HE := Lib.hid (show Ext w w ∧ R = RT from ⟨Xw.out, by rw [hR.out]; rfl⟩)
   clear H12 hR X0
   go_wp2_with fail
   go_meet
   case rel => exact HE.out
  | false =>
   have hR2 := hR.out
   clear hR H12
   rw [Bool.not_false, Bool.true_and] at hR2
   replace hR2 := Lib.hid hR2
   go_wp2_with fail
   refine (HTk.out _).mono ?_
   rintro e w7 ⟨v, rfl, hown, hx7⟩
   obtain ⟨A, cp, rfl, T7⟩ := own_tokens hown
   have h40 := T7.l40
   have Y7 := Lib.hid hx7
   clear hown hx7 HTk
   generalize tokensP zunit = tk at *
   obtain ⟨l, fe, fa⟩ := tk
   dsimp only at *
   go_upto_region 10 with (fail)
   have XX := (Ext.refl w7).alloc (.cells #[.int .i64 fe, .int .i64 fa] 36)
   have Y8 := Lib.hid (Y7.out.trans XX)
   have T8 := T7.ext XX
   clear T7 XX Y7 qa la qb Xw
   generalize w7.alloc (.cells #[.int .i64 fe, .int .i64 fa] 36) = w8 at *
   generalize w7.heap.size = gf at *
   obtain ⟨qa, la, qb⟩ := BA.out _ Y8.out
   obtain ⟨u1, hu1'⟩ : ∃ t, (unitP l).1 = t := ⟨_, rfl⟩
   obtain ⟨u2, hu2'⟩ : ∃ t, (unitP l).2 = t := ⟨_, rfl⟩
   replace hR2 := hR2.out
   rw [hu1', hu2'] at hR2
   have HU := Lib.hid (fun w (hx : Ext w8 w) => (runit_any l A l.length cp w (T8.ext hx)).mono (fun e w' hh => (⟨hh.1, hx.trans hh.2⟩ : _ ∧ Ext w8 w')))
   have HV := Lib.hid (fun w (hx : Ext w8 w) => (runitText_any l A l.length cp w (T8.ext hx)))
   rw [hu2'] at HU HV
   rw [hu1'] at HV
   have X8 := Ext.refl w8
   have kU : w8.cell? ⟨ga, 6, none⟩ = some (.string ⟨zunit.toArray⟩) := qa 6
   cases u2 with
   | false =>
    have hQ := Lib.hid (show R = 2 by rw [hR2]; rfl)
    have XE := Lib.hid (fun w' (hx : Ext w8 w') => X0.out.trans (Y8.out.trans hx))
    have HX := Lib.hid (fun w' (hx : Ext w8 w') => (show w'.cell? ⟨ga, 6, none⟩ = some (.string ⟨zunit.toArray⟩) from (BA.out _ (Y8.out.trans hx)).1 6))
    clear hR2 HV T8 qa la qb hu1' hu2' X0 Y8 BA
    first
     | (go_region_law (first
       | (go_simp; go_at_call 66; refine (HU.out _ (by with_reducible repeat (first | assumption | exact Ext.refl _ | refine Ext.drew ?_ | refine Ext.alloc ?_ _))).mono ?_; rintro e v1 ⟨rfl, hv1⟩; have k6 := HX.out _ hv1)))
     | fail
    all_goals
     go_wp2_with fail
     go_ret
     exact ⟨by rw [hQ.out]; rfl, XE.out _ (by with_reducible repeat (first | assumption | refine Ext.drew ?_ | refine Ext.alloc ?_ _))⟩
   | true =>
    have hl2 : l.length = 2 := by
     by_cases h2 : l.length = 2
     ·exact h2
     ·rw [unitP_len h2] at hu2'; cases hu2'
    obtain ⟨g, o, rfl, hg, t0, t1⟩ := T8.at_ (k := 1) (by omega)
    simp only [Nat.one_mul] at t0 t1
    have hgd : l.getD 1 ⟨0, []⟩ = l[1] := by rw [List.getD_eq_getElem?_getD, List.getElem?_eq_getElem (by omega)]; rfl
    rw [hgd, Bool.not_true, Bool.false_or] at hR2
    have hsm := T8.sm l[1] (List.getElem_mem _)
    have HX := Lib.hid (fun w' (hx : Ext w8 w') => (show w'.cell? ⟨ga, 6, none⟩ = some (.string ⟨zunit.toArray⟩) ∧ w'.cell? ⟨g, o + 2 + 1, none⟩ = some (.string ⟨l[1].t.toArray⟩) from
     ⟨(BA.out _ (Y8.out.trans hx)).1 6, (hx.cell _ _ none hg).trans t1⟩))
    obtain ⟨k6, kt⟩ := HX.out _ X8
    replace HV := Lib.hid (fun w (hx : Ext w8 w) => (HV.out w hx rfl).mono (fun e w' (hh : _ ∧ _) => (⟨hh.1, hx.trans hh.2⟩ : _ ∧ Ext w8 w')))
    obtain ⟨tl, htl⟩ : ∃ n, l[1].t.length = n := ⟨_, rfl⟩
    rw [htl] at hR2 hsm
    obtain ⟨bl, hbl⟩ : ∃ t, decide (10 < tl) = t := ⟨_, rfl⟩
    have hbl' : decide ((10 : Int) < (tl : Int)) = bl := by rw [← hbl, decide_eq_decide]; omega
    obtain ⟨bu, hbu⟩ : ∃ t, (u1 != zunit) = t := ⟨_, rfl⟩
    have hbu1 : (!decide (u1 = zunit)) = bu := by rw [bs_dec]; exact hbu
    have hbu2 : (u1 == zunit) = !bu := by rw [← hbu]; simp [bne]
    rw [hbu, hbl] at hR2
    replace hR2 := Lib.hid hR2
    have n0 : (0 : Int) ≤ 1 := by omega
    have n1 : (1 : Int) < (l.length : Int) := by omega
    have n2 : 1 < l.length := by omega
    have XE := Lib.hid (fun w' (hx : Ext w8 w') => X0.out.trans (Y8.out.trans hx))
    have YE := Lib.hid (fun w' (hx : Ext w8 w') => Y8.out.trans hx)
    generalize l[1].t = tt at *
    clear T8 qa la qb hu1' hu2' X0 Y8 t0 t1 hgd BA kU
    generalize l.length = n at *
    replace hl2 := Lib.hid hl2
    cases bu with
    | true =>
     have hQ := Lib.hid (show R = 2 by rw [hR2.out]; simp)
     first
      | (go_region_law (first
        | (go_simp; go_at_call 66; refine (HU.out _ (by with_reducible repeat (first | assumption | exact Ext.refl _ | refine Ext.drew ?_ | refine Ext.alloc ?_ _))).mono ?_; rintro e v1 ⟨rfl, hv1⟩; obtain ⟨k6, kt⟩ := HX.out _ hv1)
        | (go_simp; go_at_call 67; refine (HV.out _ (by with_reducible repeat (first | assumption | exact Ext.refl _ | refine Ext.drew ?_ | refine Ext.alloc ?_ _))).mono ?_; rintro e v2 ⟨rfl, hv2⟩; obtain ⟨k6, kt⟩ := HX.out _ hv2)))
      | fail
     all_goals
      go_wp2_with fail
      go_ret
      exact ⟨by rw [hQ.out]; rfl, XE.out _ (by with_reducible repeat (first | assumption | exact Ext.refl _ | refine Ext.drew ?_ | refine Ext.alloc ?_ _))⟩
    | false =>
     cases bl with
     | true =>
      have hQ := Lib.hid (show R = 2 by rw [hR2.out]; simp)
      first
       | (go_region_law (first
         | (go_simp; go_at_call 66; refine (HU.out _ (by with_reducible repeat (first | assumption | exact Ext.refl _ | refine Ext.drew ?_ | refine Ext.alloc ?_ _))).mono ?_; rintro e v1 ⟨rfl, hv1⟩; obtain ⟨k6, kt⟩ := HX.out _ hv1)
         | (go_simp; go_at_call 67; refine (HV.out _ (by with_reducible repeat (first | assumption | exact Ext.refl _ | refine Ext.drew ?_ | refine Ext.alloc ?_ _))).mono ?_; rintro e v2 ⟨rfl, hv2⟩; obtain ⟨k6, kt⟩ := HX.out _ hv2)))
       | fail
      all_goals
       go_wp2_with fail
       go_ret
       exact ⟨by rw [hQ.out]; rfl, XE.out _ (by with_reducible repeat (first | assumption | exact Ext.refl _ | refine Ext.drew ?_ | refine Ext.alloc ?_ _))⟩
     | false =>
      have hQ := Lib.hid (show R = RT by rw [hR2.out]; rfl)
      first
       | (go_region_law (first
         | (go_simp; go_at_call 66; refine (HU.out _ (by with_reducible repeat (first | assumption | exact Ext.refl _ | refine Ext.drew ?_ | refine Ext.alloc ?_ _))).mono ?_; rintro e v1 ⟨rfl, hv1⟩; obtain ⟨k6, kt⟩ := HX.out _ hv1)
         | (go_simp; go_at_call 67; refine (HV.out _ (by with_reducible repeat (first | assumption | exact Ext.refl _ | refine Ext.drew ?_ | refine Ext.alloc ?_ _))).mono ?_; rintro e v2 ⟨rfl, hv2⟩; obtain ⟨k6, kt⟩ := HX.out _ hv2)))
       | fail
      all_goals
       go_wp2_with fail
       go_meet
       case rel => exact ⟨YE.out _ (by with_reducible repeat (first | assumption | exact Ext.refl _ | refine Ext.drew ?_ | refine Ext.alloc ?_ _)), hQ.out⟩
 case rest =>
  obtain ⟨hx, hRR⟩ := hcut
  go_upto_region 12 with (fail)
  exact H12.out _ hx hRR _ (by assumption)
end Go.Proofs.YtjaponmpfdpemaaGreatDoor
