/-
  addr: Parse, from region 26 on: the city (printed by tools/genZb.py).
-/
import Derived.Deep.RegionHeld3
import Derived.Test.YtjaponmpfdpemaaGreatDoorBb24
set_option linter.unusedSimpArgs false
set_option linter.unusedVariables false
namespace Go.Proofs.YtjaponmpfdpemaaGreatDoor
open Go.RowKit
theorem only_1 (l : List Tok) (A : Option Addr) (cap : Nat) (W : World) (h : TokS W A l.length cap l) :
  Calls Tryz.prog 76 #[.slice A l.length cap, .slice (some ⟨W.heap.size, 0, none⟩) 1 1] (W.alloc (.cells #[.int .i64 1] 3)) fun e w' => e = .returned (.bool (kindOf l [1])) ∧ Ext W w' := by
 have X := (Ext.refl W).alloc (.cells #[.int .i64 1] 3)
 have B := Blk.new W 3 #[.int .i64 1]
 have hl := h.l40
 refine (only_any l A l.length cap [1] (some ⟨W.heap.size, 0, none⟩) 1 1 _ rfl rfl (h.ext X).rd ⟨rfl, fun _ => ⟨_, 0, rfl, by simp, fun j u hu => ?_⟩⟩ (by omega) (by decide)).mono ?_
 ·rw [Nat.zero_add]
  exact (B.cell j).trans ((show (#[Value.int .i64 1] : Array Value)[j]? = (iV [1])[j]? from by simp [iV]).trans hu)
 ·rintro e w' ⟨rfl, hx⟩
  exact ⟨rfl, X.trans hx⟩
structure CtyAt (W w : World) (ga gf gO cO gp : Nat) (a : Ad) (es : List Value) (ps : List (List Tok)) (A : Option Addr) (n c : Nat) (l : List Tok) : Prop where
 pc : PcAt W w ga gf a gO cO es ps
 p : PlAt W w ga gf gp a A n c l
theorem CtyAt.to {W w w' : World} {ga gf gO cO gp : Nat} {a : Ad} {es : List Value} {ps : List (List Tok)} {A : Option Addr} {n c : Nat} {l : List Tok} (h : CtyAt W w ga gf gO cO gp a es ps A n c l) (hx : Ext w w') : CtyAt W w' ga gf gO cO gp a es ps A n c l := ⟨h.pc.to hx, h.p.to hx⟩
theorem CtyAt.put {W w : World} {ga gf gO cO gp : Nat} {a : Ad} {es : List Value} {ps : List (List Tok)} {A : Option Addr} {n c : Nat} {l : List Tok} (h : CtyAt W w ga gf gO cO gp a es ps A n c l) (i : Nat) (u : Value) (b : Ad) (hu : (adC a).setIfInBounds i u = adC b) : CtyAt W (w.setCell ⟨ga, i, none⟩ u) ga gf gO cO gp b es ps A n c l := ⟨h.pc.put i u b hu, h.p.put i u b hu⟩
set_option maxRecDepth 100000 in
set_option maxHeartbeats 4000000 in
theorem parse_r26 (W w : World) (ga gf gO cO N L M : Nat) (es : List Value) (ps : List (List Tok)) (ct pl : List Tok) (A1 A2 : Option Addr) (c1 c2 : Nat) (a : Ad) (r : Ad × Int × Int) (C : PcAt W w ga gf a gO cO es ps) (hN : es.length = N) (hL : L < N) (hM : L = M + 1) (h1 : es[M]'(by omega) = .slice A1 ct.length c1) (hp1 : ps[M]'(by have := C.len; omega) = ct) (h2 : es[L]'(by omega) = .slice A2 pl.length c2) (hp : ps[L]'(by have := C.len; omega) = pl) (h0 : 0 < pl.length) (hcO : N ≤ 100) (hS : Std W) (hr : r = ptsC a ct pl L) {u0 u1 u4 u7 u8 u9 u10 u11 u12 u13 u14 u15 u22 u23 u24 u25 u26 u27 u28 u29 u30 u31 u32 u33 u34 u35 u36 u37 u38 u39 u40 u41 u42 u43 u44 u45 u46 u47 u48 u49 u50 u51 u52 u53 u54 u55 u56 u57 u58 u59 u60 u61 u62 u63 u64 u65 u66 u67 u68 u69 u70 u71 u72 u73 u74 u75 u76 u77 u78 u79 u80 u81 u82 u83 u84 u85 u86 u87 u88 u89 u90 u91 u92 u93 u94 u95 u96 u97 u98 u99 u100 u101 u102 u103 u104 u105 u106 u107 u108 u109 u110 u111 u112 u113 u114 u115 u116 u117 u118 u119 u120 u121 u122 u123 u124 u125 u126 u127 u128 u129 u130 u131 u132 u133 : Value} : (parseAt 26).wp Tryz.prog (bodyPostD Tryz.prog Tryz.f56 (PsR W r)) ⟨#[u0, u1, .pointer (some ⟨ga, 0, none⟩), .pointer (some ⟨gf, 0, none⟩), u4, .slice (some ⟨gO, 0, none⟩) N cO, .int .i64 (L : Int), u7, u8, u9, u10, u11, u12, u13, u14, u15, undef, undef, undef, undef, undef, undef, u22, u23, u24, u25, u26, u27, u28, u29, u30, u31, u32, u33, u34, u35, u36, u37, u38, u39, u40, u41, u42, u43, u44, u45, u46, u47, u48, u49, u50, u51, u52, u53, u54, u55, u56, u57, u58, u59, u60, u61, u62, u63, u64, u65, u66, u67, u68, u69, u70, u71, u72, u73, u74, u75, u76, u77, u78, u79, u80, u81, u82, u83, u84, u85, u86, u87, u88, u89, u90, u91, u92, u93, u94, u95, u96, u97, u98, u99, u100, u101, u102, u103, u104, u105, u106, u107, u108, u109, u110, u111, u112, u113, u114, u115, u116, u117, u118, u119, u120, u121, u122, u123, u124, u125, u126, u127, u128, u129, u130, u131, u132, u133, undef, undef, undef, undef, undef, undef, undef, undef, undef, undef, undef, undef, undef, undef, undef, undef, undef, undef, undef, undef, undef, undef, undef, undef, undef, undef, undef, undef, undef, undef, undef, undef, undef, undef, undef, undef, undef, undef, undef, undef, undef, undef, undef, undef, undef, undef, undef, undef, undef, undef, undef, undef, undef, undef, undef, undef, undef, undef, undef, undef, undef, undef, undef, undef, undef, undef, undef, undef, undef, undef, undef, undef, undef, undef, undef, undef, undef, undef, undef, undef, undef, undef, undef, undef, undef, undef, undef, undef, undef, undef], dfs ga gf⟩ w := by
 obtain ⟨zn, zh, zpre, zname, zsuf, zpost, zunit, zcity, zstate, zzip, zmore⟩ := a
 obtain ⟨q5, T⟩ := C.at_ (i := M) (by omega) (by have := C.len; omega) h1 hp1
 have lO := (C.cell (k := M) (by omega)).2
 have Q1 := Lib.hid (show CtyAt W (w.alloc (.cells #[.slice A1 ct.length c1] 113)) ga gf gO cO w.heap.size ⟨zn, zh, zpre, zname, zsuf, zpost, zunit, zcity, zstate, zzip, zmore⟩ es ps A1 ct.length c1 ct from ⟨C.to ((Ext.refl w).alloc _), C.pl T⟩)
 have HT := Lib.hid (fun (gp : Nat) w' (h : CtyAt W w' ga gf gO cO gp ⟨zn, zh, zpre, zname, zsuf, zpost, zunit, zcity, zstate, zzip, zmore⟩ es ps A1 ct.length c1 ct) => text_any ct A1 ct.length c1 gp w' h.p.b h.p.t)
 have H29 := Lib.hid (fun (w' : World) (C' : PcAt W w' ga gf ⟨zn, zh, zpre, zname, zsuf, zpost, zunit, (textsP ct), zstate, zzip, zmore⟩ gO cO es ps) (hr' : r = ptsZ ⟨zn, zh, zpre, zname, zsuf, zpost, zunit, (textsP ct), zstate, zzip, zmore⟩ pl L) {u0 u1 u4 u7 u8 u9 u10 u11 u12 u13 u14 u15 u16 u22 u23 u24 u25 u26 u27 u28 u29 u30 u31 u32 u33 u34 u35 u36 u37 u38 u39 u40 u41 u42 u43 u44 u45 u46 u47 u48 u49 u50 u51 u52 u53 u54 u55 u56 u57 u58 u59 u60 u61 u62 u63 u64 u65 u66 u67 u68 u69 u70 u71 u72 u73 u74 u75 u76 u77 u78 u79 u80 u81 u82 u83 u84 u85 u86 u87 u88 u89 u90 u91 u92 u93 u94 u95 u96 u97 u98 u99 u100 u101 u102 u103 u104 u105 u106 u107 u108 u109 u110 u111 u112 u113 u114 u115 u116 u117 u118 u119 u120 u121 u122 u123 u124 u125 u126 u127 u128 u129 u130 u131 u132 u133 u134 u135 u136 u137 u138 u139 u140 u141 u142 u143 u144 u145 u146 u147 u148 u149 u150 u151 u152 u153 u154 u155 u156 u157 u158 u159 u160 u161 u162 u163 u164 u165 u166 : Value} =>
  parse_r29 W w' ga gf gO cO N L es ps pl A2 c2 _ r C' hN hL h2 hp h0 hcO hS hr' (u0 := u0) (u1 := u1) (u4 := u4) (u7 := u7) (u8 := u8) (u9 := u9) (u10 := u10) (u11 := u11) (u12 := u12) (u13 := u13) (u14 := u14) (u15 := u15) (u16 := u16) (u22 := u22) (u23 := u23) (u24 := u24) (u25 := u25) (u26 := u26) (u27 := u27) (u28 := u28) (u29 := u29) (u30 := u30) (u31 := u31) (u32 := u32) (u33 := u33) (u34 := u34) (u35 := u35) (u36 := u36) (u37 := u37) (u38 := u38) (u39 := u39) (u40 := u40) (u41 := u41) (u42 := u42) (u43 := u43) (u44 := u44) (u45 := u45) (u46 := u46) (u47 := u47) (u48 := u48) (u49 := u49) (u50 := u50) (u51 := u51) (u52 := u52) (u53 := u53) (u54 := u54) (u55 := u55) (u56 := u56) (u57 := u57) (u58 := u58) (u59 := u59) (u60 := u60) (u61 := u61) (u62 := u62) (u63 := u63) (u64 := u64) (u65 := u65) (u66 := u66) (u67 := u67) (u68 := u68) (u69 := u69) (u70 := u70) (u71 := u71) (u72 := u72) (u73 := u73) (u74 := u74) (u75 := u75) (u76 := u76) (u77 := u77) (u78 := u78) (u79 := u79) (u80 := u80) (u81 := u81) (u82 := u82) (u83 := u83) (u84 := u84) (u85 := u85) (u86 := u86) (u87 := u87) (u88 := u88) (u89 := u89) (u90 := u90) (u91 := u91) (u92 := u92) (u93 := u93) (u94 := u94) (u95 := u95) (u96 := u96) (u97 := u97) (u98 := u98) (u99 := u99) (u100 := u100) (u101 := u101) (u102 := u102) (u103 := u103) (u104 := u104) (u105 := u105) (u106 := u106) (u107 := u107) (u108 := u108) (u109 := u109) (u110 := u110) (u111 := u111) (u112 := u112) (u113 := u113) (u114 := u114) (u115 := u115) (u116 := u116) (u117 := u117) (u118 := u118) (u119 := u119) (u120 := u120) (u121 := u121) (u122 := u122) (u123 := u123) (u124 := u124) (u125 := u125) (u126 := u126) (u127 := u127) (u128 := u128) (u129 := u129) (u130 := u130) (u131 := u131) (u132 := u132) (u133 := u133) (u134 := u134) (u135 := u135) (u136 := u136) (u137 := u137) (u138 := u138) (u139 := u139) (u140 := u140) (u141 := u141) (u142 := u142) (u143 := u143) (u144 := u144) (u145 := u145) (u146 := u146) (u147 := u147) (u148 := u148) (u149 := u149) (u150 := u150) (u151 := u151) (u152 := u152) (u153 := u153) (u154 := u154) (u155 := u155) (u156 := u156) (u157 := u157) (u158 := u158) (u159 := u159) (u160 := u160) (u161 := u161) (u162 := u162) (u163 := u163) (u164 := u164) (u165 := u165) (u166 := u166))
 unfold ptsC at hr
 replace hr := Lib.hid hr
 have ew : IntKind.i64.wrap ((L : Int) - 1) = (M : Int) := by rw [IntKind.wrap_i64]; omega
 have M0 : (0 : Int) ≤ (M : Int) := by omega
 have M1 : (M : Int) < (N : Int) := by omega
 have M2 : M < N := by omega
 have hLM := Lib.hid (show (L : Int) - 1 = (M : Int) by omega)
 clear C T h1 hp1 h2 hp hN hL hM hS h0
 conv => arg 2; whnf
 go_upto_region 27 with (fail)
 generalize w.alloc (.cells #[.slice A1 ct.length c1] 113) = w1 at *
 generalize w.heap.size = gp at *
 clear q5 lO
 go_wp2_with fail
 refine (HT.out _ _ Q1.out).mono ?_
 rintro e w2 ⟨rfl, hx2⟩
 have Q2 := Q1.out.to hx2
 clear hx2 Q1 HT
 obtain ⟨tx, htx⟩ : ∃ tx, textsP ct = tx := ⟨_, rfl⟩
 rw [htx] at hr H29 ⊢
 replace htx := Lib.hid htx
 have hA := Q2.pc.s.a
 have la := hA.lt
 unfold adC at hA
 dsimp only at hA
 obtain ⟨q2, q3⟩ := hA.cells
 have Q3 := Lib.hid (Q2.put 7 (.string ⟨tx.toArray⟩) ⟨zn, zh, zpre, zname, zsuf, zpost, zunit, tx, zstate, zzip, zmore⟩ rfl)
 clear hA Q2
 go_upto_region 28 with (fail)
 clear q2 q3 la
 generalize w2.setCell ⟨ga, 7, none⟩ (.string ⟨tx.toArray⟩) = w3 at *
 go_cut [] from 22 to 166 (fun wx => Ext w3 wx ∧ (kindOf ct [1] = true ∧ ct.length ≤ 8 ∧ tx.length ≤ 40))
 case first =>
  have B3 := Q3.out.p.b
  have d0 : w3.cell? ⟨gp, 0, none⟩ = some (.slice A1 ct.length c1) := B3.cell 0
  have lgp := B3.lt
  have HO := Lib.hid (only_1 ct A1 c1 w3 Q3.out.p.t)
  clear B3
  go_wp2_with fail
  refine HO.out.mono ?_
  rintro e w4 ⟨rfl, hx4⟩
  have Q4 := Lib.hid (Q3.out.to hx4)
  have X4 := Lib.hid hx4
  clear hx4 HO d0 lgp
  obtain ⟨ko, hko⟩ : ∃ ko, kindOf ct [1] = ko := ⟨_, rfl⟩
  rw [hko]
  replace hko := Lib.hid hko
  cases ko with
  | false =>
   have hQ := Lib.hid (show r = (Ad.zero, 274, (M : Int)) by rw [hr.out, if_pos (by rw [hko.out]; simp), hLM.out]; rfl)
   go_wp2_with fail
   refine (must_not 274 (M : Int) _).mono ?_
   rintro e wf ⟨rfl, rfl⟩
   go_wp2_with fail
   exact Q4.out.pc.s.fail 274 (M : Int) (by decide) r hQ.out rfl rfl
  | true =>
   have B4 := Q4.out.p.b
   have d0 : w4.cell? ⟨gp, 0, none⟩ = some (.slice A1 ct.length c1) := B4.cell 0
   have lgp := B4.lt
   clear B4
   by_cases h8 : ct.length ≤ 8
   ·have d3 : decide ((ct.length : Int) ≤ 8) = true := decide_eq_true (by omega)
    have d4 : decide (ct.length ≤ 8) = true := decide_eq_true h8
    have hA := Q4.out.pc.s.a
    have la := hA.lt
    have c7 : w4.cell? ⟨ga, 7, none⟩ = some (.string ⟨tx.toArray⟩) := hA.cell 7
    clear hA
    replace h8 := Lib.hid h8
    by_cases h4 : tx.length ≤ 40
    ·have d5 : decide ((tx.length : Int) ≤ 40) = true := decide_eq_true (by omega)
     have d6 : decide (tx.length ≤ 40) = true := decide_eq_true h4
     have HE := Lib.hid (show Ext w3 w4 ∧ (kindOf ct [1] = true ∧ ct.length ≤ 8 ∧ tx.length ≤ 40) from ⟨X4.out, hko.out, h8.out, h4⟩)
     clear h4
     go_wp2_with fail
     refine (must_so 274 (M : Int) _).mono ?_
     rintro e w5 ⟨rfl, rfl⟩
     go_wp2_with fail
     go_meet
     case rel => exact HE.out
    ·have d5 : decide ((tx.length : Int) ≤ 40) = false := decide_eq_false (by omega)
     have d6 : decide (tx.length ≤ 40) = false := decide_eq_false h4
     have hQ := Lib.hid (show r = (Ad.zero, 274, (M : Int)) by rw [hr.out, if_pos (by simp [h4]), hLM.out]; rfl)
     clear h4
     go_wp2_with fail
     refine (must_not 274 (M : Int) _).mono ?_
     rintro e wf ⟨rfl, rfl⟩
     go_wp2_with fail
     exact Q4.out.pc.s.fail 274 (M : Int) (by decide) r hQ.out rfl rfl
   ·have d3 : decide ((ct.length : Int) ≤ 8) = false := decide_eq_false (by omega)
    have d4 : decide (ct.length ≤ 8) = false := decide_eq_false h8
    have hQ := Lib.hid (show r = (Ad.zero, 274, (M : Int)) by rw [hr.out, if_pos (by simp [h8]), hLM.out]; rfl)
    clear h8
    go_wp2_with fail
    refine (must_not 274 (M : Int) _).mono ?_
    rintro e wf ⟨rfl, rfl⟩
    go_wp2_with fail
    exact Q4.out.pc.s.fail 274 (M : Int) (by decide) r hQ.out rfl rfl
 case rest =>
  obtain ⟨X4, hok⟩ := hcut
  have Q4 := Q3.out.to X4
  have hr2 := Lib.hid (show r = ptsZ ⟨zn, zh, zpre, zname, zsuf, zpost, zunit, tx, zstate, zzip, zmore⟩ pl L by rw [hr.out, if_neg (fun h => h hok)])
  clear X4 hok hr Q3
  go_step
  exact H29.out _ Q4.pc hr2.out
end Go.Proofs.YtjaponmpfdpemaaGreatDoor
set_option linter.unusedSimpArgs false
set_option linter.unusedVariables false
namespace Go.Proofs.YtjaponmpfdpemaaGreatDoor
open Go.RowKit
set_option maxRecDepth 100000 in
set_option maxHeartbeats 4000000 in
theorem parse_r25 (W w : World) (ga gf gO cO N L M : Nat) (es : List Value) (ps : List (List Tok)) (nm ct pl : List Tok) (An A1 A2 : Option Addr) (cn c1 c2 : Nat) (a : Ad) (r : Ad × Int × Int) (C : PcAt W w ga gf a gO cO es ps) (TN : TokS w An nm.length cn nm) (hN : es.length = N) (hL : L < N) (hM : L = M + 1) (h1 : es[M]'(by omega) = .slice A1 ct.length c1) (hp1 : ps[M]'(by have := C.len; omega) = ct) (h2 : es[L]'(by omega) = .slice A2 pl.length c2) (hp : ps[L]'(by have := C.len; omega) = pl) (h0 : 0 < pl.length) (hcO : N ≤ 100) (hS : Std W) (hr : r = if ¬ (0 < nm.length ∧ nm.length ≤ 8 ∧ kindOf nm [1, 2, 3] = true ∧ a.name.length ≤ 40) then errA 273 0 else ptsC a ct pl L) {u0 u1 u4 u7 u8 u9 u10 u11 u13 u14 u15 u22 u23 u24 u25 u26 u27 u28 u29 u30 u31 u32 u33 u34 u35 u36 u37 u38 u39 u40 u41 u42 u43 u44 u45 u46 u47 u48 u49 u50 u51 u52 u53 u54 u55 u56 u57 u58 u59 u60 u61 u62 u63 u64 u65 u66 u67 u68 u69 u70 u71 u72 u73 u74 u75 u76 u77 u78 u79 u80 u81 u82 u83 u84 u85 u86 u87 u88 u89 u90 u91 u92 u93 u94 u95 u96 u97 u98 u99 u100 u101 u102 u103 u104 u105 u106 u107 u108 u109 u110 u111 u112 u113 : Value} : (parseAt 25).wp Tryz.prog (bodyPostD Tryz.prog Tryz.f56 (PsR W r)) ⟨#[u0, u1, .pointer (some ⟨ga, 0, none⟩), .pointer (some ⟨gf, 0, none⟩), u4, .slice (some ⟨gO, 0, none⟩) N cO, .int .i64 (L : Int), u7, u8, u9, u10, u11, .slice An nm.length cn, u13, u14, u15, undef, undef, undef, undef, undef, undef, u22, u23, u24, u25, u26, u27, u28, u29, u30, u31, u32, u33, u34, u35, u36, u37, u38, u39, u40, u41, u42, u43, u44, u45, u46, u47, u48, u49, u50, u51, u52, u53, u54, u55, u56, u57, u58, u59, u60, u61, u62, u63, u64, u65, u66, u67, u68, u69, u70, u71, u72, u73, u74, u75, u76, u77, u78, u79, u80, u81, u82, u83, u84, u85, u86, u87, u88, u89, u90, u91, u92, u93, u94, u95, u96, u97, u98, u99, u100, u101, u102, u103, u104, u105, u106, u107, u108, u109, u110, u111, u112, u113, undef, undef, undef, undef, undef, undef, undef, undef, undef, undef, undef, undef, undef, undef, undef, undef, undef, undef, undef, undef, undef, undef, undef, undef, undef, undef, undef, undef, undef, undef, undef, undef, undef, undef, undef, undef, undef, undef, undef, undef, undef, undef, undef, undef, undef, undef, undef, undef, undef, undef, undef, undef, undef, undef, undef, undef, undef, undef, undef, undef, undef, undef, undef, undef, undef, undef, undef, undef, undef, undef, undef, undef, undef, undef, undef, undef, undef, undef, undef, undef, undef, undef, undef, undef, undef, undef, undef, undef, undef, undef, undef, undef, undef, undef, undef, undef, undef, undef, undef, undef, undef, undef, undef, undef, undef, undef, undef, undef, undef, undef], dfs ga gf⟩ w := by
 obtain ⟨zn, zh, zpre, zname, zsuf, zpost, zunit, zcity, zstate, zzip, zmore⟩ := a
 have H26 := Lib.hid (fun (w' : World) (C' : PcAt W w' ga gf ⟨zn, zh, zpre, zname, zsuf, zpost, zunit, zcity, zstate, zzip, zmore⟩ gO cO es ps) (hr' : r = ptsC ⟨zn, zh, zpre, zname, zsuf, zpost, zunit, zcity, zstate, zzip, zmore⟩ ct pl L) {u0 u1 u4 u7 u8 u9 u10 u11 u12 u13 u14 u15 u22 u23 u24 u25 u26 u27 u28 u29 u30 u31 u32 u33 u34 u35 u36 u37 u38 u39 u40 u41 u42 u43 u44 u45 u46 u47 u48 u49 u50 u51 u52 u53 u54 u55 u56 u57 u58 u59 u60 u61 u62 u63 u64 u65 u66 u67 u68 u69 u70 u71 u72 u73 u74 u75 u76 u77 u78 u79 u80 u81 u82 u83 u84 u85 u86 u87 u88 u89 u90 u91 u92 u93 u94 u95 u96 u97 u98 u99 u100 u101 u102 u103 u104 u105 u106 u107 u108 u109 u110 u111 u112 u113 u114 u115 u116 u117 u118 u119 u120 u121 u122 u123 u124 u125 u126 u127 u128 u129 u130 u131 u132 u133 : Value} =>
  parse_r26 W w' ga gf gO cO N L M es ps ct pl A1 A2 c1 c2 _ r C' hN hL hM h1 hp1 h2 hp h0 hcO hS hr' (u0 := u0) (u1 := u1) (u4 := u4) (u7 := u7) (u8 := u8) (u9 := u9) (u10 := u10) (u11 := u11) (u12 := u12) (u13 := u13) (u14 := u14) (u15 := u15) (u22 := u22) (u23 := u23) (u24 := u24) (u25 := u25) (u26 := u26) (u27 := u27) (u28 := u28) (u29 := u29) (u30 := u30) (u31 := u31) (u32 := u32) (u33 := u33) (u34 := u34) (u35 := u35) (u36 := u36) (u37 := u37) (u38 := u38) (u39 := u39) (u40 := u40) (u41 := u41) (u42 := u42) (u43 := u43) (u44 := u44) (u45 := u45) (u46 := u46) (u47 := u47) (u48 := u48) (u49 := u49) (u50 := u50) (u51 := u51) (u52 := u52) (u53 := u53) (u54 := u54) (u55 := u55) (u56 := u56) (u57 := u57) (u58 := u58) (u59 := u59) (u60 := u60) (u61 := u61) (u62 := u62) (u63 := u63) (u64 := u64) (u65 := u65) (u66 := u66) (u67 := u67) (u68 := u68) (u69 := u69) (u70 := u70) (u71 := u71) (u72 := u72) (u73 := u73) (u74 := u74) (u75 := u75) (u76 := u76) (u77 := u77) (u78 := u78) (u79 := u79) (u80 := u80) (u81 := u81) (u82 := u82) (u83 := u83) (u84 := u84) (u85 := u85) (u86 := u86) (u87 := u87) (u88 := u88) (u89 := u89) (u90 := u90) (u91 := u91) (u92 := u92) (u93 := u93) (u94 := u94) (u95 := u95) (u96 := u96) (u97 := u97) (u98 := u98) (u99 := u99) (u100 := u100) (u101 := u101) (u102 := u102) (u103 := u103) (u104 := u104) (u105 := u105) (u106 := u106) (u107 := u107) (u108 := u108) (u109 := u109) (u110 := u110) (u111 := u111) (u112 := u112) (u113 := u113) (u114 := u114) (u115 := u115) (u116 := u116) (u117 := u117) (u118 := u118) (u119 := u119) (u120 := u120) (u121 := u121) (u122 := u122) (u123 := u123) (u124 := u124) (u125 := u125) (u126 := u126) (u127 := u127) (u128 := u128) (u129 := u129) (u130 := u130) (u131 := u131) (u132 := u132) (u133 := u133))
 dsimp only at hr
 replace hr := Lib.hid hr
 have C0 := Lib.hid C
 have n40 := TN.l40
 have HO := Lib.hid (only_3 nm An cn w TN)
 clear C TN h1 hp1 h2 hp hN hL hM hS h0
 conv => arg 2; whnf
 dsimp only
 go_upto_region 25 with (fail)
 go_cut [] from 22 to 133 (fun wx => Ext w wx ∧ (0 < nm.length ∧ nm.length ≤ 8 ∧ kindOf nm [1, 2, 3] = true ∧ zname.length ≤ 40))
 case first =>
  by_cases h0 : 0 < nm.length
  ·have d1 : decide ((0 : Int) < (nm.length : Int)) = true := decide_eq_true (by omega)
   have d2 : decide (0 < nm.length) = true := decide_eq_true h0
   by_cases h8 : nm.length ≤ 8
   ·have d3 : decide ((nm.length : Int) ≤ 8) = true := decide_eq_true (by omega)
    have d4 : decide (nm.length ≤ 8) = true := decide_eq_true h8
    replace h0 := Lib.hid h0
    replace h8 := Lib.hid h8
    go_wp2_with fail
    refine HO.out.mono ?_
    rintro e w1 ⟨rfl, hx1⟩
    have C1 := Lib.hid (C0.out.to hx1)
    have X1 := Lib.hid hx1
    clear hx1 HO
    obtain ⟨ko, hko⟩ : ∃ ko, kindOf nm [1, 2, 3] = ko := ⟨_, rfl⟩
    rw [hko]
    replace hko := Lib.hid hko
    cases ko with
    | false =>
     have hQ := Lib.hid (show r = (Ad.zero, 273, 0) by rw [hr.out, if_pos (by rw [hko.out]; simp)]; rfl)
     go_wp2_with fail
     refine (must_not 273 0 _).mono ?_
     rintro e wf ⟨rfl, rfl⟩
     go_wp2_with fail
     exact C1.out.s.fail 273 0 (by decide) r hQ.out rfl rfl
    | true =>
     have hA := C1.out.s.a
     have la := hA.lt
     have c3 : w1.cell? ⟨ga, 3, none⟩ = some (.string ⟨zname.toArray⟩) := hA.cell 3
     clear hA
     by_cases h4 : zname.length ≤ 40
     ·have d5 : decide ((zname.length : Int) ≤ 40) = true := decide_eq_true (by omega)
      have d6 : decide (zname.length ≤ 40) = true := decide_eq_true h4
      have HE := Lib.hid (show Ext w w1 ∧ (0 < nm.length ∧ nm.length ≤ 8 ∧ kindOf nm [1, 2, 3] = true ∧ zname.length ≤ 40) from ⟨X1.out, h0.out, h8.out, hko.out, h4⟩)
      clear h4
      go_wp2_with fail
      refine (must_so 273 0 _).mono ?_
      rintro e w2 ⟨rfl, rfl⟩
      go_wp2_with fail
      go_meet
      case rel => exact HE.out
     ·have d5 : decide ((zname.length : Int) ≤ 40) = false := decide_eq_false (by omega)
      have d6 : decide (zname.length ≤ 40) = false := decide_eq_false h4
      have hQ := Lib.hid (show r = (Ad.zero, 273, 0) by rw [hr.out, if_pos (by simp [h4])]; rfl)
      clear h4
      go_wp2_with fail
      refine (must_not 273 0 _).mono ?_
      rintro e wf ⟨rfl, rfl⟩
      go_wp2_with fail
      exact C1.out.s.fail 273 0 (by decide) r hQ.out rfl rfl
   ·have d3 : decide ((nm.length : Int) ≤ 8) = false := decide_eq_false (by omega)
    have d4 : decide (nm.length ≤ 8) = false := decide_eq_false h8
    have hQ := Lib.hid (show r = (Ad.zero, 273, 0) by rw [hr.out, if_pos (by simp [h8])]; rfl)
    clear h0 h8
    go_wp2_with fail
    refine (must_not 273 0 _).mono ?_
    rintro e wf ⟨rfl, rfl⟩
    go_wp2_with fail
    exact C0.out.s.fail 273 0 (by decide) r hQ.out rfl rfl
  ·have d1 : decide ((0 : Int) < (nm.length : Int)) = false := decide_eq_false (by omega)
   have d2 : decide (0 < nm.length) = false := decide_eq_false h0
   have hQ := Lib.hid (show r = (Ad.zero, 273, 0) by rw [hr.out, if_pos (by simp [h0])]; rfl)
   clear h0
   go_wp2_with fail
   refine (must_not 273 0 _).mono ?_
   rintro e wf ⟨rfl, rfl⟩
   go_wp2_with fail
   exact C0.out.s.fail 273 0 (by decide) r hQ.out rfl rfl
 case rest =>
  obtain ⟨X1, hok⟩ := hcut
  have hr2 := Lib.hid (show r = ptsC ⟨zn, zh, zpre, zname, zsuf, zpost, zunit, zcity, zstate, zzip, zmore⟩ ct pl L by rw [hr.out, if_neg (fun h => h hok)])
  have C1 := C0.out.to X1
  clear hok hr
  go_step
  exact H26.out _ C1 hr2.out
end Go.Proofs.YtjaponmpfdpemaaGreatDoor
set_option linter.unusedSimpArgs false
set_option linter.unusedVariables false
namespace Go.Proofs.YtjaponmpfdpemaaGreatDoor
open Go.RowKit
set_option maxRecDepth 100000 in
set_option maxHeartbeats 4000000 in
theorem parse_2 (s : Bs) (hs : s.length ≤ 100000) (W : World) (hS : Std W)  (hf0 : (tokensP s).2.1 = 0) {p0 p1 p2 : List Tok} (hps : partsP (tokensP s).1 = [p0, p1, p2]) : Calls Tryz.prog 56 #[.string ⟨s.toArray⟩] W (PsR W (parseP s)) := by
 have hmf : ∀ (fn : Fn) (first cap : Array Value) (w : World), (Instr.makeFunc fn first cap).run Tryz.prog w = .ok (.func fn first cap) w := fun _ _ _ _ => rfl
 have HS := Lib.hid (fun w' (hx : Ext W w') => hS.ext hx)
 have HT := Lib.hid (fun w => tokens_any s w hs)
 have hsm := Lib.hid (tokensP_sm s)
 have h40 := (tokensP_ok s).l40
 have hfa : (tokensP s).2.1 = 0 → (tokensP s).2.2 = 0 := fun h => by rw [(tokensP_zero h).2.1]
 obtain ⟨r, hr⟩ : ∃ r, parseP s = r := ⟨_, rfl⟩
 have hP : parseP s = if (tokensP s).2.1 ≠ 0 then (Ad.zero, (tokensP s).2) else parsePts (partsP (tokensP s).1) ((partsP (tokensP s).1).length - 1) := rfl
 rw [hr] at hP ⊢
 replace hr := Lib.hid hr
 clear hS hs
 generalize tokensP s = tk at *
 obtain ⟨l, fe, fa⟩ := tk
 dsimp only at *
 subst hf0
 obtain rfl : fa = 0 := hfa rfl
 clear hfa
 rw [if_neg (by simp), hps] at hP
 have hsp := parts_sm hsm.out
 have hl100 : ∀ p ∈ partsP l, p.length ≤ 100 := fun p hp => by
  have h1 := parts_total l
  have h2 : p.length ≤ ((partsP l).map List.length).sum := le_sum_mem (List.mem_map.2 ⟨p, hp, rfl⟩)
  omega
 rw [hps] at hsp hl100
 have hPS := Lib.hid (fun p hp => (show p.length ≤ 100 ∧ ∀ t ∈ p, t.t.length ≤ 300 from ⟨hl100 p hp, hsp p hp⟩))
 clear hsp hl100
 replace hP := Lib.hid (show r = parsePts [p0, p1, p2] 2 from hP)
 go_enter_defers Tryz.func56, Tryz.ntmps56
 go_wp2_with fail
 refine (HT.out _).mono ?_
 rintro e w1 ⟨v, rfl, hown, hx1⟩
 have S1 : PsAt W w1 W.heap.size (W.heap.size + 1) Ad.zero := by
  have X := ((Ext.refl W).alloc (.cells (adC Ad.zero) 45)).alloc (.cells #[.int .i64 0, .int .i64 0] 36)
  have B1 := Blk.new (W.alloc (.cells (adC Ad.zero) 45)) 36 #[.int .i64 0, .int .i64 0]
  rw [show (W.alloc (.cells (adC Ad.zero) 45)).heap.size = W.heap.size + 1 by simp] at B1
  exact ⟨X.trans hx1, ((Blk.new W _ _).alloc _).ext hx1, ⟨_, _, B1.ext hx1⟩, Nat.le_refl _, by omega⟩
 have hsz : (W.alloc (.cells (adC Ad.zero) 45)).heap.size = W.heap.size + 1 := by simp
 have hb0 : W.heap.size ≤ (((W.alloc (.cells (adC Ad.zero) 45)).alloc (.cells #[.int .i64 0, .int .i64 0] 36))).heap.size := by simp; omega
 have hown2 := own_base hown hb0
 clear hown hx1 hsz hb0 HT
 generalize hga : W.heap.size = ga at *
 generalize ga + 1 = gf at *
 obtain ⟨A, cap, rfl, hc1, hc2, hrd⟩ := own_slice hown2
 obtain ⟨x0, y0, hf0⟩ := S1.f
 have F1 := fault_set hf0 (.int .i64 0) (.int .i64 0)
 have T1 : TokS ((w1.setCell ⟨gf, 0, none⟩ (.int .i64 0)).setCell ⟨gf, 1, none⟩ (.int .i64 0)) A l.length cap l := by
  have h2 := own_set (own_set hown2 (a := ⟨gf, 0, none⟩) (own_blk_ne hown2 hf0 (by decide)) (.int .i64 0)) (a := ⟨gf, 1, none⟩) (own_blk_ne hown2 hf0 (by decide)) (.int .i64 0)
  obtain ⟨_, _, e, _, _, hrd2⟩ := own_slice h2
  injection e with e1 _ _
  subst e1
  exact ⟨rfl, hrd2, hc1, hc2, by omega, hsm.out⟩
 have S2 : PsAt W ((w1.setCell ⟨gf, 0, none⟩ (.int .i64 0)).setCell ⟨gf, 1, none⟩ (.int .i64 0)) ga gf Ad.zero :=
  ⟨(S1.ext.set (p := ⟨gf, 0, none⟩) S1.lf _).set (p := ⟨gf, 1, none⟩) S1.lf _, (S1.a.far (p := ⟨gf, 0, none⟩) S1.ne _).far (p := ⟨gf, 1, none⟩) S1.ne _, ⟨_, _, F1⟩, S1.la, S1.lf⟩
 replace hga := Lib.hid hga
 obtain ⟨q0, q1⟩ := hf0.cells
 have lf := hf0.lt
 clear S1 hown2 hrd hf0
 go_upto_region 4 with (fail)
 clear q0 q1 lf
 generalize (w1.setCell ⟨gf, 0, none⟩ (.int .i64 0)).setCell ⟨gf, 1, none⟩ (.int .i64 0) = w2 at *
 obtain ⟨q0, q1⟩ := F1.cells
 have lf := F1.lt
 go_wp2_with fail
 refine (parts_any l A l.length cap w2 T1).mono ?_
 rintro e w3 ⟨v, es, rfl, HPa⟩
 rw [hps] at HPa
 have S3 := S2.to HPa.ext
 have hlen : es.length = 3 := HPa.len
 obtain ⟨gO, cO, hv, hcO, _⟩ := own_some HPa.row (by omega)
 have hrow := HPa.row
 rw [hv] at hrow
 have HC : PcAt W w3 ga gf Ad.zero gO cO es [p0, p1, p2] := ⟨S3, own_base hrow (Nat.zero_le _), HPa.len, fun i h h' => HPa.toks hPS.out h h', F1.ext HPa.ext⟩
 rw [hlen] at hv hcO
 subst hv
 clear S2 T1 F1 HPa q0 q1 lf hps h40 hsm hc1 hc2
 obtain ⟨A0, c0, h0, _⟩ := HC.tk 0 (by omega) (by simp)
 replace h0 : es[0] = .slice A0 p0.length c0 := h0
 obtain ⟨k0, T0⟩ := HC.at_ (p := p0) (by omega) (by simp) h0 rfl
 have l0 := T0.l40
 have m0 := T0.le
 obtain ⟨A1, c1, h1, _⟩ := HC.tk 1 (by omega) (by simp)
 replace h1 : es[1] = .slice A1 p1.length c1 := h1
 obtain ⟨k1, T1⟩ := HC.at_ (p := p1) (by omega) (by simp) h1 rfl
 have l1 := T1.l40
 have m1 := T1.le
 obtain ⟨A2, c2, h2, _⟩ := HC.tk 2 (by omega) (by simp)
 replace h2 : es[2] = .slice A2 p2.length c2 := h2
 obtain ⟨k2, T2⟩ := HC.at_ (p := p2) (by omega) (by simp) h2 rfl
 have l2 := T2.l40
 have m2 := T2.le
 have lO := (HC.cell (k := 0) (by omega)).2
 replace HC := Lib.hid HC
 have S3' := Lib.hid S3
 have HE2 := Lib.hid (show es[0] = .slice A0 p0.length c0 ∧ es[1] = .slice A1 p1.length c1 ∧ es[2] = .slice A2 p2.length c2 from ⟨h0, h1, h2⟩)
 clear S3 hrow h0 h1 h2 T0 T1 T2
 replace hlen := Lib.hid hlen
 go_wp2_with fail
 refine (must_so 270 0 _).mono ?_
 rintro e w4 ⟨rfl, rfl⟩
 go_wp2_with fail
 go_loopw [47] (fun i wr => LpRel w4 [p0, p1, p2] i wr) (fun i _ => 3 - (intOf i).toNat)
 case atStart => exact ⟨0, Nat.zero_le _, rfl, rfl, fun j _ h => absurd h (by omega)⟩
 case round =>
  obtain ⟨k, hk, rfl, rfl, hne⟩ := hrel
  replace hk : k ≤ 3 := hk
  rcases (show k = 0 ∨ k = 1 ∨ k = 2 ∨ k = 3 by omega) with rfl | rfl | rfl | rfl
  ·have kl : ((0 : Nat) : Int) < 3 := by decide
   by_cases hz : 0 < p0.length
   ·have hd : decide ((0 : Int) < (p0.length : Int)) = true := decide_eq_true (by omega)
    have hd' : decide (0 < p0.length) = true := decide_eq_true (by omega)
    have HE := Lib.hid (show LpRel wr [p0, p1, p2] (.int .i64 1) wr from ⟨1, by simp, rfl, rfl, fun j h hj => by
     by_cases e : j = 0
     ·subst e; exact hz
     ·exact hne j h (by omega)⟩)
    clear hne
    go_wp2_with fail
    refine (must_so 270 0 _).mono ?_
    rintro e w5 ⟨rfl, rfl⟩
    go_wp2_with fail
    exact ⟨HE.out, by simp [intOf]⟩
   ·have hd : decide ((0 : Int) < (p0.length : Int)) = false := decide_eq_false (by omega)
    have hd' : decide (0 < p0.length) = false := decide_eq_false (by omega)
    have hQ := Lib.hid (hP.out.trans (pts_none (ps := [p0, p1, p2]) (i := 0) (by simp) (List.eq_nil_of_length_eq_zero (by show p0.length = 0; omega))))
    clear hne hz
    go_wp2_with fail
    refine (must_not 270 0 _).mono ?_
    rintro e w5 ⟨rfl, rfl⟩
    go_wp2_with fail
    exact S3'.out.fail 270 0 (by decide) r hQ.out rfl rfl
  ·have kl : ((1 : Nat) : Int) < 3 := by decide
   by_cases hz : 0 < p1.length
   ·have hd : decide ((0 : Int) < (p1.length : Int)) = true := decide_eq_true (by omega)
    have hd' : decide (0 < p1.length) = true := decide_eq_true (by omega)
    have HE := Lib.hid (show LpRel wr [p0, p1, p2] (.int .i64 2) wr from ⟨2, by simp, rfl, rfl, fun j h hj => by
     by_cases e : j = 1
     ·subst e; exact hz
     ·exact hne j h (by omega)⟩)
    clear hne
    go_wp2_with fail
    refine (must_so 270 0 _).mono ?_
    rintro e w5 ⟨rfl, rfl⟩
    go_wp2_with fail
    exact ⟨HE.out, by simp [intOf]⟩
   ·have hd : decide ((0 : Int) < (p1.length : Int)) = false := decide_eq_false (by omega)
    have hd' : decide (0 < p1.length) = false := decide_eq_false (by omega)
    have hQ := Lib.hid (hP.out.trans (pts_none (ps := [p0, p1, p2]) (i := 1) (by simp) (List.eq_nil_of_length_eq_zero (by show p1.length = 0; omega))))
    clear hne hz
    go_wp2_with fail
    refine (must_not 270 0 _).mono ?_
    rintro e w5 ⟨rfl, rfl⟩
    go_wp2_with fail
    exact S3'.out.fail 270 0 (by decide) r hQ.out rfl rfl
  ·have kl : ((2 : Nat) : Int) < 3 := by decide
   by_cases hz : 0 < p2.length
   ·have hd : decide ((0 : Int) < (p2.length : Int)) = true := decide_eq_true (by omega)
    have hd' : decide (0 < p2.length) = true := decide_eq_true (by omega)
    have HE := Lib.hid (show LpRel wr [p0, p1, p2] (.int .i64 3) wr from ⟨3, by simp, rfl, rfl, fun j h hj => by
     by_cases e : j = 2
     ·subst e; exact hz
     ·exact hne j h (by omega)⟩)
    clear hne
    go_wp2_with fail
    refine (must_so 270 0 _).mono ?_
    rintro e w5 ⟨rfl, rfl⟩
    go_wp2_with fail
    exact ⟨HE.out, by simp [intOf]⟩
   ·have hd : decide ((0 : Int) < (p2.length : Int)) = false := decide_eq_false (by omega)
    have hd' : decide (0 < p2.length) = false := decide_eq_false (by omega)
    have hQ := Lib.hid (hP.out.trans (pts_none (ps := [p0, p1, p2]) (i := 2) (by simp) (List.eq_nil_of_length_eq_zero (by show p2.length = 0; omega))))
    clear hne hz
    go_wp2_with fail
    refine (must_not 270 0 _).mono ?_
    rintro e w5 ⟨rfl, rfl⟩
    go_wp2_with fail
    exact S3'.out.fail 270 0 (by decide) r hQ.out rfl rfl
  ·have hn0 : 0 < p0.length := hne 0 (by simp) (by omega)
   have hn1 : 0 < p1.length := hne 1 (by simp) (by omega)
   have hn2 : 0 < p2.length := hne 2 (by simp) (by omega)
   have hP1 : r = ptsR p0 p1 p2 none 2 := hP.out.trans (pts_3 hn0 hn1 hn2)
   clear hne
   obtain ⟨_, T0⟩ := HC.out.at_ (i := 0) (p := p0) (by have := hlen.out; omega) (by simp) HE2.out.1 rfl
   obtain ⟨b0, o0, rfl, hb0, t0, t1⟩ := T0.at_ hn0
   simp only [Nat.zero_mul, Nat.add_zero] at t0 t1
   have hnl : p0[0].t.length ≤ 300 := T0.sm _ (List.getElem_mem hn0)
   have hnum : (p0.headD ⟨0, []⟩).t = p0[0].t := by cases p0 with | nil => simp at hn0 | cons _ _ => rfl
   unfold ptsR at hP1
   dsimp only at hP1
   rw [hnum] at hP1
   have z0 : (0 : Int) < (p0.length : Int) := by omega
   generalize p0[0].t = num at *
   generalize p0[0].k = nk at *
   replace hP1 := Lib.hid hP1
   clear T0 hnum
   go_wp2_with fail
   refine (atoiS_any num (by omega) _ (HS.out _ S3'.out.ext)).mono ?_
   rintro e w5 ⟨n, er, rfl, hnn, hx5⟩
   replace hnn := Lib.hid hnn
   have C5 := Lib.hid (HC.out.to hx5)
   go_wp2_with fail
   refine (digits_16 num (by omega) _).mono ?_
   rintro e w6 ⟨rfl, hx6⟩
   have C6 := Lib.hid (C5.out.to hx6)
   clear C5 hx5 t0 t1 hb0
   generalize hD : digitsP num 1 6 = D at *
   cases D with
   | false =>
    have hQ := Lib.hid (show r = (Ad.zero, 271, 0) by rw [hP1.out, if_pos (by simp)]; rfl)
    clear hx6
    go_wp2_with fail
    refine (must_not 271 0 _).mono ?_
    rintro e wf ⟨rfl, rfl⟩
    go_wp2_with fail
    exact C6.out.s.fail 271 0 (by decide) r hQ.out rfl rfl
   | true =>
    have hn' : n = numP num := hnn.out rfl
    by_cases hz : 0 < n
    rotate_left
    ·have hd : decide ((0 : Int) < n) = false := decide_eq_false hz
     have hQ := Lib.hid (show r = (Ad.zero, 271, 0) by rw [hP1.out, if_pos (by rw [← hn']; simp [hz])]; rfl)
     clear hx6 hz hn'
     go_wp2_with fail
     refine (must_not 271 0 _).mono ?_
     rintro e wf ⟨rfl, rfl⟩
     go_wp2_with fail
     exact C6.out.s.fail 271 0 (by decide) r hQ.out rfl rfl
    ·have hd : decide ((0 : Int) < n) = true := decide_eq_true hz
     have hP2 := hP1.out
     rw [if_neg (by rw [← hn']; simp [hz]), ← hn'] at hP2
     have T0 := (C6.out.at_ (i := 0) (p := p0) (by have := hlen.out; omega) (by simp) HE2.out.1 rfl).2
     obtain ⟨kk0, lO6⟩ := C6.out.cell (k := 0) (by have := hlen.out; omega)
     rw [HE2.out.1] at kk0
     have TT := T0.tail' hn0
     replace hP2 := Lib.hid hP2
     have l1p : (1 : Int) ≤ (p0.length : Int) := by omega
     clear hP1 hz hn' hnn T0 hx6 z0
     go_wp2_with fail
     refine (must_so 271 0 _).mono ?_
     rintro e w6b ⟨rfl, rfl⟩
     obtain ⟨st, hst⟩ : ∃ st, streetP p0.tail true = st := ⟨_, rfl⟩
     have HSt := Lib.hid (fun (Aq : Option Addr) (nq cq : Nat) (h : TokS w6b Aq nq cq p0.tail) => street_any p0.tail true Aq nq cq w6b h (HS.out _ C6.out.s.ext))
     rw [hst] at HSt
     have hP3 := hP2.out
     dsimp only [Option.isNone] at hP3
     simp only [hst] at hP3
     have hSO := streetP_ok p0.tail true
     rw [hst] at hSO
     replace hP3 := Lib.hid hP3
     replace hst := Lib.hid hst
     replace hSO := Lib.hid hSO
     obtain ⟨⟨zn, zh, zpre, zname, zsuf, zpost, zunit, zcity, zstate, zzip, zmore⟩, nm, io⟩ := st
     dsimp only at *
     clear hP2
     go_upto_region 17 with (fail)
     go_cut [12, 13] from 22 to 84 (fun u v wx => StrRel W ga gf gO cO es [p0, p1, p2] ⟨zn, zh, zpre, zname, zsuf, zpost, zunit, zcity, zstate, zzip, zmore⟩ nm io u v wx)
     case first =>
      clear hP hP3 hSO
      by_cases hc : c0 = 1
      ·subst hc
       have TT' : TokS w6b (some ⟨b0, o0, none⟩) 0 0 p0.tail := by
        have e0 : p0.length - 1 = 0 := by omega
        rw [e0] at TT
        simpa using TT
       clear TT
       go_wp2_with fail
       refine (HSt.out _ _ _ TT').mono ?_
       rintro e w7 ⟨An, nn, cn, inV, rfl, TN, IN, hx7⟩
       have C7 := C6.out.to hx7
       have R7 := Lib.hid (show StrRel W ga gf gO cO es [p0, p1, p2] Ad.zero nm io (.slice An nn cn) inV w7 from ⟨C7, ⟨An, nn, cn, rfl, TN⟩, IN⟩)
       have la := C7.s.a.lt
       have hA := C7.s.a
       unfold adC at hA
       dsimp only [Ad.zero] at hA
       obtain ⟨q2, q3⟩ := hA.cells
       clear hA C7 TN IN hx7
       rw [adV_eq]
       dsimp only
       go_wp2_with fail
       go_meet
       case rel => exact R7.out.whole_ zn zh zpre zname zsuf zpost zunit zcity zstate zzip zmore
      ·rw [if_neg hc] at TT
       go_wp2_with fail
       refine (HSt.out _ _ _ TT).mono ?_
       rintro e w7 ⟨An, nn, cn, inV, rfl, TN, IN, hx7⟩
       have C7 := C6.out.to hx7
       have R7 := Lib.hid (show StrRel W ga gf gO cO es [p0, p1, p2] Ad.zero nm io (.slice An nn cn) inV w7 from ⟨C7, ⟨An, nn, cn, rfl, TN⟩, IN⟩)
       have la := C7.s.a.lt
       have hA := C7.s.a
       unfold adC at hA
       dsimp only [Ad.zero] at hA
       obtain ⟨q2, q3⟩ := hA.cells
       clear hA C7 TN IN hx7
       rw [adV_eq]
       dsimp only
       go_wp2_with fail
       go_meet
       case rel => exact R7.out.whole_ zn zh zpre zname zsuf zpost zunit zcity zstate zzip zmore
     case rest =>
      have hA := hcut.1.s.a
      have la := hA.lt
      unfold adC at hA
      dsimp only at hA
      obtain ⟨q2, q3⟩ := hA.cells
      replace hcut := Lib.hid hcut
      clear hA
      go_upto_region 19 with (fail)
      replace hcut := Lib.hid (hcut.out.put 0 (.int .i64 n) ⟨n, zh, zpre, zname, zsuf, zpost, zunit, zcity, zstate, zzip, zmore⟩ rfl)
      clear q2 q3 la
      have hQ2 : ∀ u, io = some u → (unitP u).2 = true := fun u e => (hSO.out.unit u e).1
      have hP24 : r = ptsE ⟨n, zh, zpre, zname, zsuf, zpost, zunit, zcity, zstate, zzip, zmore⟩ nm p1 p2 io 2 := by
       have h := hP3.out
       rw [if_neg (by simp)] at h
       simpa only [ptsE, Option.isSome_none, Bool.false_eq_true, if_false] using h
      replace hP24 := Lib.hid hP24
      go_upto_region 24 with (fail)
      generalize (wc.setCell ⟨ga, 0, none⟩ (.int .i64 n)) = w24 at *
      obtain ⟨C24, ⟨An, nn, cn, rfl, TN⟩, IN⟩ := hcut.out
      clear hcut
      replace C24 := Lib.hid C24
      replace TN := Lib.hid TN
      replace IN := Lib.hid IN
      go_cut [] from 22 to 113 (fun wx => wx = w24 ∧ (io).any (fun l => decide (10 < ((l.getD 1 ⟨0, []⟩).t).length)) = false)
      case first =>
       generalize hin : io = inT at *
       replace IN := IN.out
       cases inT with
       | none =>
        obtain rfl : u13 = .slice none 0 0 := IN
        have he := Lib.run_eql_slice_nil (P := Tryz.prog) w24 87 105 none 0 0 0 0 Tryz.underlying87
        go_wp2_with fail
        refine (must_so 272 0 _).mono ?_
        rintro e wq ⟨rfl, rfl⟩
        go_wp2_with fail
        go_meet
        case rel => exact ⟨rfl, rfl⟩
       | some u =>
        obtain ⟨A', n', c', hv', T', h0', _⟩ := IN
        obtain ⟨ta, tb, rfl⟩ := unitP_two (hQ2 u rfl)
        obtain rfl : 2 = n' := T'.len
        obtain ⟨g', o', rfl, hg', _, t1'⟩ := T'.at_ (k := 1) (by simp)
        replace t1' : w24.cell? ⟨g', o' + 3, none⟩ = some (.string ⟨tb.t.toArray⟩) := t1'
        have hle' := T'.le
        have hmax' := T'.max
        have hsm' : tb.t.length ≤ 300 := T'.sm tb (by simp)
        have he := Lib.run_eql_slice_nil (P := Tryz.prog) w24 87 105 (some ⟨g', o', none⟩) 2 c' 0 0 Tryz.underlying87
        subst hv'
        clear T' h0'
        by_cases hz : tb.t.length ≤ 10
        ·have hd1 : decide ((tb.t.length : Int) ≤ 10) = true := decide_eq_true (by omega)
         have hd2 : decide (tb.t.length ≤ 10) = true := decide_eq_true hz
         have hE := Lib.hid (show (some [ta, tb]).any (fun l => decide (10 < ((l.getD 1 ⟨0, []⟩).t).length)) = false by simp; omega)
         clear hz
         go_wp2_with fail
         refine (must_so 272 0 _).mono ?_
         rintro e wq ⟨rfl, rfl⟩
         go_wp2_with fail
         go_meet
         case rel => exact ⟨rfl, hE.out⟩
        ·have hd1 : decide ((tb.t.length : Int) ≤ 10) = false := decide_eq_false (by omega)
         have hd2 : decide (tb.t.length ≤ 10) = false := decide_eq_false hz
         have hQ := Lib.hid (show r = (Ad.zero, 272, 0) by rw [hP24.out]; unfold ptsE; rw [if_pos (by simp; omega)]; rfl)
         clear hz
         go_wp2_with fail
         refine (must_not 272 0 _).mono ?_
         rintro e wf ⟨rfl, rfl⟩
         go_wp2_with fail
         exact C24.out.s.fail 272 0 (by decide) r hQ.out rfl rfl
      case rest =>
       obtain ⟨rfl, hin⟩ := hcut
       obtain rfl := TN.out.len
       have hP25 := hP24.out.trans (ptsE_C _ _ _ _ _ _ hin)
       have C25 := C24.out
       have T25 := TN.out
       have hE := HE2.out
       have hln := hlen.out
       clear hP24 hin
       go_step
       exact parse_r25 W _ ga gf gO cO 3 2 1 es [p0, p1, p2] nm p1 p2 An _ _ cn _ _ _ r C25 T25 hln (by decide) rfl hE.2.1 rfl hE.2.2 rfl hn2 (by decide) (HS.out _ (Ext.refl _)) hP25
end Go.Proofs.YtjaponmpfdpemaaGreatDoor
