/-
  addr: Parse, from region 26 on: the city (printed by tools/genZb.py).
-/
import Derived.Deep.RegionHeld3
import Derived.Test.YtjaponmpfdpemaaGreatDoorBa26
set_option linter.unusedVariables false
namespace Go.Proofs.YtjaponmpfdpemaaGreatDoor
open Go.RowKit

theorem only_1 (l : List Tok) (A : Option Addr) (cap : Nat) (W : World) (h : TokS W A l.length cap l) :
    Calls Tryz.prog 76 #[.slice A l.length cap, .slice (some ⟨W.heap.size, 0, none⟩) 1 1] (W.alloc (.cells #[.int .i64 1] 3)) fun e w' => e = .returned (.bool (kindOf l [1])) ∧ Ext W w' := by
  have X := (Ext.refl W).alloc (.cells #[.int .i64 1] 3)
  have B := Blk.new W 3 #[.int .i64 1]
  have hl := h.l40
  refine (only_any l A l.length cap [1] (some ⟨W.heap.size, 0, none⟩) 1 1 _ rfl rfl (h.ext X).rd ⟨rfl, fun _ => ⟨_, 0, rfl, by simp, fun j u hu => ?_⟩⟩ (by omega) (by decide)).mono ?_
  · rw [Nat.zero_add]
    exact (B.cell j).trans ((show (#[Value.int .i64 1] : Array Value)[j]? = (iV [1])[j]? from by simp [iV]).trans hu)
  · rintro e w' ⟨rfl, hx⟩
    exact ⟨rfl, X.trans hx⟩
/-- Behind the city's text: the parts, the cursor. -/
structure CtyAt (W w : World) (ga gf gO cO gp : Nat) (a : Ad) (es : List Value) (ps : List (List Tok)) (A : Option Addr) (n c : Nat) (l : List Tok) : Prop where
  pc : PcAt W w ga gf a gO cO es ps
  p : PlAt W w ga gf gp a A n c l
theorem CtyAt.to {W w w' : World} {ga gf gO cO gp : Nat} {a : Ad} {es : List Value} {ps : List (List Tok)} {A : Option Addr} {n c : Nat} {l : List Tok} (h : CtyAt W w ga gf gO cO gp a es ps A n c l) (hx : Ext w w') : CtyAt W w' ga gf gO cO gp a es ps A n c l := ⟨h.pc.to hx, h.p.to hx⟩
theorem CtyAt.put {W w : World} {ga gf gO cO gp : Nat} {a : Ad} {es : List Value} {ps : List (List Tok)} {A : Option Addr} {n c : Nat} {l : List Tok} (h : CtyAt W w ga gf gO cO gp a es ps A n c l) (i : Nat) (u : Value) (b : Ad) (hu : (adC a).setIfInBounds i u = adC b) : CtyAt W (w.setCell ⟨ga, i, none⟩ u) ga gf gO cO gp b es ps A n c l := ⟨h.pc.put i u b hu, h.p.put i u b hu⟩
set_option maxRecDepth 100000 in
set_option maxHeartbeats 4000000 in
theorem parse_r26 (W w : World) (ga gf gO cO N L M : Nat) (es : List Value) (ps : List (List Tok)) (ct pl : List Tok) (A1 A2 : Option Addr) (c1 c2 : Nat) (a : Ad) (r : Ad × Int × Int) (C : PcAt W w ga gf a gO cO es ps) (hN : es.length = N) (hL : L < N) (hM : L = M + 1) (h1 : es[M]'(by omega) = .slice A1 ct.length c1) (hp1 : ps[M]'(by have := C.len; omega) = ct) (h2 : es[L]'(by omega) = .slice A2 pl.length c2) (hp : ps[L]'(by have := C.len; omega) = pl) (h0 : 0 < pl.length) (hcO : N ≤ 100) (hS : Std W) (hr : r = ptsC a ct pl L) {u0 u1 u4 u7 u8 u9 u10 u11 u12 u13 u14 u15 u22 u23 u24 u25 u26 u27 u28 u29 u30 u31 u32 u33 u34 u35 u36 u37 u38 u39 u40 u41 u42 u43 u44 u45 u46 u47 u48 u49 u50 u51 u52 u53 u54 u55 u56 u57 u58 u59 u60 u61 u62 u63 u64 u65 u66 u67 u68 u69 u70 u71 u72 u73 u74 u75 u76 u77 u78 u79 u80 u81 u82 u83 u84 u85 u86 u87 u88 u89 u90 u91 u92 u93 u94 u95 u96 u97 u98 u99 u100 u101 u102 u103 u104 u105 u106 u107 u108 u109 u110 u111 u112 u113 u114 u115 u116 u117 u118 u119 u120 u121 u122 u123 u124 u125 u126 u127 u128 u129 u130 u131 u132 u133 : Value} : (parseAt 26).wp Tryz.prog (bodyPostD Tryz.prog Tryz.f56 (PsR W r)) ⟨#[u0, u1, .pointer (some ⟨ga, 0, none⟩), .pointer (some ⟨gf, 0, none⟩), u4, .slice (some ⟨gO, 0, none⟩) N cO, .int .i64 (L : Int), u7, u8, u9, u10, u11, u12, u13, u14, u15, undef, undef, undef, undef, undef, undef, u22, u23, u24, u25, u26, u27, u28, u29, u30, u31, u32, u33, u34, u35, u36, u37, u38, u39, u40, u41, u42, u43, u44, u45, u46, u47, u48, u49, u50, u51, u52, u53, u54, u55, u56, u57, u58, u59, u60, u61, u62, u63, u64, u65, u66, u67, u68, u69, u70, u71, u72, u73, u74, u75, u76, u77, u78, u79, u80, u81, u82, u83, u84, u85, u86, u87, u88, u89, u90, u91, u92, u93, u94, u95, u96, u97, u98, u99, u100, u101, u102, u103, u104, u105, u106, u107, u108, u109, u110, u111, u112, u113, u114, u115, u116, u117, u118, u119, u120, u121, u122, u123, u124, u125, u126, u127, u128, u129, u130, u131, u132, u133, undef, undef, undef, undef, undef, undef, undef, undef, undef, undef, undef, undef, undef, undef, undef, undef, undef, undef, undef, undef, undef, undef, undef, undef, undef, undef, undef, undef, undef, undef, undef, undef, undef, undef, undef, undef, undef, undef, undef, undef, undef, undef, undef, undef, undef, undef, undef, undef, undef, undef, undef, undef, undef, undef, undef, undef, undef, undef, undef, undef, undef, undef, undef, undef, undef, undef, undef, undef, undef, undef, undef, undef, undef, undef, undef, undef, undef, undef, undef, undef, undef, undef, undef, undef, undef, undef, undef, undef, undef, undef], dfs ga gf⟩ w := by
  obtain ⟨zn, zh, zpre, zname, zsuf, zpost, zunit, zcity, zstate, zzip, zmore⟩ := a
  obtain ⟨q5, T⟩ := C.at_ (i := M) (by omega) (by have := C.len; omega) h1 hp1
  have lO := (C.cell (k := M) (by omega)).2
  have Q1 := Lib.hid (show CtyAt W (w.alloc (.cells #[.slice A1 ct.length c1] 113)) ga gf gO cO w.heap.size ⟨zn, zh, zpre, zname, zsuf, zpost, zunit, zcity, zstate, zzip, zmore⟩ es ps A1 ct.length c1 ct from ⟨C.to ((Ext.refl w).alloc _), C.pl T⟩)
  have HT := Lib.hid (fun (gp : Nat) w' (h : CtyAt W w' ga gf gO cO gp ⟨zn, zh, zpre, zname, zsuf, zpost, zunit, zcity, zstate, zzip, zmore⟩ es ps A1 ct.length c1 ct) => text_any ct A1 ct.length c1 gp w' h.p.b h.p.t)
  have H29 := Lib.hid (fun (w' : World) (C' : PcAt W w' ga gf ⟨zn, zh, zpre, zname, zsuf, zpost, zunit, (textsP ct), zstate, zzip, zmore⟩ gO cO es ps) (hr' : r = ptsZ ⟨zn, zh, zpre, zname, zsuf, zpost, zunit, (textsP ct), zstate, zzip, zmore⟩ pl L) {u0 u1 u4 u7 u8 u9 u10 u11 u12 u13 u14 u15 u16 u22 u23 u24 u25 u26 u27 u28 u29 u30 u31 u32 u33 u34 u35 u36 u37 u38 u39 u40 u41 u42 u43 u44 u45 u46 u47 u48 u49 u50 u51 u52 u53 u54 u55 u56 u57 u58 u59 u60 u61 u62 u63 u64 u65 u66 u67 u68 u69 u70 u71 u72 u73 u74 u75 u76 u77 u78 u79 u80 u81 u82 u83 u84 u85 u86 u87 u88 u89 u90 u91 u92 u93 u94 u95 u96 u97 u98 u99 u100 u101 u102 u103 u104 u105 u106 u107 u108 u109 u110 u111 u112 u113 u114 u115 u116 u117 u118 u119 u120 u121 u122 u123 u124 u125 u126 u127 u128 u129 u130 u131 u132 u133 u134 u135 u136 u137 u138 u139 u140 u141 u142 u143 u144 u145 u146 u147 u148 u149 u150 u151 u152 u153 u154 u155 u156 u157 u158 u159 u160 u161 u162 u163 u164 u165 u166 : Value} =>
    parse_r29 W w' ga gf gO cO N L es ps pl A2 c2 _ r C' hN hL h2 hp h0 hcO hS hr' (u0 := u0) (u1 := u1) (u4 := u4) (u7 := u7) (u8 := u8) (u9 := u9) (u10 := u10) (u11 := u11) (u12 := u12) (u13 := u13) (u14 := u14) (u15 := u15) (u16 := u16) (u22 := u22) (u23 := u23) (u24 := u24) (u25 := u25) (u26 := u26) (u27 := u27) (u28 := u28) (u29 := u29) (u30 := u30) (u31 := u31) (u32 := u32) (u33 := u33) (u34 := u34) (u35 := u35) (u36 := u36) (u37 := u37) (u38 := u38) (u39 := u39) (u40 := u40) (u41 := u41) (u42 := u42) (u43 := u43) (u44 := u44) (u45 := u45) (u46 := u46) (u47 := u47) (u48 := u48) (u49 := u49) (u50 := u50) (u51 := u51) (u52 := u52) (u53 := u53) (u54 := u54) (u55 := u55) (u56 := u56) (u57 := u57) (u58 := u58) (u59 := u59) (u60 := u60) (u61 := u61) (u62 := u62) (u63 := u63) (u64 := u64) (u65 := u65) (u66 := u66) (u67 := u67) (u68 := u68) (u69 := u69) (u70 := u70) (u71 := u71) (u72 := u72) (u73 := u73) (u74 := u74) (u75 := u75) (u76 := u76) (u77 := u77) (u78 := u78) (u79 := u79) (u80 := u80) (u81 := u81) (u82 := u82) (u83 := u83) (u84 := u84) (u85 := u85) (u86 := u86) (u87 := u87) (u88 := u88) (u89 := u89) (u90 := u90) (u91 := u91) (u92 := u92) (u93 := u93) (u94 := u94) (u95 := u95) (u96 := u96) (u97 := u97) (u98 := u98) (u99 := u99) (u100 := u100) (u101 := u101) (u102 := u102) (u103 := u103) (u104 := u104) (u105 := u105) (u106 := u106) (u107 := u107) (u108 := u108) (u109 := u109) (u110 := u110) (u111 := u111) (u112 := u112) (u113 := u113) (u114 := u114) (u115 := u115) (u116 := u116) (u117 := u117) (u118 := u118) (u119 := u119) (u120 := u120) (u121 := u121) (u122 := u122) (u123 := u123) (u124 := u124) (u125 := u125) (u126 := u126) (u127 := u127) (u128 := u128) (u129 := u129) (u130 := u130) (u131 := u131) (u132 := u132) (u133 := u133) (u134 := u134) (u135 := u135) (u136 := u136) (u137 := u137) (u138 := u138) (u139 := u139) (u140 := u140) (u141 := u141) (u142 := u142) (u143 := u143) (u144 := u144) (u145 := u145) (u146 := u146) (u147 := u147) (u148 := u148) (u149 := u149) (u150 := u150) (u151 := u151) (u152 := u152) (u153 := u153) (u154 := u154) (u155 := u155) (u156 := u156) (u157 := u157) (u158 := u158) (u159 := u159) (u160 := u160) (u161 := u161) (u162 := u162) (u163 := u163) (u164 := u164) (u165 := u165) (u166 := u166))
  unfold ptsC at hr
  replace hr := Lib.hid hr
  have ew : IntKind.i64.wrap ((L : Int) - 1) = (M : Int) := by rw [IntKind.wrap_i64]; omega
  have M0 : (0 : Int) ≤ (M : Int) := by omega
  have M1 : (M : Int) < (N : Int) := by omega
  have M2 : M < N := by omega
  have hLM := Lib.hid (show (L : Int) - 1 = (M : Int) by omega)
  clear C T h1 hp1 h2 hp hN hL hM hS h0
  conv => arg 2; whnf
  go_upto_region 27 with (fail)
  generalize w.alloc (.cells #[.slice A1 ct.length c1] 113) = w1 at *
  generalize w.heap.size = gp at *
  clear q5 lO
  go_wp2_with fail
  refine (HT.out _ _ Q1.out).mono ?_
  rintro e w2 ⟨rfl, hx2⟩
  have Q2 := Q1.out.to hx2
  clear hx2 Q1 HT
  obtain ⟨tx, htx⟩ : ∃ tx, textsP ct = tx := ⟨_, rfl⟩
  rw [htx] at hr H29 ⊢
  replace htx := Lib.hid htx
  have hA := Q2.pc.s.a
  have la := hA.lt
  unfold adC at hA
  dsimp only at hA
  obtain ⟨q2, q3⟩ := hA.cells
  have Q3 := Lib.hid (Q2.put 7 (.string ⟨tx.toArray⟩) ⟨zn, zh, zpre, zname, zsuf, zpost, zunit, tx, zstate, zzip, zmore⟩ rfl)
  clear hA Q2
  go_upto_region 28 with (fail)
  clear q2 q3 la
  generalize w2.setCell ⟨ga, 7, none⟩ (.string ⟨tx.toArray⟩) = w3 at *
  go_cut [] from 22 to 166 (fun wx => Ext w3 wx ∧ (kindOf ct [1] = true ∧ ct.length ≤ 8 ∧ tx.length ≤ 40))
  case first =>
    have B3 := Q3.out.p.b
    have d0 : w3.cell? ⟨gp, 0, none⟩ = some (.slice A1 ct.length c1) := B3.cell 0
    have lgp := B3.lt
    have HO := Lib.hid (only_1 ct A1 c1 w3 Q3.out.p.t)
    clear B3
    go_wp2_with fail
    refine HO.out.mono ?_
    rintro e w4 ⟨rfl, hx4⟩
    have Q4 := Lib.hid (Q3.out.to hx4)
    have X4 := Lib.hid hx4
    clear hx4 HO d0 lgp
    obtain ⟨ko, hko⟩ : ∃ ko, kindOf ct [1] = ko := ⟨_, rfl⟩
    rw [hko]
    replace hko := Lib.hid hko
    cases ko with
    | false =>
      have hQ := Lib.hid (show r = (Ad.zero, 274, (M : Int)) by rw [hr.out, if_pos (by rw [hko.out]; simp), hLM.out]; rfl)
      go_wp2_with fail
      refine (must_not 274 (M : Int) _).mono ?_
      rintro e wf ⟨rfl, rfl⟩
      go_wp2_with fail
      exact Q4.out.pc.s.fail 274 (M : Int) (by decide) r hQ.out rfl rfl
    | true =>
      have B4 := Q4.out.p.b
      have d0 : w4.cell? ⟨gp, 0, none⟩ = some (.slice A1 ct.length c1) := B4.cell 0
      have lgp := B4.lt
      clear B4
      by_cases h8 : ct.length ≤ 8
      · have d3 : decide ((ct.length : Int) ≤ 8) = true := decide_eq_true (by omega)
        have d4 : decide (ct.length ≤ 8) = true := decide_eq_true h8
        have hA := Q4.out.pc.s.a
        have la := hA.lt
        have c7 : w4.cell? ⟨ga, 7, none⟩ = some (.string ⟨tx.toArray⟩) := hA.cell 7
        clear hA
        replace h8 := Lib.hid h8
        by_cases h4 : tx.length ≤ 40
        · have d5 : decide ((tx.length : Int) ≤ 40) = true := decide_eq_true (by omega)
          have d6 : decide (tx.length ≤ 40) = true := decide_eq_true h4
          have HE := Lib.hid (show Ext w3 w4 ∧ (kindOf ct [1] = true ∧ ct.length ≤ 8 ∧ tx.length ≤ 40) from ⟨X4.out, hko.out, h8.out, h4⟩)
          clear h4
          go_wp2_with fail
          refine (must_so 274 (M : Int) _).mono ?_
          rintro e w5 ⟨rfl, rfl⟩
          go_wp2_with fail
          go_meet
          case rel => exact HE.out
        · have d5 : decide ((tx.length : Int) ≤ 40) = false := decide_eq_false (by omega)
          have d6 : decide (tx.length ≤ 40) = false := decide_eq_false h4
          have hQ := Lib.hid (show r = (Ad.zero, 274, (M : Int)) by rw [hr.out, if_pos (by simp [h4]), hLM.out]; rfl)
          clear h4
          go_wp2_with fail
          refine (must_not 274 (M : Int) _).mono ?_
          rintro e wf ⟨rfl, rfl⟩
          go_wp2_with fail
          exact Q4.out.pc.s.fail 274 (M : Int) (by decide) r hQ.out rfl rfl
      · have d3 : decide ((ct.length : Int) ≤ 8) = false := decide_eq_false (by omega)
        have d4 : decide (ct.length ≤ 8) = false := decide_eq_false h8
        have hQ := Lib.hid (show r = (Ad.zero, 274, (M : Int)) by rw [hr.out, if_pos (by simp [h8]), hLM.out]; rfl)
        clear h8
        go_wp2_with fail
        refine (must_not 274 (M : Int) _).mono ?_
        rintro e wf ⟨rfl, rfl⟩
        go_wp2_with fail
        exact Q4.out.pc.s.fail 274 (M : Int) (by decide) r hQ.out rfl rfl
  case rest =>
    obtain ⟨X4, hok⟩ := hcut
    have Q4 := Q3.out.to X4
    have hr2 := Lib.hid (show r = ptsZ ⟨zn, zh, zpre, zname, zsuf, zpost, zunit, tx, zstate, zzip, zmore⟩ pl L by rw [hr.out, if_neg (fun h => h hok)])
    clear X4 hok hr Q3
    go_step
    exact H29.out _ Q4.pc hr2.out
end Go.Proofs.YtjaponmpfdpemaaGreatDoor

set_option linter.unusedVariables false
namespace Go.Proofs.YtjaponmpfdpemaaGreatDoor
open Go.RowKit

set_option maxRecDepth 100000 in
set_option maxHeartbeats 4000000 in
theorem parse_r25 (W w : World) (ga gf gO cO N L M : Nat) (es : List Value) (ps : List (List Tok)) (nm ct pl : List Tok) (An A1 A2 : Option Addr) (cn c1 c2 : Nat) (a : Ad) (r : Ad × Int × Int) (C : PcAt W w ga gf a gO cO es ps) (TN : TokS w An nm.length cn nm) (hN : es.length = N) (hL : L < N) (hM : L = M + 1) (h1 : es[M]'(by omega) = .slice A1 ct.length c1) (hp1 : ps[M]'(by have := C.len; omega) = ct) (h2 : es[L]'(by omega) = .slice A2 pl.length c2) (hp : ps[L]'(by have := C.len; omega) = pl) (h0 : 0 < pl.length) (hcO : N ≤ 100) (hS : Std W) (hr : r = if ¬ (0 < nm.length ∧ nm.length ≤ 8 ∧ kindOf nm [1, 2, 3] = true ∧ a.name.length ≤ 40) then errA 273 0 else ptsC a ct pl L) {u0 u1 u4 u7 u8 u9 u10 u11 u13 u14 u15 u22 u23 u24 u25 u26 u27 u28 u29 u30 u31 u32 u33 u34 u35 u36 u37 u38 u39 u40 u41 u42 u43 u44 u45 u46 u47 u48 u49 u50 u51 u52 u53 u54 u55 u56 u57 u58 u59 u60 u61 u62 u63 u64 u65 u66 u67 u68 u69 u70 u71 u72 u73 u74 u75 u76 u77 u78 u79 u80 u81 u82 u83 u84 u85 u86 u87 u88 u89 u90 u91 u92 u93 u94 u95 u96 u97 u98 u99 u100 u101 u102 u103 u104 u105 u106 u107 u108 u109 u110 u111 u112 u113 : Value} : (parseAt 25).wp Tryz.prog (bodyPostD Tryz.prog Tryz.f56 (PsR W r)) ⟨#[u0, u1, .pointer (some ⟨ga, 0, none⟩), .pointer (some ⟨gf, 0, none⟩), u4, .slice (some ⟨gO, 0, none⟩) N cO, .int .i64 (L : Int), u7, u8, u9, u10, u11, .slice An nm.length cn, u13, u14, u15, undef, undef, undef, undef, undef, undef, u22, u23, u24, u25, u26, u27, u28, u29, u30, u31, u32, u33, u34, u35, u36, u37, u38, u39, u40, u41, u42, u43, u44, u45, u46, u47, u48, u49, u50, u51, u52, u53, u54, u55, u56, u57, u58, u59, u60, u61, u62, u63, u64, u65, u66, u67, u68, u69, u70, u71, u72, u73, u74, u75, u76, u77, u78, u79, u80, u81, u82, u83, u84, u85, u86, u87, u88, u89, u90, u91, u92, u93, u94, u95, u96, u97, u98, u99, u100, u101, u102, u103, u104, u105, u106, u107, u108, u109, u110, u111, u112, u113, undef, undef, undef, undef, undef, undef, undef, undef, undef, undef, undef, undef, undef, undef, undef, undef, undef, undef, undef, undef, undef, undef, undef, undef, undef, undef, undef, undef, undef, undef, undef, undef, undef, undef, undef, undef, undef, undef, undef, undef, undef, undef, undef, undef, undef, undef, undef, undef, undef, undef, undef, undef, undef, undef, undef, undef, undef, undef, undef, undef, undef, undef, undef, undef, undef, undef, undef, undef, undef, undef, undef, undef, undef, undef, undef, undef, undef, undef, undef, undef, undef, undef, undef, undef, undef, undef, undef, undef, undef, undef, undef, undef, undef, undef, undef, undef, undef, undef, undef, undef, undef, undef, undef, undef, undef, undef, undef, undef, undef, undef], dfs ga gf⟩ w := by
  obtain ⟨zn, zh, zpre, zname, zsuf, zpost, zunit, zcity, zstate, zzip, zmore⟩ := a
  have H26 := Lib.hid (fun (w' : World) (C' : PcAt W w' ga gf ⟨zn, zh, zpre, zname, zsuf, zpost, zunit, zcity, zstate, zzip, zmore⟩ gO cO es ps) (hr' : r = ptsC ⟨zn, zh, zpre, zname, zsuf, zpost, zunit, zcity, zstate, zzip, zmore⟩ ct pl L) {u0 u1 u4 u7 u8 u9 u10 u11 u12 u13 u14 u15 u22 u23 u24 u25 u26 u27 u28 u29 u30 u31 u32 u33 u34 u35 u36 u37 u38 u39 u40 u41 u42 u43 u44 u45 u46 u47 u48 u49 u50 u51 u52 u53 u54 u55 u56 u57 u58 u59 u60 u61 u62 u63 u64 u65 u66 u67 u68 u69 u70 u71 u72 u73 u74 u75 u76 u77 u78 u79 u80 u81 u82 u83 u84 u85 u86 u87 u88 u89 u90 u91 u92 u93 u94 u95 u96 u97 u98 u99 u100 u101 u102 u103 u104 u105 u106 u107 u108 u109 u110 u111 u112 u113 u114 u115 u116 u117 u118 u119 u120 u121 u122 u123 u124 u125 u126 u127 u128 u129 u130 u131 u132 u133 : Value} =>
    parse_r26 W w' ga gf gO cO N L M es ps ct pl A1 A2 c1 c2 _ r C' hN hL hM h1 hp1 h2 hp h0 hcO hS hr' (u0 := u0) (u1 := u1) (u4 := u4) (u7 := u7) (u8 := u8) (u9 := u9) (u10 := u10) (u11 := u11) (u12 := u12) (u13 := u13) (u14 := u14) (u15 := u15) (u22 := u22) (u23 := u23) (u24 := u24) (u25 := u25) (u26 := u26) (u27 := u27) (u28 := u28) (u29 := u29) (u30 := u30) (u31 := u31) (u32 := u32) (u33 := u33) (u34 := u34) (u35 := u35) (u36 := u36) (u37 := u37) (u38 := u38) (u39 := u39) (u40 := u40) (u41 := u41) (u42 := u42) (u43 := u43) (u44 := u44) (u45 := u45) (u46 := u46) (u47 := u47) (u48 := u48) (u49 := u49) (u50 := u50) (u51 := u51) (u52 := u52) (u53 := u53) (u54 := u54) (u55 := u55) (u56 := u56) (u57 := u57) (u58 := u58) (u59 := u59) (u60 := u60) (u61 := u61) (u62 := u62) (u63 := u63) (u64 := u64) (u65 := u65) (u66 := u66) (u67 := u67) (u68 := u68) (u69 := u69) (u70 := u70) (u71 := u71) (u72 := u72) (u73 := u73) (u74 := u74) (u75 := u75) (u76 := u76) (u77 := u77) (u78 := u78) (u79 := u79) (u80 := u80) (u81 := u81) (u82 := u82) (u83 := u83) (u84 := u84) (u85 := u85) (u86 := u86) (u87 := u87) (u88 := u88) (u89 := u89) (u90 := u90) (u91 := u91) (u92 := u92) (u93 := u93) (u94 := u94) (u95 := u95) (u96 := u96) (u97 := u97) (u98 := u98) (u99 := u99) (u100 := u100) (u101 := u101) (u102 := u102) (u103 := u103) (u104 := u104) (u105 := u105) (u106 := u106) (u107 := u107) (u108 := u108) (u109 := u109) (u110 := u110) (u111 := u111) (u112 := u112) (u113 := u113) (u114 := u114) (u115 := u115) (u116 := u116) (u117 := u117) (u118 := u118) (u119 := u119) (u120 := u120) (u121 := u121) (u122 := u122) (u123 := u123) (u124 := u124) (u125 := u125) (u126 := u126) (u127 := u127) (u128 := u128) (u129 := u129) (u130 := u130) (u131 := u131) (u132 := u132) (u133 := u133))
  dsimp only at hr
  replace hr := Lib.hid hr
  have C0 := Lib.hid C
  have n40 := TN.l40
  have HO := Lib.hid (only_3 nm An cn w TN)
  clear C TN h1 hp1 h2 hp hN hL hM hS h0
  conv => arg 2; whnf
  dsimp only
  go_upto_region 25 with (fail)
  go_cut [] from 22 to 133 (fun wx => Ext w wx ∧ (0 < nm.length ∧ nm.length ≤ 8 ∧ kindOf nm [1, 2, 3] = true ∧ zname.length ≤ 40))
  case first =>
    by_cases h0 : 0 < nm.length
    · have d1 : decide ((0 : Int) < (nm.length : Int)) = true := decide_eq_true (by omega)
      have d2 : decide (0 < nm.length) = true := decide_eq_true h0
      by_cases h8 : nm.length ≤ 8
      · have d3 : decide ((nm.length : Int) ≤ 8) = true := decide_eq_true (by omega)
        have d4 : decide (nm.length ≤ 8) = true := decide_eq_true h8
        replace h0 := Lib.hid h0
        replace h8 := Lib.hid h8
        go_wp2_with fail
        refine HO.out.mono ?_
        rintro e w1 ⟨rfl, hx1⟩
        have C1 := Lib.hid (C0.out.to hx1)
        have X1 := Lib.hid hx1
        clear hx1 HO
        obtain ⟨ko, hko⟩ : ∃ ko, kindOf nm [1, 2, 3] = ko := ⟨_, rfl⟩
        rw [hko]
        replace hko := Lib.hid hko
        cases ko with
        | false =>
          have hQ := Lib.hid (show r = (Ad.zero, 273, 0) by rw [hr.out, if_pos (by rw [hko.out]; simp)]; rfl)
          go_wp2_with fail
          refine (must_not 273 0 _).mono ?_
          rintro e wf ⟨rfl, rfl⟩
          go_wp2_with fail
          exact C1.out.s.fail 273 0 (by decide) r hQ.out rfl rfl
        | true =>
          have hA := C1.out.s.a
          have la := hA.lt
          have c3 : w1.cell? ⟨ga, 3, none⟩ = some (.string ⟨zname.toArray⟩) := hA.cell 3
          clear hA
          by_cases h4 : zname.length ≤ 40
          · have d5 : decide ((zname.length : Int) ≤ 40) = true := decide_eq_true (by omega)
            have d6 : decide (zname.length ≤ 40) = true := decide_eq_true h4
            have HE := Lib.hid (show Ext w w1 ∧ (0 < nm.length ∧ nm.length ≤ 8 ∧ kindOf nm [1, 2, 3] = true ∧ zname.length ≤ 40) from ⟨X1.out, h0.out, h8.out, hko.out, h4⟩)
            clear h4
            go_wp2_with fail
            refine (must_so 273 0 _).mono ?_
            rintro e w2 ⟨rfl, rfl⟩
            go_wp2_with fail
            go_meet
            case rel => exact HE.out
          · have d5 : decide ((zname.length : Int) ≤ 40) = false := decide_eq_false (by omega)
            have d6 : decide (zname.length ≤ 40) = false := decide_eq_false h4
            have hQ := Lib.hid (show r = (Ad.zero, 273, 0) by rw [hr.out, if_pos (by simp [h4])]; rfl)
            clear h4
            go_wp2_with fail
            refine (must_not 273 0 _).mono ?_
            rintro e wf ⟨rfl, rfl⟩
            go_wp2_with fail
            exact C1.out.s.fail 273 0 (by decide) r hQ.out rfl rfl
      · have d3 : decide ((nm.length : Int) ≤ 8) = false := decide_eq_false (by omega)
        have d4 : decide (nm.length ≤ 8) = false := decide_eq_false h8
        have hQ := Lib.hid (show r = (Ad.zero, 273, 0) by rw [hr.out, if_pos (by simp [h8])]; rfl)
        clear h0 h8
        go_wp2_with fail
        refine (must_not 273 0 _).mono ?_
        rintro e wf ⟨rfl, rfl⟩
        go_wp2_with fail
        exact C0.out.s.fail 273 0 (by decide) r hQ.out rfl rfl
    · have d1 : decide ((0 : Int) < (nm.length : Int)) = false := decide_eq_false (by omega)
      have d2 : decide (0 < nm.length) = false := decide_eq_false h0
      have hQ := Lib.hid (show r = (Ad.zero, 273, 0) by rw [hr.out, if_pos (by simp [h0])]; rfl)
      clear h0
      go_wp2_with fail
      refine (must_not 273 0 _).mono ?_
      rintro e wf ⟨rfl, rfl⟩
      go_wp2_with fail
      exact C0.out.s.fail 273 0 (by decide) r hQ.out rfl rfl
  case rest =>
    obtain ⟨X1, hok⟩ := hcut
    have hr2 := Lib.hid (show r = ptsC ⟨zn, zh, zpre, zname, zsuf, zpost, zunit, zcity, zstate, zzip, zmore⟩ ct pl L by rw [hr.out, if_neg (fun h => h hok)])
    have C1 := C0.out.to X1
    clear hok hr
    go_step
    exact H26.out _ C1 hr2.out
end Go.Proofs.YtjaponmpfdpemaaGreatDoor
