/-
  addr: Parse, from region 25 on: the name (printed by tools/genZb.py).
-/
import Derived.Deep.RegionHeld3
import Derived.Test.YtjneghncmgjkeaaGreatDoorRy36
set_option linter.unusedVariables false
namespace Go.Proofs.YtjneghncmgjkeaaGreatDoor
open Go.RowKit

set_option maxRecDepth 100000 in
set_option maxHeartbeats 4000000 in
theorem parse_r25 (W w : World) (ga gf gO cO N L M : Nat) (es : List Value) (ps : List (List Tok)) (nm ct pl : List Tok) (An A1 A2 : Option Addr) (cn c1 c2 : Nat) (a : Ad) (r : Ad × Int × Int) (C : PcAt W w ga gf a gO cO es ps) (TN : TokS w An nm.length cn nm) (hN : es.length = N) (hL : L < N) (hM : L = M + 1) (h1 : es[M]'(by omega) = .slice A1 ct.length c1) (hp1 : ps[M]'(by have := C.len; omega) = ct) (h2 : es[L]'(by omega) = .slice A2 pl.length c2) (hp : ps[L]'(by have := C.len; omega) = pl) (h0 : 0 < pl.length) (hcO : N ≤ 100) (hS : Std W) (hr : r = if ¬ (0 < nm.length ∧ nm.length ≤ 8 ∧ kindOf nm [1, 2, 3] = true ∧ a.name.length ≤ 40) then errA 273 0 else ptsC a ct pl L) {u0 u1 u4 u7 u8 u9 u10 u11 u13 u14 u15 u22 u23 u24 u25 u26 u27 u28 u29 u30 u31 u32 u33 u34 u35 u36 u37 u38 u39 u40 u41 u42 u43 u44 u45 u46 u47 u48 u49 u50 u51 u52 u53 u54 u55 u56 u57 u58 u59 u60 u61 u62 u63 u64 u65 u66 u67 u68 u69 u70 u71 u72 u73 u74 u75 u76 u77 u78 u79 u80 u81 u82 u83 u84 u85 u86 u87 u88 u89 u90 u91 u92 u93 u94 u95 u96 u97 u98 u99 u100 u101 u102 u103 u104 u105 u106 u107 u108 u109 u110 u111 u112 u113 : Value} : (parseAt 25).wp Tryz.prog (bodyPostD Tryz.prog Tryz.f10 (PsR W r)) ⟨#[u0, u1, .pointer (some ⟨ga, 0, none⟩), .pointer (some ⟨gf, 0, none⟩), u4, .slice (some ⟨gO, 0, none⟩) N cO, .int .i64 (L : Int), u7, u8, u9, u10, u11, .slice An nm.length cn, u13, u14, u15, undef, undef, undef, undef, undef, undef, u22, u23, u24, u25, u26, u27, u28, u29, u30, u31, u32, u33, u34, u35, u36, u37, u38, u39, u40, u41, u42, u43, u44, u45, u46, u47, u48, u49, u50, u51, u52, u53, u54, u55, u56, u57, u58, u59, u60, u61, u62, u63, u64, u65, u66, u67, u68, u69, u70, u71, u72, u73, u74, u75, u76, u77, u78, u79, u80, u81, u82, u83, u84, u85, u86, u87, u88, u89, u90, u91, u92, u93, u94, u95, u96, u97, u98, u99, u100, u101, u102, u103, u104, u105, u106, u107, u108, u109, u110, u111, u112, u113, undef, undef, undef, undef, undef, undef, undef, undef, undef, undef, undef, undef, undef, undef, undef, undef, undef, undef, undef, undef, undef, undef, undef, undef, undef, undef, undef, undef, undef, undef, undef, undef, undef, undef, undef, undef, undef, undef, undef, undef, undef, undef, undef, undef, undef, undef, undef, undef, undef, undef, undef, undef, undef, undef, undef, undef, undef, undef, undef, undef, undef, undef, undef, undef, undef, undef, undef, undef, undef, undef, undef, undef, undef, undef, undef, undef, undef, undef, undef, undef, undef, undef, undef, undef, undef, undef, undef, undef, undef, undef, undef, undef, undef, undef, undef, undef, undef, undef, undef, undef, undef, undef, undef, undef, undef, undef, undef, undef, undef, undef], dfs ga gf⟩ w := by
  obtain ⟨zn, zh, zpre, zname, zsuf, zpost, zunit, zcity, zstate, zzip, zmore⟩ := a
  have H26 := Lib.hid (fun (w' : World) (C' : PcAt W w' ga gf ⟨zn, zh, zpre, zname, zsuf, zpost, zunit, zcity, zstate, zzip, zmore⟩ gO cO es ps) (hr' : r = ptsC ⟨zn, zh, zpre, zname, zsuf, zpost, zunit, zcity, zstate, zzip, zmore⟩ ct pl L) {u0 u1 u4 u7 u8 u9 u10 u11 u12 u13 u14 u15 u22 u23 u24 u25 u26 u27 u28 u29 u30 u31 u32 u33 u34 u35 u36 u37 u38 u39 u40 u41 u42 u43 u44 u45 u46 u47 u48 u49 u50 u51 u52 u53 u54 u55 u56 u57 u58 u59 u60 u61 u62 u63 u64 u65 u66 u67 u68 u69 u70 u71 u72 u73 u74 u75 u76 u77 u78 u79 u80 u81 u82 u83 u84 u85 u86 u87 u88 u89 u90 u91 u92 u93 u94 u95 u96 u97 u98 u99 u100 u101 u102 u103 u104 u105 u106 u107 u108 u109 u110 u111 u112 u113 u114 u115 u116 u117 u118 u119 u120 u121 u122 u123 u124 u125 u126 u127 u128 u129 u130 u131 u132 u133 : Value} =>
    parse_r26 W w' ga gf gO cO N L M es ps ct pl A1 A2 c1 c2 _ r C' hN hL hM h1 hp1 h2 hp h0 hcO hS hr' (u0 := u0) (u1 := u1) (u4 := u4) (u7 := u7) (u8 := u8) (u9 := u9) (u10 := u10) (u11 := u11) (u12 := u12) (u13 := u13) (u14 := u14) (u15 := u15) (u22 := u22) (u23 := u23) (u24 := u24) (u25 := u25) (u26 := u26) (u27 := u27) (u28 := u28) (u29 := u29) (u30 := u30) (u31 := u31) (u32 := u32) (u33 := u33) (u34 := u34) (u35 := u35) (u36 := u36) (u37 := u37) (u38 := u38) (u39 := u39) (u40 := u40) (u41 := u41) (u42 := u42) (u43 := u43) (u44 := u44) (u45 := u45) (u46 := u46) (u47 := u47) (u48 := u48) (u49 := u49) (u50 := u50) (u51 := u51) (u52 := u52) (u53 := u53) (u54 := u54) (u55 := u55) (u56 := u56) (u57 := u57) (u58 := u58) (u59 := u59) (u60 := u60) (u61 := u61) (u62 := u62) (u63 := u63) (u64 := u64) (u65 := u65) (u66 := u66) (u67 := u67) (u68 := u68) (u69 := u69) (u70 := u70) (u71 := u71) (u72 := u72) (u73 := u73) (u74 := u74) (u75 := u75) (u76 := u76) (u77 := u77) (u78 := u78) (u79 := u79) (u80 := u80) (u81 := u81) (u82 := u82) (u83 := u83) (u84 := u84) (u85 := u85) (u86 := u86) (u87 := u87) (u88 := u88) (u89 := u89) (u90 := u90) (u91 := u91) (u92 := u92) (u93 := u93) (u94 := u94) (u95 := u95) (u96 := u96) (u97 := u97) (u98 := u98) (u99 := u99) (u100 := u100) (u101 := u101) (u102 := u102) (u103 := u103) (u104 := u104) (u105 := u105) (u106 := u106) (u107 := u107) (u108 := u108) (u109 := u109) (u110 := u110) (u111 := u111) (u112 := u112) (u113 := u113) (u114 := u114) (u115 := u115) (u116 := u116) (u117 := u117) (u118 := u118) (u119 := u119) (u120 := u120) (u121 := u121) (u122 := u122) (u123 := u123) (u124 := u124) (u125 := u125) (u126 := u126) (u127 := u127) (u128 := u128) (u129 := u129) (u130 := u130) (u131 := u131) (u132 := u132) (u133 := u133))
  dsimp only at hr
  replace hr := Lib.hid hr
  have C0 := Lib.hid C
  have n40 := TN.l40
  have HO := Lib.hid (only_3 nm An cn w TN)
  clear C TN h1 hp1 h2 hp hN hL hM hS h0
  conv => arg 2; whnf
  dsimp only
  go_upto_region 25 with (fail)
  go_cut [] from 22 to 133 (fun wx => Ext w wx ∧ (0 < nm.length ∧ nm.length ≤ 8 ∧ kindOf nm [1, 2, 3] = true ∧ zname.length ≤ 40))
  case first =>
    by_cases h0 : 0 < nm.length
    · have d1 : decide ((0 : Int) < (nm.length : Int)) = true := decide_eq_true (by omega)
      have d2 : decide (0 < nm.length) = true := decide_eq_true h0
      by_cases h8 : nm.length ≤ 8
      · have d3 : decide ((nm.length : Int) ≤ 8) = true := decide_eq_true (by omega)
        have d4 : decide (nm.length ≤ 8) = true := decide_eq_true h8
        replace h0 := Lib.hid h0
        replace h8 := Lib.hid h8
        go_wp2_with fail
        refine HO.out.mono ?_
        rintro e w1 ⟨rfl, hx1⟩
        have C1 := Lib.hid (C0.out.to hx1)
        have X1 := Lib.hid hx1
        clear hx1 HO
        obtain ⟨ko, hko⟩ : ∃ ko, kindOf nm [1, 2, 3] = ko := ⟨_, rfl⟩
        rw [hko]
        replace hko := Lib.hid hko
        cases ko with
        | false =>
          have hQ := Lib.hid (show r = (Ad.zero, 273, 0) by rw [hr.out, if_pos (by rw [hko.out]; simp)]; rfl)
          go_wp2_with fail
          refine (must_not 273 0 _).mono ?_
          rintro e wf ⟨rfl, rfl⟩
          go_wp2_with fail
          exact C1.out.s.fail 273 0 (by decide) r hQ.out rfl rfl
        | true =>
          have hA := C1.out.s.a
          have la := hA.lt
          have c3 : w1.cell? ⟨ga, 3, none⟩ = some (.string ⟨zname.toArray⟩) := hA.cell 3
          clear hA
          by_cases h4 : zname.length ≤ 40
          · have d5 : decide ((zname.length : Int) ≤ 40) = true := decide_eq_true (by omega)
            have d6 : decide (zname.length ≤ 40) = true := decide_eq_true h4
            have HE := Lib.hid (show Ext w w1 ∧ (0 < nm.length ∧ nm.length ≤ 8 ∧ kindOf nm [1, 2, 3] = true ∧ zname.length ≤ 40) from ⟨X1.out, h0.out, h8.out, hko.out, h4⟩)
            clear h4
            go_wp2_with fail
            refine (must_so 273 0 _).mono ?_
            rintro e w2 ⟨rfl, rfl⟩
            go_wp2_with fail
            go_meet
            case rel => exact HE.out
          · have d5 : decide ((zname.length : Int) ≤ 40) = false := decide_eq_false (by omega)
            have d6 : decide (zname.length ≤ 40) = false := decide_eq_false h4
            have hQ := Lib.hid (show r = (Ad.zero, 273, 0) by rw [hr.out, if_pos (by simp [h4])]; rfl)
            clear h4
            go_wp2_with fail
            refine (must_not 273 0 _).mono ?_
            rintro e wf ⟨rfl, rfl⟩
            go_wp2_with fail
            exact C1.out.s.fail 273 0 (by decide) r hQ.out rfl rfl
      · have d3 : decide ((nm.length : Int) ≤ 8) = false := decide_eq_false (by omega)
        have d4 : decide (nm.length ≤ 8) = false := decide_eq_false h8
        have hQ := Lib.hid (show r = (Ad.zero, 273, 0) by rw [hr.out, if_pos (by simp [h8])]; rfl)
        clear h0 h8
        go_wp2_with fail
        refine (must_not 273 0 _).mono ?_
        rintro e wf ⟨rfl, rfl⟩
        go_wp2_with fail
        exact C0.out.s.fail 273 0 (by decide) r hQ.out rfl rfl
    · have d1 : decide ((0 : Int) < (nm.length : Int)) = false := decide_eq_false (by omega)
      have d2 : decide (0 < nm.length) = false := decide_eq_false h0
      have hQ := Lib.hid (show r = (Ad.zero, 273, 0) by rw [hr.out, if_pos (by simp [h0])]; rfl)
      clear h0
      go_wp2_with fail
      refine (must_not 273 0 _).mono ?_
      rintro e wf ⟨rfl, rfl⟩
      go_wp2_with fail
      exact C0.out.s.fail 273 0 (by decide) r hQ.out rfl rfl
  case rest =>
    obtain ⟨X1, hok⟩ := hcut
    have hr2 := Lib.hid (show r = ptsC ⟨zn, zh, zpre, zname, zsuf, zpost, zunit, zcity, zstate, zzip, zmore⟩ ct pl L by rw [hr.out, if_neg (fun h => h hok)])
    have C1 := C0.out.to X1
    clear hok hr
    go_step
    exact H26.out _ C1 hr2.out
end Go.Proofs.YtjneghncmgjkeaaGreatDoor
