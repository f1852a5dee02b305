/-
  Plain: AddrParts' law: with a comma more, or without a part, no text of an address is one.
-/
import Derived.Test.YtjaponmpfdpemaaGreatDoorBb16
import Derived.Deep.RegionHeld3
import Derived.Test.YtjaponmpfdpemaaGreatDoorBb19
import Derived.Test.YtjaponmpfdpemaaGreatDoorBb17
set_option linter.unusedSimpArgs false
set_option linter.unusedVariables false
namespace Go.Proofs.YtjaponmpfdpemaaGreatDoor
end Go.Proofs.YtjaponmpfdpemaaGreatDoor
set_option linter.unusedSimpArgs false
set_option linter.unusedVariables false
namespace Go.Proofs.YtjaponmpfdpemaaGreatDoor
open Go.RowKit
structure TxtB (a : Ad) : Prop where
 i : (Lib.itoa a.n).length ≤ 6
 l : (lineP a).length ≤ 60
 u : a.unit.length ≤ 17
 c : a.city.length ≤ 40
 s : a.state.length ≤ 2
 z : a.zip.length ≤ 5
 m : a.more.length ≤ 4
theorem txtB {a : Ad} (hc : checkP a = 0) : TxtB a := by
 have h := checkP_ok hc
 obtain ⟨_, _, _, _, i3⟩ := itoa_toks h.n1 h.n2
 obtain ⟨_, _, s3, _⟩ := own_word words_fine.2.2.1 words_word.2.2.1 h.state h.st0
 refine ⟨i3, line_len h, ?_, h.city.l40, s3, (digitsP_all h.zip).2.1, ?_⟩
 ·by_cases hu : a.unit = []
  ·rw [hu]; simp
  ·obtain ⟨u1, u2, u3, u4⟩ := housed_ok h.unit hu
   have := unit_len u2 u4
   rw [u3] at this
   omega
 ·rcases h.more with e | e
  ·rw [e]; simp
  ·exact (digitsP_all e).2.1
end Go.Proofs.YtjaponmpfdpemaaGreatDoor
set_option linter.unusedSimpArgs false
set_option linter.unusedVariables false
namespace Go.Proofs.YtjaponmpfdpemaaGreatDoor
open Go.RowKit
set_option maxRecDepth 100000 in
set_option maxHeartbeats 4000000 in
theorem parse_f (s : Bs) (hs : s.length ≤ 100000) (W : World) (hS : Std W)  (hfe : (tokensP s).2.1 ≠ 0) : Calls Tryz.prog 56 #[.string ⟨s.toArray⟩] W (PsR W (parseP s)) := by
 have hmf : ∀ (fn : Fn) (first cap : Array Value) (w : World), (Instr.makeFunc fn first cap).run Tryz.prog w = .ok (.func fn first cap) w := fun _ _ _ _ => rfl
 have HS := Lib.hid (fun w' (hx : Ext W w') => hS.ext hx)
 have HT := Lib.hid (fun w => tokens_any s w hs)
 have hsm := Lib.hid (tokensP_sm s)
 have h40 := (tokensP_ok s).l40
 have hfa : (tokensP s).2.1 = 0 → (tokensP s).2.2 = 0 := fun h => by rw [(tokensP_zero h).2.1]
 obtain ⟨r, hr⟩ : ∃ r, parseP s = r := ⟨_, rfl⟩
 have hP : parseP s = if (tokensP s).2.1 ≠ 0 then (Ad.zero, (tokensP s).2) else parsePts (partsP (tokensP s).1) ((partsP (tokensP s).1).length - 1) := rfl
 rw [hr] at hP ⊢
 replace hr := Lib.hid hr
 clear hS hs
 generalize tokensP s = tk at *
 obtain ⟨l, fe, fa⟩ := tk
 dsimp only at *
 clear hfa
 rw [if_pos hfe] at hP
 have hb : (fe != 0) = true := by simpa using hfe
 replace hP := Lib.hid hP
 replace hfe := Lib.hid hfe
 go_enter_defers Tryz.func56, Tryz.ntmps56
 go_wp2_with fail
 refine (HT.out _).mono ?_
 rintro e w1 ⟨v, rfl, hown, hx1⟩
 have S1 : PsAt W w1 W.heap.size (W.heap.size + 1) Ad.zero := by
  have X := ((Ext.refl W).alloc (.cells (adC Ad.zero) 45)).alloc (.cells #[.int .i64 0, .int .i64 0] 36)
  have B1 := Blk.new (W.alloc (.cells (adC Ad.zero) 45)) 36 #[.int .i64 0, .int .i64 0]
  rw [show (W.alloc (.cells (adC Ad.zero) 45)).heap.size = W.heap.size + 1 by simp] at B1
  exact ⟨X.trans hx1, ((Blk.new W _ _).alloc _).ext hx1, ⟨_, _, B1.ext hx1⟩, Nat.le_refl _, by omega⟩
 have hsz : (W.alloc (.cells (adC Ad.zero) 45)).heap.size = W.heap.size + 1 := by simp
 have hb0 : W.heap.size ≤ (((W.alloc (.cells (adC Ad.zero) 45)).alloc (.cells #[.int .i64 0, .int .i64 0] 36))).heap.size := by simp; omega
 have hown2 := own_base hown hb0
 clear hown hx1 hsz hb0 HT
 generalize hga : W.heap.size = ga at *
 generalize ga + 1 = gf at *
 obtain ⟨A, cap, rfl, hc1, hc2, hrd⟩ := own_slice hown2
 obtain ⟨x0, y0, hf0⟩ := S1.f
 have F1 := fault_set hf0 (.int .i64 fe) (.int .i64 fa)
 have T1 : TokS ((w1.setCell ⟨gf, 0, none⟩ (.int .i64 fe)).setCell ⟨gf, 1, none⟩ (.int .i64 fa)) A l.length cap l := by
  have h2 := own_set (own_set hown2 (a := ⟨gf, 0, none⟩) (own_blk_ne hown2 hf0 (by decide)) (.int .i64 fe)) (a := ⟨gf, 1, none⟩) (own_blk_ne hown2 hf0 (by decide)) (.int .i64 fa)
  obtain ⟨_, _, e, _, _, hrd2⟩ := own_slice h2
  injection e with e1 _ _
  subst e1
  exact ⟨rfl, hrd2, hc1, hc2, by omega, hsm.out⟩
 have S2 : PsAt W ((w1.setCell ⟨gf, 0, none⟩ (.int .i64 fe)).setCell ⟨gf, 1, none⟩ (.int .i64 fa)) ga gf Ad.zero :=
  ⟨(S1.ext.set (p := ⟨gf, 0, none⟩) S1.lf _).set (p := ⟨gf, 1, none⟩) S1.lf _, (S1.a.far (p := ⟨gf, 0, none⟩) S1.ne _).far (p := ⟨gf, 1, none⟩) S1.ne _, ⟨_, _, F1⟩, S1.la, S1.lf⟩
 replace hga := Lib.hid hga
 obtain ⟨q0, q1⟩ := hf0.cells
 have lf := hf0.lt
 clear S1 hown2 hrd hf0
 go_upto_region 4 with (fail)
 clear q0 q1 lf
 generalize (w1.setCell ⟨gf, 0, none⟩ (.int .i64 fe)).setCell ⟨gf, 1, none⟩ (.int .i64 fa) = w2 at *
 obtain ⟨q0, q1⟩ := F1.cells
 have lf := F1.lt
 have HS2 := Lib.hid S2
 have HF1 := Lib.hid F1
 have la := S2.a.lt
 have hA := S2.a
 have hne := S2.ne
 unfold adC at hA
 dsimp only [Ad.zero] at hA
 obtain ⟨q2, q3⟩ := hA.cells
 clear S2 F1 T1 hA
 go_wp2_with fail
 go_region
 obtain ⟨S4, F4⟩ := (HS2.out.whole Ad.zero).flt (.int .i64 fe) (.int .i64 fa)
 replace S4 := S4.to (Ext.refl _).drew
 replace F4 := F4.ext (Ext.refl _).drew
 change Exit.then _ _ Exit.normal _ (((setAd w2 ga Ad.zero).setCell ⟨gf, 0, none⟩ (.int .i64 fe)).setCell ⟨gf, 1, none⟩ (.int .i64 fa)).drew
 clear q0 q1 q2 q3 lf la
 generalize (((setAd w2 ga Ad.zero).setCell ⟨gf, 0, none⟩ (.int .i64 fe)).setCell ⟨gf, 1, none⟩ (.int .i64 fa)).drew = w4 at *
 replace S4 := Lib.hid S4
 replace F4 := Lib.hid F4
 go_wp2_with fail
 exact S4.out.done fe fa F4.out r (by rw [hP.out, if_neg hfe.out]) rfl rfl
set_option maxRecDepth 100000 in
set_option maxHeartbeats 4000000 in
theorem parse_n (s : Bs) (hs : s.length ≤ 100000) (W : World) (hS : Std W)  (hf0 : (tokensP s).2.1 = 0) (hn : ¬ ((partsP (tokensP s).1).length - 1 = 2 ∨ (partsP (tokensP s).1).length - 1 = 3)) : Calls Tryz.prog 56 #[.string ⟨s.toArray⟩] W (PsR W (parseP s)) := by
 have hmf : ∀ (fn : Fn) (first cap : Array Value) (w : World), (Instr.makeFunc fn first cap).run Tryz.prog w = .ok (.func fn first cap) w := fun _ _ _ _ => rfl
 have HS := Lib.hid (fun w' (hx : Ext W w') => hS.ext hx)
 have HT := Lib.hid (fun w => tokens_any s w hs)
 have hsm := Lib.hid (tokensP_sm s)
 have h40 := (tokensP_ok s).l40
 have hfa : (tokensP s).2.1 = 0 → (tokensP s).2.2 = 0 := fun h => by rw [(tokensP_zero h).2.1]
 obtain ⟨r, hr⟩ : ∃ r, parseP s = r := ⟨_, rfl⟩
 have hP : parseP s = if (tokensP s).2.1 ≠ 0 then (Ad.zero, (tokensP s).2) else parsePts (partsP (tokensP s).1) ((partsP (tokensP s).1).length - 1) := rfl
 rw [hr] at hP ⊢
 replace hr := Lib.hid hr
 clear hS hs
 generalize tokensP s = tk at *
 obtain ⟨l, fe, fa⟩ := tk
 dsimp only at *
 subst hf0
 clear hfa
 rw [if_neg (by simp)] at hP
 unfold parsePts at hP
 rw [if_pos (.inl hn)] at hP
 have hps := parts_sm hsm.out
 replace hP := Lib.hid hP
 go_enter_defers Tryz.func56, Tryz.ntmps56
 go_wp2_with fail
 refine (HT.out _).mono ?_
 rintro e w1 ⟨v, rfl, hown, hx1⟩
 have S1 : PsAt W w1 W.heap.size (W.heap.size + 1) Ad.zero := by
  have X := ((Ext.refl W).alloc (.cells (adC Ad.zero) 45)).alloc (.cells #[.int .i64 0, .int .i64 0] 36)
  have B1 := Blk.new (W.alloc (.cells (adC Ad.zero) 45)) 36 #[.int .i64 0, .int .i64 0]
  rw [show (W.alloc (.cells (adC Ad.zero) 45)).heap.size = W.heap.size + 1 by simp] at B1
  exact ⟨X.trans hx1, ((Blk.new W _ _).alloc _).ext hx1, ⟨_, _, B1.ext hx1⟩, Nat.le_refl _, by omega⟩
 have hsz : (W.alloc (.cells (adC Ad.zero) 45)).heap.size = W.heap.size + 1 := by simp
 have hb0 : W.heap.size ≤ (((W.alloc (.cells (adC Ad.zero) 45)).alloc (.cells #[.int .i64 0, .int .i64 0] 36))).heap.size := by simp; omega
 have hown2 := own_base hown hb0
 clear hown hx1 hsz hb0 HT
 generalize hga : W.heap.size = ga at *
 generalize ga + 1 = gf at *
 obtain ⟨A, cap, rfl, hc1, hc2, hrd⟩ := own_slice hown2
 obtain ⟨x0, y0, hf0⟩ := S1.f
 have F1 := fault_set hf0 (.int .i64 0) (.int .i64 fa)
 have T1 : TokS ((w1.setCell ⟨gf, 0, none⟩ (.int .i64 0)).setCell ⟨gf, 1, none⟩ (.int .i64 fa)) A l.length cap l := by
  have h2 := own_set (own_set hown2 (a := ⟨gf, 0, none⟩) (own_blk_ne hown2 hf0 (by decide)) (.int .i64 0)) (a := ⟨gf, 1, none⟩) (own_blk_ne hown2 hf0 (by decide)) (.int .i64 fa)
  obtain ⟨_, _, e, _, _, hrd2⟩ := own_slice h2
  injection e with e1 _ _
  subst e1
  exact ⟨rfl, hrd2, hc1, hc2, by omega, hsm.out⟩
 have S2 : PsAt W ((w1.setCell ⟨gf, 0, none⟩ (.int .i64 0)).setCell ⟨gf, 1, none⟩ (.int .i64 fa)) ga gf Ad.zero :=
  ⟨(S1.ext.set (p := ⟨gf, 0, none⟩) S1.lf _).set (p := ⟨gf, 1, none⟩) S1.lf _, (S1.a.far (p := ⟨gf, 0, none⟩) S1.ne _).far (p := ⟨gf, 1, none⟩) S1.ne _, ⟨_, _, F1⟩, S1.la, S1.lf⟩
 replace hga := Lib.hid hga
 obtain ⟨q0, q1⟩ := hf0.cells
 have lf := hf0.lt
 clear S1 hown2 hrd hf0
 go_upto_region 4 with (fail)
 clear q0 q1 lf
 generalize (w1.setCell ⟨gf, 0, none⟩ (.int .i64 0)).setCell ⟨gf, 1, none⟩ (.int .i64 fa) = w2 at *
 obtain ⟨q0, q1⟩ := F1.cells
 have lf := F1.lt
 go_wp2_with fail
 refine (parts_any l A l.length cap w2 T1).mono ?_
 rintro e w3 ⟨v, es, rfl, HPa⟩
 have S3 := Lib.hid (S2.to HPa.ext)
 have hlen := HPa.len
 have hp1 := (partsP_len l).1
 obtain ⟨gO, cO, rfl, _, _⟩ := own_some HPa.row (by omega)
 obtain ⟨m, hm⟩ : ∃ m, m + 1 = es.length := ⟨es.length - 1, by omega⟩
 have ew : IntKind.i64.wrap ((es.length : Int) - 1) = (m : Int) := by
  have := (partsP_len l).2
  rw [IntKind.wrap_i64]; omega
 have d2 : ((m : Int) == 2) = false := by rw [beq_eq_false_iff_ne]; omega
 have d3 : ((m : Int) == 3) = false := by rw [beq_eq_false_iff_ne]; omega
 replace hm := Lib.hid hm
 replace hlen := Lib.hid hlen
 clear S2 T1 F1 HPa q0 q1 lf hn
 generalize es.length = N at *
 go_wp2_with fail
 refine (must_not 270 0 _).mono ?_
 rintro e w4 ⟨rfl, rfl⟩
 go_wp2_with fail
 exact S3.out.fail 270 0 (by decide) r hP.out rfl rfl
end Go.Proofs.YtjaponmpfdpemaaGreatDoor
set_option linter.unusedSimpArgs false
set_option linter.unusedVariables false
namespace Go.Proofs.YtjaponmpfdpemaaGreatDoor
open Go.RowKit
set_option maxRecDepth 100000 in
set_option maxHeartbeats 4000000 in
theorem parse_r34 (W w : World) (ga gf gp : Nat) (a : Ad) (sl : List Tok) (A : Option Addr) (n c L : Nat) (r : Ad × Int × Int) (S : PsAt W w ga gf a) (F : Blk w gf 36 #[.int .i64 0, .int .i64 0]) (B : Blk w gp 113 #[.slice A n c]) (T : TokS w A n c sl) (hS : Std W) (hr : r = ptsS a sl L) {u0 u1 u4 u5 u7 u8 u9 u10 u11 u12 u13 u14 u15 u16 u18 u19 u20 u22 u23 u24 u25 u26 u27 u28 u29 u30 u31 u32 u33 u34 u35 u36 u37 u38 u39 u40 u41 u42 u43 u44 u45 u46 u47 u48 u49 u50 u51 u52 u53 u54 u55 u56 u57 u58 u59 u60 u61 u62 u63 u64 u65 u66 u67 u68 u69 u70 u71 u72 u73 u74 u75 u76 u77 u78 u79 u80 u81 u82 u83 u84 u85 u86 u87 u88 u89 u90 u91 u92 u93 u94 u95 u96 u97 u98 u99 u100 u101 u102 u103 u104 u105 u106 u107 u108 u109 u110 u111 u112 u113 u114 u115 u116 u117 u118 u119 u120 u121 u122 u123 u124 u125 u126 u127 u128 u129 u130 u131 u132 u133 u134 u135 u136 u137 u138 u139 u140 u141 u142 u143 u144 u145 u146 u147 u148 u149 u150 u151 u152 u153 u154 u155 u156 u157 u158 u159 u160 u161 u162 u163 u164 u165 u166 u167 u168 u169 u170 u171 u172 u173 u174 u175 u176 u177 u178 u179 u180 u181 u182 u183 u184 u185 u186 u187 u188 u189 u190 u191 u192 u193 u194 u195 u196 u197 u198 u199 u200 u201 u202 u203 u204 u205 u206 u207 u208 u209 u210 : Value} : (parseAt 34).wp Tryz.prog (bodyPostD Tryz.prog Tryz.f56 (PsR W r)) ⟨#[u0, u1, .pointer (some ⟨ga, 0, none⟩), .pointer (some ⟨gf, 0, none⟩), u4, u5, .int .i64 (L : Int), u7, u8, u9, u10, u11, u12, u13, u14, u15, u16, .pointer (some ⟨gp, 0, none⟩), u18, u19, u20, undef, u22, u23, u24, u25, u26, u27, u28, u29, u30, u31, u32, u33, u34, u35, u36, u37, u38, u39, u40, u41, u42, u43, u44, u45, u46, u47, u48, u49, u50, u51, u52, u53, u54, u55, u56, u57, u58, u59, u60, u61, u62, u63, u64, u65, u66, u67, u68, u69, u70, u71, u72, u73, u74, u75, u76, u77, u78, u79, u80, u81, u82, u83, u84, u85, u86, u87, u88, u89, u90, u91, u92, u93, u94, u95, u96, u97, u98, u99, u100, u101, u102, u103, u104, u105, u106, u107, u108, u109, u110, u111, u112, u113, u114, u115, u116, u117, u118, u119, u120, u121, u122, u123, u124, u125, u126, u127, u128, u129, u130, u131, u132, u133, u134, u135, u136, u137, u138, u139, u140, u141, u142, u143, u144, u145, u146, u147, u148, u149, u150, u151, u152, u153, u154, u155, u156, u157, u158, u159, u160, u161, u162, u163, u164, u165, u166, u167, u168, u169, u170, u171, u172, u173, u174, u175, u176, u177, u178, u179, u180, u181, u182, u183, u184, u185, u186, u187, u188, u189, u190, u191, u192, u193, u194, u195, u196, u197, u198, u199, u200, u201, u202, u203, u204, u205, u206, u207, u208, u209, u210, undef, undef, undef, undef, undef, undef, undef, undef, undef, undef, undef, undef, undef], dfs ga gf⟩ w := by
 obtain ⟨zn, zh, zpre, zname, zsuf, zpost, zunit, zcity, zstate, zzip, zmore⟩ := a
 have HS := Lib.hid (fun w' (hx : Ext W w') => hS.ext hx)
 have HT := Lib.hid (text_any sl A n c gp w B T)
 have S0 := Lib.hid S
 have F0 := Lib.hid F
 have hlen : (textsP sl).length ≤ 100000 := by
  have h1 := texts_le T.sm
  have h2 := T.len
  have h3 := T.l40
  have h4 : sl.length * (300 + 1) ≤ 100 * 301 := Nat.mul_le_mul (by omega) (Nat.le_refl _)
  omega
 unfold ptsS at hr
 dsimp only at hr
 replace hr := Lib.hid hr
 clear S F B T hS
 conv => arg 2; whnf
 go_wp2_with fail
 refine HT.out.mono ?_
 rintro e w1 ⟨rfl, hx1⟩
 have S1 := Lib.hid (S0.out.to hx1)
 have F1 := Lib.hid (F0.out.ext hx1)
 clear hx1 S0 F0 HT
 go_wp2_with fail
 refine (short_any 3 (.inr (.inr (.inl rfl))) (textsP sl) hlen w1 (HS.out _ S1.out.ext)).mono ?_
 rintro e w2 ⟨rfl, hx2⟩
 have S2 := Lib.hid (S1.out.to hx2)
 have F2 := Lib.hid (F1.out.ext hx2)
 clear hx2 S1 F1 hlen
 obtain ⟨sh, hsh⟩ : ∃ sh, shortP 3 (textsP sl) = sh := ⟨_, rfl⟩
 rw [hsh] at hr ⊢
 replace hsh := Lib.hid hsh
 obtain ⟨st, so⟩ := sh
 dsimp only
 cases so with
 | false =>
  have hQ := Lib.hid (show r = (Ad.zero, 275, (L : Int)) by rw [hr.out, if_pos rfl]; rfl)
  go_wp2_with fail
  refine (must_not 275 (L : Int) _).mono ?_
  rintro e wf ⟨rfl, rfl⟩
  go_wp2_with fail
  exact S2.out.fail 275 (L : Int) (by decide) r hQ.out rfl rfl
 | true =>
  go_wp2_with fail
  refine (must_so 275 (L : Int) _).mono ?_
  rintro e w3 ⟨rfl, rfl⟩
  have hA := S2.out.a
  have la := hA.lt
  unfold adC at hA
  dsimp only at hA
  obtain ⟨q2, q3⟩ := hA.cells
  have F3 := Lib.hid (F2.out.far (p := ⟨ga, 8, none⟩) S2.out.ne.symm (.string ⟨st.toArray⟩))
  have S3 := Lib.hid (S2.out.put 8 (.string ⟨st.toArray⟩) ⟨zn, zh, zpre, zname, zsuf, zpost, zunit, zcity, st, zzip, zmore⟩ rfl)
  clear hA S2 F2
  go_upto_region 37 with (fail)
  clear q2 q3 la
  generalize w3.setCell ⟨ga, 8, none⟩ (.string ⟨st.toArray⟩) = w4 at *
  have hA := S3.out.a
  have la := hA.lt
  unfold adC at hA
  dsimp only at hA
  obtain ⟨q2, q3⟩ := hA.cells
  obtain ⟨q0, q1⟩ := F3.out.cells
  have lf := F3.out.lt
  have hne := S3.out.ne
  clear hA
  go_wp2_with fail
  go_region
  obtain ⟨S4, F4⟩ := (S3.out.whole ⟨zn, zh, zpre, zname, zsuf, zpost, zunit, zcity, st, zzip, zmore⟩).flt (.int .i64 0) (.int .i64 0)
  replace S4 := S4.to (Ext.refl _).drew
  replace F4 := F4.ext (Ext.refl _).drew
  change Exit.then _ _ Exit.normal _ (((setAd w4 ga ⟨zn, zh, zpre, zname, zsuf, zpost, zunit, zcity, st, zzip, zmore⟩).setCell ⟨gf, 0, none⟩ (.int .i64 0)).setCell ⟨gf, 1, none⟩ (.int .i64 0)).drew
  clear q0 q1 q2 q3 lf la
  generalize (((setAd w4 ga ⟨zn, zh, zpre, zname, zsuf, zpost, zunit, zcity, st, zzip, zmore⟩).setCell ⟨gf, 0, none⟩ (.int .i64 0)).setCell ⟨gf, 1, none⟩ (.int .i64 0)).drew = w5 at *
  replace S4 := Lib.hid S4
  replace F4 := Lib.hid F4
  go_wp2_with fail
  exact S4.out.done 0 0 F4.out r (by rw [hr.out, if_neg (by simp)]; rfl) rfl rfl
end Go.Proofs.YtjaponmpfdpemaaGreatDoor
set_option linter.unusedSimpArgs false
set_option linter.unusedVariables false
namespace Go.Proofs.YtjaponmpfdpemaaGreatDoor
open Go.RowKit
theorem cut_dash : ∀ s : Bs, Lib.cut s [45] = cutDash s
 | [] => rfl
 | c :: s => by
  have ih := cut_dash s
  have hge := Lib.index_ge s [45]
  unfold Lib.cut at ih ⊢
  rw [Lib.index, cutDash]
  by_cases hc : c = 45
  ·subst hc
   simp
  ·have hp : ([45] : Bs).isPrefixOf (c :: s) = false := by simp [List.isPrefixOf, Ne.symm hc]
   rw [hp, if_neg hc, ← ih]
   simp only [Bool.false_eq_true, if_false]
   by_cases hi : Lib.index s [45] = -1
   ·rw [hi]; rfl
   ·have h0 : 0 ≤ Lib.index s [45] := by omega
    have hb : (Lib.index s [45] == -1) = false := by rw [beq_eq_false_iff_ne]; exact hi
    obtain ⟨k, hk⟩ : ∃ k : Nat, Lib.index s [45] = k := ⟨(Lib.index s [45]).toNat, by omega⟩
    rw [hb, hk]
    have e : ((k : Int) + 1).toNat = k + 1 := by omega
    simp only [Bool.false_eq_true, if_false]
    rw [if_pos (by omega), if_pos (by omega), e]
    simp
structure PlAt (W w : World) (ga gf gp : Nat) (a : Ad) (A : Option Addr) (n c : Nat) (l : List Tok) : Prop where
 s : PsAt W w ga gf a
 f0 : Blk w gf 36 #[.int .i64 0, .int .i64 0]
 b : Blk w gp 113 #[.slice A n c]
 t : TokS w A n c l
 lp : W.heap.size ≤ gp
theorem PlAt.to {W w w' : World} {ga gf gp : Nat} {a : Ad} {A : Option Addr} {n c : Nat} {l : List Tok} (h : PlAt W w ga gf gp a A n c l) (hx : Ext w w') : PlAt W w' ga gf gp a A n c l := ⟨h.s.to hx, h.f0.ext hx, h.b.ext hx, h.t.ext hx, h.lp⟩
theorem PlAt.nep {W w : World} {ga gf gp : Nat} {a : Ad} {A : Option Addr} {n c : Nat} {l : List Tok} (h : PlAt W w ga gf gp a A n c l) : gp ≠ ga ∧ gp ≠ gf := ⟨h.b.ne_ h.s.a (by decide), h.b.ne_ h.f0 (by decide)⟩
theorem PlAt.put {W w : World} {ga gf gp : Nat} {a : Ad} {A : Option Addr} {n c : Nat} {l : List Tok} (h : PlAt W w ga gf gp a A n c l) (i : Nat) (u : Value) (b : Ad) (hu : (adC a).setIfInBounds i u = adC b) : PlAt W (w.setCell ⟨ga, i, none⟩ u) ga gf gp b A n c l :=
 ⟨h.s.put i u b hu, h.f0.far (p := ⟨ga, i, none⟩) h.s.ne.symm _, h.b.far (p := ⟨ga, i, none⟩) h.nep.1 _, h.t.keep h.s.a (only_set (World.grownBy.refl _ _) (.inl rfl) _), h.lp⟩
theorem PsAt.far {W w : World} {ga gf gp : Nat} {a : Ad} (h : PsAt W w ga gf a) (hp : W.heap.size ≤ gp) (h1 : gp ≠ ga) (h2 : gp ≠ gf) (i : Nat) (u : Value) : PsAt W (w.setCell ⟨gp, i, none⟩ u) ga gf a :=
 ⟨h.ext.set (p := ⟨gp, i, none⟩) hp _, h.a.far (p := ⟨gp, i, none⟩) h1.symm _, h.f.imp fun _ k => k.imp fun _ k => k.far (p := ⟨gp, i, none⟩) h2.symm _, h.la, h.lf⟩
theorem PlAt.cutoff {W w : World} {ga gf gp : Nat} {a : Ad} {A : Option Addr} {n N c : Nat} {l : List Tok} (h : PlAt W w ga gf gp a A N c l) (hN : N = n + 1) : PlAt W (w.setCell ⟨gp, 0, none⟩ (.slice A n c)) ga gf gp a A n c l.dropLast :=
 ⟨h.s.far h.lp h.nep.1 h.nep.2 0 _, h.f0.far (p := ⟨gp, 0, none⟩) h.nep.2.symm _, h.b.set_ 0 _, (h.t.init hN).grown h.b (only_set (World.grownBy.refl _ _) (p := ⟨gp, 0, none⟩) (.inl rfl) _), h.lp⟩
theorem PcAt.pl {W w : World} {ga gf gO cO : Nat} {a : Ad} {es : List Value} {ps : List (List Tok)} (h : PcAt W w ga gf a gO cO es ps) {A : Option Addr} {n c : Nat} {l : List Tok} (T : TokS w A n c l) : PlAt W (w.alloc (.cells #[.slice A n c] 113)) ga gf w.heap.size a A n c l := by
 have X := (Ext.refl w).alloc (.cells #[.slice A n c] 113)
 exact ⟨h.s.to X, h.f0.ext X, Blk.new _ _ _, T.ext X, h.s.ext.size⟩
set_option maxRecDepth 100000 in
set_option maxHeartbeats 4000000 in
theorem parse_r29 (W w : World) (ga gf gO cO N L : Nat) (es : List Value) (ps : List (List Tok)) (pl : List Tok) (A : Option Addr) (c : Nat) (a : Ad) (r : Ad × Int × Int) (C : PcAt W w ga gf a gO cO es ps) (hN : es.length = N) (hL : L < N) (h2 : es[L]'(by omega) = .slice A pl.length c) (hp : ps[L]'(by have := C.len; omega) = pl) (h0 : 0 < pl.length) (hcO : N ≤ 100) (hS : Std W) (hr : r = ptsZ a pl L) {u0 u1 u4 u7 u8 u9 u10 u11 u12 u13 u14 u15 u16 u22 u23 u24 u25 u26 u27 u28 u29 u30 u31 u32 u33 u34 u35 u36 u37 u38 u39 u40 u41 u42 u43 u44 u45 u46 u47 u48 u49 u50 u51 u52 u53 u54 u55 u56 u57 u58 u59 u60 u61 u62 u63 u64 u65 u66 u67 u68 u69 u70 u71 u72 u73 u74 u75 u76 u77 u78 u79 u80 u81 u82 u83 u84 u85 u86 u87 u88 u89 u90 u91 u92 u93 u94 u95 u96 u97 u98 u99 u100 u101 u102 u103 u104 u105 u106 u107 u108 u109 u110 u111 u112 u113 u114 u115 u116 u117 u118 u119 u120 u121 u122 u123 u124 u125 u126 u127 u128 u129 u130 u131 u132 u133 u134 u135 u136 u137 u138 u139 u140 u141 u142 u143 u144 u145 u146 u147 u148 u149 u150 u151 u152 u153 u154 u155 u156 u157 u158 u159 u160 u161 u162 u163 u164 u165 u166 : Value} : (parseAt 29).wp Tryz.prog (bodyPostD Tryz.prog Tryz.f56 (PsR W r)) ⟨#[u0, u1, .pointer (some ⟨ga, 0, none⟩), .pointer (some ⟨gf, 0, none⟩), u4, .slice (some ⟨gO, 0, none⟩) N cO, .int .i64 (L : Int), u7, u8, u9, u10, u11, u12, u13, u14, u15, u16, undef, undef, undef, undef, undef, u22, u23, u24, u25, u26, u27, u28, u29, u30, u31, u32, u33, u34, u35, u36, u37, u38, u39, u40, u41, u42, u43, u44, u45, u46, u47, u48, u49, u50, u51, u52, u53, u54, u55, u56, u57, u58, u59, u60, u61, u62, u63, u64, u65, u66, u67, u68, u69, u70, u71, u72, u73, u74, u75, u76, u77, u78, u79, u80, u81, u82, u83, u84, u85, u86, u87, u88, u89, u90, u91, u92, u93, u94, u95, u96, u97, u98, u99, u100, u101, u102, u103, u104, u105, u106, u107, u108, u109, u110, u111, u112, u113, u114, u115, u116, u117, u118, u119, u120, u121, u122, u123, u124, u125, u126, u127, u128, u129, u130, u131, u132, u133, u134, u135, u136, u137, u138, u139, u140, u141, u142, u143, u144, u145, u146, u147, u148, u149, u150, u151, u152, u153, u154, u155, u156, u157, u158, u159, u160, u161, u162, u163, u164, u165, u166, undef, undef, undef, undef, undef, undef, undef, undef, undef, undef, undef, undef, undef, undef, undef, undef, undef, undef, undef, undef, undef, undef, undef, undef, undef, undef, undef, undef, undef, undef, undef, undef, undef, undef, undef, undef, undef, undef, undef, undef, undef, undef, undef, undef, undef, undef, undef, undef, undef, undef, undef, undef, undef, undef, undef, undef, undef], dfs ga gf⟩ w := by
 obtain ⟨zn, zh, zpre, zname, zsuf, zpost, zunit, zcity, zstate, zzip, zmore⟩ := a
 obtain ⟨q5, T⟩ := C.at_ (i := L) (by omega) (by have := C.len; omega) h2 hp
 have lO := (C.cell (k := L) (by omega)).2
 obtain ⟨n, hn⟩ : ∃ n, pl.length = n + 1 := ⟨pl.length - 1, by omega⟩
 have HS := Lib.hid (fun w' (hx : Ext W w') => hS.ext hx)
 have P1 := Lib.hid (C.pl T)
 have hg : pl.getLastD ⟨0, []⟩ = pl[n] := by
  rw [List.getLastD_eq_getLast?, List.getLast?_eq_getElem?, show pl.length - 1 = n by omega, List.getElem?_eq_getElem (by omega)]
  rfl
 have hsm : pl[n].t.length ≤ 300 := T.sm _ (List.getElem_mem _)
 have l40 := T.l40
 have lle := T.le
 have lmx := T.max
 have HLa := Lib.hid (fun w' (gp : Nat) (hP : PlAt W w' ga gf gp ⟨zn, zh, zpre, zname, zsuf, zpost, zunit, zcity, zstate, zzip, zmore⟩ A pl.length c pl) => last_any pl A n pl.length c gp w' hn rfl hP.b hP.t.rd (by omega))
 unfold tokV at HLa
 unfold ptsZ at hr
 rw [hg, ← cut_dash] at hr
 dsimp only at hr
 generalize pl[n].k = kk at *
 generalize pl[n].t = tt at *
 have HC := Lib.hid (fun w' (hx : Ext W w') => cutS_any tt [45] (by omega) w' (hS.ext hx))
 obtain ⟨z, hz⟩ : ∃ z, Lib.cut tt [45] = z := ⟨_, rfl⟩
 have hzl : z.1.length ≤ 1000 ∧ z.2.1.length ≤ 1000 := by
  rw [← hz]
  unfold Lib.cut
  split
  ·simp only [List.length_take, List.length_drop]; omega
  ·simp only [List.length_nil]; omega
 rw [hz] at hr HC
 obtain ⟨z1, z2, zi⟩ := z
 dsimp only at hr HC hzl
 replace hr := Lib.hid hr
 have L0 : (0 : Int) ≤ (L : Int) := by omega
 have L1 : (L : Int) < (N : Int) := by omega
 have L2 : L < N := hL
 have hd5 := Lib.hid (fun w => digits_55 z1 hzl.1 w)
 have hd4 := Lib.hid (fun w => digits_44 z2 hzl.2 w)
 clear C T hg hsm hz hzl hS h2 hp hN hL
 replace hn := Lib.hid hn
 conv => arg 2; whnf
 go_upto_region 30 with (fail)
 generalize w.alloc (.cells #[.slice A pl.length c] 113) = w1 at *
 generalize w.heap.size = gp at *
 clear q5 lO
 go_wp2_with fail
 refine (HLa.out _ _ P1.out).mono ?_
 rintro e w2 ⟨rfl, hx2⟩
 have P2 := Lib.hid (P1.out.to hx2)
 have hfd : (Instr.field 105 (.agg #[.int .i64 kk, .string ⟨tt.toArray⟩]) 1).run Tryz.prog w2 = .ok (.string ⟨tt.toArray⟩) w2 := by kernel_rfl
 clear hx2 P1
 go_wp2_with fail
 refine (HC.out _ P2.out.s.ext).mono ?_
 rintro e w3 ⟨rfl, hx3⟩
 have P3 := Lib.hid (P2.out.to hx3)
 clear hx3 P2 hfd HC HLa
 go_upto_region 31 with (fail)
 go_cut [] from 22 to 192 (fun wx => Ext w3 wx ∧ (digitsP z1 5 5 = true ∧ (zi = false ∨ digitsP z2 4 4 = true)))
 case first =>
  go_wp2_with fail
  refine (hd5.out _).mono ?_
  rintro e w4 ⟨rfl, hx4⟩
  have P4 := Lib.hid (P3.out.s.to hx4)
  obtain ⟨D5, hD5⟩ : ∃ D, digitsP z1 5 5 = D := ⟨_, rfl⟩
  rw [hD5]
  replace hD5 := Lib.hid hD5
  cases D5 with
  | false =>
   have hQ := Lib.hid (show r = (Ad.zero, 276, (L : Int)) by rw [hr.out, if_pos (by rw [hD5.out]; simp)]; rfl)
   clear hx4
   go_wp2_with fail
   refine (must_not 276 (L : Int) _).mono ?_
   rintro e wf ⟨rfl, rfl⟩
   go_wp2_with fail
   exact P4.out.fail 276 (L : Int) (by decide) r hQ.out rfl rfl
  | true =>
   cases zi with
   | false =>
    have HE := Lib.hid (show Ext w3 w4 ∧ (digitsP z1 5 5 = true ∧ (false = false ∨ digitsP z2 4 4 = true)) from ⟨hx4, hD5.out, .inl rfl⟩)
    clear hx4
    go_wp2_with fail
    refine (must_so 276 (L : Int) _).mono ?_
    rintro e w5 ⟨rfl, rfl⟩
    go_wp2_with fail
    go_meet
    case rel => exact HE.out
   | true =>
    have X4 := Lib.hid hx4
    clear hx4
    go_wp2_with fail
    refine (hd4.out _).mono ?_
    rintro e w5 ⟨rfl, hx5⟩
    have P5 := Lib.hid (P4.out.to hx5)
    have X5 := Lib.hid (X4.out.trans hx5)
    clear hx5
    obtain ⟨D4, hD4⟩ : ∃ D, digitsP z2 4 4 = D := ⟨_, rfl⟩
    rw [hD4]
    replace hD4 := Lib.hid hD4
    cases D4 with
    | false =>
     have hQ := Lib.hid (show r = (Ad.zero, 276, (L : Int)) by rw [hr.out, if_pos (by rw [hD4.out]; simp)]; rfl)
     go_wp2_with fail
     refine (must_not 276 (L : Int) _).mono ?_
     rintro e wf ⟨rfl, rfl⟩
     go_wp2_with fail
     exact P5.out.fail 276 (L : Int) (by decide) r hQ.out rfl rfl
    | true =>
     have HE := Lib.hid (show Ext w3 w5 ∧ (digitsP z1 5 5 = true ∧ (true = false ∨ digitsP z2 4 4 = true)) from ⟨X5.out, hD5.out, .inr hD4.out⟩)
     go_wp2_with fail
     refine (must_so 276 (L : Int) _).mono ?_
     rintro e w6 ⟨rfl, rfl⟩
     go_wp2_with fail
     go_meet
     case rel => exact HE.out
 case rest =>
  obtain ⟨X4, hok⟩ := hcut
  have P4 := P3.out.to X4
  have hr2 := Lib.hid (show r = ptsS ⟨zn, zh, zpre, zname, zsuf, zpost, zunit, zcity, zstate, z1, z2⟩ pl.dropLast L by rw [hr.out, if_neg (fun h => h hok)])
  have hA := P4.s.a
  have la := hA.lt
  unfold adC at hA
  dsimp only at hA
  obtain ⟨q2, q3⟩ := hA.cells
  have P5 := Lib.hid ((P4.put 9 (.string ⟨z1.toArray⟩) ⟨zn, zh, zpre, zname, zsuf, zpost, zunit, zcity, zstate, z1, zmore⟩ rfl).put 10 (.string ⟨z2.toArray⟩) ⟨zn, zh, zpre, zname, zsuf, zpost, zunit, zcity, zstate, z1, z2⟩ rfl)
  clear hA P4 X4 hok hr P3
  go_upto_region 33 with (fail)
  clear q2 q3 la
  generalize (wc.setCell ⟨ga, 9, none⟩ (.string ⟨z1.toArray⟩)).setCell ⟨ga, 10, none⟩ (.string ⟨z2.toArray⟩) = w7 at *
  have B5 := P5.out.b
  have d0 : w7.cell? ⟨gp, 0, none⟩ = some (.slice A pl.length c) := B5.cell 0
  have f0 := B5.frozen 0
  have lgp := B5.lt
  have ew : IntKind.i64.wrap ((pl.length : Int) - 1) = (n : Int) := by have := hn.out; rw [IntKind.wrap_i64]; omega
  have lz : (n : Int) ≤ (c : Int) := by have := hn.out; omega
  have mz : (0 : Int) ≤ (n : Int) := by omega
  have P6 := Lib.hid ((P5.out.cutoff hn.out).to (Ext.refl _).drew)
  clear B5 P5
  go_region
  generalize (w7.setCell ⟨gp, 0, none⟩ (.slice A n c)).drew = w8 at *
  clear d0 f0 lgp ew lz mz
  go_step
  go_step
  exact parse_r34 W _ ga gf gp _ _ A n c L r P6.out.s P6.out.f0 P6.out.b P6.out.t (HS.out _ (Ext.refl _)) hr2.out
end Go.Proofs.YtjaponmpfdpemaaGreatDoor
