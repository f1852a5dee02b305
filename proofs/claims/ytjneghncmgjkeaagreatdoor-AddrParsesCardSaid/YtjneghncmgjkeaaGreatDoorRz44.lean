/-
  apportionref17: Parse, the end (printed by tools/genIf.py).
-/
import Derived.Deep.RegionHeld3
import Derived.Test.YtjneghncmgjkeaaGreatDoorRz43
import Derived.Test.YtjneghncmgjkeaaGreatDoorRz30
set_option linter.unusedVariables false
namespace Go.Proofs.YtjneghncmgjkeaaGreatDoor
open Go.RowKit

/-- Where Parse stands behind street: the results' blocks, the address. -/
structure RpAt (W wp w : World) (g2 g3 g9 : Nat) (a : Ad) : Prop where
  x0 : Ext W wp
  ext : Ext wp w
  r2 : Blk wp g2 23 (adC Ad.zero)
  r3 : Blk wp g3 26 #[.int .i64 0, .int .i64 0]
  b : Blk w g9 23 (adC a)
  l2 : W.heap.size ≤ g2
  l3 : W.heap.size ≤ g3
  l9 : wp.heap.size ≤ g9
theorem RpAt.to {W wp w w' : World} {g2 g3 g9 : Nat} {a : Ad} (h : RpAt W wp w g2 g3 g9 a) (hx : Ext w w') : RpAt W wp w' g2 g3 g9 a := ⟨h.x0, h.ext.trans hx, h.r2, h.r3, h.b.ext hx, h.l2, h.l3, h.l9⟩
theorem RpAt.put {W wp w : World} {g2 g3 g9 : Nat} {a b : Ad} (h : RpAt W wp w g2 g3 g9 a) (i : Nat) (u : Value) (hu : (adC a).setIfInBounds i u = adC b) : RpAt W wp (w.setCell ⟨g9, i, none⟩ u) g2 g3 g9 b :=
  ⟨h.x0, h.ext.set (p := ⟨g9, i, none⟩) h.l9 _, h.r2, h.r3, ad_put h.b i u b hu, h.l2, h.l3, h.l9⟩
/-- The parts, as a slice of slices. -/
structure PtsAt (w : World) (gO : Nat) (ps : List (List Tok)) : Prop where
  lt : gO < w.heap.size
  at_ : ∀ i (h : i < ps.length), ∃ A c, w.cell? ⟨gO, i, none⟩ = some (.slice A ps[i].length c) ∧ TokS w A ps[i].length c ps[i]
theorem PtsAt.ext {w w' : World} {gO : Nat} {ps : List (List Tok)} (h : PtsAt w gO ps) (hx : Ext w w') : PtsAt w' gO ps :=
  ⟨Nat.lt_of_lt_of_le h.lt hx.size, fun i hi => by obtain ⟨A, c, e, T⟩ := h.at_ i hi; exact ⟨A, c, (hx.cell _ _ none h.lt).trans e, T.ext hx⟩⟩
theorem PtsAt.get {w : World} {gO : Nat} {ps : List (List Tok)} (h : PtsAt w gO ps) {i : Nat} (hi : i < ps.length) : ∃ A c, w.cell? ⟨gO, i, none⟩ = some (.slice A (ps.getD i []).length c) ∧ TokS w A (ps.getD i []).length c (ps.getD i []) := by
  have e : ps.getD i [] = ps[i] := by rw [List.getD_eq_getElem?_getD, List.getElem?_eq_getElem hi]; rfl
  rw [e]
  exact h.at_ i hi
theorem InIs.ext {w w' : World} {v : Value} {o : Option (List Tok)} (h : InIs w w.heap.size v o) (hx : Ext w w') : InIs w' w'.heap.size v o := h.move (Ext.refl _) hx
/-- The results stored whole. -/
theorem rp_end {W w : World} {g2 g3 : Nat} {a0 : Ad} {u v : Value} (x : Ext W w) (r2 : Blk w g2 23 (adC a0)) (r3 : Blk w g3 26 #[u, v]) (l2 : W.heap.size ≤ g2) (l3 : W.heap.size ≤ g3) (a : Ad) (e at_ : Int) :
    Blk (((setAd w g2 a).setCell ⟨g3, 0, none⟩ (.int .i64 e)).setCell ⟨g3, 1, none⟩ (.int .i64 at_)) g2 23 (adC a) ∧ Blk (((setAd w g2 a).setCell ⟨g3, 0, none⟩ (.int .i64 e)).setCell ⟨g3, 1, none⟩ (.int .i64 at_)) g3 26 #[.int .i64 e, .int .i64 at_] ∧ Ext W (((setAd w g2 a).setCell ⟨g3, 0, none⟩ (.int .i64 e)).setCell ⟨g3, 1, none⟩ (.int .i64 at_)) := by
  have hne : g2 ≠ g3 := r2.ne_ r3 (by decide)
  exact ⟨(((setAd_blk a (a := a0) r2).far (p := ⟨g3, 0, none⟩) hne _).far (p := ⟨g3, 1, none⟩) hne _), fault_set (far_setAd a r3 hne.symm) _ _, ((setAd_ext a x l2).set (p := ⟨g3, 0, none⟩) l3 _).set (p := ⟨g3, 1, none⟩) l3 _⟩
def rqS (a : Ad) (pl : List Tok) (last : Int) : Ad × Int × Int :=
  let sh := shortP 3 (textsP pl.dropLast)
  if sh.2 = false then errA 275 last else (⟨a.n, a.half, a.pre, a.name, a.suf, a.post, a.unit, a.city, sh.1, a.zip, a.more⟩, 0, 0)
def rqZ (a : Ad) (pl : List Tok) (last : Int) : Ad × Int × Int :=
  let z := (pl.getLastD ⟨0, []⟩).t
  if zipR z = false then errA 276 last else rqS ⟨a.n, a.half, a.pre, a.name, a.suf, a.post, a.unit, a.city, a.state, z.take 5, z.drop 6⟩ pl last
def rqC (a : Ad) (ct pl : List Tok) (last : Int) : Ad × Int × Int :=
  if ct.all (fun t => t.k == 1) = false ∨ 8 < ct.length ∨ 40 < (textsP ct).length then errA 274 (last - 1) else
  rqZ ⟨a.n, a.half, a.pre, a.name, a.suf, a.post, a.unit, textsP ct, a.state, a.zip, a.more⟩ pl last
def rqN (a : Ad) (nm ct pl : List Tok) (last : Int) : Ad × Int × Int :=
  if nm.length = 0 ∨ nm.any (fun t => t.k == 5) = true ∨ 8 < nm.length ∨ 40 < a.name.length then errA 273 0 else rqC a ct pl last
def rqU (a : Ad) (nm ct pl : List Tok) (inT : Option (List Tok)) (last : Int) : Ad × Int × Int :=
  if inT.any (fun l => !(unitP l).2 || decide (10 < ((l.getD 1 ⟨0, []⟩).t).length)) = true then errA 272 (last - 2) else
  rqN ⟨a.n, a.half, a.pre, a.name, a.suf, a.post, (match inT with | some u => (unitP u).1 | none => []), a.city, a.state, a.zip, a.more⟩ nm ct pl last
theorem rqU_eq (p : List (List Tok)) (last : Nat) : rparsePts p last = if emptyP p = true then errA 270 0 else
    if wholeP ((p.getD 0 []).headD ⟨0, []⟩).t = 0 then errA 271 0 else
    rqU ⟨wholeP ((p.getD 0 []).headD ⟨0, []⟩).t, (streetP (p.getD 0 []).tail (decide (last = 2))).1.half, (streetP (p.getD 0 []).tail (decide (last = 2))).1.pre, (streetP (p.getD 0 []).tail (decide (last = 2))).1.name, (streetP (p.getD 0 []).tail (decide (last = 2))).1.suf, (streetP (p.getD 0 []).tail (decide (last = 2))).1.post, (streetP (p.getD 0 []).tail (decide (last = 2))).1.unit, [], [], [], []⟩ (streetP (p.getD 0 []).tail (decide (last = 2))).2.1 (p.getD (last - 1) []) (p.getD last []) (if last = 3 then some (p.getD 1 []) else (streetP (p.getD 0 []).tail (decide (last = 2))).2.2) last := rfl
noncomputable def rpaAt1 (n : Nat) : Code × Code := cut1 (Tryz.f11.body.bind (tailIn n))
noncomputable def rpaAt2 (n : Nat) : Code × Code × Code := cut2 (Tryz.f11.body.bind (tailIn n))
set_option maxRecDepth 100000 in
set_option maxHeartbeats 4000000 in
theorem rpa36 (W wp w : World) (g2 g3 g9 : Nat) (a : Ad) (r : Ad × Int × Int) (S : RpAt W wp w g2 g3 g9 a) (hr : r = (a, 0, 0)) ⦃u0 u1 u4 u5 u6 u7 u8 u10 u11 u12 u13 u14 u15 u16 u17 u18 u19 u20 u21 u22 u23 u24 u25 u26 u27 u28 u29 u30 u31 u32 u33 u34 u35 u36 u37 u38 u39 u40 u41 u42 u43 u44 u45 u46 u47 u48 u49 u50 u51 u52 u53 u54 u55 u56 u57 u58 u59 u60 u61 u62 u63 u64 u65 u66 u67 u68 u69 u70 u71 u72 u73 u74 u75 u76 u77 u78 u79 u80 u81 u82 u83 u84 u85 u86 u87 u88 u89 u90 u91 u92 u93 u94 u95 u96 u97 u98 u99 u100 u101 u102 u103 u104 u105 u106 u107 u108 u109 u110 u111 u112 u113 u114 u115 u116 u117 u118 u119 u120 u121 u122 u123 u124 u125 u126 u127 u128 u129 u130 u131 u132 u133 u134 u135 u136 u137 u138 u139 u140 u141 u142 u143 u144 u145 u146 u147 u148 u149 u150 u151 u152 u153 u154 u155 u156 u157 u158 u159 u160 u161 u162 u163 u164 u165 u166 u167 u168 u169 u170 u171 u172 u173 u174 u175 u176 u177 u178 u179 u180 u181 u182 u183 u184 u185 u186 u187 u188 u189 u190 u191 u192 u193 u194 u195 u196 u197 u198 u199 u200 u201 u202 u203 u204 u205 : Value⦄ : KF1 Tryz.prog (bodyPost Tryz.prog Tryz.f11 (PsR W r)) ⟨#[u0, u1, .pointer (some ⟨g2, 0, none⟩), .pointer (some ⟨g3, 0, none⟩), u4, u5, u6, u7, u8, .pointer (some ⟨g9, 0, none⟩), u10, u11, u12, u13, u14, u15, u16, u17, u18, u19, u20, u21, u22, u23, u24, u25, u26, u27, u28, u29, u30, u31, u32, u33, u34, u35, u36, u37, u38, u39, u40, u41, u42, u43, u44, u45, u46, u47, u48, u49, u50, u51, u52, u53, u54, u55, u56, u57, u58, u59, u60, u61, u62, u63, u64, u65, u66, u67, u68, u69, u70, u71, u72, u73, u74, u75, u76, u77, u78, u79, u80, u81, u82, u83, u84, u85, u86, u87, u88, u89, u90, u91, u92, u93, u94, u95, u96, u97, u98, u99, u100, u101, u102, u103, u104, u105, u106, u107, u108, u109, u110, u111, u112, u113, u114, u115, u116, u117, u118, u119, u120, u121, u122, u123, u124, u125, u126, u127, u128, u129, u130, u131, u132, u133, u134, u135, u136, u137, u138, u139, u140, u141, u142, u143, u144, u145, u146, u147, u148, u149, u150, u151, u152, u153, u154, u155, u156, u157, u158, u159, u160, u161, u162, u163, u164, u165, u166, u167, u168, u169, u170, u171, u172, u173, u174, u175, u176, u177, u178, u179, u180, u181, u182, u183, u184, u185, u186, u187, u188, u189, u190, u191, u192, u193, u194, u195, u196, u197, u198, u199, u200, u201, u202, u203, u204, u205, undef, undef], []⟩ w (rpaAt1 36) := by
  obtain ⟨zn, zh, zpre, zname, zsuf, zpost, zunit, zcity, zstate, zzip, zmore⟩ := a
  have S0 := Lib.hid S
  have hQ := Lib.hid hr
  have B := S.b
  have lb := B.lt
  unfold adC at B
  dsimp only at B
  obtain ⟨s0, s1⟩ := B.cells
  clear S B hr
  conv => arg 5; whnf
  conv => arg 5; arg 1; whnf
  conv => arg 5; arg 2; whnf
  unfold KF1
  dsimp only
  intro K1 hK1
  have SF := S0.out
  skip
  have E2 := SF.r2.ext SF.ext
  have E3 := SF.r3.ext SF.ext
  have hne23 : g2 ≠ g3 := E2.ne_ E3 (by decide)
  obtain ⟨A1, A2, A3⟩ := rp_end (SF.x0.trans SF.ext) E2 E3 SF.l2 SF.l3 ⟨zn, zh, zpre, zname, zsuf, zpost, zunit, zcity, zstate, zzip, zmore⟩ 0 0
  replace A1 := Lib.hid A1
  replace A2 := Lib.hid A2
  replace A3 := Lib.hid A3
  replace SF := Lib.hid SF
  unfold adC Ad.zero at E2
  dsimp only at E2
  obtain ⟨p0, p1⟩ := E2.cells
  obtain ⟨q0, q1⟩ := E3.cells
  have e2 := E2.lt
  have e3 := E3.lt
  clear E2 E3
  try rw [adV_eq]
  try unfold Ad.zero
  try dsimp only
  go_wp2_with fail
  exact bodyPost_ret (results_cc rfl rfl (ld_ad A1.out) rfl (ld_fault A2.out)) rfl ⟨by rw [hQ.out], A3.out⟩
set_option maxRecDepth 100000 in
set_option maxHeartbeats 4000000 in
theorem rpa33 (W wp w : World) (g2 g3 g9 L : Nat) (a : Ad) (st : Bs) (so : Bool) (r : Ad × Int × Int) (S : RpAt W wp w g2 g3 g9 a) (hr : r = if so = false then errA 275 (L : Int) else (⟨a.n, a.half, a.pre, a.name, a.suf, a.post, a.unit, a.city, st, a.zip, a.more⟩, 0, 0)) ⦃u0 u1 u4 u5 u6 u7 u10 u11 u12 u13 u14 u15 u16 u19 u20 u21 u22 u23 u24 u25 u26 u27 u28 u29 u30 u31 u32 u33 u34 u35 u36 u37 u38 u39 u40 u41 u42 u43 u44 u45 u46 u47 u48 u49 u50 u51 u52 u53 u54 u55 u56 u57 u58 u59 u60 u61 u62 u63 u64 u65 u66 u67 u68 u69 u70 u71 u72 u73 u74 u75 u76 u77 u78 u79 u80 u81 u82 u83 u84 u85 u86 u87 u88 u89 u90 u91 u92 u93 u94 u95 u96 u97 u98 u99 u100 u101 u102 u103 u104 u105 u106 u107 u108 u109 u110 u111 u112 u113 u114 u115 u116 u117 u118 u119 u120 u121 u122 u123 u124 u125 u126 u127 u128 u129 u130 u131 u132 u133 u134 u135 u136 u137 u138 u139 u140 u141 u142 u143 u144 u145 u146 u147 u148 u149 u150 u151 u152 u153 u154 u155 u156 u157 u158 u159 u160 u161 u162 u163 u164 u165 u166 u167 u168 u169 u170 u171 u172 u173 u174 u175 u176 u177 u178 u179 u180 u181 u182 u183 u184 u185 u186 u187 u188 u189 u190 u191 u192 u193 u194 u195 u196 u197 : Value⦄ : KF2 Tryz.prog (bodyPost Tryz.prog Tryz.f11 (PsR W r)) ⟨#[u0, u1, .pointer (some ⟨g2, 0, none⟩), .pointer (some ⟨g3, 0, none⟩), u4, u5, u6, u7, .int .i64 (L : Int), .pointer (some ⟨g9, 0, none⟩), u10, u11, u12, u13, u14, u15, u16, .string ⟨st.toArray⟩, .bool so, u19, u20, u21, u22, u23, u24, u25, u26, u27, u28, u29, u30, u31, u32, u33, u34, u35, u36, u37, u38, u39, u40, u41, u42, u43, u44, u45, u46, u47, u48, u49, u50, u51, u52, u53, u54, u55, u56, u57, u58, u59, u60, u61, u62, u63, u64, u65, u66, u67, u68, u69, u70, u71, u72, u73, u74, u75, u76, u77, u78, u79, u80, u81, u82, u83, u84, u85, u86, u87, u88, u89, u90, u91, u92, u93, u94, u95, u96, u97, u98, u99, u100, u101, u102, u103, u104, u105, u106, u107, u108, u109, u110, u111, u112, u113, u114, u115, u116, u117, u118, u119, u120, u121, u122, u123, u124, u125, u126, u127, u128, u129, u130, u131, u132, u133, u134, u135, u136, u137, u138, u139, u140, u141, u142, u143, u144, u145, u146, u147, u148, u149, u150, u151, u152, u153, u154, u155, u156, u157, u158, u159, u160, u161, u162, u163, u164, u165, u166, u167, u168, u169, u170, u171, u172, u173, u174, u175, u176, u177, u178, u179, u180, u181, u182, u183, u184, u185, u186, u187, u188, u189, u190, u191, u192, u193, u194, u195, u196, u197, undef, undef, undef, undef, undef, undef, undef, undef, undef, undef], []⟩ w (rpaAt2 33) := by
  obtain ⟨zn, zh, zpre, zname, zsuf, zpost, zunit, zcity, zstate, zzip, zmore⟩ := a
  have S0 := Lib.hid S
  replace hr := Lib.hid hr
  clear S
  conv => arg 5; whnf
  conv => arg 5; arg 1; whnf
  conv => arg 5; arg 2; whnf
  conv => arg 5; arg 2; arg 1; whnf
  conv => arg 5; arg 2; arg 2; whnf
  unfold KF2
  dsimp only
  intro K1 hK1 K2 hK2
  cases so with
  | false =>
    have hQ := Lib.hid (show r = (Ad.zero, 275, (L : Int)) by rw [hr.out]; rfl)
    go_wp2_with fail
    refine (rfault_any 275 (L : Int) _).mono ?_
    rintro e wf ⟨rfl, hxf⟩
    have SF := ((S0.out).to hxf)
    clear hxf
    have E2 := SF.r2.ext SF.ext
    have E3 := SF.r3.ext SF.ext
    have hne23 : g2 ≠ g3 := E2.ne_ E3 (by decide)
    obtain ⟨A1, A2, A3⟩ := rp_end (SF.x0.trans SF.ext) E2 E3 SF.l2 SF.l3 Ad.zero 275 (L : Int)
    replace A1 := Lib.hid A1
    replace A2 := Lib.hid A2
    replace A3 := Lib.hid A3
    replace SF := Lib.hid SF
    unfold adC Ad.zero at E2
    dsimp only at E2
    obtain ⟨p0, p1⟩ := E2.cells
    obtain ⟨q0, q1⟩ := E3.cells
    have e2 := E2.lt
    have e3 := E3.lt
    clear E2 E3
    try rw [adV_eq]
    try unfold Ad.zero
    try dsimp only
    go_wp2_with fail
    exact bodyPost_ret (results_cc rfl rfl (ld_ad A1.out) rfl (ld_fault A2.out)) rfl ⟨by rw [hQ.out], A3.out⟩
  | true =>
    have hr2 := Lib.hid (show r = (⟨zn, zh, zpre, zname, zsuf, zpost, zunit, zcity, st, zzip, zmore⟩, 0, 0) by rw [hr.out]; rfl)
    have B := S0.out.b
    have lb := B.lt
    unfold adC at B
    dsimp only at B
    obtain ⟨s0, s1⟩ := B.cells
    clear B
    have S1 := Lib.hid (S0.out.put 8 (.string ⟨st.toArray⟩) (b := ⟨zn, zh, zpre, zname, zsuf, zpost, zunit, zcity, st, zzip, zmore⟩) rfl)
    go_upto_region 36 with (fail)
    exact rpa36 W wp _ g2 g3 g9 _ r S1.out hr2.out _ (by assumption)
end Go.Proofs.YtjneghncmgjkeaaGreatDoor

set_option linter.unusedVariables false
namespace Go.Proofs.YtjneghncmgjkeaaGreatDoor
open Go.RowKit

set_option maxRecDepth 100000 in
set_option maxHeartbeats 4000000 in
theorem rpa32 (W wp w : World) (g2 g3 g9 gO cO L : Nat) (a : Ad) (ps : List (List Tok)) (r : Ad × Int × Int) (S : RpAt W wp w g2 g3 g9 a) (P : PtsAt wp gO ps) (hL : L < ps.length) (h0 : 0 < (ps.getD L []).length) (hr : r = rqS a (ps.getD L []) (L : Int)) ⦃u0 u1 u4 u5 u7 u10 u11 u12 u13 u14 u15 u16 u17 u18 u19 u20 u21 u22 u23 u24 u25 u26 u27 u28 u29 u30 u31 u32 u33 u34 u35 u36 u37 u38 u39 u40 u41 u42 u43 u44 u45 u46 u47 u48 u49 u50 u51 u52 u53 u54 u55 u56 u57 u58 u59 u60 u61 u62 u63 u64 u65 u66 u67 u68 u69 u70 u71 u72 u73 u74 u75 u76 u77 u78 u79 u80 u81 u82 u83 u84 u85 u86 u87 u88 u89 u90 u91 u92 u93 u94 u95 u96 u97 u98 u99 u100 u101 u102 u103 u104 u105 u106 u107 u108 u109 u110 u111 u112 u113 u114 u115 u116 u117 u118 u119 u120 u121 u122 u123 u124 u125 u126 u127 u128 u129 u130 u131 u132 u133 u134 u135 u136 u137 u138 u139 u140 u141 u142 u143 u144 u145 u146 u147 u148 u149 u150 u151 u152 u153 u154 u155 u156 u157 u158 u159 u160 u161 u162 u163 u164 u165 u166 u167 u168 u169 u170 u171 u172 u173 u174 u175 u176 u177 u178 u179 u180 u181 u182 : Value⦄ : KF1 Tryz.prog (bodyPost Tryz.prog Tryz.f11 (PsR W r)) ⟨#[u0, u1, .pointer (some ⟨g2, 0, none⟩), .pointer (some ⟨g3, 0, none⟩), u4, u5, .slice (some ⟨gO, 0, none⟩) ps.length cO, u7, .int .i64 (L : Int), .pointer (some ⟨g9, 0, none⟩), u10, u11, u12, u13, u14, u15, u16, u17, u18, u19, u20, u21, u22, u23, u24, u25, u26, u27, u28, u29, u30, u31, u32, u33, u34, u35, u36, u37, u38, u39, u40, u41, u42, u43, u44, u45, u46, u47, u48, u49, u50, u51, u52, u53, u54, u55, u56, u57, u58, u59, u60, u61, u62, u63, u64, u65, u66, u67, u68, u69, u70, u71, u72, u73, u74, u75, u76, u77, u78, u79, u80, u81, u82, u83, u84, u85, u86, u87, u88, u89, u90, u91, u92, u93, u94, u95, u96, u97, u98, u99, u100, u101, u102, u103, u104, u105, u106, u107, u108, u109, u110, u111, u112, u113, u114, u115, u116, u117, u118, u119, u120, u121, u122, u123, u124, u125, u126, u127, u128, u129, u130, u131, u132, u133, u134, u135, u136, u137, u138, u139, u140, u141, u142, u143, u144, u145, u146, u147, u148, u149, u150, u151, u152, u153, u154, u155, u156, u157, u158, u159, u160, u161, u162, u163, u164, u165, u166, u167, u168, u169, u170, u171, u172, u173, u174, u175, u176, u177, u178, u179, u180, u181, u182, undef, undef, undef, undef, undef, undef, undef, undef, undef, undef, undef, undef, undef, undef, undef, undef, undef, undef, undef, undef, undef, undef, undef, undef, undef], []⟩ w (rpaAt1 32) := by
  obtain ⟨zn, zh, zpre, zname, zsuf, zpost, zunit, zcity, zstate, zzip, zmore⟩ := a
  have S0 := Lib.hid S
  obtain ⟨A, c, q5, T⟩ := (P.ext S.ext).get (i := L) hL
  have lO := (P.ext S.ext).lt
  generalize ps.getD L [] = pl at *
  obtain ⟨m, hm⟩ : ∃ m, m + 1 = pl.length := ⟨pl.length - 1, by omega⟩
  obtain ⟨b, o, rfl, tb0, tt0⟩ := T.at_ (k := 0) h0
  clear tb0 tt0
  have hle := T.le
  have h40 := T.l40
  have ew : IntKind.i64.wrap ((pl.length : Int) - 1) = (m : Int) := by rw [IntKind.wrap_i64]; omega
  have L0 : (0 : Int) ≤ (L : Int) := by omega
  have L1 : (L : Int) < (ps.length : Int) := by omega
  have mz : (0 : Int) ≤ (m : Int) := by omega
  have mc : (m : Int) ≤ (c : Int) := by omega
  have hdl : pl.dropLast = pl.take m := by rw [List.dropLast_eq_take]; congr 1; omega
  have HT := Lib.hid (fun w' (hx : Ext w w') => (rtexts_any (pl.take m) (some ⟨b, o, none⟩) m c w' ((T.take (m := m) (by omega)).ext hx)).mono (fun e w'' hh => (⟨hh.1, hx.trans hh.2⟩ : _ ∧ Ext w w'')))
  have HS := Lib.hid (fun w' (hx : Ext w w') => (rshort_any 3 (.inr (.inr (.inl rfl))) (textsP pl.dropLast) w').mono (fun e w'' hh => (⟨hh.1, hx.trans hh.2⟩ : _ ∧ Ext w w'')))
  rw [← hdl] at HT
  unfold rqS at hr
  generalize textsP pl.dropLast = tx at *
  obtain ⟨sh, hsh⟩ : ∃ sh, shortP 3 tx = sh := ⟨_, rfl⟩
  rw [hsh] at hr HS
  obtain ⟨st, so⟩ := sh
  dsimp only at *
  have HX := Lib.hid (fun w' (hx : Ext w w') => (show w'.cell? ⟨gO, L, none⟩ = some (.slice (some ⟨b, o, none⟩) pl.length c) from (hx.cell _ _ none lO).trans q5))
  have X0 := Ext.refl w
  replace hm := Lib.hid hm
  replace hdl := Lib.hid hdl
  replace hr := Lib.hid hr
  clear S P T hsh h0 hle
  conv => arg 5; whnf
  conv => arg 5; arg 1; whnf
  conv => arg 5; arg 2; whnf
  unfold KF1
  dsimp only
  intro K1 hK1
  go_region_held3 (fun w' => w'.cell? ⟨gO, L, none⟩ = some (.slice (some ⟨b, o, none⟩) pl.length c))
    (with_reducible refine HX.out _ ?_; with_reducible repeat (first | assumption | exact Ext.refl _ | refine Ext.drew ?_ | refine Ext.alloc ?_ _))
    (first
      | (go_at_call 50; refine (HT.out _ (by with_reducible repeat (first | assumption | exact Ext.refl _ | refine Ext.drew ?_ | refine Ext.alloc ?_ _))).mono ?_; rintro e v1 ⟨rfl, hv1⟩)
      | (go_at_call 52; refine (HS.out _ (by with_reducible repeat (first | assumption | exact Ext.refl _ | refine Ext.drew ?_ | refine Ext.alloc ?_ _))).mono ?_; rintro e v2 ⟨rfl, hv2⟩))
  all_goals
    have SE := Lib.hid (S0.out.to (w' := _) hv2)
    go_upto_region 33 with (fail)
    exact rpa33 W wp _ g2 g3 g9 L _ st so r SE.out hr.out _ (by assumption) _ (by assumption)
end Go.Proofs.YtjneghncmgjkeaaGreatDoor

set_option linter.unusedVariables false
namespace Go.Proofs.YtjneghncmgjkeaaGreatDoor
open Go.RowKit

set_option maxRecDepth 100000 in
set_option maxHeartbeats 4000000 in
theorem rpa29 (W wp w : World) (g2 g3 g9 gO cO L : Nat) (a : Ad) (ps : List (List Tok)) (r : Ad × Int × Int) (S : RpAt W wp w g2 g3 g9 a) (P : PtsAt wp gO ps) (z : Bs) (hz : zipR z = true) (hL : L < ps.length) (h0 : 0 < (ps.getD L []).length) (hr : r = rqS ⟨a.n, a.half, a.pre, a.name, a.suf, a.post, a.unit, a.city, a.state, z.take 5, z.drop 6⟩ (ps.getD L []) (L : Int)) (hm0 : a.more = []) ⦃u0 u1 u4 u5 u7 u10 u11 u12 u13 u14 u15 u17 u18 u19 u20 u21 u22 u23 u24 u25 u26 u27 u28 u29 u30 u31 u32 u33 u34 u35 u36 u37 u38 u39 u40 u41 u42 u43 u44 u45 u46 u47 u48 u49 u50 u51 u52 u53 u54 u55 u56 u57 u58 u59 u60 u61 u62 u63 u64 u65 u66 u67 u68 u69 u70 u71 u72 u73 u74 u75 u76 u77 u78 u79 u80 u81 u82 u83 u84 u85 u86 u87 u88 u89 u90 u91 u92 u93 u94 u95 u96 u97 u98 u99 u100 u101 u102 u103 u104 u105 u106 u107 u108 u109 u110 u111 u112 u113 u114 u115 u116 u117 u118 u119 u120 u121 u122 u123 u124 u125 u126 u127 u128 u129 u130 u131 u132 u133 u134 u135 u136 u137 u138 u139 u140 u141 u142 u143 u144 u145 u146 u147 u148 u149 u150 u151 u152 u153 u154 u155 u156 u157 u158 u159 u160 u161 u162 u163 u164 u165 u166 u167 u168 u169 u170 u171 u172 : Value⦄ : KF1 Tryz.prog (bodyPost Tryz.prog Tryz.f11 (PsR W r)) ⟨#[u0, u1, .pointer (some ⟨g2, 0, none⟩), .pointer (some ⟨g3, 0, none⟩), u4, u5, .slice (some ⟨gO, 0, none⟩) ps.length cO, u7, .int .i64 (L : Int), .pointer (some ⟨g9, 0, none⟩), u10, u11, u12, u13, u14, u15, .string ⟨z.toArray⟩, u17, u18, u19, u20, u21, u22, u23, u24, u25, u26, u27, u28, u29, u30, u31, u32, u33, u34, u35, u36, u37, u38, u39, u40, u41, u42, u43, u44, u45, u46, u47, u48, u49, u50, u51, u52, u53, u54, u55, u56, u57, u58, u59, u60, u61, u62, u63, u64, u65, u66, u67, u68, u69, u70, u71, u72, u73, u74, u75, u76, u77, u78, u79, u80, u81, u82, u83, u84, u85, u86, u87, u88, u89, u90, u91, u92, u93, u94, u95, u96, u97, u98, u99, u100, u101, u102, u103, u104, u105, u106, u107, u108, u109, u110, u111, u112, u113, u114, u115, u116, u117, u118, u119, u120, u121, u122, u123, u124, u125, u126, u127, u128, u129, u130, u131, u132, u133, u134, u135, u136, u137, u138, u139, u140, u141, u142, u143, u144, u145, u146, u147, u148, u149, u150, u151, u152, u153, u154, u155, u156, u157, u158, u159, u160, u161, u162, u163, u164, u165, u166, u167, u168, u169, u170, u171, u172, undef, undef, undef, undef, undef, undef, undef, undef, undef, undef, undef, undef, undef, undef, undef, undef, undef, undef, undef, undef, undef, undef, undef, undef, undef, undef, undef, undef, undef, undef, undef, undef, undef, undef, undef], []⟩ w (rpaAt1 29) := by
  obtain ⟨zn, zh, zpre, zname, zsuf, zpost, zunit, zcity, zstate, zzip, zmore⟩ := a
  have S0 := Lib.hid S
  dsimp only at hm0 hr
  subst hm0
  obtain ⟨_, _, hlen⟩ := zip_parts hz
  have H32 := Lib.hid (fun (w' : World) (S' : RpAt W wp w' g2 g3 g9 ⟨zn, zh, zpre, zname, zsuf, zpost, zunit, zcity, zstate, (z.take 5), (z.drop 6)⟩) => rpa32 W wp w' g2 g3 g9 gO cO L _ ps r S' P hL h0 hr)
  have e5 : (⟨z.toArray⟩ : ByteArray).extract 0 5 = ⟨(z.take 5).toArray⟩ := by rw [extract_cut z 0 5 (by omega), List.drop_zero]
  have l5 : (5 : Int) ≤ (z.length : Int) := by omega
  have l5' : 5 ≤ z.length := by omega
  have B := S.b
  have lb := B.lt
  have S1 := Lib.hid (S.put 9 (.string ⟨(z.take 5).toArray⟩) (b := ⟨zn, zh, zpre, zname, zsuf, zpost, zunit, zcity, zstate, (z.take 5), []⟩) rfl)
  unfold adC at B
  dsimp only at B
  obtain ⟨s0, s1⟩ := B.cells
  clear B S P hz hL h0 hr S0
  conv => arg 5; whnf
  conv => arg 5; arg 1; whnf
  conv => arg 5; arg 2; whnf
  unfold KF1
  dsimp only
  intro K1 hK1
  rcases hlen with hlen | ⟨hlen, _⟩
  · have e6 : z.drop 6 = [] := List.drop_eq_nil_of_le (by omega)
    rw [e6] at H32
    have d5 : decide ((5 : Int) < (z.length : Int)) = false := decide_eq_false (by omega)
    have d5' : decide (5 < z.length) = false := decide_eq_false (by omega)
    replace hlen := Lib.hid hlen
    replace e6 := Lib.hid e6
    generalize z.take 5 = z5 at *
    go_upto_region 32 with (fail)
    exact H32.out _ S1.out _ (by assumption)
  · have e6 : (⟨z.toArray⟩ : ByteArray).extract 6 10 = ⟨(z.drop 6).toArray⟩ := by rw [extract_cut z 6 10 (by omega), List.take_of_length_le (by omega)]
    have d5 : decide ((5 : Int) < (z.length : Int)) = true := decide_eq_true (by omega)
    have d5' : decide (5 < z.length) = true := decide_eq_true (by omega)
    have l6 : (6 : Int) ≤ (z.length : Int) := by omega
    have hzl : z.toArray.size = 10 := by simpa using hlen
    have S2 := Lib.hid (S1.out.put 10 (.string ⟨(z.drop 6).toArray⟩) (b := ⟨zn, zh, zpre, zname, zsuf, zpost, zunit, zcity, zstate, (z.take 5), (z.drop 6)⟩) rfl)
    generalize z.take 5 = z5 at *
    generalize z.drop 6 = z6 at *
    go_upto_region 32 with (fail)
    exact H32.out _ S2.out _ (by assumption)
set_option maxRecDepth 100000 in
set_option maxHeartbeats 4000000 in
theorem rpa26 (W wp w : World) (g2 g3 g9 gO cO L : Nat) (a : Ad) (ps : List (List Tok)) (r : Ad × Int × Int) (S : RpAt W wp w g2 g3 g9 a) (P : PtsAt wp gO ps) (hL : L < ps.length) (h0 : 0 < (ps.getD L []).length) (hr : r = rqZ a (ps.getD L []) (L : Int)) (hm0 : a.more = []) ⦃u0 u1 u4 u5 u7 u10 u11 u12 u13 u14 u15 u19 u20 u21 u22 u23 u24 u25 u26 u27 u28 u29 u30 u31 u32 u33 u34 u35 u36 u37 u38 u39 u40 u41 u42 u43 u44 u45 u46 u47 u48 u49 u50 u51 u52 u53 u54 u55 u56 u57 u58 u59 u60 u61 u62 u63 u64 u65 u66 u67 u68 u69 u70 u71 u72 u73 u74 u75 u76 u77 u78 u79 u80 u81 u82 u83 u84 u85 u86 u87 u88 u89 u90 u91 u92 u93 u94 u95 u96 u97 u98 u99 u100 u101 u102 u103 u104 u105 u106 u107 u108 u109 u110 u111 u112 u113 u114 u115 u116 u117 u118 u119 u120 u121 u122 u123 u124 u125 u126 u127 u128 u129 u130 u131 u132 u133 u134 u135 u136 u137 u138 u139 u140 u141 u142 u143 u144 u145 u146 u147 u148 u149 u150 u151 u152 : Value⦄ : KF1 Tryz.prog (bodyPost Tryz.prog Tryz.f11 (PsR W r)) ⟨#[u0, u1, .pointer (some ⟨g2, 0, none⟩), .pointer (some ⟨g3, 0, none⟩), u4, u5, .slice (some ⟨gO, 0, none⟩) ps.length cO, u7, .int .i64 (L : Int), .pointer (some ⟨g9, 0, none⟩), u10, u11, u12, u13, u14, u15, undef, undef, undef, u19, u20, u21, u22, u23, u24, u25, u26, u27, u28, u29, u30, u31, u32, u33, u34, u35, u36, u37, u38, u39, u40, u41, u42, u43, u44, u45, u46, u47, u48, u49, u50, u51, u52, u53, u54, u55, u56, u57, u58, u59, u60, u61, u62, u63, u64, u65, u66, u67, u68, u69, u70, u71, u72, u73, u74, u75, u76, u77, u78, u79, u80, u81, u82, u83, u84, u85, u86, u87, u88, u89, u90, u91, u92, u93, u94, u95, u96, u97, u98, u99, u100, u101, u102, u103, u104, u105, u106, u107, u108, u109, u110, u111, u112, u113, u114, u115, u116, u117, u118, u119, u120, u121, u122, u123, u124, u125, u126, u127, u128, u129, u130, u131, u132, u133, u134, u135, u136, u137, u138, u139, u140, u141, u142, u143, u144, u145, u146, u147, u148, u149, u150, u151, u152, undef, undef, undef, undef, undef, undef, undef, undef, undef, undef, undef, undef, undef, undef, undef, undef, undef, undef, undef, undef, undef, undef, undef, undef, undef, undef, undef, undef, undef, undef, undef, undef, undef, undef, undef, undef, undef, undef, undef, undef, undef, undef, undef, undef, undef, undef, undef, undef, undef, undef, undef, undef, undef, undef, undef], []⟩ w (rpaAt1 26) := by
  have S0 := Lib.hid S
  have H29 := Lib.hid (fun (w' : World) (S' : RpAt W wp w' g2 g3 g9 a) (z : Bs) (hz : zipR z = true) => fun (hr' : r = rqS ⟨a.n, a.half, a.pre, a.name, a.suf, a.post, a.unit, a.city, a.state, z.take 5, z.drop 6⟩ (ps.getD L []) (L : Int)) => rpa29 W wp w' g2 g3 g9 gO cO L a ps r S' P z hz hL h0 hr' hm0)
  obtain ⟨A, c, q5, T⟩ := (P.ext S.ext).get (i := L) hL
  have lO := (P.ext S.ext).lt
  unfold rqZ at hr
  generalize ps.getD L [] = pl at *
  obtain ⟨m, hm⟩ : ∃ m, m + 1 = pl.length := ⟨pl.length - 1, by omega⟩
  have hml : m < pl.length := by omega
  obtain ⟨b, o, rfl, hb, t0, t1⟩ := T.at_ (k := m) hml
  have hsm := T.sm _ (List.getElem_mem hml)
  have h40 := T.l40
  have hg : pl.getLastD ⟨0, []⟩ = pl[m] := by
    rw [List.getLastD_eq_getLast?, List.getLast?_eq_getElem?, show pl.length - 1 = m by omega, List.getElem?_eq_getElem hml]
    rfl
  rw [hg] at hr
  dsimp only at hr
  have ew : IntKind.i64.wrap ((pl.length : Int) - 1) = (m : Int) := by rw [IntKind.wrap_i64]; omega
  have L0 : (0 : Int) ≤ (L : Int) := by omega
  have L1 : (L : Int) < (ps.length : Int) := by omega
  have mz : (0 : Int) ≤ (m : Int) := by omega
  have mc : (m : Int) < (pl.length : Int) := by omega
  generalize pl[m].t = z at *
  have HZ := Lib.hid (fun w' => rzip_any z (by omega) w')
  have X1 := Lib.hid ((Ext.refl w).drew)
  replace hm := Lib.hid hm
  replace hr := Lib.hid hr
  clear S P T h0 hg hsm hL hm0
  conv => arg 5; whnf
  conv => arg 5; arg 1; whnf
  conv => arg 5; arg 2; whnf
  unfold KF1
  dsimp only
  intro K1 hK1
  go_region
  generalize hwd : w.drew = wd at *
  replace hwd := Lib.hid hwd
  clear q5 t0 t1 lO hb
  go_wp2_with fail
  refine (HZ.out _).mono ?_
  rintro e w1 ⟨rfl, hx1⟩
  have S1 := Lib.hid (S0.out.to (X1.out.trans hx1))
  clear hx1 X1 S0 HZ
  obtain ⟨zr, hzr⟩ : ∃ t, zipR z = t := ⟨_, rfl⟩
  rw [hzr] at hr ⊢
  cases zr with
  | false =>
    clear H29
    have hQ := Lib.hid (show r = (Ad.zero, 276, (L : Int)) by rw [hr.out]; rfl)
    go_wp2_with fail
    refine (rfault_any 276 (L : Int) _).mono ?_
    rintro e wf ⟨rfl, hxf⟩
    have SF := ((S1.out).to hxf)
    clear hxf
    have E2 := SF.r2.ext SF.ext
    have E3 := SF.r3.ext SF.ext
    have hne23 : g2 ≠ g3 := E2.ne_ E3 (by decide)
    obtain ⟨A1, A2, A3⟩ := rp_end (SF.x0.trans SF.ext) E2 E3 SF.l2 SF.l3 Ad.zero 276 (L : Int)
    replace A1 := Lib.hid A1
    replace A2 := Lib.hid A2
    replace A3 := Lib.hid A3
    replace SF := Lib.hid SF
    unfold adC Ad.zero at E2
    dsimp only at E2
    obtain ⟨p0, p1⟩ := E2.cells
    obtain ⟨q0, q1⟩ := E3.cells
    have e2 := E2.lt
    have e3 := E3.lt
    clear E2 E3
    try rw [adV_eq]
    try unfold Ad.zero
    try dsimp only
    go_wp2_with fail
    exact bodyPost_ret (results_cc rfl rfl (ld_ad A1.out) rfl (ld_fault A2.out)) rfl ⟨by rw [hQ.out], A3.out⟩
  | true =>
    have hr2 := hr.out
    rw [if_neg (by simp)] at hr2
    have HN := H29.out _ S1.out z hzr hr2
    replace HN := Lib.hid HN
    go_upto_region 29 with (fail)
    exact HN.out _ (by assumption)
end Go.Proofs.YtjneghncmgjkeaaGreatDoor
