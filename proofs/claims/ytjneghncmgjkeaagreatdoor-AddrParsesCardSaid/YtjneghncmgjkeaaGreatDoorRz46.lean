/-
  apportionref17: Parse, from street on (printed by tools/genIf.py).
-/
import Derived.Deep.RegionHeld3
import Derived.Test.YtjneghncmgjkeaaGreatDoorRz45
set_option linter.unusedVariables false
namespace Go.Proofs.YtjneghncmgjkeaaGreatDoor
open Go.RowKit

set_option maxRecDepth 100000 in
set_option maxHeartbeats 4000000 in
theorem rpa11 (W w : World) (g2 g3 gO cO L M : Nat) (n : Int) (ps : List (List Tok)) (r : Ad × Int × Int) (X : Ext W w) (r2 : Blk w g2 23 (adC Ad.zero)) (r3 : Blk w g3 26 #[.int .i64 0, .int .i64 0]) (l2 : W.heap.size ≤ g2) (l3 : W.heap.size ≤ g3) (P : PtsAt w gO ps) (hM : L = M + 1) (hL3 : L ≤ 3) (hL : L < ps.length) (hne : ∀ i, i < ps.length → 0 < (ps.getD i []).length) (hr : r = rqU ⟨n, (streetP (ps.getD 0 []).tail (decide (L = 2))).1.half, (streetP (ps.getD 0 []).tail (decide (L = 2))).1.pre, (streetP (ps.getD 0 []).tail (decide (L = 2))).1.name, (streetP (ps.getD 0 []).tail (decide (L = 2))).1.suf, (streetP (ps.getD 0 []).tail (decide (L = 2))).1.post, (streetP (ps.getD 0 []).tail (decide (L = 2))).1.unit, [], [], [], []⟩ (streetP (ps.getD 0 []).tail (decide (L = 2))).2.1 (ps.getD M []) (ps.getD L []) (if L = 3 then some (ps.getD 1 []) else (streetP (ps.getD 0 []).tail (decide (L = 2))).2.2) (L : Int)) ⦃u0 u1 u4 u5 u19 u20 u21 u22 u23 u24 u25 u26 u27 u28 u29 u30 u31 u32 u33 u34 u35 u36 u37 u38 u39 u40 u41 u42 u43 u44 u45 u46 u47 u48 u49 u50 u51 : Value⦄ : KF1 Tryz.prog (bodyPost Tryz.prog Tryz.f11 (PsR W r)) ⟨#[u0, u1, .pointer (some ⟨g2, 0, none⟩), .pointer (some ⟨g3, 0, none⟩), u4, u5, .slice (some ⟨gO, 0, none⟩) ps.length cO, .int .i64 n, .int .i64 (L : Int), undef, undef, undef, undef, undef, undef, undef, undef, undef, undef, u19, u20, u21, u22, u23, u24, u25, u26, u27, u28, u29, u30, u31, u32, u33, u34, u35, u36, u37, u38, u39, u40, u41, u42, u43, u44, u45, u46, u47, u48, u49, u50, u51, undef, undef, undef, undef, undef, undef, undef, undef, undef, undef, undef, undef, undef, undef, undef, undef, undef, undef, undef, undef, undef, undef, undef, undef, undef, undef, undef, undef, undef, undef, undef, undef, undef, undef, undef, undef, undef, undef, undef, undef, undef, undef, undef, undef, undef, undef, undef, undef, undef, undef, undef, undef, undef, undef, undef, undef, undef, undef, undef, undef, undef, undef, undef, undef, undef, undef, undef, undef, undef, undef, undef, undef, undef, undef, undef, undef, undef, undef, undef, undef, undef, undef, undef, undef, undef, undef, undef, undef, undef, undef, undef, undef, undef, undef, undef, undef, undef, undef, undef, undef, undef, undef, undef, undef, undef, undef, undef, undef, undef, undef, undef, undef, undef, undef, undef, undef, undef, undef, undef, undef, undef, undef, undef, undef, undef, undef, undef, undef, undef, undef, undef, undef, undef, undef, undef, undef, undef, undef, undef, undef, undef, undef, undef, undef, undef, undef, undef, undef, undef, undef, undef, undef, undef, undef, undef, undef], []⟩ w (rpaAt1 11) := by
  have hsu := streetP_unit (ps.getD 0 []).tail (decide (L = 2))
  have hio : (streetP (ps.getD 0 []).tail (decide (L = 2))).2.2 = none → (streetP (ps.getD 0 []).tail (decide (L = 2))).1.unit = [] := by
    rcases hsu with ⟨_, e2⟩ | ⟨u, e1, _, _⟩
    · exact fun _ => e2
    · intro h; rw [e1] at h; cases h
  have hst : (streetP (ps.getD 0 []).tail (decide (L = 2))).1 = ⟨0, (streetP (ps.getD 0 []).tail (decide (L = 2))).1.half, (streetP (ps.getD 0 []).tail (decide (L = 2))).1.pre, (streetP (ps.getD 0 []).tail (decide (L = 2))).1.name, (streetP (ps.getD 0 []).tail (decide (L = 2))).1.suf, (streetP (ps.getD 0 []).tail (decide (L = 2))).1.post, (streetP (ps.getD 0 []).tail (decide (L = 2))).1.unit, [], [], [], []⟩ := rfl
  obtain ⟨A, c, q5, T⟩ := P.get (i := 0) (by omega)
  have hp0 := hne 0 (by omega)
  have lO := P.lt
  have T1 : ∀ A' c', TokS w A' ((ps.getD 0 []).length - 1) c' (ps.getD 0 []).tail → Calls Tryz.prog 46 #[.slice A' ((ps.getD 0 []).length - 1) c', .bool (decide (L = 2))] w _ := fun A' c' hT => rstreet_any (ps.getD 0 []).tail (decide (L = 2)) A' _ c' w hT
  have d2 : ((L : Int) == 2) = decide (L = 2) := by
    by_cases h : L = 2
    · rw [decide_eq_true h, beq_iff_eq]; omega
    · rw [decide_eq_false h, beq_eq_false_iff_ne]; omega
  generalize decide (L = 2) = isT at *
  generalize (ps.getD 0 []) = p0 at *
  generalize streetP p0.tail isT = st at *
  obtain ⟨sa, nm, io⟩ := st
  dsimp only at *
  obtain ⟨s1, s2, s3, s4, s5, s6, s7, s8, s9, s10, s11⟩ := sa
  dsimp only at *
  injection hst with e1 _ _ _ _ _ _ e8 e9 e10 e11
  subst e1 e8 e9 e10 e11
  obtain ⟨b, o, rfl, tb0, tt0⟩ := T.at_ (k := 0) hp0
  clear tb0 tt0
  have TT := T.tail' hp0
  have hle := T.le
  have n0 : (0 : Int) < (ps.length : Int) := by omega
  have n1 : 0 < ps.length := by omega
  have l1i : (1 : Int) ≤ (p0.length : Int) := by omega
  have X0 := Lib.hid X
  have R20 := Lib.hid r2
  have R30 := Lib.hid r3
  have P0 := Lib.hid P
  replace hM := Lib.hid hM
  replace hL := Lib.hid hL
  replace hne := Lib.hid hne
  replace hio := Lib.hid hio
  replace hr := Lib.hid hr
  clear X r2 r3 P T hsu
  conv => arg 5; whnf
  conv => arg 5; arg 1; whnf
  conv => arg 5; arg 2; whnf
  unfold KF1
  dsimp only
  intro K1 hK1
  by_cases hc : c = 1
  · rw [if_pos hc] at TT
    subst hc
    have HS := Lib.hid (T1 _ _ TT)
    have hpl : p0.length = 1 := by omega
    clear T1 TT
    generalize p0.length = pl at *
    subst hpl
    go_wp2_with fail
    refine HS.out.mono ?_
    rintro e w1 ⟨An, nn, cn, inV, rfl, TN, IN, hx1⟩
    rw [adV_eq]
    dsimp only at *
    obtain rfl := TN.len
    go_upto_region 12 with (fail)
    have XX := (Ext.refl w1).alloc (.cells #[.int .i64 0, .bool s2, .string ⟨s3.toArray⟩, .string ⟨s4.toArray⟩, .string ⟨s5.toArray⟩, .string ⟨s6.toArray⟩, .string ⟨s7.toArray⟩, .string ⟨#[]⟩, .string ⟨#[]⟩, .string ⟨#[]⟩, .string ⟨#[]⟩] 23)
    have SN : RpAt W w1 (w1.alloc (.cells #[.int .i64 0, .bool s2, .string ⟨s3.toArray⟩, .string ⟨s4.toArray⟩, .string ⟨s5.toArray⟩, .string ⟨s6.toArray⟩, .string ⟨s7.toArray⟩, .string ⟨#[]⟩, .string ⟨#[]⟩, .string ⟨#[]⟩, .string ⟨#[]⟩] 23)) g2 g3 w1.heap.size ⟨0, s2, s3, s4, s5, s6, s7, [], [], [], []⟩ :=
      ⟨X0.out.trans hx1, XX, R20.out.ext hx1, R30.out.ext hx1, Blk.new w1 _ _, l2, l3, Nat.le_refl _⟩
    exact rpa12 W w1 _ g2 g3 _ gO cO L _ ps r SN (P0.out.ext hx1) n An cn nm TN inV io IN M hM.out hL3 hL.out hne.out hio.out hr.out rfl rfl _ (by assumption)
  · rw [if_neg hc] at TT
    have HS := Lib.hid (T1 _ _ TT)
    have hcb : (c == 1) = false := by rw [beq_eq_false_iff_ne]; exact hc
    generalize p0.length = pl at *
    clear T1 TT
    go_wp2_with fail
    refine HS.out.mono ?_
    rintro e w1 ⟨An, nn, cn, inV, rfl, TN, IN, hx1⟩
    rw [adV_eq]
    dsimp only at *
    obtain rfl := TN.len
    go_upto_region 12 with (fail)
    have XX := (Ext.refl w1).alloc (.cells #[.int .i64 0, .bool s2, .string ⟨s3.toArray⟩, .string ⟨s4.toArray⟩, .string ⟨s5.toArray⟩, .string ⟨s6.toArray⟩, .string ⟨s7.toArray⟩, .string ⟨#[]⟩, .string ⟨#[]⟩, .string ⟨#[]⟩, .string ⟨#[]⟩] 23)
    have SN : RpAt W w1 (w1.alloc (.cells #[.int .i64 0, .bool s2, .string ⟨s3.toArray⟩, .string ⟨s4.toArray⟩, .string ⟨s5.toArray⟩, .string ⟨s6.toArray⟩, .string ⟨s7.toArray⟩, .string ⟨#[]⟩, .string ⟨#[]⟩, .string ⟨#[]⟩, .string ⟨#[]⟩] 23)) g2 g3 w1.heap.size ⟨0, s2, s3, s4, s5, s6, s7, [], [], [], []⟩ :=
      ⟨X0.out.trans hx1, XX, R20.out.ext hx1, R30.out.ext hx1, Blk.new w1 _ _, l2, l3, Nat.le_refl _⟩
    exact rpa12 W w1 _ g2 g3 _ gO cO L _ ps r SN (P0.out.ext hx1) n An cn nm TN inV io IN M hM.out hL3 hL.out hne.out hio.out hr.out rfl rfl _ (by assumption)
end Go.Proofs.YtjneghncmgjkeaaGreatDoor

set_option linter.unusedVariables false
namespace Go.Proofs.YtjneghncmgjkeaaGreatDoor
open Go.RowKit

theorem headD_zero {l : List Tok} (h : 0 < l.length) : l.headD ⟨0, []⟩ = l[0] := by cases l with | nil => simp at h | cons _ _ => rfl
set_option maxRecDepth 100000 in
set_option maxHeartbeats 4000000 in
theorem rpa4 (W w : World) (g2 g3 : Nat) (l : List Tok) (A : Option Addr) (c : Nat) (r : Ad × Int × Int) (X : Ext W w) (r2 : Blk w g2 23 (adC Ad.zero)) (r3 : Blk w g3 26 #[.int .i64 0, .int .i64 0]) (l2 : W.heap.size ≤ g2) (l3 : W.heap.size ≤ g3) (T : TokS w A l.length c l) (hr : r = rparsePts (partsP l) ((partsP l).length - 1)) ⦃u0 u1 u5 u19 u20 u21 u22 u23 u24 u25 u26 u27 u28 : Value⦄ : KF1 Tryz.prog (bodyPost Tryz.prog Tryz.f11 (PsR W r)) ⟨#[u0, u1, .pointer (some ⟨g2, 0, none⟩), .pointer (some ⟨g3, 0, none⟩), .slice A l.length c, u5, undef, undef, undef, undef, undef, undef, undef, undef, undef, undef, undef, undef, undef, u19, u20, u21, u22, u23, u24, u25, u26, u27, u28, undef, undef, undef, undef, undef, undef, undef, undef, undef, undef, undef, undef, undef, undef, undef, undef, undef, undef, undef, undef, undef, undef, undef, undef, undef, undef, undef, undef, undef, undef, undef, undef, undef, undef, undef, undef, undef, undef, undef, undef, undef, undef, undef, undef, undef, undef, undef, undef, undef, undef, undef, undef, undef, undef, undef, undef, undef, undef, undef, undef, undef, undef, undef, undef, undef, undef, undef, undef, undef, undef, undef, undef, undef, undef, undef, undef, undef, undef, undef, undef, undef, undef, undef, undef, undef, undef, undef, undef, undef, undef, undef, undef, undef, undef, undef, undef, undef, undef, undef, undef, undef, undef, undef, undef, undef, undef, undef, undef, undef, undef, undef, undef, undef, undef, undef, undef, undef, undef, undef, undef, undef, undef, undef, undef, undef, undef, undef, undef, undef, undef, undef, undef, undef, undef, undef, undef, undef, undef, undef, undef, undef, undef, undef, undef, undef, undef, undef, undef, undef, undef, undef, undef, undef, undef, undef, undef, undef, undef, undef, undef, undef, undef, undef, undef, undef, undef, undef, undef, undef, undef, undef, undef, undef, undef, undef, undef, undef, undef, undef], []⟩ w (rpaAt1 4) := by
  have hpl := partsP_len l
  have h40 := T.l40
  have hsm := T.sm
  have hpt2 : ∀ p ∈ partsP l, p.length ≤ 100 := by
    intro p hp
    have h0 := hpl.1
    have h1 := parts_total l
    have h2 := le_sum_mem (List.mem_map.2 ⟨p, hp, rfl⟩ : p.length ∈ (partsP l).map List.length)
    have h3 : 0 < (partsP l).length := h0
    omega
  have hpt : ∀ p ∈ partsP l, p.length ≤ 200 := fun p hp => Nat.le_trans (hpt2 p hp) (by decide)
  have hsm2 : ∀ p ∈ partsP l, ∀ t ∈ p, t.t.length ≤ 300 := fun p hp t ht => hsm t (partsP_mem hp ht).1
  have HP := Lib.hid (rparts_any l A l.length c w T)
  rw [rqU_eq] at hr
  generalize partsP l = ps at *
  have X0 := Lib.hid X
  have R20 := Lib.hid r2
  have R30 := Lib.hid r3
  replace hr := Lib.hid hr
  clear X r2 r3 T
  conv => arg 5; whnf
  conv => arg 5; arg 1; whnf
  conv => arg 5; arg 2; whnf
  unfold KF1
  dsimp only
  intro K1 hK1
  go_wp2_with fail
  refine HP.out.mono ?_
  rintro e w1 ⟨v, es, rfl, PA⟩
  have hx1 := PA.ext
  have HE := Lib.hid (rempty_any ps es v w w1 PA (by omega) (by omega) hpt)
  have hlen := PA.len
  obtain ⟨gO, cO, rfl, hc1, hc2⟩ := own_some PA.row (by omega)
  have PT : PtsAt w1 gO ps := ⟨(own_cell PA.row (k := 0) (by omega)).2.2.1, fun i hi => by
    obtain ⟨k1, _⟩ := own_cell PA.row (k := i) (by omega)
    obtain ⟨A', c', e1, h1, h2, h3⟩ := own_slice (PA.el i (by omega) hi)
    exact ⟨A', c', by rw [k1, e1], rfl, h3, h1, h2, hpt2 _ (List.getElem_mem hi), hsm2 _ (List.getElem_mem hi)⟩⟩
  replace PT := Lib.hid PT
  replace X0 := Lib.hid (X0.out.trans hx1)
  replace R20 := Lib.hid (R20.out.ext hx1)
  replace R30 := Lib.hid (R30.out.ext hx1)
  rw [hlen]
  rw [hlen] at HE
  clear PA hx1 HP hc1 hc2 hlen
  go_wp2_with fail
  refine HE.out.mono ?_
  rintro e w2 ⟨rfl, hx2⟩
  replace PT := Lib.hid (PT.out.ext hx2)
  replace X0 := Lib.hid (X0.out.trans hx2)
  replace R20 := Lib.hid (R20.out.ext hx2)
  replace R30 := Lib.hid (R30.out.ext hx2)
  clear hx2 HE
  obtain ⟨em, hem⟩ : ∃ t, emptyP ps = t := ⟨_, rfl⟩
  have hr2 := hr.out
  rw [hem] at hr2 ⊢
  cases em with
  | true =>
    have hQ := Lib.hid (show r = (Ad.zero, 270, 0) by rw [hr2]; rfl)
    clear hr2
    go_wp2_with fail
    refine (rfault_any 270 0 _).mono ?_
    rintro e wf ⟨rfl, hxf⟩
    have E2 := R20.out.ext hxf
    have E3 := R30.out.ext hxf
    have hne23 : g2 ≠ g3 := E2.ne_ E3 (by decide)
    obtain ⟨A1, A2, A3⟩ := rp_end (X0.out.trans hxf) E2 E3 l2 l3 Ad.zero 270 0
    replace A1 := Lib.hid A1
    replace A2 := Lib.hid A2
    replace A3 := Lib.hid A3
    unfold adC Ad.zero at E2
    dsimp only at E2
    obtain ⟨p0, p1⟩ := E2.cells
    obtain ⟨q0, q1⟩ := E3.cells
    have e2 := E2.lt
    have e3 := E3.lt
    clear E2 E3
    try rw [adV_eq]
    try unfold Ad.zero
    try dsimp only
    go_wp2_with fail
    exact bodyPost_ret (results_cc rfl rfl (ld_ad A1.out) rfl (ld_fault A2.out)) rfl ⟨by rw [hQ.out], A3.out⟩
  | false =>
    rw [if_neg (by simp)] at hr2
    unfold emptyP at hem
    rw [Bool.or_eq_false_iff, Bool.or_eq_false_iff] at hem
    obtain ⟨⟨he1, he2⟩, he3⟩ := hem
    rw [decide_eq_false_iff_not] at he2 he3
    have hne : ∀ i, i < ps.length → 0 < (ps.getD i []).length := fun i hi => by
      have e : ps.getD i [] = ps[i] := by rw [List.getD_eq_getElem?_getD, List.getElem?_eq_getElem hi]; rfl
      rw [e]
      have := List.any_eq_false.1 he1 ps[i] (List.getElem_mem hi)
      rcases hq : ps[i] with _ | ⟨x, y⟩
      · rw [hq] at this; exact absurd rfl this
      · simp
    obtain ⟨L, hL⟩ : ∃ L, L + 1 = ps.length := ⟨ps.length - 1, by omega⟩
    have hL2 : ps.length - 1 = L := by omega
    rw [hL2] at hr2
    obtain ⟨A0, c0, q5, T0⟩ := PT.out.get (i := 0) (by omega)
    have lO := PT.out.lt
    have hp0 := hne 0 (by omega)
    obtain ⟨b, o, rfl, _, t0, t1⟩ := T0.at_ (k := 0) hp0
    simp only [Nat.zero_mul, Nat.add_zero] at t0 t1
    have hhd : ((ps.getD 0 []).headD ⟨0, []⟩) = (ps.getD 0 [])[0] := headD_zero hp0
    have hs0 := T0.sm _ (List.getElem_mem hp0)
    have HW := Lib.hid (rwhole_any (ps.getD 0 [])[0].t (by omega) w2)
    rw [hhd] at hr2
    have H11 := Lib.hid (fun (n : Int) (w' : World) (hx : Ext w2 w') => rpa11 (W := W) (w := w') g2 g3 gO cO L (L - 1) n ps r (X0.out.trans hx) (R20.out.ext hx) (R30.out.ext hx) l2 l3 (PT.out.ext hx) (by omega) (by omega) (by omega) hne)
    have n0 : (0 : Int) < (ps.length : Int) := by omega
    have n1 : 0 < ps.length := by omega
    have m0 : (0 : Int) < ((ps.getD 0 []).length : Int) := by omega
    have m1 : 0 < (ps.getD 0 []).length := hp0
    generalize (ps.getD 0 [])[0].t = tt at *
    generalize (ps.getD 0 [])[0].k = tk at *
    have hr3 := Lib.hid hr2
    have ewL : IntKind.i64.wrap ((ps.length : Int) - 1) = (L : Int) := by rw [IntKind.wrap_i64]; omega
    clear hr2 hr hhd hs0 T0 he1 hsm hsm2 hpt hpt2 hne hpl t0
    generalize (ps.getD 0 []).length = l0 at *
    go_wp2_with fail
    refine HW.out.mono ?_
    rintro e w3 ⟨rfl, hx3⟩
    have X3 := Lib.hid hx3
    clear hx3 HW q5 t1 lO
    obtain ⟨n, hn⟩ : ∃ n, wholeP tt = n := ⟨_, rfl⟩
    have hr4 := hr3.out
    rw [hn] at hr4 ⊢
    clear hr3
    by_cases hn0 : n = 0
    · subst hn0
      have hQ := Lib.hid (show r = (Ad.zero, 271, 0) by rw [hr4, if_pos rfl]; rfl)
      clear hr4 H11
      go_wp2_with fail
      refine (rfault_any 271 0 _).mono ?_
      rintro e wf ⟨rfl, hxf⟩
      have E2 := R20.out.ext (X3.out.trans hxf)
      have E3 := R30.out.ext (X3.out.trans hxf)
      have hne23 : g2 ≠ g3 := E2.ne_ E3 (by decide)
      obtain ⟨A1, A2, A3⟩ := rp_end (X0.out.trans (X3.out.trans hxf)) E2 E3 l2 l3 Ad.zero 271 0
      replace A1 := Lib.hid A1
      replace A2 := Lib.hid A2
      replace A3 := Lib.hid A3
      unfold adC Ad.zero at E2
      dsimp only at E2
      obtain ⟨p0, p1⟩ := E2.cells
      obtain ⟨q0, q1⟩ := E3.cells
      have e2 := E2.lt
      have e3 := E3.lt
      clear E2 E3
      try rw [adV_eq]
      try unfold Ad.zero
      try dsimp only
      go_wp2_with fail
      exact bodyPost_ret (results_cc rfl rfl (ld_ad A1.out) rfl (ld_fault A2.out)) rfl ⟨by rw [hQ.out], A3.out⟩
    · have dn : (n == 0) = false := by rw [beq_eq_false_iff_ne]; exact hn0
      rw [if_neg hn0] at hr4
      have HN := Lib.hid (H11.out n w3 X3.out hr4)
      clear H11 hr4 hn0 X0 R20 R30 PT X3
      replace hL := Lib.hid hL
      replace hL2 := Lib.hid hL2
      go_upto_region 11 with (fail)
      exact HN.out _ (by assumption)
set_option maxRecDepth 100000 in
set_option maxHeartbeats 4000000 in
theorem rparse_any (s : Bs) (hs : s.length ≤ 100000) (W : World) : Calls Tryz.prog 11 #[.string ⟨s.toArray⟩] W (PsR W (parseP s)) := by
  have HT := Lib.hid (fun w => rtokens_any s w hs)
  have hR : parseP s = if (tokensP s).2.1 ≠ 0 then (Ad.zero, (tokensP s).2) else rparsePts (partsP (tokensP s).1) ((partsP (tokensP s).1).length - 1) := by
    rw [rparse_eq rfl (fun x hx t ht => ⟨tokensP_is s t (partsP_mem hx ht).1, (partsP_mem hx ht).2⟩)]
    rfl
  generalize parseP s = r at *
  have B2 := (Blk.new W 23 (adC Ad.zero)).alloc (.cells #[.int .i64 0, .int .i64 0] 26)
  have B3 := Blk.new (W.alloc (.cells (adC Ad.zero) 23)) 26 #[.int .i64 0, .int .i64 0]
  have X1 := ((Ext.refl W).alloc (.cells (adC Ad.zero) 23)).alloc (.cells #[.int .i64 0, .int .i64 0] 26)
  rw [show (W.alloc (.cells (adC Ad.zero) 23)).heap.size = W.heap.size + 1 by simp] at B3
  unfold adC Ad.zero at B2 B3 X1
  dsimp only at B2 B3 X1
  go_enter Tryz.func11, Tryz.ntmps11
  go_upto_region 1 with (fail)
  generalize (W.alloc (.cells #[.int .i64 0, .bool false, .string ⟨#[]⟩, .string ⟨#[]⟩, .string ⟨#[]⟩, .string ⟨#[]⟩, .string ⟨#[]⟩, .string ⟨#[]⟩, .string ⟨#[]⟩, .string ⟨#[]⟩, .string ⟨#[]⟩] 23)).alloc (.cells #[.int .i64 0, .int .i64 0] 26) = w1 at *
  generalize hg3 : W.heap.size + 1 = g3 at *
  generalize hg2 : W.heap.size = g2 at *
  have l2 : W.heap.size ≤ g2 := Nat.le_of_eq hg2
  have l3 : W.heap.size ≤ g3 := by omega
  clear hg2 hg3
  replace X1 := Lib.hid X1
  replace B2 := Lib.hid B2
  replace B3 := Lib.hid B3
  replace hR := Lib.hid hR
  go_wp2_with fail
  refine (HT.out _).mono ?_
  rintro e w2 ⟨v, rfl, hown, hx2⟩
  obtain ⟨A, c, rfl, T⟩ := own_tokens hown
  have h40 := T.l40
  have hR2 := hR.out
  generalize tokensP s = tk at *
  obtain ⟨l, fe, fa⟩ := tk
  dsimp only at *
  clear hown hR HT
  go_upto_region 2 with (fail)
  have XX := (Ext.refl w2).alloc (.cells #[.int .i64 fe, .int .i64 fa] 26)
  have BF := Blk.new w2 26 #[.int .i64 fe, .int .i64 fa]
  have X3 := Lib.hid (X1.out.trans (hx2.trans XX))
  have C2 := Lib.hid (B2.out.ext (hx2.trans XX))
  have C3 := Lib.hid (B3.out.ext (hx2.trans XX))
  have hne3 := C3.out.lt
  have T3 := Lib.hid (T.ext XX)
  have hg35 := Lib.hid (show g3 ≠ w2.heap.size ∧ g2 ≠ w2.heap.size from ⟨fun e => by have := (B3.out.ext hx2).lt; omega, fun e => by have := (B2.out.ext hx2).lt; omega⟩)
  clear XX hx2 X1 B2 B3 T hne3
  generalize w2.alloc (.cells #[.int .i64 fe, .int .i64 fa] 26) = w3 at *
  generalize w2.heap.size = g5 at *
  have c0 : w3.cell? ⟨g5, 0, none⟩ = some (.int .i64 fe) := BF.cell 0
  have c1 : w3.cell? ⟨g5, 1, none⟩ = some (.int .i64 fa) := BF.cell 1
  have lf := BF.lt
  clear BF
  by_cases h0 : fe = 0
  · have hb : (fe != 0) = false := by simpa using h0
    rw [if_neg (by simpa using h0)] at hR2
    have HN := Lib.hid (rpa4 (W := W) (w := w3) g2 g3 l A c r X3.out C2.out C3.out l2 l3 T3.out hR2)
    clear hR2 X3 C2 C3 T3 h0
    go_upto_region 4 with (fail)
    exact HN.out _ (by assumption)
  · have hb : (fe != 0) = true := by simpa using h0
    rw [if_pos h0] at hR2
    have hQ := Lib.hid hR2
    clear hR2 T3 h0
    obtain ⟨A1, A2, A3⟩ := rp_end (a0 := Ad.zero) X3.out C2.out C3.out l2 l3 Ad.zero fe fa
    have A1 := Lib.hid (A1.ext (Ext.refl _).drew)
    have A2 := Lib.hid (A2.ext (Ext.refl _).drew)
    have A3 := Lib.hid (A3.drew)
    have E2 := C2.out
    obtain ⟨p0, p1⟩ := E2.cells
    obtain ⟨q0, q1⟩ := C3.out.cells
    have e2 := E2.lt
    have e3 := C3.out.lt
    obtain ⟨hg', hg''⟩ := hg35.out
    have hg23 : g2 ≠ g3 := E2.ne_ C3.out (by decide)
    clear E2
    go_wp2_with fail
    go_region
    change Exit.then _ _ Exit.normal _ (((setAd w3 g2 Ad.zero).setCell ⟨g3, 0, none⟩ (.int .i64 fe)).setCell ⟨g3, 1, none⟩ (.int .i64 fa)).drew
    generalize (((setAd w3 g2 Ad.zero).setCell ⟨g3, 0, none⟩ (.int .i64 fe)).setCell ⟨g3, 1, none⟩ (.int .i64 fa)).drew = wz at *
    clear p0 p1 q0 q1 e2 e3
    go_wp2_with fail
    exact bodyPost_ret (results_cc rfl rfl (ld_ad A1.out) rfl (ld_fault A2.out)) rfl ⟨by rw [hQ.out], A3.out⟩
end Go.Proofs.YtjneghncmgjkeaaGreatDoor
