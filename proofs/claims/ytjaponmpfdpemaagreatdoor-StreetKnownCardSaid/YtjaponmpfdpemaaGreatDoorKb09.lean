/-
  token: the state between parts.
-/
import Derived.Test.YtjaponmpfdpemaaGreatDoorKb08
import Derived.Deep.RegionHeld3
import Derived.Test.YtjaponmpfdpemaaGreatDoorKb07
import Derived.Test.YtjaponmpfdpemaaGreatDoorKb05
set_option linter.unusedVariables false
namespace Go.Proofs.YtjaponmpfdpemaaGreatDoor
open Go.RowKit

theorem row_tk : RowT Tryz.prog 87 105 2 24 (.agg #[.int .i64 0, .string ByteArray.empty]) := rowT_mk Tryz.underlying87 (by kernel_rfl) rfl (by decide)
def tokC (t : Tok) : List Value := [.int .i64 t.k, .string ⟨t.t.toArray⟩]
def tokCells (l : List Tok) : List Value := l.flatMap tokC
/-- The cutter in memory, with the tokens that it cut. -/
structure CutAt (w0 W : World) (g : Nat) (s : Bs) (v : Value) (out : List Tok) (a : Int) : Prop where
  blk : Blk W g 124 (cutC s v a)
  row : W.ownsRow w0.heap.size 105 2 v out.length (tokCells out)
  ext : Ext w0 W
  ge : w0.heap.size ≤ g
theorem CutAt.to {w0 W W' : World} {g : Nat} {s : Bs} {v : Value} {out : List Tok} {a : Int} (h : CutAt w0 W g s v out a) (hx : Ext W W') : CutAt w0 W' g s v out a := ⟨h.blk.ext hx, own_ext h.row hx, h.ext.trans hx, h.ge⟩
theorem CutAt.place {w0 W : World} {g : Nat} {s : Bs} {v : Value} {out : List Tok} {a : Int} (h : CutAt w0 W g s v out a) (b : Int) : CutAt w0 (W.setCell ⟨g, 258, none⟩ (.int .i64 b)) g s v out b := by
  refine ⟨?_, ownsRow_setCell_other h.row (own_blk_ne h.row h.blk (by decide)) _, h.ext.set (p := ⟨g, 258, none⟩) h.ge _, h.ge⟩
  have := h.blk.set_ 258 (.int .i64 b)
  rwa [cutC_seta] at this
theorem tokCells_snoc (l : List Tok) (t : Tok) : tokCells (l ++ [t]) = tokCells l ++ tokC t := by simp [tokCells]
/-- A token put behind the others. -/
theorem CutAt.push {w0 W W5 : World} {g : Nat} {s : Bs} {v v5 : Value} {out : List Tok} {a : Int} {t : Tok} {z : Value} (h : CutAt w0 W g s v out a) (hg : Grew w0 (W.alloc (.cells #[.int .i64 t.k, .string ⟨t.t.toArray⟩] 105)) W5 105 2 z v v5 (out.length + 1) (tokCells out ++ #[Value.int .i64 t.k, .string ⟨t.t.toArray⟩].toList)) :
    CutAt w0 (W5.setCell ⟨g, 257, none⟩ v5) g s v5 (out ++ [t]) a ∧ W5.cell? ⟨g, 257, none⟩ = some v ∧ W5.frozen? ⟨g, 257, none⟩ = false ∧ g < W5.heap.size := by
  have B5 := hg.blk (h.row.alloc _) (h.blk.alloc _) (by decide)
  have hrow : W5.ownsRow w0.heap.size 105 2 v5 (out ++ [t]).length (tokCells (out ++ [t])) := by
    rw [List.length_append, tokCells_snoc]
    exact hg.own
  refine ⟨⟨?_, ownsRow_setCell_other hrow (own_blk_ne hrow B5 (by decide)) _, hg.ext.set (p := ⟨g, 257, none⟩) h.ge _, h.ge⟩, (B5.cell 257).trans (cutC_v s v a), B5.frozen 257, B5.lt⟩
  have := B5.set_ 257 v5
  rwa [cutC_setv] at this
/-- The two states. -/
def stV (inn : Bool) : Value := if inn then .func (.func 126) #[] #[] else .func (.func 82) #[] #[]
set_option maxRecDepth 100000 in
theorem apart_any {w0 W : World} {g : Nat} {s : Bs} {v : Value} {out : List Tok} {a : Int} (h : CutAt w0 W g s v out a) (i : Nat) (hs : s.length ≤ 200) (hi : i ≤ 1000) (hl : out.length ≤ 1000) :
    Calls Tryz.prog 82 #[.pointer (some ⟨g, 0, none⟩), .int .i64 (i : Int)] W fun e w' => e = .returned (stV (stepA s out i).inn) ∧ ∃ v', CutAt w0 w' g s v' (stepA s out i).out (i : Int) := by
  have S1 := h.place (i : Int)
  have fz := h.blk.frozen 258
  have cz := (h.blk.cell 258).trans (cutC_a s v a)
  have lg := h.blk.lt
  clear h
  go_enter Tryz.func82, Tryz.ntmps82
  go_upto_region 2 with (fail)
  generalize W.setCell ⟨g, 258, none⟩ (.int .i64 (i : Int)) = w1 at *
  clear fz cz lg
  go_wp2_with fail
  refine (class_any S1.blk i hs hi).mono ?_
  rintro e w2 ⟨rfl, hx2⟩
  have S2 := S1.to hx2
  clear S1 hx2
  generalize hc : clsAt s i = c at *
  by_cases h23 : c = 2 ∨ c = 3
  · have hst : stepA s out i = ⟨i, true, out⟩ := by unfold stepA; rw [if_pos (by omega)]
    replace hst := Lib.hid hst
    replace hc := Lib.hid hc
    rcases h23 with rfl | rfl
    · go_wp2_with fail
      go_ret
      exact ⟨by rw [hst.out]; rfl, v, by rw [hst.out]; exact S2⟩
    · go_wp2_with fail
      go_ret
      exact ⟨by rw [hst.out]; rfl, v, by rw [hst.out]; exact S2⟩
  have d2 : ((c : Int) == 2) = false := by rw [beq_eq_false_iff_ne]; omega
  have d3 : ((c : Int) == 3) = false := by rw [beq_eq_false_iff_ne]; omega
  have c257 := (S2.blk.cell 257).trans (cutC_v s v i)
  have lg2 := S2.blk.lt
  obtain ⟨A, cap, rfl, hcl, hcm, _⟩ := own_slice S2.row
  by_cases h5 : c = 5
  · have hst : stepA s out i = ⟨i, false, out ++ [tComma]⟩ := by unfold stepA; rw [if_neg (by omega), if_pos (by omega)]
    subst h5
    have HS := Lib.hid S2
    replace hst := Lib.hid hst
    replace hc := Lib.hid hc
    clear S2
    go_wp2_with (at_builtin; refine wpl_app1 row_tk w0 w2 (.tmp 21) (.tmp 23) rfl rfl rfl HS.out.row HS.out.ext rfl rfl rfl (by simp [Value.oneCell']) (by omega) (by unfold maxLen; omega) ?_; intro v5 w5 hg5; obtain ⟨HP, k1, k2, k3⟩ := CutAt.push (t := tComma) HS.out hg5; obtain ⟨A5, c5, rfl, _, _, _⟩ := own_slice hg5.own; replace HP := Lib.hid HP; clear hg5)
    go_ret
    exact ⟨by rw [hst.out]; rfl, _, by rw [hst.out]; exact HP.out⟩
  by_cases h6 : c = 6
  · have hst : stepA s out i = ⟨i, false, out ++ [tHash]⟩ := by unfold stepA; rw [if_neg (by omega), if_neg (by omega), if_pos (by omega)]
    subst h6
    have HS := Lib.hid S2
    replace hst := Lib.hid hst
    replace hc := Lib.hid hc
    clear S2
    go_wp2_with (at_builtin; refine wpl_app1 row_tk w0 w2 (.tmp 33) (.tmp 35) rfl rfl rfl HS.out.row HS.out.ext rfl rfl rfl (by simp [Value.oneCell']) (by omega) (by unfold maxLen; omega) ?_; intro v5 w5 hg5; obtain ⟨HP, k1, k2, k3⟩ := CutAt.push (t := tHash) HS.out hg5; obtain ⟨A5, c5, rfl, _, _, _⟩ := own_slice hg5.own; replace HP := Lib.hid HP; clear hg5)
    go_ret
    exact ⟨by rw [hst.out]; rfl, _, by rw [hst.out]; exact HP.out⟩
  · have hst : stepA s out i = ⟨i, false, out⟩ := by unfold stepA; rw [if_neg (by omega), if_neg (by omega), if_neg (by omega)]
    have d5 : ((c : Int) == 5) = false := by rw [beq_eq_false_iff_ne]; omega
    have d6 : ((c : Int) == 6) = false := by rw [beq_eq_false_iff_ne]; omega
    have HS := Lib.hid S2
    replace hst := Lib.hid hst
    replace hc := Lib.hid hc
    clear S2
    go_wp2_with fail
    go_ret
    exact ⟨by rw [hst.out]; rfl, _, by rw [hst.out]; exact HS.out⟩
end Go.Proofs.YtjaponmpfdpemaaGreatDoor

set_option linter.unusedVariables false
namespace Go.Proofs.YtjaponmpfdpemaaGreatDoor
open Go.RowKit

theorem sndI_nat (s : Bs) (i : Nat) : sndI s (i : Int) = sndAt s i := by unfold sndI; simp
theorem stepA_at (s : Bs) (out : List Tok) (i : Nat) : (stepA s out i).at_ = i := by
  unfold stepA
  by_cases h1 : clsAt s i = 2 ∨ clsAt s i = 3
  · rw [if_pos h1]
  · rw [if_neg h1]
    by_cases h2 : clsAt s i = 5
    · rw [if_pos h2]
    · rw [if_neg h2]
      by_cases h3 : clsAt s i = 6
      · rw [if_pos h3]
      · rw [if_neg h3]
theorem extract_cut (s : Bs) (a i : Nat) (hi : i ≤ s.length) : (⟨s.toArray⟩ : ByteArray).extract a i = ⟨((s.take i).drop a).toArray⟩ := by
  have := Lib.extract_data (⟨s.toArray⟩ : ByteArray) a i
  apply ByteArray.ext
  apply Array.ext'
  rw [this]
  simp [List.drop_take]
theorem upper_cut (s : Bs) (a i : Nat) (hi : i ≤ s.length) (hs : s.length ≤ 200) (W : World) : Calls Tryz.prog 150 #[.string ((⟨s.toArray⟩ : ByteArray).extract a i)] W fun e w' => e = .returned (.string ⟨(partT s a i).toArray⟩) ∧ Ext W w' := by
  rw [extract_cut s a i hi]
  exact upper_any _ W (by rw [List.length_drop, List.length_take]; omega)
set_option maxRecDepth 100000 in
theorem twithin_any {w0 W : World} {g : Nat} {s : Bs} {v : Value} {out : List Tok} {a : Nat} (h : CutAt w0 W g s v out (a : Int)) (i p : Nat) (hp : p + 1 = i) (hs : s.length ≤ 200) (ha : a < i) (hi : i ≤ s.length) (hsn : sndAt s a = true) (hl : out.length ≤ 900) :
    Calls Tryz.prog 126 #[.pointer (some ⟨g, 0, none⟩), .int .i64 (i : Int)] W fun e w' => e = .returned (stV (stepS s ⟨a, true, out⟩ i).inn) ∧ ∃ v', CutAt w0 w' g s v' (stepS s ⟨a, true, out⟩ i).out ((stepS s ⟨a, true, out⟩ i).at_ : Int) := by
  have hst := Lib.hid (show stepS s ⟨a, true, out⟩ i = if goesOn s i then ⟨a, true, out⟩ else stepA s (out ++ [wordT s a i]) i from rfl)
  have hgo := Lib.hid (show goesOn s i = (sndAt s i || (clsAt s i == 4 && sndAt s p && sndAt s (i + 1))) by unfold goesOn; rw [show i - 1 = p by omega])
  have ew : IntKind.i64.wrap ((i : Int) - 1) = (p : Int) := by rw [IntKind.wrap_i64]; omega
  have ix : i ≤ 1000 := by omega
  replace hp := Lib.hid hp
  have HC := Lib.hid h
  clear h
  go_enter Tryz.func126, Tryz.ntmps126
  go_upto_region 1 with (fail)
  go_cut [27] (fun u wx => u = .bool (goesOn s i) ∧ CutAt w0 wx g s v out (a : Int))
  case first =>
    go_wp2_with fail
    refine (sound_any HC.out.blk (i : Int) hs (by omega)).mono ?_
    rintro e w1 ⟨rfl, hx1⟩
    have H1 := Lib.hid (HC.out.to hx1)
    clear hx1 HC
    rw [sndI_nat]
    cases h0 : sndAt s i with
    | true =>
      have hr := Lib.hid (show goesOn s i = true by rw [hgo.out, h0]; rfl)
      go_wp2_with fail
      go_meet
      exact ⟨by rw [hr.out], H1.out⟩
    | false =>
      go_wp2_with fail
      refine (class_any H1.out.blk i hs (by omega)).mono ?_
      rintro e w2 ⟨rfl, hx2⟩
      have H2 := Lib.hid (H1.out.to hx2)
      clear hx2 H1
      generalize hc : clsAt s i = c at *
      by_cases h4 : c = 4
      · subst h4
        go_wp2_with fail
        refine (sound_any H2.out.blk (p : Int) hs (by have := hp.out; omega)).mono ?_
        rintro e w3 ⟨rfl, hx3⟩
        have H3 := Lib.hid (H2.out.to hx3)
        clear hx3 H2
        rw [sndI_nat]
        cases h1 : sndAt s p with
        | false =>
          have hr := Lib.hid (show goesOn s i = false by rw [hgo.out, h0, h1]; simp)
          go_wp2_with fail
          go_meet
          exact ⟨by rw [hr.out], H3.out⟩
        | true =>
          go_wp2_with fail
          refine (sound_any H3.out.blk ((i + 1 : Nat) : Int) hs (by omega)).mono ?_
          rintro e w4 ⟨rfl, hx4⟩
          have H4 := Lib.hid (H3.out.to hx4)
          clear hx4 H3
          rw [sndI_nat]
          cases h2 : sndAt s (i + 1) with
          | false =>
            have hr := Lib.hid (show goesOn s i = false by rw [hgo.out, h0, h1, h2]; rfl)
            go_wp2_with fail
            go_meet
            exact ⟨by rw [hr.out], H4.out⟩
          | true =>
            have hr := Lib.hid (show goesOn s i = true by rw [hgo.out, h0, h1, h2]; rfl)
            go_wp2_with fail
            go_meet
            exact ⟨by rw [hr.out], H4.out⟩
      · have hr := Lib.hid (show goesOn s i = false by rw [hgo.out, h0, beq_eq_false_iff_ne.2 h4]; rfl)
        have d4 : ((c : Int) == 4) = false := by rw [beq_eq_false_iff_ne]; omega
        go_wp2_with fail
        go_meet
        exact ⟨by rw [hr.out], H2.out⟩
  case rest =>
    obtain ⟨rfl, H2⟩ := hcut
    clear HC
    cases hg : goesOn s i with
    | true =>
      rw [hg, if_pos rfl] at hst
      replace hg := Lib.hid hg
      replace H2 := Lib.hid H2
      go_wp2_with fail
      go_ret
      exact ⟨by rw [hst.out]; rfl, _, by rw [hst.out]; exact H2.out⟩
    | false =>
      rw [hg, if_neg (by simp)] at hst
      replace hg := Lib.hid hg
      have c0 := (H2.blk.cell 0).trans (cutC_0 s v a)
      have ca := (H2.blk.cell 258).trans (cutC_a s v a)
      have lg := H2.blk.lt
      have H2h := Lib.hid H2
      have HX := Lib.hid (fun w' (hx : Ext wc w') => (show w'.cell? ⟨g, 0, none⟩ = some (.string ⟨s.toArray⟩) ∧ w'.cell? ⟨g, 258, none⟩ = some (.int .i64 (a : Int)) from ⟨(hx.cell _ _ none lg).trans c0, (hx.cell _ _ none lg).trans ca⟩))
      have ail : (a : Int) ≤ (i : Int) := by omega
      have isl : (i : Int) ≤ (s.length : Int) := by omega
      clear H2
      go_upto_region 3 with (fail)
      go_region_held3 (fun w' => w'.cell? ⟨g, 0, none⟩ = some (.string ⟨s.toArray⟩) ∧ w'.cell? ⟨g, 258, none⟩ = some (.int .i64 (a : Int)))
        (with_reducible refine HX.out _ ?_; with_reducible repeat' (first | assumption | exact Ext.refl _ | refine Ext.drew ?_ | refine Ext.alloc ?_ _))
        (first
        | (go_at_call 150; refine (upper_cut s a i hi hs _).mono ?_; rintro e w3 ⟨rfl, hx3⟩; have X3 : Ext wc w3 := Ext.trans (by repeat' (first | exact Ext.refl _ | refine Ext.drew ?_)) hx3))
      have H3 := H2h.out.to X3
      obtain ⟨txt, htx⟩ : ∃ txt, partT s a i = txt := ⟨_, rfl⟩
      rw [htx]
      have hl0 : txt.length = i - a := by rw [← htx]; exact partT_len hi
      have htl : txt.length ≤ 200 := by omega
      have ht0 : 0 < txt.length := by omega
      replace htx := Lib.hid htx
      clear X3 hx3 c0 ca HX H2h hl0 lg
      obtain ⟨k, hkk⟩ : ∃ k, txt[0].toNat = k := ⟨_, rfl⟩
      have hk2 : k < 256 := by rw [← hkk]; exact UInt8.toNat_lt _
      have hb : ∀ h, ((⟨txt.toArray⟩ : ByteArray)[0]'h).toNat = k := fun _ => hkk
      have ck := (H3.blk.cell (1 + k)).trans (cutC_cls s v a hk2)
      have hcl : clsAt txt 0 = clsB (UInt8.ofNat k) := by rw [clsAt_lt ht0, ← hkk, UInt8.ofNat_toNat]
      have lg := H3.blk.lt
      have kz : (0 : Int) ≤ (k : Int) := by omega
      have kl : (k : Int) < 256 := by omega
      have t0l : (0 : Int) < (txt.length : Int) := by omega
      replace hkk := Lib.hid hkk
      have c257 := (H3.blk.cell 257).trans (cutC_v s v a)
      obtain ⟨A, cap, rfl, hcl2, hcm, _⟩ := own_slice H3.row
      have HS := Lib.hid H3
      clear H3
      have hkd : kindT txt = if clsAt txt 0 = 2 then 1 else if txt.all digB then 2 else 3 := rfl
      rw [hcl] at hkd
      replace hcl := Lib.hid hcl
      generalize clsB (UInt8.ofNat k) = c at *
      by_cases hc2 : c = 2
      · subst hc2
        have hk : kindT txt = 1 := by rw [hkd, if_pos rfl]
        replace hkd := Lib.hid hkd
        replace hk := Lib.hid hk
        go_upto_region 5 with (fail)
        go_quiet (fail)
        replace HS := Lib.hid (HS.out.to ((Ext.refl w3).drewN nq))
        have HK : wordT s a i = ⟨1, txt⟩ := by unfold wordT; rw [htx.out, hk.out]
        replace HK := Lib.hid HK
        go_wp2_with (at_builtin; refine wpl_app1 row_tk w0 _ (.tmp 56) (.tmp 60) rfl rfl rfl HS.out.row HS.out.ext rfl rfl rfl (by simp [Value.oneCell']) (by omega) (by unfold maxLen; omega) ?_; intro v5 w5 hg5; obtain ⟨HP, k1, k2, k3⟩ := CutAt.push (t := ⟨1, txt⟩) HS.out hg5; obtain ⟨A5, c5, rfl, _, _, _⟩ := own_slice hg5.own; replace HP := Lib.hid HP; clear hg5)
        refine (apart_any HP.out i hs ix (by rw [List.length_append, List.length_singleton]; omega)).mono ?_
        rintro e w6 ⟨rfl, v6, H6⟩
        have hat := Lib.hid (stepA_at s (out ++ [⟨1, txt⟩]) i)
        replace H6 := Lib.hid H6
        go_wp2_with fail
        go_ret
        exact ⟨by rw [hst.out, HK.out]; rfl, v6, by rw [hst.out, HK.out, hat.out]; exact H6.out⟩
      · have d2 : ((c : Int) == 2) = false := by rw [beq_eq_false_iff_ne]; omega
        rw [if_neg hc2] at hkd
        replace hkd := Lib.hid hkd
        go_upto_region 5 with (fail)
        go_quiet (fail)
        replace HS := Lib.hid (HS.out.to ((Ext.refl w3).drewN nq))
        go_wp2_with fail
        refine (trim_any txt _ (by omega)).mono ?_
        rintro e w4 ⟨⟨r, rfl, hr⟩, hx4⟩
        replace HS := Lib.hid (HS.out.to hx4)
        have lg4 := HS.out.blk.lt
        have c2574 := (HS.out.blk.cell 257).trans (cutC_v s _ a)
        clear hx4 c257 lg ck
        by_cases hr0 : r = []
        · have hk : kindT txt = 2 := by rw [hkd.out, if_pos (hr.1 hr0)]
          subst hr0
          replace hk := Lib.hid hk
          clear hr
          have HK : wordT s a i = ⟨2, txt⟩ := by unfold wordT; rw [htx.out, hk.out]
          replace HK := Lib.hid HK
          go_wp2_with (at_builtin; refine wpl_app1 row_tk w0 _ (.tmp 56) (.tmp 60) rfl rfl rfl HS.out.row HS.out.ext rfl rfl rfl (by simp [Value.oneCell']) (by omega) (by unfold maxLen; omega) ?_; intro v5 w5 hg5; obtain ⟨HP, k1, k2, k3⟩ := CutAt.push (t := ⟨2, txt⟩) HS.out hg5; obtain ⟨A5, c5, rfl, _, _, _⟩ := own_slice hg5.own; replace HP := Lib.hid HP; clear hg5)
          refine (apart_any HP.out i hs ix (by rw [List.length_append, List.length_singleton]; omega)).mono ?_
          rintro e w6 ⟨rfl, v6, H6⟩
          have hat := Lib.hid (stepA_at s (out ++ [⟨2, txt⟩]) i)
          replace H6 := Lib.hid H6
          go_wp2_with fail
          go_ret
          exact ⟨by rw [hst.out, HK.out]; rfl, v6, by rw [hst.out, HK.out, hat.out]; exact H6.out⟩
        · have hk : kindT txt = 3 := by rw [hkd.out, if_neg (fun h => hr0 (hr.2 h))]
          have hre : (r.isEmpty) = false := by cases r with | nil => exact absurd rfl hr0 | cons _ _ => rfl
          replace hk := Lib.hid hk
          clear hr hr0
          have HK : wordT s a i = ⟨3, txt⟩ := by unfold wordT; rw [htx.out, hk.out]
          replace HK := Lib.hid HK
          go_wp2_with (at_builtin; refine wpl_app1 row_tk w0 _ (.tmp 56) (.tmp 60) rfl rfl rfl HS.out.row HS.out.ext rfl rfl rfl (by simp [Value.oneCell']) (by omega) (by unfold maxLen; omega) ?_; intro v5 w5 hg5; obtain ⟨HP, k1, k2, k3⟩ := CutAt.push (t := ⟨3, txt⟩) HS.out hg5; obtain ⟨A5, c5, rfl, _, _, _⟩ := own_slice hg5.own; replace HP := Lib.hid HP; clear hg5)
          refine (apart_any HP.out i hs ix (by rw [List.length_append, List.length_singleton]; omega)).mono ?_
          rintro e w6 ⟨rfl, v6, H6⟩
          have hat := Lib.hid (stepA_at s (out ++ [⟨3, txt⟩]) i)
          replace H6 := Lib.hid H6
          go_wp2_with fail
          go_ret
          exact ⟨by rw [hst.out, HK.out]; rfl, v6, by rw [hst.out, HK.out, hat.out]; exact H6.out⟩
end Go.Proofs.YtjaponmpfdpemaaGreatDoor
