/-
  token: the state between parts.
-/
import Derived.Test.YtjaponmpfdpemaaGreatDoorBb08
import Derived.Deep.RegionHeld3
import Derived.Test.YtjaponmpfdpemaaGreatDoorBb07
import Derived.Test.YtjaponmpfdpemaaGreatDoorProg
import Derived.Shelf.Bits.Mul64
import Derived.Lib.Strings
import Derived.Lib.Slices
import Derived.Lib.Small
import Derived.Lib.Walk
import Derived.Lib.BitFns
set_option linter.unusedSimpArgs false
set_option linter.unusedVariables false
namespace Go.Proofs.YtjaponmpfdpemaaGreatDoor
open Go.RowKit
theorem row_tk : RowT Tryz.prog 87 105 2 24 (.agg #[.int .i64 0, .string ByteArray.empty]) := rowT_mk Tryz.underlying87 (by kernel_rfl) rfl (by decide)
def tokC (t : Tok) : List Value := [.int .i64 t.k, .string ⟨t.t.toArray⟩]
def tokCells (l : List Tok) : List Value := l.flatMap tokC
structure CutAt (w0 W : World) (g : Nat) (s : Bs) (v : Value) (out : List Tok) (a : Int) : Prop where
 blk : Blk W g 124 (cutC s v a)
 row : W.ownsRow w0.heap.size 105 2 v out.length (tokCells out)
 ext : Ext w0 W
 ge : w0.heap.size ≤ g
theorem CutAt.to {w0 W W' : World} {g : Nat} {s : Bs} {v : Value} {out : List Tok} {a : Int} (h : CutAt w0 W g s v out a) (hx : Ext W W') : CutAt w0 W' g s v out a := ⟨h.blk.ext hx, own_ext h.row hx, h.ext.trans hx, h.ge⟩
theorem CutAt.place {w0 W : World} {g : Nat} {s : Bs} {v : Value} {out : List Tok} {a : Int} (h : CutAt w0 W g s v out a) (b : Int) : CutAt w0 (W.setCell ⟨g, 258, none⟩ (.int .i64 b)) g s v out b := by
 refine ⟨?_, ownsRow_setCell_other h.row (own_blk_ne h.row h.blk (by decide)) _, h.ext.set (p := ⟨g, 258, none⟩) h.ge _, h.ge⟩
 have := h.blk.set_ 258 (.int .i64 b)
 rwa [cutC_seta] at this
theorem tokCells_snoc (l : List Tok) (t : Tok) : tokCells (l ++ [t]) = tokCells l ++ tokC t := by simp [tokCells]
theorem CutAt.push {w0 W W5 : World} {g : Nat} {s : Bs} {v v5 : Value} {out : List Tok} {a : Int} {t : Tok} {z : Value} (h : CutAt w0 W g s v out a) (hg : Grew w0 (W.alloc (.cells #[.int .i64 t.k, .string ⟨t.t.toArray⟩] 105)) W5 105 2 z v v5 (out.length + 1) (tokCells out ++ #[Value.int .i64 t.k, .string ⟨t.t.toArray⟩].toList)) :
  CutAt w0 (W5.setCell ⟨g, 257, none⟩ v5) g s v5 (out ++ [t]) a ∧ W5.cell? ⟨g, 257, none⟩ = some v ∧ W5.frozen? ⟨g, 257, none⟩ = false ∧ g < W5.heap.size := by
 have B5 := hg.blk (h.row.alloc _) (h.blk.alloc _) (by decide)
 have hrow : W5.ownsRow w0.heap.size 105 2 v5 (out ++ [t]).length (tokCells (out ++ [t])) := by
  rw [List.length_append, tokCells_snoc]
  exact hg.own
 refine ⟨⟨?_, ownsRow_setCell_other hrow (own_blk_ne hrow B5 (by decide)) _, hg.ext.set (p := ⟨g, 257, none⟩) h.ge _, h.ge⟩, (B5.cell 257).trans (cutC_v s v a), B5.frozen 257, B5.lt⟩
 have := B5.set_ 257 v5
 rwa [cutC_setv] at this
def stV (inn : Bool) : Value := if inn then .func (.func 126) #[] #[] else .func (.func 82) #[] #[]
set_option maxRecDepth 100000 in
theorem apart_any {w0 W : World} {g : Nat} {s : Bs} {v : Value} {out : List Tok} {a : Int} (h : CutAt w0 W g s v out a) (i : Nat) (hs : s.length ≤ 200) (hi : i ≤ 1000) (hl : out.length ≤ 1000) :
  Calls Tryz.prog 82 #[.pointer (some ⟨g, 0, none⟩), .int .i64 (i : Int)] W fun e w' => e = .returned (stV (stepA s out i).inn) ∧ ∃ v', CutAt w0 w' g s v' (stepA s out i).out (i : Int) := by
 have S1 := h.place (i : Int)
 have fz := h.blk.frozen 258
 have cz := (h.blk.cell 258).trans (cutC_a s v a)
 have lg := h.blk.lt
 clear h
 go_enter Tryz.func82, Tryz.ntmps82
 go_upto_region 2 with (fail)
 generalize W.setCell ⟨g, 258, none⟩ (.int .i64 (i : Int)) = w1 at *
 clear fz cz lg
 go_wp2_with fail
 refine (class_any S1.blk i hs hi).mono ?_
 rintro e w2 ⟨rfl, hx2⟩
 have S2 := S1.to hx2
 clear S1 hx2
 generalize hc : clsAt s i = c at *
 by_cases h23 : c = 2 ∨ c = 3
 ·have hst : stepA s out i = ⟨i, true, out⟩ := by unfold stepA; rw [if_pos (by omega)]
  replace hst := Lib.hid hst
  replace hc := Lib.hid hc
  rcases h23 with rfl | rfl
  ·go_wp2_with fail
   go_ret
   exact ⟨by rw [hst.out]; rfl, v, by rw [hst.out]; exact S2⟩
  ·go_wp2_with fail
   go_ret
   exact ⟨by rw [hst.out]; rfl, v, by rw [hst.out]; exact S2⟩
 have d2 : ((c : Int) == 2) = false := by rw [beq_eq_false_iff_ne]; omega
 have d3 : ((c : Int) == 3) = false := by rw [beq_eq_false_iff_ne]; omega
 have c257 := (S2.blk.cell 257).trans (cutC_v s v i)
 have lg2 := S2.blk.lt
 obtain ⟨A, cap, rfl, hcl, hcm, _⟩ := own_slice S2.row
 by_cases h5 : c = 5
 ·have hst : stepA s out i = ⟨i, false, out ++ [tComma]⟩ := by unfold stepA; rw [if_neg (by omega), if_pos (by omega)]
  subst h5
  have HS := Lib.hid S2
  replace hst := Lib.hid hst
  replace hc := Lib.hid hc
  clear S2
  go_wp2_with (at_builtin; refine wpl_app1 row_tk w0 w2 (.tmp 21) (.tmp 23) rfl rfl rfl HS.out.row HS.out.ext rfl rfl rfl (by simp [Value.oneCell']) (by omega) (by unfold maxLen; omega) ?_; intro v5 w5 hg5; obtain ⟨HP, k1, k2, k3⟩ := CutAt.push (t := tComma) HS.out hg5; obtain ⟨A5, c5, rfl, _, _, _⟩ := own_slice hg5.own; replace HP := Lib.hid HP; clear hg5)
  go_ret
  exact ⟨by rw [hst.out]; rfl, _, by rw [hst.out]; exact HP.out⟩
 by_cases h6 : c = 6
 ·have hst : stepA s out i = ⟨i, false, out ++ [tHash]⟩ := by unfold stepA; rw [if_neg (by omega), if_neg (by omega), if_pos (by omega)]
  subst h6
  have HS := Lib.hid S2
  replace hst := Lib.hid hst
  replace hc := Lib.hid hc
  clear S2
  go_wp2_with (at_builtin; refine wpl_app1 row_tk w0 w2 (.tmp 33) (.tmp 35) rfl rfl rfl HS.out.row HS.out.ext rfl rfl rfl (by simp [Value.oneCell']) (by omega) (by unfold maxLen; omega) ?_; intro v5 w5 hg5; obtain ⟨HP, k1, k2, k3⟩ := CutAt.push (t := tHash) HS.out hg5; obtain ⟨A5, c5, rfl, _, _, _⟩ := own_slice hg5.own; replace HP := Lib.hid HP; clear hg5)
  go_ret
  exact ⟨by rw [hst.out]; rfl, _, by rw [hst.out]; exact HP.out⟩
 ·have hst : stepA s out i = ⟨i, false, out⟩ := by unfold stepA; rw [if_neg (by omega), if_neg (by omega), if_neg (by omega)]
  have d5 : ((c : Int) == 5) = false := by rw [beq_eq_false_iff_ne]; omega
  have d6 : ((c : Int) == 6) = false := by rw [beq_eq_false_iff_ne]; omega
  have HS := Lib.hid S2
  replace hst := Lib.hid hst
  replace hc := Lib.hid hc
  clear S2
  go_wp2_with fail
  go_ret
  exact ⟨by rw [hst.out]; rfl, _, by rw [hst.out]; exact HS.out⟩
end Go.Proofs.YtjaponmpfdpemaaGreatDoor
set_option linter.unusedSimpArgs false
set_option linter.unusedVariables false
namespace Go.Proofs.YtjaponmpfdpemaaGreatDoor
open Go.RowKit
theorem sndI_nat (s : Bs) (i : Nat) : sndI s (i : Int) = sndAt s i := by unfold sndI; simp
theorem stepA_at (s : Bs) (out : List Tok) (i : Nat) : (stepA s out i).at_ = i := by
 unfold stepA
 by_cases h1 : clsAt s i = 2 ∨ clsAt s i = 3
 ·rw [if_pos h1]
 ·rw [if_neg h1]
  by_cases h2 : clsAt s i = 5
  ·rw [if_pos h2]
  ·rw [if_neg h2]
   by_cases h3 : clsAt s i = 6
   ·rw [if_pos h3]
   ·rw [if_neg h3]
theorem extract_cut (s : Bs) (a i : Nat) (hi : i ≤ s.length) : (⟨s.toArray⟩ : ByteArray).extract a i = ⟨((s.take i).drop a).toArray⟩ := by
 have := Lib.extract_data (⟨s.toArray⟩ : ByteArray) a i
 apply ByteArray.ext
 apply Array.ext'
 rw [this]
 simp [List.drop_take]
theorem upper_cut (s : Bs) (a i : Nat) (hi : i ≤ s.length) (hs : s.length ≤ 200) (W : World) : Calls Tryz.prog 150 #[.string ((⟨s.toArray⟩ : ByteArray).extract a i)] W fun e w' => e = .returned (.string ⟨(partT s a i).toArray⟩) ∧ Ext W w' := by
 rw [extract_cut s a i hi]
 exact upper_any _ W (by rw [List.length_drop, List.length_take]; omega)
set_option maxRecDepth 100000 in
theorem twithin_any {w0 W : World} {g : Nat} {s : Bs} {v : Value} {out : List Tok} {a : Nat} (h : CutAt w0 W g s v out (a : Int)) (i p : Nat) (hp : p + 1 = i) (hs : s.length ≤ 200) (ha : a < i) (hi : i ≤ s.length) (hsn : sndAt s a = true) (hl : out.length ≤ 900) :
  Calls Tryz.prog 126 #[.pointer (some ⟨g, 0, none⟩), .int .i64 (i : Int)] W fun e w' => e = .returned (stV (stepS s ⟨a, true, out⟩ i).inn) ∧ ∃ v', CutAt w0 w' g s v' (stepS s ⟨a, true, out⟩ i).out ((stepS s ⟨a, true, out⟩ i).at_ : Int) := by
 have hst := Lib.hid (show stepS s ⟨a, true, out⟩ i = if goesOn s i then ⟨a, true, out⟩ else stepA s (out ++ [wordT s a i]) i from rfl)
 have hgo := Lib.hid (show goesOn s i = (sndAt s i || (clsAt s i == 4 && sndAt s p && sndAt s (i + 1))) by unfold goesOn; rw [show i - 1 = p by omega])
 have ew : IntKind.i64.wrap ((i : Int) - 1) = (p : Int) := by rw [IntKind.wrap_i64]; omega
 have ix : i ≤ 1000 := by omega
 replace hp := Lib.hid hp
 have HC := Lib.hid h
 clear h
 go_enter Tryz.func126, Tryz.ntmps126
 go_upto_region 1 with (fail)
 go_cut [27] (fun u wx => u = .bool (goesOn s i) ∧ CutAt w0 wx g s v out (a : Int))
 case first =>
  go_wp2_with fail
  refine (sound_any HC.out.blk (i : Int) hs (by omega)).mono ?_
  rintro e w1 ⟨rfl, hx1⟩
  have H1 := Lib.hid (HC.out.to hx1)
  clear hx1 HC
  rw [sndI_nat]
  cases h0 : sndAt s i with
  | true =>
   have hr := Lib.hid (show goesOn s i = true by rw [hgo.out, h0]; rfl)
   go_wp2_with fail
   go_meet
   exact ⟨by rw [hr.out], H1.out⟩
  | false =>
   go_wp2_with fail
   refine (class_any H1.out.blk i hs (by omega)).mono ?_
   rintro e w2 ⟨rfl, hx2⟩
   have H2 := Lib.hid (H1.out.to hx2)
   clear hx2 H1
   generalize hc : clsAt s i = c at *
   by_cases h4 : c = 4
   ·subst h4
    go_wp2_with fail
    refine (sound_any H2.out.blk (p : Int) hs (by have := hp.out; omega)).mono ?_
    rintro e w3 ⟨rfl, hx3⟩
    have H3 := Lib.hid (H2.out.to hx3)
    clear hx3 H2
    rw [sndI_nat]
    cases h1 : sndAt s p with
    | false =>
     have hr := Lib.hid (show goesOn s i = false by rw [hgo.out, h0, h1]; simp)
     go_wp2_with fail
     go_meet
     exact ⟨by rw [hr.out], H3.out⟩
    | true =>
     go_wp2_with fail
     refine (sound_any H3.out.blk ((i + 1 : Nat) : Int) hs (by omega)).mono ?_
     rintro e w4 ⟨rfl, hx4⟩
     have H4 := Lib.hid (H3.out.to hx4)
     clear hx4 H3
     rw [sndI_nat]
     cases h2 : sndAt s (i + 1) with
     | false =>
      have hr := Lib.hid (show goesOn s i = false by rw [hgo.out, h0, h1, h2]; rfl)
      go_wp2_with fail
      go_meet
      exact ⟨by rw [hr.out], H4.out⟩
     | true =>
      have hr := Lib.hid (show goesOn s i = true by rw [hgo.out, h0, h1, h2]; rfl)
      go_wp2_with fail
      go_meet
      exact ⟨by rw [hr.out], H4.out⟩
   ·have hr := Lib.hid (show goesOn s i = false by rw [hgo.out, h0, beq_eq_false_iff_ne.2 h4]; rfl)
    have d4 : ((c : Int) == 4) = false := by rw [beq_eq_false_iff_ne]; omega
    go_wp2_with fail
    go_meet
    exact ⟨by rw [hr.out], H2.out⟩
 case rest =>
  obtain ⟨rfl, H2⟩ := hcut
  clear HC
  cases hg : goesOn s i with
  | true =>
   rw [hg, if_pos rfl] at hst
   replace hg := Lib.hid hg
   replace H2 := Lib.hid H2
   go_wp2_with fail
   go_ret
   exact ⟨by rw [hst.out]; rfl, _, by rw [hst.out]; exact H2.out⟩
  | false =>
   rw [hg, if_neg (by simp)] at hst
   replace hg := Lib.hid hg
   have c0 := (H2.blk.cell 0).trans (cutC_0 s v a)
   have ca := (H2.blk.cell 258).trans (cutC_a s v a)
   have lg := H2.blk.lt
   have H2h := Lib.hid H2
   have HX := Lib.hid (fun w' (hx : Ext wc w') => (show w'.cell? ⟨g, 0, none⟩ = some (.string ⟨s.toArray⟩) ∧ w'.cell? ⟨g, 258, none⟩ = some (.int .i64 (a : Int)) from ⟨(hx.cell _ _ none lg).trans c0, (hx.cell _ _ none lg).trans ca⟩))
   have ail : (a : Int) ≤ (i : Int) := by omega
   have isl : (i : Int) ≤ (s.length : Int) := by omega
   clear H2
   go_upto_region 3 with (fail)
   go_region_held3 (fun w' => w'.cell? ⟨g, 0, none⟩ = some (.string ⟨s.toArray⟩) ∧ w'.cell? ⟨g, 258, none⟩ = some (.int .i64 (a : Int)))
    (with_reducible refine HX.out _ ?_; with_reducible repeat' (first | assumption | exact Ext.refl _ | refine Ext.drew ?_ | refine Ext.alloc ?_ _))
    (first
    | (go_at_call 150; refine (upper_cut s a i hi hs _).mono ?_; rintro e w3 ⟨rfl, hx3⟩; have X3 : Ext wc w3 := Ext.trans (by repeat' (first | exact Ext.refl _ | refine Ext.drew ?_)) hx3))
   have H3 := H2h.out.to X3
   obtain ⟨txt, htx⟩ : ∃ txt, partT s a i = txt := ⟨_, rfl⟩
   rw [htx]
   have hl0 : txt.length = i - a := by rw [← htx]; exact partT_len hi
   have htl : txt.length ≤ 200 := by omega
   have ht0 : 0 < txt.length := by omega
   replace htx := Lib.hid htx
   clear X3 hx3 c0 ca HX H2h hl0 lg
   obtain ⟨k, hkk⟩ : ∃ k, txt[0].toNat = k := ⟨_, rfl⟩
   have hk2 : k < 256 := by rw [← hkk]; exact UInt8.toNat_lt _
   have hb : ∀ h, ((⟨txt.toArray⟩ : ByteArray)[0]'h).toNat = k := fun _ => hkk
   have ck := (H3.blk.cell (1 + k)).trans (cutC_cls s v a hk2)
   have hcl : clsAt txt 0 = clsB (UInt8.ofNat k) := by rw [clsAt_lt ht0, ← hkk, UInt8.ofNat_toNat]
   have lg := H3.blk.lt
   have kz : (0 : Int) ≤ (k : Int) := by omega
   have kl : (k : Int) < 256 := by omega
   have t0l : (0 : Int) < (txt.length : Int) := by omega
   replace hkk := Lib.hid hkk
   have c257 := (H3.blk.cell 257).trans (cutC_v s v a)
   obtain ⟨A, cap, rfl, hcl2, hcm, _⟩ := own_slice H3.row
   have HS := Lib.hid H3
   clear H3
   have hkd : kindT txt = if clsAt txt 0 = 2 then 1 else if txt.all digB then 2 else 3 := rfl
   rw [hcl] at hkd
   replace hcl := Lib.hid hcl
   generalize clsB (UInt8.ofNat k) = c at *
   by_cases hc2 : c = 2
   ·subst hc2
    have hk : kindT txt = 1 := by rw [hkd, if_pos rfl]
    replace hkd := Lib.hid hkd
    replace hk := Lib.hid hk
    go_upto_region 5 with (fail)
    go_quiet (fail)
    replace HS := Lib.hid (HS.out.to ((Ext.refl w3).drewN nq))
    have HK : wordT s a i = ⟨1, txt⟩ := by unfold wordT; rw [htx.out, hk.out]
    replace HK := Lib.hid HK
    go_wp2_with (at_builtin; refine wpl_app1 row_tk w0 _ (.tmp 56) (.tmp 60) rfl rfl rfl HS.out.row HS.out.ext rfl rfl rfl (by simp [Value.oneCell']) (by omega) (by unfold maxLen; omega) ?_; intro v5 w5 hg5; obtain ⟨HP, k1, k2, k3⟩ := CutAt.push (t := ⟨1, txt⟩) HS.out hg5; obtain ⟨A5, c5, rfl, _, _, _⟩ := own_slice hg5.own; replace HP := Lib.hid HP; clear hg5)
    refine (apart_any HP.out i hs ix (by rw [List.length_append, List.length_singleton]; omega)).mono ?_
    rintro e w6 ⟨rfl, v6, H6⟩
    have hat := Lib.hid (stepA_at s (out ++ [⟨1, txt⟩]) i)
    replace H6 := Lib.hid H6
    go_wp2_with fail
    go_ret
    exact ⟨by rw [hst.out, HK.out]; rfl, v6, by rw [hst.out, HK.out, hat.out]; exact H6.out⟩
   ·have d2 : ((c : Int) == 2) = false := by rw [beq_eq_false_iff_ne]; omega
    rw [if_neg hc2] at hkd
    replace hkd := Lib.hid hkd
    go_upto_region 5 with (fail)
    go_quiet (fail)
    replace HS := Lib.hid (HS.out.to ((Ext.refl w3).drewN nq))
    go_wp2_with fail
    refine (trim_any txt _ (by omega)).mono ?_
    rintro e w4 ⟨⟨r, rfl, hr⟩, hx4⟩
    replace HS := Lib.hid (HS.out.to hx4)
    have lg4 := HS.out.blk.lt
    have c2574 := (HS.out.blk.cell 257).trans (cutC_v s _ a)
    clear hx4 c257 lg ck
    by_cases hr0 : r = []
    ·have hk : kindT txt = 2 := by rw [hkd.out, if_pos (hr.1 hr0)]
     subst hr0
     replace hk := Lib.hid hk
     clear hr
     have HK : wordT s a i = ⟨2, txt⟩ := by unfold wordT; rw [htx.out, hk.out]
     replace HK := Lib.hid HK
     go_wp2_with (at_builtin; refine wpl_app1 row_tk w0 _ (.tmp 56) (.tmp 60) rfl rfl rfl HS.out.row HS.out.ext rfl rfl rfl (by simp [Value.oneCell']) (by omega) (by unfold maxLen; omega) ?_; intro v5 w5 hg5; obtain ⟨HP, k1, k2, k3⟩ := CutAt.push (t := ⟨2, txt⟩) HS.out hg5; obtain ⟨A5, c5, rfl, _, _, _⟩ := own_slice hg5.own; replace HP := Lib.hid HP; clear hg5)
     refine (apart_any HP.out i hs ix (by rw [List.length_append, List.length_singleton]; omega)).mono ?_
     rintro e w6 ⟨rfl, v6, H6⟩
     have hat := Lib.hid (stepA_at s (out ++ [⟨2, txt⟩]) i)
     replace H6 := Lib.hid H6
     go_wp2_with fail
     go_ret
     exact ⟨by rw [hst.out, HK.out]; rfl, v6, by rw [hst.out, HK.out, hat.out]; exact H6.out⟩
    ·have hk : kindT txt = 3 := by rw [hkd.out, if_neg (fun h => hr0 (hr.2 h))]
     have hre : (r.isEmpty) = false := by cases r with | nil => exact absurd rfl hr0 | cons _ _ => rfl
     replace hk := Lib.hid hk
     clear hr hr0
     have HK : wordT s a i = ⟨3, txt⟩ := by unfold wordT; rw [htx.out, hk.out]
     replace HK := Lib.hid HK
     go_wp2_with (at_builtin; refine wpl_app1 row_tk w0 _ (.tmp 56) (.tmp 60) rfl rfl rfl HS.out.row HS.out.ext rfl rfl rfl (by simp [Value.oneCell']) (by omega) (by unfold maxLen; omega) ?_; intro v5 w5 hg5; obtain ⟨HP, k1, k2, k3⟩ := CutAt.push (t := ⟨3, txt⟩) HS.out hg5; obtain ⟨A5, c5, rfl, _, _, _⟩ := own_slice hg5.own; replace HP := Lib.hid HP; clear hg5)
     refine (apart_any HP.out i hs ix (by rw [List.length_append, List.length_singleton]; omega)).mono ?_
     rintro e w6 ⟨rfl, v6, H6⟩
     have hat := Lib.hid (stepA_at s (out ++ [⟨3, txt⟩]) i)
     replace H6 := Lib.hid H6
     go_wp2_with fail
     go_ret
     exact ⟨by rw [hst.out, HK.out]; rfl, v6, by rw [hst.out, HK.out, hat.out]; exact H6.out⟩
end Go.Proofs.YtjaponmpfdpemaaGreatDoor
set_option linter.unusedSimpArgs false
set_option linter.unusedVariables false
namespace Go.Proofs.YtjaponmpfdpemaaGreatDoor
open Go.RowKit
theorem row_u8 : RowT Tryz.prog 129 5 1 1 (.int .u8 0) := rowT_mk Tryz.underlying129 (z := .int .u8 0) (by kernel_rfl) rfl (by decide)
theorem row_int : RowT Tryz.prog 110 3 1 8 (.int .i64 0) := rowT_mk Tryz.underlying110 (z := .int .i64 0) (by kernel_rfl) rfl (by decide)
def PutRel (w : World) (z : Nat) (s o : Value) (wr : World) : Prop :=
 ∃ (f r : Nat) (out : List UInt8), s = .int .u64 (r : Int) ∧ r < 128 ^ f ∧ r < 18446744073709551616 ∧ 1 ≤ f ∧ f + out.length ≤ 10 ∧ lebF 10 z = out ++ lebF f r ∧ wr.ownsRow w.heap.size 5 1 o out.length (bV out) ∧ Ext w wr ∧ AllP wr o u8P
theorem PutRel.next {w w1 : World} {z f r : Nat} {out : List UInt8} {v1 : Value} {n c : Int} (hr : r < 128 ^ (f + 1)) (hrl : r < 18446744073709551616) (hge : 128 ≤ r) (hfl : f + 1 + out.length ≤ 10) (h : lebF 10 z = out ++ lebF (f + 1) r)
  (hg : w1.ownsRow w.heap.size 5 1 v1 (out.length + 1) (bV out ++ [.int .u8 c])) (hc : c = ((UInt8.ofNat (r % 128 + 128)).toNat : Int)) (hx : Ext w w1) (hall : AllP w1 v1 u8P) (hn : n = ((r / 128 : Nat) : Int)) : PutRel w z (.int .u64 n) v1 w1 := by
 subst hn hc
 refine ⟨f, r / 128, out ++ [UInt8.ofNat (r % 128 + 128)], rfl, ?_, by omega, ?_, by simp; omega, by rw [h, lebF_big f r hge]; simp, ?_, hx, hall⟩
 ·rw [Nat.pow_succ] at hr; exact Nat.div_lt_of_lt_mul (by omega)
 ·rcases f with _ | f
  ·simp at hr; omega
  ·omega
 ·rw [bV_app, List.length_append]
  simpa [bV] using hg
theorem PutRel.done {w w1 : World} {z f r : Nat} {out : List UInt8} {v1 : Value} (hlt : r < 128) (h : lebF 10 z = out ++ lebF (f + 1) r)
  (hg : w1.ownsRow w.heap.size 5 1 v1 (out.length + 1) (bV out ++ [.int .u8 ((UInt8.ofNat r).toNat : Int)])) : w1.ownsRow w.heap.size 5 1 v1 (lebF 10 z).length (bV (lebF 10 z)) := by
 rw [h, lebF_small f r hlt, bV_app, List.length_append]
 simpa [bV] using hg
end Go.Proofs.YtjaponmpfdpemaaGreatDoor
set_option linter.unusedSimpArgs false
set_option linter.unusedVariables false
namespace Go.Proofs.YtjaponmpfdpemaaGreatDoor
open Go.RowKit
def sgnI (x : Int) : Int := if x < 0 then -1 else if 0 < x then 1 else 0
theorem nan_any (x : Int) (w : World) : Calls Tryz.prog 158 #[.int .i64 x] w fun e w' => e = .returned (.bool false) ∧ w = w' := by
 go_enter Tryz.func158, Tryz.ntmps158
 go_wp2
 go_ret
 exact ⟨ret_bool (by simp), rfl⟩
theorem cmp0_any (x : Int) (w : World) : Calls Tryz.prog 132 #[.int .i64 x, .int .i64 0] w fun e w' => e = .returned (.int .i64 (sgnI x)) ∧ w = w' := by
 by_cases h1 : x < 0
 ·go_enter Tryz.func132, Tryz.ntmps132
  go_wp2_with (go_at_call 158; refine (nan_any _ _).mono ?_; rintro e w' ⟨rfl, rfl⟩)
  go_ret
  exact ⟨by simp [sgnI, h1], rfl⟩
 ·by_cases h2 : 0 < x
  ·go_enter Tryz.func132, Tryz.ntmps132
   go_wp2_with (go_at_call 158; refine (nan_any _ _).mono ?_; rintro e w' ⟨rfl, rfl⟩)
   go_ret
   exact ⟨by simp [sgnI, h1, h2], rfl⟩
  ·go_enter Tryz.func132, Tryz.ntmps132
   go_wp2_with (go_at_call 158; refine (nan_any _ _).mono ?_; rintro e w' ⟨rfl, rfl⟩)
   go_ret
   exact ⟨by rw [show sgnI x = 0 by rw [sgnI, if_neg (by omega), if_neg (by omega)]]; rfl, rfl⟩
theorem sign_any (x : Int) (w : World) : Calls Tryz.prog 98 #[.int .i64 x] w fun e w' => e = .returned (.int .i64 (sgnI x)) ∧ w = w' := by
 go_enter Tryz.func98, Tryz.ntmps98
 go_wp2_with (go_at_call 132; refine (cmp0_any _ _).mono ?_; rintro e w' ⟨rfl, rfl⟩)
 go_ret
 exact ⟨rfl, rfl⟩
theorem size_nat (n : Nat) (h : n < 9223372036854775808) (w : World) : Calls Tryz.prog 97 #[.int .i64 (n : Int)] w fun e w' => e = .returned (.int .u64 (n : Int)) ∧ w = w' := by
 have hd : decide ((n : Int) < 0) = false := by simp
 go_enter Tryz.func97, Tryz.ntmps97
 go_wp2
 go_ret
 exact ⟨rfl, rfl⟩
theorem signed_nat (n : Nat) (h : n < 9223372036854775808) (w : World) : Calls Tryz.prog 100 #[.int .u64 (n : Int), .bool false] w fun e w' => e = .returned (.tuple #[.int .i64 (n : Int), .int .i64 0]) ∧ w = w' := by
 have hd : decide ((n : Int) < 9223372036854775808) = true := by simp; omega
 go_enter Tryz.func100, Tryz.ntmps100
 go_wp2
 go_ret2
 exact ⟨rfl, rfl⟩
set_option maxHeartbeats 1000000 in
theorem mul64_any (x y : Nat) (hx : x < 18446744073709551616) (hy : y < 18446744073709551616) (w : World) :
  Calls Tryz.prog 131 #[.int .u64 (x : Int), .int .u64 (y : Int)] w fun e w' => e = .returned (.tuple #[.int .u64 ((x * y / 18446744073709551616 : Nat) : Int), .int .u64 ((x * y % 18446744073709551616 : Nat) : Int)]) ∧ w = w' := by
 obtain ⟨bd, bt, bw, hhi⟩ := Lib.mul64_hi x y hx hy
 have ba := Lib.half_mul_le (a := x / 4294967296) (b := y / 4294967296) (by omega) (by omega)
 have bb := Lib.half_mul_le (a := x / 4294967296) (b := y % 4294967296) (by omega) (by omega)
 have bc := Lib.half_mul_le (a := x % 4294967296) (b := y / 4294967296) (by omega) (by omega)
 have ba' : x / 4294967296 * (y / 4294967296) < 18446744073709551616 := by omega
 have bb' : x / 4294967296 * (y % 4294967296) < 18446744073709551616 := by omega
 have bc' : x % 4294967296 * (y / 4294967296) < 18446744073709551616 := by omega
 have bh1 : x / 4294967296 * (y / 4294967296) + (x / 4294967296 * (y % 4294967296) + x % 4294967296 * (y % 4294967296) / 4294967296) / 4294967296 < 18446744073709551616 := by omega
 have bh : x / 4294967296 * (y / 4294967296) + (x / 4294967296 * (y % 4294967296) + x % 4294967296 * (y % 4294967296) / 4294967296) / 4294967296 + ((x / 4294967296 * (y % 4294967296) + x % 4294967296 * (y % 4294967296) / 4294967296) % 4294967296 + x % 4294967296 * (y / 4294967296)) / 4294967296 < 18446744073709551616 := by
  rw [hhi]
  exact Nat.div_lt_of_lt_mul (Nat.lt_of_lt_of_le (Nat.mul_lt_mul'' hx hy) (Nat.le_refl _))
 go_enter Tryz.func131, Tryz.ntmps131
 go_wp2
 simp only [Mul64.maskN x hx, Mul64.maskN y hy, Mul64.divN, Mul64.mulN, Mul64.addN, Mul64.wrapN _ bd, Mul64.wrapN _ bb', Mul64.wrapN _ bt, Mul64.maskN _ bt, Mul64.wrapN _ bc', Mul64.wrapN _ bw, Mul64.wrapN _ ba', Mul64.wrapN _ bh1, Mul64.wrapN _ bh, Mul64.wrapM (x * y)]
 rw [hhi]
 go_ret2
 exact ⟨rfl, rfl⟩
end Go.Proofs.YtjaponmpfdpemaaGreatDoor
set_option linter.unusedSimpArgs false
set_option linter.unusedVariables false
namespace Go.Proofs.YtjaponmpfdpemaaGreatDoor
open Go.RowKit
theorem tab_at (i : Int) (h0 : 0 ≤ i) (h1 : i ≤ 255) (h : i.toNat < Lib.len8tab.size) : ((Lib.len8tab[i.toNat]'h).toNat : Int) = (Lib.bitLen i.toNat : Int) := by
 rw [← Lib.len8_of i h0 h1]
 unfold Lib.len8
 simp [h]
theorem len_case (x c : Int) (k : Nat) (h0 : 0 ≤ c) (h1 : c ≤ 255) (hk : k ≤ 56) (he : Lib.bitLen x.toNat = k + Lib.bitLen c.toNat) (h : c.toNat < Lib.len8tab.size) :
  RowKit.wrap64 ((k : Int) + RowKit.wrap64 ((Lib.len8tab[c.toNat]'h).toNat : Int)) = (Lib.bitLen x.toNat : Int) := by
 rw [tab_at c h0 h1, he]
 have l := Lib.bitLen_le8' c h0 h1
 generalize Lib.bitLen c.toNat = m at *
 unfold RowKit.wrap64
 omega
theorem len_case0 (x : Int) (h0 : 0 ≤ x) (h1 : x ≤ 255) (h : x.toNat < Lib.len8tab.size) :
  RowKit.wrap64 (RowKit.wrap64 ((Lib.len8tab[x.toNat]'h).toNat : Int)) = (Lib.bitLen x.toNat : Int) := by
 rw [tab_at x h0 h1]
 have l := Lib.bitLen_le8' x h0 h1
 generalize Lib.bitLen x.toNat = m at *
 unfold RowKit.wrap64
 omega
set_option maxHeartbeats 4000000 in
set_option maxRecDepth 100000 in
theorem len64_any (x : Int) (w : World) (h0 : 0 ≤ x) (h1 : x ≤ 18446744073709551615) :
  Calls Tryz.prog 159 #[.int .u64 x] w fun e w' => e = .returned (.int .i64 (Lib.bitLen x.toNat)) ∧ w' = w := by
 have hsz := Lib.len8tab_size
 go_enter Tryz.func159, Tryz.ntmps159
 go_wp2
 all_goals (go_ret; refine ⟨ret_int ?_, rfl⟩)
 all_goals first
  | (refine len_case x (x / 4294967296 / 65536 / 256) 56 ?_ ?_ ?_ ?_ _; (omega); (omega); (omega); (rw [show (x / 4294967296 / 65536 / 256).toNat = x.toNat / 72057594037927936 by omega]; exact Lib.bitLen_shift56 x.toNat (by omega) (by omega)))
  | (refine len_case x (x / 4294967296 / 65536) 48 ?_ ?_ ?_ ?_ _; (omega); (omega); (omega); (rw [show (x / 4294967296 / 65536).toNat = x.toNat / 281474976710656 by omega]; exact Lib.bitLen_shift48 x.toNat (by omega) (by omega)))
  | (refine len_case x (x / 4294967296 / 256) 40 ?_ ?_ ?_ ?_ _; (omega); (omega); (omega); (rw [show (x / 4294967296 / 256).toNat = x.toNat / 1099511627776 by omega]; exact Lib.bitLen_shift40 x.toNat (by omega) (by omega)))
  | (refine len_case x (x / 4294967296) 32 ?_ ?_ ?_ ?_ _; (omega); (omega); (omega); (rw [show (x / 4294967296).toNat = x.toNat / 4294967296 by omega]; exact Lib.bitLen_shift32 x.toNat (by omega) (by omega)))
  | (refine len_case x (x / 65536 / 256) 24 ?_ ?_ ?_ ?_ _; (omega); (omega); (omega); (rw [show (x / 65536 / 256).toNat = x.toNat / 16777216 by omega]; exact Lib.bitLen_shift24 x.toNat (by omega) (by omega)))
  | (refine len_case x (x / 65536) 16 ?_ ?_ ?_ ?_ _; (omega); (omega); (omega); (rw [show (x / 65536).toNat = x.toNat / 65536 by omega]; exact Lib.bitLen_shift16 x.toNat (by omega) (by omega)))
  | (refine len_case x (x / 256) 8 ?_ ?_ ?_ ?_ _; (omega); (omega); (omega); (rw [show (x / 256).toNat = x.toNat / 256 by omega]; exact Lib.bitLen_shift8 x.toNat (by omega) (by omega)))
  | (refine len_case0 x h0 ?_ _; omega)
theorem bitLen_bounds : ∀ (k x : Nat), x < 2 ^ k → k ≤ 64 → 0 < x → 2 ^ (Lib.bitLen x - 1) ≤ x ∧ x < 2 ^ Lib.bitLen x ∧ 1 ≤ Lib.bitLen x
 | 0, x, h, _, h0 => by simp at h; omega
 | k + 1, x, h, hk, h0 => by
  have hx64 : x < 2 ^ 64 := Nat.lt_of_lt_of_le h (Nat.pow_le_pow_right (by decide) hk)
  have hh := Lib.bitLen_half x (by omega) hx64
  by_cases h1 : x = 1
  ·subst h1; decide
  ·have hp : 0 < x / 2 := by omega
   obtain ⟨a, b, c⟩ := bitLen_bounds k (x / 2) (by rw [Nat.pow_succ] at h; omega) (by omega) hp
   rw [hh]
   generalize Lib.bitLen (x / 2) = m at *
   obtain ⟨m, rfl⟩ : ∃ n, m = n + 1 := ⟨m - 1, by omega⟩
   rw [show 1 + (m + 1) - 1 = m + 1 by omega, show 1 + (m + 1) = m + 1 + 1 by omega]
   rw [Nat.pow_succ 2 (m + 1)]
   rw [show m + 1 - 1 = m by omega] at a
   rw [Nat.pow_succ] at b ⊢
   omega
def lzN (y : Nat) : Nat := 64 - Lib.bitLen y
theorem lzN_le (y : Nat) (h0 : 0 < y) (h : y < 2 ^ 64) : lzN y ≤ 63 ∧ Lib.bitLen y ≤ 64 ∧ 1 ≤ Lib.bitLen y := by
 have := bitLen_bounds 64 y h (Nat.le_refl _) h0
 have := Lib.bitLen_le y 64 (Nat.le_refl _) h
 unfold lzN
 omega
theorem lz_norm (y : Nat) (h0 : 0 < y) (h : y < 2 ^ 64) : 2 ^ 63 ≤ y * 2 ^ lzN y ∧ y * 2 ^ lzN y < 2 ^ 64 := by
 obtain ⟨a, b, c⟩ := bitLen_bounds 64 y h (Nat.le_refl _) h0
 have hl := Lib.bitLen_le y 64 (Nat.le_refl _) h
 have e1 : 2 ^ (Lib.bitLen y - 1) * 2 ^ lzN y = 2 ^ 63 := by rw [← Nat.pow_add]; congr 1; unfold lzN; omega
 have e2 : 2 ^ Lib.bitLen y * 2 ^ lzN y = 2 ^ 64 := by rw [← Nat.pow_add]; congr 1; unfold lzN; omega
 constructor
 ·rw [← e1]; exact Nat.mul_le_mul_right _ a
 ·rw [← e2]; exact Nat.mul_lt_mul_of_pos_right b (Nat.pow_pos (by decide))
theorem lz_any (y : Nat) (h : y < 18446744073709551616) (w : World) :
  Calls Tryz.prog 133 #[.int .u64 (y : Int)] w fun e w' => e = .returned (.int .i64 (lzN y : Int)) ∧ w = w' := by
 have hb : Lib.bitLen y ≤ 64 := Lib.bitLen_le y 64 (Nat.le_refl _) h
 have hw : 64 - (Lib.bitLen y : Int) = (lzN y : Int) := by unfold lzN; omega
 replace hw := Lib.hid hw
 go_enter Tryz.func133, Tryz.ntmps133
 go_wp2_with (go_at_call 159; refine (len64_any (y : Int) _ (by omega) (by omega)).mono ?_; rintro e w' ⟨rfl, rfl⟩)
 go_ret
 exact ⟨ret_int (by simpa using hw.out), rfl⟩
end Go.Proofs.YtjaponmpfdpemaaGreatDoor
set_option linter.unusedSimpArgs false
set_option linter.unusedVariables false
namespace Go.Proofs.YtjaponmpfdpemaaGreatDoor
structure HalfS (y yn1 yn0 u d : Nat) : Prop where
 hy : y = yn1 * 4294967296 + yn0
 h1 : 2147483648 ≤ yn1
 h1' : yn1 < 4294967296
 h0 : yn0 < 4294967296
 hu : u < y
 hd : d < 4294967296
def hq (y u d : Nat) : Nat := (u * 4294967296 + d) / y
def hr (y u d : Nat) : Nat := (u * 4294967296 + d) % y
theorem HalfS.ypos {y yn1 yn0 u d : Nat} (h : HalfS y yn1 yn0 u d) : 0 < y := by have := h.hy; have := h.h1; omega
theorem HalfS.qlt {y yn1 yn0 u d : Nat} (h : HalfS y yn1 yn0 u d) : hq y u d < 4294967296 := by
 unfold hq
 rw [Nat.div_lt_iff_lt_mul h.ypos]
 have := h.hu; have := h.hd
 omega
theorem hqr (y u d : Nat) : y * hq y u d + hr y u d = u * 4294967296 + d := Nat.div_add_mod _ _
theorem HalfS.rlt {y yn1 yn0 u d : Nat} (h : HalfS y yn1 yn0 u d) : hr y u d < y := Nat.mod_lt _ h.ypos
structure HalfR (y yn1 u d q r : Nat) : Prop where
 ge : hq y u d ≤ q
 eq : q * yn1 + r = u
 le : q ≤ 4294967297
theorem HalfS.start {y yn1 yn0 u d : Nat} (h : HalfS y yn1 yn0 u d) : HalfR y yn1 u d (u / yn1) (u % yn1) := by
 have hp : 0 < yn1 := by have := h.h1; omega
 refine ⟨?_, ?_, ?_⟩
 ·unfold hq
  rw [Nat.le_div_iff_mul_le hp]
  have h2 := Nat.div_mul_le_self (u * 4294967296 + d) y
  generalize (u * 4294967296 + d) / y = q at h2
  rw [h.hy, Nat.mul_add, ← Nat.mul_assoc] at h2
  have := h.hd
  have h3 : q * yn1 * 4294967296 < (u + 1) * 4294967296 := by
   have : 0 ≤ q * yn0 := Nat.zero_le _
   omega
  omega
 ·rw [Nat.mul_comm]; exact Nat.div_add_mod u yn1
 ·have : u / yn1 < 4294967298 := by
   rw [Nat.div_lt_iff_lt_mul hp]
   have := h.hu; have := h.hy; have := h.h0; have := h.h1; have := h.h1'
   omega
  omega
theorem HalfR.gt {y yn1 yn0 u d q r : Nat} (h : HalfS y yn1 yn0 u d) (hR : HalfR y yn1 u d q r) (ht : 4294967296 ≤ q ∨ 4294967296 * r + d < q * yn0) : hq y u d < q := by
 rcases ht with ht | ht
 ·exact Nat.lt_of_lt_of_le h.qlt ht
 ·unfold hq
  rw [Nat.div_lt_iff_lt_mul h.ypos, h.hy, Nat.mul_add, ← Nat.mul_assoc, ← hR.eq, Nat.add_mul]
  omega
theorem HalfR.done {y yn1 yn0 u d q r : Nat} (h : HalfS y yn1 yn0 u d) (hR : HalfR y yn1 u d q r) (ht : ¬ 4294967296 * r + d < q * yn0) : q = hq y u d := by
 apply Nat.le_antisymm _ hR.ge
 unfold hq
 rw [Nat.le_div_iff_mul_le h.ypos, h.hy, Nat.mul_add, ← Nat.mul_assoc, ← hR.eq, Nat.add_mul]
 omega
theorem HalfR.next {y yn1 yn0 u d q r : Nat} (h : HalfS y yn1 yn0 u d) (hR : HalfR y yn1 u d q r) (ht : 4294967296 ≤ q ∨ 4294967296 * r + d < q * yn0) : 1 ≤ q ∧ HalfR y yn1 u d (q - 1) (r + yn1) := by
 have hg := HalfR.gt h hR ht
 obtain ⟨k, rfl⟩ : ∃ k, q = k + 1 := ⟨q - 1, by omega⟩
 have := hR.eq
 have := hR.le
 refine ⟨by omega, by omega, ?_, by omega⟩
 rw [Nat.add_mul] at *
 simp only [Nat.add_sub_cancel]
 omega
theorem HalfR.brk {y yn1 yn0 u d q r : Nat} (h : HalfS y yn1 yn0 u d) (hR : HalfR y yn1 u d q r) (hr : 4294967296 ≤ r) (hq' : q ≤ 4294967296) : q = hq y u d := by
 apply HalfR.done h hR
 have : q * yn0 ≤ 4294967296 * 4294967295 := Nat.mul_le_mul hq' (by have := h.h0; omega)
 omega
theorem HalfS.rest {y yn1 yn0 u d : Nat} (_h : HalfS y yn1 yn0 u d) : ((u : Int) * 4294967296 + d - hq y u d * y) = (hr y u d : Int) := by
 have := hqr y u d
 have h2 : (((y * hq y u d + hr y u d : Nat)) : Int) = ((u * 4294967296 + d : Nat) : Int) := by rw [this]
 simp only [Int.natCast_add, Int.natCast_mul] at h2
 have h3 : (hq y u d : Int) * y = y * hq y u d := Int.mul_comm _ _
 omega
theorem two_halves (y u d1 d0 : Nat) (hy : 0 < y) (hd : d0 < 4294967296) :
  (u * 18446744073709551616 + d1 * 4294967296 + d0) / y = hq y u d1 * 4294967296 + hq y (hr y u d1) d0 ∧
  (u * 18446744073709551616 + d1 * 4294967296 + d0) % y = hr y (hr y u d1) d0 := by
 have e1 := hqr y u d1
 have e2 := hqr y (hr y u d1) d0
 have hrl : hr y (hr y u d1) d0 < y := Nat.mod_lt _ hy
 have e : u * 18446744073709551616 + d1 * 4294967296 + d0 = (hq y u d1 * 4294967296 + hq y (hr y u d1) d0) * y + hr y (hr y u d1) d0 := by
  rw [Nat.add_mul]
  have a1 : hq y u d1 * 4294967296 * y = (y * hq y u d1) * 4294967296 := by rw [Nat.mul_comm y, Nat.mul_assoc, Nat.mul_assoc, Nat.mul_comm 4294967296]
  have a2 : hq y (hr y u d1) d0 * y = y * hq y (hr y u d1) d0 := Nat.mul_comm _ _
  omega
 rw [e]
 constructor
 ·rw [Nat.mul_comm _ y, Nat.mul_add_div hy, Nat.div_eq_of_lt hrl, Nat.add_zero]
 ·rw [Nat.mul_comm _ y, Nat.mul_add_mod, Nat.mod_eq_of_lt hrl]
theorem scaled (n y s : Nat) (hs : 0 < s) : (n * s) / (y * s) = n / y ∧ (n * s) % (y * s) = n % y * s :=
 ⟨Nat.mul_div_mul_right _ _ hs, Nat.mul_mod_mul_right _ _ _⟩
end Go.Proofs.YtjaponmpfdpemaaGreatDoor
