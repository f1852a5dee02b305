/-
  addr: Check (printed by tools/genZk.py).
-/
import Derived.Test.YtjaponmpfdpemaaGreatDoorKb24
set_option linter.unusedVariables false
namespace Go.Proofs.YtjaponmpfdpemaaGreatDoor
open Go.RowKit

set_option maxRecDepth 100000 in
set_option maxHeartbeats 4000000 in
theorem adcheck_any (a : Ad) (h : AdS a 1000) (W : World) (hS : Std W) :
    Calls Tryz.prog 23 #[adV a] W fun e w' => e = .returned (.int .i64 (checkP a)) ∧ Ext W w' := by
  obtain ⟨R, hR⟩ : ∃ R, checkP a = R := ⟨_, rfl⟩
  rw [hR]
  have hP : R = if (((decide (1 ≤ a.n) && decide (a.n ≤ 999999) && namedP a.name [1, 2, 3] && namedP a.city [1]) && ownP 2 a.pre && ownP 2 a.post && ownP 1 a.suf && a.state != [] && ownP 3 a.state) && housedP a.unit && digitsP a.zip 5 5 && (a.more == [] || digitsP a.more 4 4)) = false then 2 else
      if (tokensP (lineP a)).2.1 ≠ 0 ∨ (streetP (tokensP (lineP a)).1 (a.unit == [])).1 ≠ a.street then 2 else 0 := by rw [← hR]; rfl
  replace hR := Lib.hid hR
  have HLn := Lib.hid (fun w => line_any a h w)
  have hll : (lineP a).length ≤ 100000 := by
    have := lineK_len h 4 (by decide)
    rw [lineK_4] at this
    omega
  have HTk := Lib.hid (fun w => tokens_any (lineP a) w hll)
  have b1 := h.pre
  have b2 := h.name
  have b3 := h.suf
  have b4 := h.post
  have b5 := h.unit
  have b6 := h.city
  have b7 := h.state
  have b8 := h.zip
  have b9 := h.more
  clear h hll
  obtain ⟨L, hL⟩ : ∃ L, lineP a = L := ⟨_, rfl⟩
  rw [hL] at hP HLn HTk
  have hstr : a.street = ⟨0, a.half, a.pre, a.name, a.suf, a.post, [], [], [], [], []⟩ := rfl
  rw [hstr] at hP
  clear hL hstr
  have H1 := Lib.hid (fun w0 w (_ : Ext w0 w) => named_3 a.name (by omega) w)
  have H2 := Lib.hid (fun w0 w (_ : Ext w0 w) => named_1 a.city (by omega) w)
  have H3 := Lib.hid (fun w (hx : Ext W w) => own_any 2 (.inr (.inl rfl)) a.pre (by omega) w (hS.ext hx))
  have H4 := Lib.hid (fun w (hx : Ext W w) => own_any 2 (.inr (.inl rfl)) a.post (by omega) w (hS.ext hx))
  have H5 := Lib.hid (fun w (hx : Ext W w) => own_any 1 (.inl rfl) a.suf (by omega) w (hS.ext hx))
  have H6 := Lib.hid (fun w (hx : Ext W w) => own_any 3 (.inr (.inr (.inl rfl))) a.state (by omega) w (hS.ext hx))
  have H7 := Lib.hid (fun w (hx : Ext W w) => housed_any a.unit (by omega) w (hS.ext hx))
  have H8 := Lib.hid (fun w0 w (_ : Ext w0 w) => digits_55 a.zip (by omega) w)
  have H9 := Lib.hid (fun w0 w (_ : Ext w0 w) => digits_44 a.more (by omega) w)
  have HSt := Lib.hid (fun (A : Option Addr) (n cp : Nat) (l : List Tok) (i : Bool) w (hT : TokS w A n cp l) (hx : Ext W w) => street_any l i A n cp w hT (hS.ext hx))
  obtain ⟨zn, zh, zpre, zname, zsuf, zpost, zunit, zcity, zstate, zzip, zmore⟩ := a
  rw [adV_eq] at HLn ⊢
  dsimp only at *
  generalize namedP zname [1, 2, 3] = n1 at *
  generalize namedP zcity [1] = n2 at *
  generalize ownP 2 zpre = o1 at *
  generalize ownP 2 zpost = o2 at *
  generalize ownP 1 zsuf = o3 at *
  generalize ownP 3 zstate = o4 at *
  generalize housedP zunit = hu at *
  generalize digitsP zzip 5 5 = d5 at *
  generalize digitsP zmore 4 4 = d4 at *
  obtain ⟨t1, ht1⟩ : ∃ t, decide (1 ≤ zn) = t := ⟨_, rfl⟩
  obtain ⟨t2, ht2⟩ : ∃ t, decide (zn ≤ 999999) = t := ⟨_, rfl⟩
  obtain ⟨ts, hts⟩ : ∃ t, (zstate != []) = t := ⟨_, rfl⟩
  obtain ⟨tm, htm⟩ : ∃ t, (zmore == []) = t := ⟨_, rfl⟩
  obtain ⟨tu, htu⟩ : ∃ t, (zunit == []) = t := ⟨_, rfl⟩
  rw [ht1, ht2, hts, htm, htu] at hP
  have hts1 : (!decide (zstate = [])) = ts := by rw [bs_dec]; exact hts
  have htm1 : decide (zmore = []) = tm := by rw [bs_dec]; exact htm
  have htu1 : decide (zunit = []) = tu := by rw [bs_dec]; exact htu
  have hts2 : zstate.isEmpty = (!ts) := by rw [← hts]; cases zstate <;> rfl
  have htm2 : zmore.isEmpty = tm := by rw [← htm]; cases zmore <;> rfl
  have htu2 : zunit.isEmpty = tu := by rw [← htu]; cases zunit <;> rfl
  clear hts htm htu
  obtain ⟨F1, hF1⟩ : ∃ F, (t1 && t2 && n1 && n2) = F := ⟨_, rfl⟩
  rw [hF1] at hP
  obtain ⟨F2, hF2⟩ : ∃ F, (F1 && o1 && o2 && o3 && ts && o4) = F := ⟨_, rfl⟩
  rw [hF2] at hP
  obtain ⟨F3, hF3⟩ : ∃ F, (F2 && hu && d5 && (tm || d4)) = F := ⟨_, rfl⟩
  rw [hF3] at hP
  replace hF1 := Lib.hid hF1
  replace hF2 := Lib.hid hF2
  replace hF3 := Lib.hid hF3
  replace hP := Lib.hid hP
  clear hS
  go_enter Tryz.func23, Tryz.ntmps23
  go_upto_region 1 with (fail)
  generalize hw0 : W.alloc (.cells #[.int .i64 zn, .bool zh, .string ⟨zpre.toArray⟩, .string ⟨zname.toArray⟩, .string ⟨zsuf.toArray⟩, .string ⟨zpost.toArray⟩, .string ⟨zunit.toArray⟩, .string ⟨zcity.toArray⟩, .string ⟨zstate.toArray⟩, .string ⟨zzip.toArray⟩, .string ⟨zmore.toArray⟩] 45) = w0
  have X0 := Lib.hid (show Ext W w0 by rw [← hw0]; exact (Ext.refl W).alloc _)
  have BA := Lib.hid (fun w (hx : Ext w0 w) => (show (∀ i, w.cell? ⟨W.heap.size, i, none⟩ = (#[.int .i64 zn, .bool zh, .string ⟨zpre.toArray⟩, .string ⟨zname.toArray⟩, .string ⟨zsuf.toArray⟩, .string ⟨zpost.toArray⟩, .string ⟨zunit.toArray⟩, .string ⟨zcity.toArray⟩, .string ⟨zstate.toArray⟩, .string ⟨zzip.toArray⟩, .string ⟨zmore.toArray⟩] : Array Value)[i]?) ∧ W.heap.size < w.heap.size ∧ (∀ i, w.frozen? ⟨W.heap.size, i, none⟩ = false) from by
    have B : Blk w W.heap.size 45 #[.int .i64 zn, .bool zh, .string ⟨zpre.toArray⟩, .string ⟨zname.toArray⟩, .string ⟨zsuf.toArray⟩, .string ⟨zpost.toArray⟩, .string ⟨zunit.toArray⟩, .string ⟨zcity.toArray⟩, .string ⟨zstate.toArray⟩, .string ⟨zzip.toArray⟩, .string ⟨zmore.toArray⟩] := Blk.ext (by rw [← hw0]; exact Blk.new W _ _) hx
    exact ⟨B.cell, B.lt, B.frozen⟩))
  replace H3 := Lib.hid (fun w (hx : Ext w0 w) => H3.out w (X0.out.trans hx))
  replace H4 := Lib.hid (fun w (hx : Ext w0 w) => H4.out w (X0.out.trans hx))
  replace H5 := Lib.hid (fun w (hx : Ext w0 w) => H5.out w (X0.out.trans hx))
  replace H6 := Lib.hid (fun w (hx : Ext w0 w) => H6.out w (X0.out.trans hx))
  replace H7 := Lib.hid (fun w (hx : Ext w0 w) => H7.out w (X0.out.trans hx))
  replace H1 := Lib.hid (H1.out w0)
  replace H2 := Lib.hid (H2.out w0)
  replace H8 := Lib.hid (H8.out w0)
  replace H9 := Lib.hid (H9.out w0)
  clear hw0
  generalize W.heap.size = ga at *
  have Xw0 := Lib.hid (Ext.refl w0)
  obtain ⟨qa, la, qb⟩ := BA.out _ Xw0.out
  go_cut [3] from 9 to 28 (fun u wx => u = .bool F1 ∧ Ext w0 wx)
  case first =>
    cases t1 with
    | false =>
      have HE := Lib.hid (show Value.bool false = Value.bool F1 ∧ Ext w0 w0 from ⟨by rw [← hF1.out]; simp, Xw0.out⟩)
      go_wp2_with fail
      go_meet
      case rel => exact HE.out
    | true =>
      cases t2 with
      | false =>
        have HE := Lib.hid (show Value.bool false = Value.bool F1 ∧ Ext w0 w0 from ⟨by rw [← hF1.out]; simp, Xw0.out⟩)
        go_wp2_with fail
        go_meet
        case rel => exact HE.out
      | true =>
        go_wp2_with fail
        refine (H1.out _ Xw0.out).mono ?_
        rintro e wn1 ⟨rfl, hx⟩
        have Xwn1 := Lib.hid (Xw0.out.trans hx)
        obtain ⟨qa, la, qb⟩ := BA.out _ Xwn1.out
        clear hx
        cases n1 with
        | false =>
          have HE := Lib.hid (show Value.bool false = Value.bool F1 ∧ Ext w0 wn1 from ⟨by rw [← hF1.out]; simp, Xwn1.out⟩)
          go_wp2_with fail
          go_meet
          case rel => exact HE.out
        | true =>
          go_wp2_with fail
          refine (H2.out _ Xwn1.out).mono ?_
          rintro e wn2 ⟨rfl, hx⟩
          have Xwn2 := Lib.hid (Xwn1.out.trans hx)
          obtain ⟨qa, la, qb⟩ := BA.out _ Xwn2.out
          clear hx
          cases n2 with
          | false =>
            have HE := Lib.hid (show Value.bool false = Value.bool F1 ∧ Ext w0 wn2 from ⟨by rw [← hF1.out]; simp, Xwn2.out⟩)
            go_wp2_with fail
            go_meet
            case rel => exact HE.out
          | true =>
            have HE := Lib.hid (show Value.bool true = Value.bool F1 ∧ Ext w0 wn2 from ⟨by rw [← hF1.out]; simp, Xwn2.out⟩)
            go_wp2_with fail
            go_meet
            case rel => exact HE.out
  case rest =>
    obtain ⟨rfl, hx1⟩ := hcut
    have Xwc := Lib.hid hx1
    clear hx1 qa la qb Xw0
    obtain ⟨qa, la, qb⟩ := BA.out _ Xwc.out
    go_upto_region 2 with (fail)
    go_cut [3] from 29 to 54 (fun u wx => u = .bool F2 ∧ Ext w0 wx)
    case first =>
      cases F1 with
      | false =>
        have HE := Lib.hid (show Value.bool false = Value.bool F2 ∧ Ext w0 wc from ⟨by rw [← hF2.out]; simp, Xwc.out⟩)
        go_wp2_with fail
        go_meet
        case rel => exact HE.out
      | true =>
        go_wp2_with fail
        refine (H3.out _ Xwc.out).mono ?_
        rintro e wo1 ⟨rfl, hx⟩
        have Xwo1 := Lib.hid (Xwc.out.trans hx)
        obtain ⟨qa, la, qb⟩ := BA.out _ Xwo1.out
        clear hx
        cases o1 with
        | false =>
          have HE := Lib.hid (show Value.bool false = Value.bool F2 ∧ Ext w0 wo1 from ⟨by rw [← hF2.out]; simp, Xwo1.out⟩)
          go_wp2_with fail
          go_meet
          case rel => exact HE.out
        | true =>
          go_wp2_with fail
          refine (H4.out _ Xwo1.out).mono ?_
          rintro e wo2 ⟨rfl, hx⟩
          have Xwo2 := Lib.hid (Xwo1.out.trans hx)
          obtain ⟨qa, la, qb⟩ := BA.out _ Xwo2.out
          clear hx
          cases o2 with
          | false =>
            have HE := Lib.hid (show Value.bool false = Value.bool F2 ∧ Ext w0 wo2 from ⟨by rw [← hF2.out]; simp, Xwo2.out⟩)
            go_wp2_with fail
            go_meet
            case rel => exact HE.out
          | true =>
            go_wp2_with fail
            refine (H5.out _ Xwo2.out).mono ?_
            rintro e wo3 ⟨rfl, hx⟩
            have Xwo3 := Lib.hid (Xwo2.out.trans hx)
            obtain ⟨qa, la, qb⟩ := BA.out _ Xwo3.out
            clear hx
            cases o3 with
            | false =>
              have HE := Lib.hid (show Value.bool false = Value.bool F2 ∧ Ext w0 wo3 from ⟨by rw [← hF2.out]; simp, Xwo3.out⟩)
              go_wp2_with fail
              go_meet
              case rel => exact HE.out
            | true =>
              cases ts with
              | false =>
                have HE := Lib.hid (show Value.bool false = Value.bool F2 ∧ Ext w0 wo3 from ⟨by rw [← hF2.out]; simp, Xwo3.out⟩)
                go_wp2_with fail
                go_meet
                case rel => exact HE.out
              | true =>
                go_wp2_with fail
                refine (H6.out _ Xwo3.out).mono ?_
                rintro e wo4 ⟨rfl, hx⟩
                have Xwo4 := Lib.hid (Xwo3.out.trans hx)
                obtain ⟨qa, la, qb⟩ := BA.out _ Xwo4.out
                clear hx
                cases o4 with
                | false =>
                  have HE := Lib.hid (show Value.bool false = Value.bool F2 ∧ Ext w0 wo4 from ⟨by rw [← hF2.out]; simp, Xwo4.out⟩)
                  go_wp2_with fail
                  go_meet
                  case rel => exact HE.out
                | true =>
                  have HE := Lib.hid (show Value.bool true = Value.bool F2 ∧ Ext w0 wo4 from ⟨by rw [← hF2.out]; simp, Xwo4.out⟩)
                  go_wp2_with fail
                  go_meet
                  case rel => exact HE.out
    case rest =>
      clear qa la qb Xwc
      obtain ⟨rfl, hx1⟩ := hcut
      have Xwc := Lib.hid hx1
      clear hx1
      obtain ⟨qa, la, qb⟩ := BA.out _ Xwc.out
      go_upto_region 3 with (fail)
      go_cut [3] from 55 to 75 (fun u wx => u = .bool F3 ∧ Ext w0 wx)
      case first =>
        cases F2 with
        | false =>
          have HE := Lib.hid (show Value.bool false = Value.bool F3 ∧ Ext w0 wc from ⟨by rw [← hF3.out]; simp, Xwc.out⟩)
          go_wp2_with fail
          go_meet
          case rel => exact HE.out
        | true =>
          go_wp2_with fail
          refine (H7.out _ Xwc.out).mono ?_
          rintro e whu ⟨rfl, hx⟩
          have Xwhu := Lib.hid (Xwc.out.trans hx)
          obtain ⟨qa, la, qb⟩ := BA.out _ Xwhu.out
          clear hx
          cases hu with
          | false =>
            have HE := Lib.hid (show Value.bool false = Value.bool F3 ∧ Ext w0 whu from ⟨by rw [← hF3.out]; simp, Xwhu.out⟩)
            go_wp2_with fail
            go_meet
            case rel => exact HE.out
          | true =>
            go_wp2_with fail
            refine (H8.out _ Xwhu.out).mono ?_
            rintro e wd5 ⟨rfl, hx⟩
            have Xwd5 := Lib.hid (Xwhu.out.trans hx)
            obtain ⟨qa, la, qb⟩ := BA.out _ Xwd5.out
            clear hx
            cases d5 with
            | false =>
              have HE := Lib.hid (show Value.bool false = Value.bool F3 ∧ Ext w0 wd5 from ⟨by rw [← hF3.out]; simp, Xwd5.out⟩)
              go_wp2_with fail
              go_meet
              case rel => exact HE.out
            | true =>
              cases tm with
              | true =>
                have HE := Lib.hid (show Value.bool true = Value.bool F3 ∧ Ext w0 wd5 from ⟨by rw [← hF3.out]; simp, Xwd5.out⟩)
                go_wp2_with fail
                go_meet
                case rel => exact HE.out
              | false =>
                go_wp2_with fail
                refine (H9.out _ Xwd5.out).mono ?_
                rintro e wd4 ⟨rfl, hx⟩
                have Xwd4 := Lib.hid (Xwd5.out.trans hx)
                obtain ⟨qa, la, qb⟩ := BA.out _ Xwd4.out
                clear hx
                cases d4 with
                | false =>
                  have HE := Lib.hid (show Value.bool false = Value.bool F3 ∧ Ext w0 wd4 from ⟨by rw [← hF3.out]; simp, Xwd4.out⟩)
                  go_wp2_with fail
                  go_meet
                  case rel => exact HE.out
                | true =>
                  have HE := Lib.hid (show Value.bool true = Value.bool F3 ∧ Ext w0 wd4 from ⟨by rw [← hF3.out]; simp, Xwd4.out⟩)
                  go_wp2_with fail
                  go_meet
                  case rel => exact HE.out
      case rest =>
        clear qa la qb Xwc
        obtain ⟨rfl, hx1⟩ := hcut
        have Xwc := Lib.hid hx1
        clear hx1
        obtain ⟨qa, la, qb⟩ := BA.out _ Xwc.out
        cases F3 with
        | false =>
          have hQ := Lib.hid (show R = 2 by rw [hP.out, if_pos rfl])
          go_wp2_with fail
          go_ret
          exact ⟨by rw [hQ.out]; rfl, X0.out.trans Xwc.out⟩
        | true =>
          have hP2 := Lib.hid (show R = if (tokensP L).2.1 ≠ 0 ∨ (streetP (tokensP L).1 tu).1 ≠ ⟨0, zh, zpre, zname, zsuf, zpost, [], [], [], [], []⟩ then 2 else 0 by rw [hP.out, if_neg (by simp)])
          clear hP hF1 hF2 hF3
          go_wp2_with fail
          refine (HLn.out _).mono ?_
          rintro e w6 ⟨rfl, hx6⟩
          have X6 := Lib.hid (X0.out.trans (Xwc.out.trans hx6))
          have Y6 := Lib.hid (Xwc.out.trans hx6)
          clear hx6
          go_wp2_with fail
          refine (HTk.out _).mono ?_
          rintro e w7 ⟨v, rfl, hown, hx7⟩
          obtain ⟨A, cp, rfl, T7⟩ := own_tokens hown
          have h40 := T7.l40
          have X7 := Lib.hid (X6.out.trans hx7)
          have Y7 := Lib.hid (Y6.out.trans hx7)
          clear hown hx7 HTk HLn X6 Y6
          generalize tokensP L = tk at *
          obtain ⟨l, fe, fa⟩ := tk
          dsimp only at *
          go_upto_region 7 with (fail)
          have XX := (Ext.refl w7).alloc (.cells #[.int .i64 fe, .int .i64 fa] 36)
          have BF := Blk.new w7 36 #[.int .i64 fe, .int .i64 fa]
          have X8 := Lib.hid (X7.out.trans XX)
          have Y8 := Lib.hid (Y7.out.trans XX)
          have T8 := T7.ext XX
          clear T7 XX X7 Y7 qa la qb Xwc
          generalize w7.alloc (.cells #[.int .i64 fe, .int .i64 fa] 36) = w8 at *
          generalize w7.heap.size = gf at *
          have HS8 := Lib.hid (HSt.out A l.length cp l tu w8 T8 X8.out)
          replace BF := Lib.hid BF
          clear HSt T8
          obtain ⟨qa, la, qb⟩ := BA.out _ Y8.out
          obtain ⟨st, hst⟩ : ∃ st, (streetP l tu).1 = st := ⟨_, rfl⟩
          rw [hst] at hP2 HS8
          replace hst := Lib.hid hst
          go_wp2_with fail
          refine HS8.out.mono ?_
          rintro e w9 ⟨An, nn, cn, inV, rfl, _, _, hx9⟩
          have BF9 := BF.out.ext hx9
          have X9 := Lib.hid (X8.out.trans hx9)
          have Y9 := Lib.hid (Y8.out.trans hx9)
          obtain ⟨s1, s2, s3, s4, s5, s6, s7, s8, s9, s10, s11⟩ := st
          rw [adV_eq]
          dsimp only at *
          clear hx9 X8 Y8 BF HS8 qa la qb
          go_upto_region 8 with (fail)
          have XX := (Ext.refl w9).alloc (.cells #[.int .i64 s1, .bool s2, .string ⟨s3.toArray⟩, .string ⟨s4.toArray⟩, .string ⟨s5.toArray⟩, .string ⟨s6.toArray⟩, .string ⟨s7.toArray⟩, .string ⟨s8.toArray⟩, .string ⟨s9.toArray⟩, .string ⟨s10.toArray⟩, .string ⟨s11.toArray⟩] 45)
          have BS := Blk.new w9 45 #[.int .i64 s1, .bool s2, .string ⟨s3.toArray⟩, .string ⟨s4.toArray⟩, .string ⟨s5.toArray⟩, .string ⟨s6.toArray⟩, .string ⟨s7.toArray⟩, .string ⟨s8.toArray⟩, .string ⟨s9.toArray⟩, .string ⟨s10.toArray⟩, .string ⟨s11.toArray⟩]
          have BF10 := BF9.ext XX
          have X10 := Lib.hid (X9.out.trans XX)
          have Y10 := Lib.hid (Y9.out.trans XX)
          clear BF9 XX X9 Y9
          generalize w9.alloc (.cells #[.int .i64 s1, .bool s2, .string ⟨s3.toArray⟩, .string ⟨s4.toArray⟩, .string ⟨s5.toArray⟩, .string ⟨s6.toArray⟩, .string ⟨s7.toArray⟩, .string ⟨s8.toArray⟩, .string ⟨s9.toArray⟩, .string ⟨s10.toArray⟩, .string ⟨s11.toArray⟩] 45) = w10 at *
          generalize w9.heap.size = gs at *
          have c0 : w10.cell? ⟨gf, 0, none⟩ = some (.int .i64 fe) := BF10.cell 0
          have lf := BF10.lt
          have ls := BS.lt
          obtain ⟨qs, _⟩ := BS.cells
          obtain ⟨qa, la, _⟩ := BA.out _ Y10.out
          clear BF10 BS
          by_cases h0 : fe = 0
          · subst h0
            by_cases e1 : s1 = 0
            rotate_left
            · have hQ := Lib.hid (show R = 2 by rw [hP2.out, if_pos (.inr (fun e => e1 (congrArg Ad.n e)))])
              clear hP2
              go_wp2_with fail
              go_ret
              exact ⟨by rw [hQ.out]; rfl, X10.out⟩
            subst e1
            by_cases e2 : s2 = zh
            rotate_left
            · have hQ := Lib.hid (show R = 2 by rw [hP2.out, if_pos (.inr (fun e => e2 (congrArg Ad.half e)))])
              clear hP2
              go_wp2_with fail
              go_ret
              exact ⟨by rw [hQ.out]; rfl, X10.out⟩
            subst e2
            by_cases e3 : s3 = zpre
            rotate_left
            · have hQ := Lib.hid (show R = 2 by rw [hP2.out, if_pos (.inr (fun e => e3 (congrArg Ad.pre e)))])
              clear hP2
              go_wp2_with fail
              go_ret
              exact ⟨by rw [hQ.out]; rfl, X10.out⟩
            subst e3
            by_cases e4 : s4 = zname
            rotate_left
            · have hQ := Lib.hid (show R = 2 by rw [hP2.out, if_pos (.inr (fun e => e4 (congrArg Ad.name e)))])
              clear hP2
              go_wp2_with fail
              go_ret
              exact ⟨by rw [hQ.out]; rfl, X10.out⟩
            subst e4
            by_cases e5 : s5 = zsuf
            rotate_left
            · have hQ := Lib.hid (show R = 2 by rw [hP2.out, if_pos (.inr (fun e => e5 (congrArg Ad.suf e)))])
              clear hP2
              go_wp2_with fail
              go_ret
              exact ⟨by rw [hQ.out]; rfl, X10.out⟩
            subst e5
            by_cases e6 : s6 = zpost
            rotate_left
            · have hQ := Lib.hid (show R = 2 by rw [hP2.out, if_pos (.inr (fun e => e6 (congrArg Ad.post e)))])
              clear hP2
              go_wp2_with fail
              go_ret
              exact ⟨by rw [hQ.out]; rfl, X10.out⟩
            subst e6
            by_cases e7 : s7 = []
            rotate_left
            · have hQ := Lib.hid (show R = 2 by rw [hP2.out, if_pos (.inr (fun e => e7 (congrArg Ad.unit e)))])
              clear hP2
              go_wp2_with fail
              go_ret
              exact ⟨by rw [hQ.out]; rfl, X10.out⟩
            subst e7
            by_cases e8 : s8 = []
            rotate_left
            · have hQ := Lib.hid (show R = 2 by rw [hP2.out, if_pos (.inr (fun e => e8 (congrArg Ad.city e)))])
              clear hP2
              go_wp2_with fail
              go_ret
              exact ⟨by rw [hQ.out]; rfl, X10.out⟩
            subst e8
            by_cases e9 : s9 = []
            rotate_left
            · have hQ := Lib.hid (show R = 2 by rw [hP2.out, if_pos (.inr (fun e => e9 (congrArg Ad.state e)))])
              clear hP2
              go_wp2_with fail
              go_ret
              exact ⟨by rw [hQ.out]; rfl, X10.out⟩
            subst e9
            by_cases e10 : s10 = []
            rotate_left
            · have hQ := Lib.hid (show R = 2 by rw [hP2.out, if_pos (.inr (fun e => e10 (congrArg Ad.zip e)))])
              clear hP2
              go_wp2_with fail
              go_ret
              exact ⟨by rw [hQ.out]; rfl, X10.out⟩
            subst e10
            by_cases e11 : s11 = []
            rotate_left
            · have hQ := Lib.hid (show R = 2 by rw [hP2.out, if_pos (.inr (fun e => e11 (congrArg Ad.more e)))])
              clear hP2
              go_wp2_with fail
              go_ret
              exact ⟨by rw [hQ.out]; rfl, X10.out⟩
            subst e11
            have hQ := Lib.hid (show R = 0 by rw [hP2.out, if_neg (fun h => h.elim (fun h => h rfl) (fun h => h rfl))])
            clear hP2
            go_wp2_with fail
            go_ret
            exact ⟨by rw [hQ.out]; rfl, X10.out⟩
          · have hb : (fe != 0) = true := by simpa using h0
            have hQ := Lib.hid (show R = 2 by rw [hP2.out, if_pos (.inl h0)])
            clear hP2 h0
            go_wp2_with fail
            go_ret
            exact ⟨by rw [hQ.out]; rfl, X10.out⟩
end Go.Proofs.YtjaponmpfdpemaaGreatDoor
