/-
  apportionref17: Normal.
-/
import Derived.Test.YtjneghncmgjkeaaGreatDoorRz43
import Derived.Test.YtjneghncmgjkeaaGreatDoorRz46
import Derived.Test.YtjneghncmgjkeaaGreatDoorRz30
import Derived.Deep.RegionHeld3
import Derived.Test.YtjneghncmgjkeaaGreatDoorRz04
import Derived.ProofKit
import Derived.Deep.Slices
import Derived.Test.YtjneghncmgjkeaaGreatDoorRows
import Derived.Test.YtjneghncmgjkeaaGreatDoorRz09
import Derived.Test.YtjneghncmgjkeaaGreatDoorRz18
import Derived.HandedShaped
import Derived.LaidMore
import Derived.Lay
import Derived.Stop.Joined
import Derived.Lib.LaidU8
import Derived.Shelf.Vars
set_option linter.unusedVariables false
namespace Go.Proofs.YtjneghncmgjkeaaGreatDoor
open Go.RowKit

set_option maxRecDepth 100000 in
set_option maxHeartbeats 2000000 in
theorem rnormal_any (s : Bs) (hs : s.length ≤ 100000) (W : World) (hS : Std W) : Calls Tryz.prog 13 #[.string ⟨s.toArray⟩] W (NmR W (normalP s)) := by
  have HP := Lib.hid (fun w (hx : Ext W w) => rparse_any s hs w)
  have HS := Lib.hid (fun w (hx : Ext W w) => hS.ext hx)
  have HZ := Lib.hid (fun h : (parseP s).2.1 = 0 => parse_zero h)
  have HA := Lib.hid (fun h : (parseP s).2.1 = 0 => parsed_AdS h)
  obtain ⟨T, hT⟩ : ∃ T, normalP s = T := ⟨_, rfl⟩
  rw [hT]
  unfold normalP at hT
  generalize parseP s = r at *
  obtain ⟨a, fe, fa⟩ := r
  dsimp only at *
  replace hT := Lib.hid hT
  clear hS hs
  go_enter Tryz.func13, Tryz.ntmps13
  go_wp2_with fail
  have X1 := (Ext.refl W).alloc (.cells #[.int .i64 0, .int .i64 0] 26)
  have B1 := Blk.new W 26 #[.int .i64 0, .int .i64 0]
  refine (HP.out _ X1).mono ?_
  rintro e w2 ⟨rfl, hx2⟩
  have X2 := Lib.hid (X1.trans hx2)
  replace B1 := Lib.hid (B1.ext hx2)
  clear X1 hx2 HP
  generalize hW : W.heap.size = g3 at *
  have hg3 := Lib.hid (Nat.le_of_eq hW)
  clear hW
  obtain ⟨zn, zh, zpre, zname, zsuf, zpost, zunit, zcity, zstate, zzip, zmore⟩ := a
  rw [adV_eq]
  dsimp only
  go_upto_region 2 with (fail)
  have XX := ((Ext.refl w2).alloc (.cells #[.int .i64 zn, .bool zh, .string ⟨zpre.toArray⟩, .string ⟨zname.toArray⟩, .string ⟨zsuf.toArray⟩, .string ⟨zpost.toArray⟩, .string ⟨zunit.toArray⟩, .string ⟨zcity.toArray⟩, .string ⟨zstate.toArray⟩, .string ⟨zzip.toArray⟩, .string ⟨zmore.toArray⟩] 23)).alloc (.cells #[.int .i64 fe, .int .i64 fa] 26)
  have BA := (Blk.new w2 23 #[.int .i64 zn, .bool zh, .string ⟨zpre.toArray⟩, .string ⟨zname.toArray⟩, .string ⟨zsuf.toArray⟩, .string ⟨zpost.toArray⟩, .string ⟨zunit.toArray⟩, .string ⟨zcity.toArray⟩, .string ⟨zstate.toArray⟩, .string ⟨zzip.toArray⟩, .string ⟨zmore.toArray⟩]).alloc (.cells #[.int .i64 fe, .int .i64 fa] 26)
  have BF := Blk.new (w2.alloc (.cells #[.int .i64 zn, .bool zh, .string ⟨zpre.toArray⟩, .string ⟨zname.toArray⟩, .string ⟨zsuf.toArray⟩, .string ⟨zpost.toArray⟩, .string ⟨zunit.toArray⟩, .string ⟨zcity.toArray⟩, .string ⟨zstate.toArray⟩, .string ⟨zzip.toArray⟩, .string ⟨zmore.toArray⟩] 23)) 26 #[.int .i64 fe, .int .i64 fa]
  rw [show (w2.alloc (.cells #[.int .i64 zn, .bool zh, .string ⟨zpre.toArray⟩, .string ⟨zname.toArray⟩, .string ⟨zsuf.toArray⟩, .string ⟨zpost.toArray⟩, .string ⟨zunit.toArray⟩, .string ⟨zcity.toArray⟩, .string ⟨zstate.toArray⟩, .string ⟨zzip.toArray⟩, .string ⟨zmore.toArray⟩] 23)).heap.size = w2.heap.size + 1 by simp] at BF
  replace B1 := B1.out
  have h35 := Lib.hid (show g3 ≠ w2.heap.size + 1 from fun e => by have := B1.lt; omega)
  have X3 := Lib.hid (X2.out.trans XX)
  have B3 := Lib.hid (B1.ext XX)
  clear XX X2 B1
  generalize (w2.alloc (.cells #[.int .i64 zn, .bool zh, .string ⟨zpre.toArray⟩, .string ⟨zname.toArray⟩, .string ⟨zsuf.toArray⟩, .string ⟨zpost.toArray⟩, .string ⟨zunit.toArray⟩, .string ⟨zcity.toArray⟩, .string ⟨zstate.toArray⟩, .string ⟨zzip.toArray⟩, .string ⟨zmore.toArray⟩] 23)).alloc (.cells #[.int .i64 fe, .int .i64 fa] 26) = w3 at *
  generalize w2.heap.size + 1 = g5 at *
  generalize w2.heap.size = g4 at *
  obtain ⟨c0, c1⟩ : w3.cell? ⟨g5, 0, none⟩ = some (.int .i64 fe) ∧ w3.cell? ⟨g5, 1, none⟩ = some (.int .i64 fa) := ⟨BF.cell 0, BF.cell 1⟩
  have lf := BF.lt
  have h35' := h35.out
  by_cases h0 : fe = 0
  · obtain ⟨s1, s2⟩ := HA.out h0
    have hfa : fa = 0 := (congrArg Prod.snd (HZ.out h0) :)
    have hT2 := Lib.hid (show T = ((textA ⟨zn, zh, zpre, zname, zsuf, zpost, zunit, zcity, zstate, zzip, zmore⟩).1, 0, 0) by rw [← hT.out, if_neg (by simp [h0])])
    have HX := Lib.hid (rtext_any _ s1 s2 w3 (HS.out _ X3.out))
    rw [adV_eq] at HX
    dsimp only at HX
    generalize textA ⟨zn, zh, zpre, zname, zsuf, zpost, zunit, zcity, zstate, zzip, zmore⟩ = tx at *
    obtain ⟨tt, te⟩ := tx
    dsimp only at *
    have hb : (fe != 0) = false := by simpa using h0
    replace h0 := Lib.hid h0
    replace hfa := Lib.hid hfa
    obtain ⟨qa, _⟩ := BA.cells
    have la := BA.lt
    replace BF := Lib.hid BF
    clear BA s1 s2 HA HZ hT HS
    go_wp2_with fail
    refine HX.out.mono ?_
    rintro e w4 ⟨rfl, hx4⟩
    have X4 := Lib.hid (X3.out.trans hx4)
    replace B3 := Lib.hid (B3.out.ext hx4)
    replace BF := BF.out.ext hx4
    clear hx4 c0 c1 lf qa la X3 HX
    obtain ⟨c0, c1⟩ : w4.cell? ⟨g5, 0, none⟩ = some (.int .i64 fe) ∧ w4.cell? ⟨g5, 1, none⟩ = some (.int .i64 fa) := ⟨BF.cell 0, BF.cell 1⟩
    have lf := BF.lt
    clear BF hb
    obtain ⟨q0, q1⟩ := B3.out.cells
    have l3 := B3.out.lt
    have F := Lib.hid (fault_set B3.out (.int .i64 0) (.int .i64 0))
    have XF := Lib.hid ((X4.out.set (p := ⟨g3, 0, none⟩) hg3.out (.int .i64 0)).set (p := ⟨g3, 1, none⟩) hg3.out (.int .i64 0))
    go_wp2_with fail
    exact bodyPost_ret (results_tc rfl rfl (ld_fault F.out)) rfl ⟨by rw [hT2.out]; rfl, XF.out⟩
  · have hb : (fe != 0) = true := by simpa using h0
    have hT2 := Lib.hid (show T = ([], fe, fa) by rw [← hT.out, if_pos h0])
    clear BA BF HA HZ hT HS
    obtain ⟨q0, q1⟩ := B3.out.cells
    have l3 := B3.out.lt
    have F := Lib.hid ((fault_set B3.out (.int .i64 fe) (.int .i64 fa)).ext (Ext.refl _).drew)
    have XF := Lib.hid (((X3.out.set (p := ⟨g3, 0, none⟩) hg3.out (.int .i64 fe)).set (p := ⟨g3, 1, none⟩) hg3.out (.int .i64 fa)).drew)
    go_wp2_with fail
    go_region
    change Exit.then _ _ Exit.normal _ (((w3.setCell ⟨g3, 0, none⟩ (.int .i64 fe)).setCell ⟨g3, 1, none⟩ (.int .i64 fa)).drew)
    clear q0 q1 l3
    generalize ((w3.setCell ⟨g3, 0, none⟩ (.int .i64 fe)).setCell ⟨g3, 1, none⟩ (.int .i64 fa)).drew = wz at *
    go_wp2_with fail
    exact bodyPost_ret (results_tc rfl rfl (ld_fault F.out)) rfl ⟨by rw [hT2.out]; rfl, XF.out⟩
end Go.Proofs.YtjneghncmgjkeaaGreatDoor

set_option linter.unusedVariables false
namespace Go.Proofs.YtjneghncmgjkeaaGreatDoor
open Go.RowKit

theorem itoa_small : Lib.itoa 12 = [49, 50] ∧ Lib.itoa 7 = [55] := by
  refine ⟨?_, ?_⟩
  · unfold Lib.itoa
    rw [if_neg (by decide)]
    show Lib.decDigits 12 = _
    rw [Lib.decDigits, dif_neg (by decide)]
    show Lib.decDigits 1 ++ _ = _
    rw [Lib.decDigits, dif_pos (by decide)]
    rfl
  · unfold Lib.itoa
    rw [if_neg (by decide)]
    show Lib.decDigits 7 = _
    rw [Lib.decDigits, dif_pos (by decide)]
    rfl
theorem normal_of {s w I : Bs} {a : Ad} (hp : parseP s = (a, 0, 0)) (hc : checkP a = 0) (hi : Lib.itoa a.n = I) (hw : I ++ lineP a ++ (if a.unit = [] then [] else 44 :: 32 :: a.unit) ++ [44, 32] ++ a.city ++ [44, 32] ++ a.state ++ 32 :: a.zip ++ (if a.more = [] then [] else 45 :: a.more) = w) : normalP s = (w, 0, 0) := by
  unfold normalP
  rw [hp, if_neg (by simp)]
  dsimp only
  unfold textA
  rw [if_neg (by simp [hc]), hi, hw]
theorem awake_p1 : normalP [49, 50, 32, 110, 111, 114, 116, 104, 32, 109, 97, 105, 110, 32, 115, 116, 114, 101, 101, 116, 32, 97, 112, 116, 32, 52, 44, 32, 83, 112, 114, 105, 110, 103, 102, 105, 101, 108, 100, 44, 32, 73, 108, 108, 105, 110, 111, 105, 115, 32, 54, 50, 55, 48, 49] = ([49, 50, 32, 78, 32, 77, 65, 73, 78, 32, 83, 84, 44, 32, 65, 80, 84, 32, 52, 44, 32, 83, 80, 82, 73, 78, 71, 70, 73, 69, 76, 68, 44, 32, 73, 76, 32, 54, 50, 55, 48, 49], 0, 0) := normal_of (a := ⟨12, false, [78], [77, 65, 73, 78], [83, 84], [], [65, 80, 84, 32, 52], [83, 80, 82, 73, 78, 71, 70, 73, 69, 76, 68], [73, 76], [54, 50, 55, 48, 49], []⟩) (by decide +kernel) (by decide +kernel) itoa_small.1 (by decide +kernel)
theorem awake_p2 : parseP [49, 32, 65, 44, 32, 78, 89, 32, 49, 48, 48, 48, 49] = (Ad.zero, 270, 0) := by decide +kernel
set_option maxRecDepth 100000 in
theorem l17awake_any (W : World) (hS : Std W) : Calls Tryz.prog 14 #[] W fun e w' => e = .returned (.bool true) ∧ Ext W w' := by
  have H1 := Lib.hid (l17normal_any [49, 50, 32, 110, 111, 114, 116, 104, 32, 109, 97, 105, 110, 32, 115, 116, 114, 101, 101, 116, 32, 97, 112, 116, 32, 52, 44, 32, 83, 112, 114, 105, 110, 103, 102, 105, 101, 108, 100, 44, 32, 73, 108, 108, 105, 110, 111, 105, 115, 32, 54, 50, 55, 48, 49] [49, 50, 32, 78, 32, 77, 65, 73, 78, 32, 83, 84, 44, 32, 65, 80, 84, 32, 52, 44, 32, 83, 80, 82, 73, 78, 71, 70, 73, 69, 76, 68, 44, 32, 73, 76, 32, 54, 50, 55, 48, 49] (by decide) awake_p1 W hS)
  have H2 := Lib.hid (fun w (hx : Ext W w) => l17fails_any [49, 32, 65, 44, 32, 78, 89, 32, 49, 48, 48, 48, 49] 270 0 (by decide) awake_p2 w (hS.ext hx))
  clear hS
  go_enter Tryz.func14, Tryz.ntmps14
  go_wp2_with fail
  refine H1.out.mono ?_
  rintro e w1 ⟨rfl, hx1⟩
  have X1 := Lib.hid hx1
  clear hx1
  go_wp2_with fail
  refine (H2.out _ X1.out).mono ?_
  rintro e w2 ⟨rfl, hx2⟩
  have X2 := Lib.hid (X1.out.trans hx2)
  clear hx2
  go_wp2_with fail
  go_ret
  exact ⟨rfl, X2.out⟩
end Go.Proofs.YtjneghncmgjkeaaGreatDoor

set_option linter.unusedVariables false
namespace Go.Proofs.YtjneghncmgjkeaaGreatDoor
open Go.RowKit
end Go.Proofs.YtjneghncmgjkeaaGreatDoor

set_option linter.unusedVariables false
namespace Go.Proofs.YtjneghncmgjkeaaGreatDoor
open Go.RowKit

theorem flt_eq (x y : Int) (w : World) : (binOp .eql 26 (.agg #[.int .i64 x, .int .i64 y]) (.agg #[.int .i64 x, .int .i64 y])).run Tryz.prog w = .ok (.bool true) w := by
  simp [go_sem]
set_option maxRecDepth 100000 in
set_option maxHeartbeats 4000000 in
theorem addrParses_any (s : Bs) (W : World) (hS : Std W) : Calls Tryz.prog 3 #[.string ⟨s.toArray⟩] W fun e w' => e = .returned (.bool true) ∧ Ext W w' := by
  have HA := Lib.hid (fun w (hx : Ext W w) => l17awake_any w (hS.ext hx))
  by_cases hs : s.length ≤ 1000
  rotate_left
  · have d1 : decide ((1000 : Int) < (s.length : Int)) = true := decide_eq_true (by omega)
    have d2 : decide (1000 < s.length) = true := decide_eq_true (by omega)
    clear hS hs HA
    go_enter Tryz.func3, Tryz.ntmps3
    go_wp2_with fail
    go_ret
    exact ⟨rfl, Ext.refl _⟩
  have d1 : decide ((1000 : Int) < (s.length : Int)) = false := decide_eq_false (by omega)
  have d2 : decide (1000 < s.length) = false := decide_eq_false (by omega)
  have HP := Lib.hid (fun w (hx : Ext W w) => parse_any s (by omega) w (hS.ext hx))
  have HQ := Lib.hid (fun w (_ : Ext W w) => rparse_any s (by omega) w)
  have HN := Lib.hid (fun w (hx : Ext W w) => normal_any s (by omega) w (hS.ext hx))
  have HM := Lib.hid (fun w (hx : Ext W w) => rnormal_any s (by omega) w (hS.ext hx))
  generalize parseP s = r at *
  generalize normalP s = t at *
  obtain ⟨a, fe, fa⟩ := r
  obtain ⟨tx, ge, gt⟩ := t
  unfold PsR at HP HQ
  unfold NmR at HN HM
  obtain ⟨zn, zh, zpre, zname, zsuf, zpost, zunit, zcity, zstate, zzip, zmore⟩ := a
  simp only [adV_eq] at HP HQ
  try dsimp only at *
  have hae : ∀ w, (binOp .eql 23 (.agg #[.int .i64 zn, .bool zh, .string ⟨zpre.toArray⟩, .string ⟨zname.toArray⟩, .string ⟨zsuf.toArray⟩, .string ⟨zpost.toArray⟩, .string ⟨zunit.toArray⟩, .string ⟨zcity.toArray⟩, .string ⟨zstate.toArray⟩, .string ⟨zzip.toArray⟩, .string ⟨zmore.toArray⟩]) (.agg #[.int .i64 zn, .bool zh, .string ⟨zpre.toArray⟩, .string ⟨zname.toArray⟩, .string ⟨zsuf.toArray⟩, .string ⟨zpost.toArray⟩, .string ⟨zunit.toArray⟩, .string ⟨zcity.toArray⟩, .string ⟨zstate.toArray⟩, .string ⟨zzip.toArray⟩, .string ⟨zmore.toArray⟩])).run Tryz.prog w = .ok (.bool true) w := fun w => (ad_eq ⟨zn, zh, zpre, zname, zsuf, zpost, zunit, zcity, zstate, zzip, zmore⟩ ⟨zn, zh, zpre, zname, zsuf, zpost, zunit, zcity, zstate, zzip, zmore⟩ w).trans (by simp)
  have hfe := flt_eq fe fa
  have hge := flt_eq ge gt
  clear hS hs
  have X0 := Lib.hid (Ext.refl W)
  go_enter Tryz.func3, Tryz.ntmps3
  go_wp2_with fail
  refine (HP.out _ X0.out).mono ?_
  rintro e w1 ⟨rfl, hx⟩
  go_upto_region 4 with (fail)
  have XX := (((Ext.refl w1).alloc (.cells #[.int .i64 zn, .bool zh, .string ⟨zpre.toArray⟩, .string ⟨zname.toArray⟩, .string ⟨zsuf.toArray⟩, .string ⟨zpost.toArray⟩, .string ⟨zunit.toArray⟩, .string ⟨zcity.toArray⟩, .string ⟨zstate.toArray⟩, .string ⟨zzip.toArray⟩, .string ⟨zmore.toArray⟩] 23)).alloc (.cells #[.int .i64 fe, .int .i64 fa] 26))
  have Bg3 := (Blk.new w1 23 #[.int .i64 zn, .bool zh, .string ⟨zpre.toArray⟩, .string ⟨zname.toArray⟩, .string ⟨zsuf.toArray⟩, .string ⟨zpost.toArray⟩, .string ⟨zunit.toArray⟩, .string ⟨zcity.toArray⟩, .string ⟨zstate.toArray⟩, .string ⟨zzip.toArray⟩, .string ⟨zmore.toArray⟩]).alloc (.cells #[.int .i64 fe, .int .i64 fa] 26)
  have Bg4 := Blk.new (w1.alloc (.cells #[.int .i64 zn, .bool zh, .string ⟨zpre.toArray⟩, .string ⟨zname.toArray⟩, .string ⟨zsuf.toArray⟩, .string ⟨zpost.toArray⟩, .string ⟨zunit.toArray⟩, .string ⟨zcity.toArray⟩, .string ⟨zstate.toArray⟩, .string ⟨zzip.toArray⟩, .string ⟨zmore.toArray⟩] 23)) 26 #[.int .i64 fe, .int .i64 fa]
  rw [show (w1.alloc (.cells #[.int .i64 zn, .bool zh, .string ⟨zpre.toArray⟩, .string ⟨zname.toArray⟩, .string ⟨zsuf.toArray⟩, .string ⟨zpost.toArray⟩, .string ⟨zunit.toArray⟩, .string ⟨zcity.toArray⟩, .string ⟨zstate.toArray⟩, .string ⟨zzip.toArray⟩, .string ⟨zmore.toArray⟩] 23)).heap.size = w1.heap.size + 1 by simp] at Bg4
  have X2 := Lib.hid (X0.out.trans (hx.trans XX))
  clear XX hx X0 HP
  generalize (w1.alloc (.cells #[.int .i64 zn, .bool zh, .string ⟨zpre.toArray⟩, .string ⟨zname.toArray⟩, .string ⟨zsuf.toArray⟩, .string ⟨zpost.toArray⟩, .string ⟨zunit.toArray⟩, .string ⟨zcity.toArray⟩, .string ⟨zstate.toArray⟩, .string ⟨zzip.toArray⟩, .string ⟨zmore.toArray⟩] 23)).alloc (.cells #[.int .i64 fe, .int .i64 fa] 26) = w2 at *
  generalize w1.heap.size + 1 = g4 at *
  generalize w1.heap.size = g3 at *
  replace Bg3 := Lib.hid Bg3
  replace Bg4 := Lib.hid Bg4
  go_wp2_with fail
  refine (HQ.out _ X2.out).mono ?_
  rintro e w3 ⟨rfl, hx⟩
  go_upto_region 5 with (fail)
  have XX := (((Ext.refl w3).alloc (.cells #[.int .i64 zn, .bool zh, .string ⟨zpre.toArray⟩, .string ⟨zname.toArray⟩, .string ⟨zsuf.toArray⟩, .string ⟨zpost.toArray⟩, .string ⟨zunit.toArray⟩, .string ⟨zcity.toArray⟩, .string ⟨zstate.toArray⟩, .string ⟨zzip.toArray⟩, .string ⟨zmore.toArray⟩] 23)).alloc (.cells #[.int .i64 fe, .int .i64 fa] 26))
  have Bg5 := (Blk.new w3 23 #[.int .i64 zn, .bool zh, .string ⟨zpre.toArray⟩, .string ⟨zname.toArray⟩, .string ⟨zsuf.toArray⟩, .string ⟨zpost.toArray⟩, .string ⟨zunit.toArray⟩, .string ⟨zcity.toArray⟩, .string ⟨zstate.toArray⟩, .string ⟨zzip.toArray⟩, .string ⟨zmore.toArray⟩]).alloc (.cells #[.int .i64 fe, .int .i64 fa] 26)
  have Bg6 := Blk.new (w3.alloc (.cells #[.int .i64 zn, .bool zh, .string ⟨zpre.toArray⟩, .string ⟨zname.toArray⟩, .string ⟨zsuf.toArray⟩, .string ⟨zpost.toArray⟩, .string ⟨zunit.toArray⟩, .string ⟨zcity.toArray⟩, .string ⟨zstate.toArray⟩, .string ⟨zzip.toArray⟩, .string ⟨zmore.toArray⟩] 23)) 26 #[.int .i64 fe, .int .i64 fa]
  rw [show (w3.alloc (.cells #[.int .i64 zn, .bool zh, .string ⟨zpre.toArray⟩, .string ⟨zname.toArray⟩, .string ⟨zsuf.toArray⟩, .string ⟨zpost.toArray⟩, .string ⟨zunit.toArray⟩, .string ⟨zcity.toArray⟩, .string ⟨zstate.toArray⟩, .string ⟨zzip.toArray⟩, .string ⟨zmore.toArray⟩] 23)).heap.size = w3.heap.size + 1 by simp] at Bg6
  replace Bg3 := Lib.hid (Bg3.out.ext (hx.trans XX))
  replace Bg4 := Lib.hid (Bg4.out.ext (hx.trans XX))
  have X4 := Lib.hid (X2.out.trans (hx.trans XX))
  clear XX hx X2 HQ
  generalize (w3.alloc (.cells #[.int .i64 zn, .bool zh, .string ⟨zpre.toArray⟩, .string ⟨zname.toArray⟩, .string ⟨zsuf.toArray⟩, .string ⟨zpost.toArray⟩, .string ⟨zunit.toArray⟩, .string ⟨zcity.toArray⟩, .string ⟨zstate.toArray⟩, .string ⟨zzip.toArray⟩, .string ⟨zmore.toArray⟩] 23)).alloc (.cells #[.int .i64 fe, .int .i64 fa] 26) = w4 at *
  generalize w3.heap.size + 1 = g6 at *
  generalize w3.heap.size = g5 at *
  replace Bg5 := Lib.hid Bg5
  replace Bg6 := Lib.hid Bg6
  go_wp2_with fail
  refine (HN.out _ X4.out).mono ?_
  rintro e w5 ⟨rfl, hx⟩
  go_upto_region 6 with (fail)
  have XX := ((Ext.refl w5).alloc (.cells #[.int .i64 ge, .int .i64 gt] 26))
  have Bg8 := Blk.new w5 26 #[.int .i64 ge, .int .i64 gt]
  replace Bg3 := Lib.hid (Bg3.out.ext (hx.trans XX))
  replace Bg4 := Lib.hid (Bg4.out.ext (hx.trans XX))
  replace Bg5 := Lib.hid (Bg5.out.ext (hx.trans XX))
  replace Bg6 := Lib.hid (Bg6.out.ext (hx.trans XX))
  have X6 := Lib.hid (X4.out.trans (hx.trans XX))
  clear XX hx X4 HN
  generalize w5.alloc (.cells #[.int .i64 ge, .int .i64 gt] 26) = w6 at *
  generalize w5.heap.size = g8 at *
  replace Bg8 := Lib.hid Bg8
  go_wp2_with fail
  refine (HM.out _ X6.out).mono ?_
  rintro e w7 ⟨rfl, hx⟩
  go_upto_region 7 with (fail)
  have XX := ((Ext.refl w7).alloc (.cells #[.int .i64 ge, .int .i64 gt] 26))
  have Bg10 := Blk.new w7 26 #[.int .i64 ge, .int .i64 gt]
  replace Bg3 := Lib.hid (Bg3.out.ext (hx.trans XX))
  replace Bg4 := Lib.hid (Bg4.out.ext (hx.trans XX))
  replace Bg5 := Lib.hid (Bg5.out.ext (hx.trans XX))
  replace Bg6 := Lib.hid (Bg6.out.ext (hx.trans XX))
  replace Bg8 := Lib.hid (Bg8.out.ext (hx.trans XX))
  have X8 := Lib.hid (X6.out.trans (hx.trans XX))
  clear XX hx X6 HM
  generalize w7.alloc (.cells #[.int .i64 ge, .int .i64 gt] 26) = w8 at *
  generalize w7.heap.size = g10 at *
  replace Bg10 := Lib.hid Bg10
  obtain ⟨q3, _⟩ := Bg3.out.cells
  obtain ⟨q5, _⟩ := Bg5.out.cells
  obtain ⟨q4, _⟩ := Bg4.out.cells
  obtain ⟨q6, _⟩ := Bg6.out.cells
  obtain ⟨q8, _⟩ := Bg8.out.cells
  obtain ⟨q10, _⟩ := Bg10.out.cells
  have l3 := Bg3.out.lt
  have l5 := Bg5.out.lt
  have l4 := Bg4.out.lt
  have l6 := Bg6.out.lt
  have l8 := Bg8.out.lt
  have l10 := Bg10.out.lt
  go_wp2_with fail
  refine (HA.out _ X8.out).mono ?_
  rintro e w9 ⟨rfl, hx⟩
  have X9 := Lib.hid (X8.out.trans hx)
  clear hx q3 q4 q5 q6 q8 q10 l3 l4 l5 l6 l8 l10
  go_wp2_with fail
  go_ret
  exact ⟨rfl, X9.out⟩
end Go.Proofs.YtjneghncmgjkeaaGreatDoor

set_option linter.unusedVariables false
namespace Go.Proofs.YtjneghncmgjkeaaGreatDoor
open Go.RowKit Go.ChangeShapes Go.WideShapes Go.Deep

/-- Whatever reads as a value of type t has cells of this shape. -/
structure Opens (P : Program) (t : TypeId) (S : World → List Value → Prop) : Prop where
  run : ∀ {H : Type} (enc : TypeId × Value → H) (w : World) (base : Nat) (spare : Nat → Bool) (held : Bool) (fuel : Nat) (cs : List Value) (x : DataW H × List MemPlace),
    DataW.trod enc P w base spare held fuel t cs = some x → S w cs
theorem Opens.mono {P : Program} {t : TypeId} {S S' : World → List Value → Prop} (h : Opens P t S) (hs : ∀ w cs, S w cs → S' w cs) : Opens P t S' :=
  ⟨fun enc w base spare held fuel cs x hx => hs _ _ (h.run enc w base spare held fuel cs x hx)⟩
theorem opens_string {P : Program} {t : TypeId} (ht : P.underlying t = some .string) : Opens P t (fun _ cs => ∃ s : ByteArray, cs = [.string s] ∧ s.size ≤ maxLen) := by
  refine ⟨fun {H} enc w base spare held fuel cs x hx => ?_⟩
  obtain ⟨n, h1, _, h3⟩ := DataW.trod_string ht hx
  exact ⟨n, h1, h3⟩
inductive OpensAll (P : Program) : Nat → List (TypeId × Nat) → List (Nat × (World → List Value → Prop)) → Prop
  | nil {n : Nat} : OpensAll P n [] []
  | cons {n : Nat} (k : Nat) {t : TypeId} {S : World → List Value → Prop} {ts : List (TypeId × Nat)} {l : List (Nat × (World → List Value → Prop))} (h : Opens P t S) (hk : P.cellsOf t = k) (r : OpensAll P (n + k) ts l) : OpensAll P n ((t, n) :: ts) ((k, S) :: l)
/-- What an argument's reading says. -/
theorem Opens.arg {P : Program} {t : TypeId} {S : World → List Value → Prop} (h : Opens P t S) {H : Type} {enc : TypeId × Value → H} {w : World} {base : Nat} {spare : Nat → Bool} {held : Bool} {v : Value} {d : DataW H} {ps : List MemPlace}
    (ht : DataW.Trod enc P w base spare held t v d ps) : S w v.cells.toList := by
  obtain ⟨fuel, hf⟩ := ht
  exact h.run enc w base spare held fuel _ _ hf
theorem trod_below {P : Program} {t : TypeId} {H : Type} {enc : TypeId × Value → H} {w : World} {base : Nat} {spare : Nat → Bool} {held : Bool} {v : Value} {d : DataW H} {ps : List MemPlace}
    (ht : DataW.Trod enc P w base spare held t v d ps) : ∀ x ∈ ps, x.block < w.heap.size := by
  obtain ⟨m, hm⟩ := ht
  exact DataW.trod_lt m _ _ _ hm
end Go.Proofs.YtjneghncmgjkeaaGreatDoor

set_option linter.unusedVariables false
namespace Go.Proofs.YtjneghncmgjkeaaGreatDoor
theorem Tryz.own : ownKnob Tryz.prog.godebug = none := by kernel_rfl
theorem Tryz.laidOut : laidOutB Tryz.prog = true := by kernel_rfl
end Go.Proofs.YtjneghncmgjkeaaGreatDoor

set_option linter.unusedVariables false
namespace Go.Proofs.YtjneghncmgjkeaaGreatDoor
open Go.RowKit Go.ChangeShapes Go.WideShapes

/-- 'returnsInHanded_of_change_and' with the world's shape kept for the contract. -/
theorem returnsShaped {H : Type} {enc : TypeId × Value → H} {a : Assume} {C : Checked} {os : Os} {f : FuncId} {fn : Func} {s : ChangeSpec} {conds : List PathCond} {apart fresh handsOn again : Bool} {X : World → Array Value → Prop}
    (hX : ∀ (w w' : World) (args : Array Value), w.heap = w'.heap → X w args → X w' args)
    (own : ownKnob C.prog.godebug = none) (started : os.Started) (noInit : C.prog.inits.idxOf? f = none) (hfn : C.prog.funcs[f]? = some fn)
    (witness : ∃ (w : World) (tape : Tape) (i : Input), w.os = os ∧ (w.forCall tape i).Shaped C.prog ∧ i.vars = [] ∧ Input.okWide C.prog (w.forCall tape i) .any w.heap.size f i ∧
      ((s.pre enc C.prog fn conds apart (w.forCall tape i).memory i.args ∧ X (w.forCall tape i).memory i.args) ∧ sizedMet enc C.prog fn (OpenSpec.ofChange s) apart (w.forCall tape i).memory i.args) ∧ a.holds C.prog (lone (Frame.enter C.prog f i.args .normal) [] (w.forCall tape i)))
    (contract : ∀ (W : World) (base : Nat) (args : Array Value) (ds gs : List (DataW H)) (before : List MemPlace),
      (∀ (j : Nat) t v, fn.params[j]? = some t → args[j]? = some v → Value.okWide C.prog W .any base t v) →
      DataW.Whole enc C.prog fn.params.toList s.vars apart W args.toList ds gs before →
      conds.all (PathCond.test C.prog ⟨fn.params.toList, ds, s.plain.varTypes C.prog, gs⟩) = true →
      (DataW.weightsEach C.prog (fn.params.toList ++ s.plain.varTypes C.prog) (ds ++ gs)).all (· ≤ reachBytes) = true → X W args → W.ShapedOpen C.prog →
      a.holds C.prog (lone (Frame.enter C.prog f args .normal) [] W) →
      Calls C.prog f args W fun e W' => ∃ v, e = .returned v ∧ s.post enc C.prog fn apart fresh handsOn again W args v W') :
    ReturnsInHanded a C os f .any (fun w args => (s.pre enc C.prog fn conds apart w args ∧ X w args) ∧ sizedMet enc C.prog fn (OpenSpec.ofChange s) apart w args) (s.post enc C.prog fn apart fresh handsOn again) := by
  refine returnsInHanded_of_calls own started noInit witness ?_
  intro w tape i _ hsh _ hok hpre hholds
  obtain ⟨_, _, _, fn', hfn', _, _, _, _, hval⟩ := hok
  have e : fn' = fn := Option.some.inj (hfn'.symm.trans hfn)
  subst e
  obtain ⟨⟨⟨ds, gs, before, hw, hc⟩, hx⟩, hz⟩ := hpre
  have hw' := DataW.Whole.of_heap (w' := w.forCall tape i) (by rfl) hw
  refine (contract (w.forCall tape i) w.heap.size i.args ds gs before hval hw' hc (hz.weights hw) (hX _ _ _ (by rfl) hx) hsh hholds).mono fun e W' ⟨v, he, hp⟩ => ?_
  subst he
  exact ChangeSpec.post_blind hp
theorem opens_str : Opens Tryz.prog 9 (fun _ cs => ∃ s : Bs, cs = [.string ⟨s.toArray⟩] ∧ s.length ≤ maxLen) :=
  (opens_string Tryz.underlying9).mono fun _ cs ⟨s, h, hl⟩ => ⟨s.data.toList, by rw [h], by
    have : s.data.toList.length = s.size := Array.length_toList
    rw [this]
    exact hl⟩
/-- The row's list. -/
def laid9 : List (String × DataW Unit) := [("math/bits.deBruijn32tab", Rows.laid_math_bits_deBruijn32tab), ("math/bits.deBruijn64tab", Rows.laid_math_bits_deBruijn64tab), ("internal/strconv.uint64pow10", Rows.laid_internal_strconv_uint64pow10), ("unicode/utf8.acceptRanges", Rows.laid_unicode_utf8_acceptRanges), ("strconv.ErrRange", Rows.laid_strconv_ErrRange), ("strconv.ErrSyntax", Rows.laid_strconv_ErrSyntax), ("unicode.White_Space", Rows.laid_unicode_White_Space), ("strings.asciiSpace", Rows.laid_strings_asciiSpace), ("unicode/utf8.first", Rows.laid_unicode_utf8_first)]
theorem all_met9 (os : Os) (args : Array Value) : laidMetH Tryz.prog laid9 ((World.laidAll Tryz.prog os laid9).forCall (fun _ _ => 0) ⟨#[], args, []⟩).memory := by
  rw [MakeChecks.laidMetH_plain _ _ _ (by kernel_rfl)]
  exact laidMet_laidAll _ (by kernel_rfl) (by kernel_rfl)
theorem shaped9 (os : Os) : (World.laidAll Tryz.prog os laid9).Shaped Tryz.prog := World.shaped_of_ZipB (by kernel_rfl) (by kernel_rfl)
theorem iface_cell {W : World} {n : String} {g : Nat} {name : String} {d : DataW Unit} {ms : Array (String × TypeId)} {t : TypeId} (hg : Tryz.prog.globalNamed n = some g) (ht : (Tryz.prog.globals[g]?).map (·.type) = some t) (hi : Tryz.prog.underlying t = some (.interface ms)) (h : Lib.VarReads Tryz.prog W n (.iface name d)) :
    ∃ v, W.cell? ⟨g, 0, none⟩ = some v ∧ (v = .nilIface ∨ ∃ te pe, v = .iface te pe) := by
  obtain ⟨g', t', cs, fuel, p, hg', ht', hv, hd⟩ := h
  obtain rfl := Option.some.inj (hg.symm.trans hg')
  obtain rfl := Option.some.inj (ht.symm.trans ht')
  obtain ⟨_, u, v, e, _, _⟩ := iface_of_trod hi hd
  refine ⟨.iface u v, ?_, .inr ⟨u, v, rfl⟩⟩
  rw [var?_cell hg hv 0]
  have : cs[0]? = cs.toList[0]? := by simp
  rw [this, e]
  rfl
theorem std_of_laid {W : World} (h : laidMetH Tryz.prog laid9 W) (hsh : W.ShapedOpen Tryz.prog) : Std W := by
  rw [MakeChecks.laidMetH_plain _ _ _ (by kernel_rfl)] at h
  have rd := fun {n : String} {d : DataW Unit} (hm : (n, d) ∈ laid9) => Lib.laidMet.reads h hm
  refine ⟨?_, ?_, ?_, ?_, ?_⟩
  · obtain ⟨g', t', cs, fuel, p, hg', ht', hvar, hd⟩ := rd (n := "internal/strconv.uint64pow10") (d := Rows.laid_internal_strconv_uint64pow10) (by simp [laid9])
    have hg : Tryz.prog.globalNamed "internal/strconv.uint64pow10" = some 4 := by kernel_rfl
    have hty : (Tryz.prog.globals[4]?).map (·.type) = some 178 := by kernel_rfl
    obtain rfl := Option.some.inj (hg.symm.trans hg')
    obtain rfl := Option.some.inj (hty.symm.trans ht')
    have e : (Rows.laid_internal_strconv_uint64pow10 : DataW Unit) = Lib.tabData .u64 Lib.pow10Tab := by kernel_rfl
    rw [e] at hd
    unfold Lib.TabIs
    rw [hvar, ← Lib.cells_of_tab (zs := Lib.pow10Tab) Tryz.underlying178 Tryz.underlying141 (by kernel_rfl) (by kernel_rfl) hd]
  · obtain ⟨g', t', cs, fuel, p, hg', ht', hvar, hd⟩ := rd (n := "strings.asciiSpace") (d := Rows.laid_strings_asciiSpace) (by simp [laid9])
    have hg : Tryz.prog.globalNamed "strings.asciiSpace" = some 3 := by kernel_rfl
    have hty : (Tryz.prog.globals[3]?).map (·.type) = some 92 := by kernel_rfl
    obtain rfl := Option.some.inj (hg.symm.trans hg')
    obtain rfl := Option.some.inj (hty.symm.trans ht')
    have e : (Rows.laid_strings_asciiSpace : DataW Unit) = Lib.tabData .u8 Lib.asciiSpaceTab := by kernel_rfl
    rw [e] at hd
    unfold Lib.TabIs
    rw [hvar, ← Lib.cells_of_tab (zs := Lib.asciiSpaceTab) Tryz.underlying92 Tryz.underlying5 (by kernel_rfl) (by kernel_rfl) hd]
  · exact cell_of_shapedOpen_int (t := 3) (zero := #[.int .i64 0]) hsh (of_decide_eq_true (by kernel_rfl)) (by kernel_rfl) rfl (by kernel_rfl) (by kernel_rfl) Tryz.underlying3
  · exact iface_cell (n := "strconv.ErrSyntax") (t := 60) (by kernel_rfl) (by kernel_rfl) Tryz.underlying60 (rd (d := Rows.laid_strconv_ErrSyntax) (by simp [laid9]))
  · exact iface_cell (n := "strconv.ErrRange") (t := 60) (by kernel_rfl) (by kernel_rfl) Tryz.underlying60 (rd (d := Rows.laid_strconv_ErrRange) (by simp [laid9]))
end Go.Proofs.YtjneghncmgjkeaaGreatDoor
