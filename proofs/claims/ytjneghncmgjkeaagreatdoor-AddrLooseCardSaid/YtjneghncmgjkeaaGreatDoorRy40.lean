/-
  addr: Parse, of any text.
-/
import Derived.Test.YtjneghncmgjkeaaGreatDoorRy34
import Derived.Test.YtjneghncmgjkeaaGreatDoorRy38
import Derived.Test.YtjneghncmgjkeaaGreatDoorRy39
import Derived.Test.YtjneghncmgjkeaaGreatDoorRy33
set_option linter.unusedVariables false
namespace Go.Proofs.YtjneghncmgjkeaaGreatDoor
open Go.RowKit

theorem parse_any (s : Bs) (hs : s.length ≤ 100000) (W : World) (hS : Std W) : Calls Tryz.prog 10 #[.string ⟨s.toArray⟩] W (PsR W (parseP s)) := by
  by_cases h0 : (tokensP s).2.1 = 0
  · by_cases hn : (partsP (tokensP s).1).length - 1 = 2 ∨ (partsP (tokensP s).1).length - 1 = 3
    · match hp : partsP (tokensP s).1 with
      | [] => rw [hp] at hn; simp at hn
      | [_] => rw [hp] at hn; simp at hn
      | [_, _] => rw [hp] at hn; simp at hn
      | [p0, p1, p2] => exact parse_2 s hs W hS h0 hp
      | [p0, p1, p2, p3] => exact parse_3 s hs W hS h0 hp
      | _ :: _ :: _ :: _ :: _ :: _ => rw [hp] at hn; simp at hn
    · exact parse_n s hs W hS h0 hn
  · exact parse_f s hs W hS h0
end Go.Proofs.YtjneghncmgjkeaaGreatDoor

set_option linter.unusedVariables false
namespace Go.Proofs.YtjneghncmgjkeaaGreatDoor
open Go.RowKit

def ZeroAt (r : Ad × Int × Int) : Prop := r.2.1 = 0 → r.2.2 = 0
theorem zeroAt_ite {c : Prop} [Decidable c] {e at_ : Int} {r : Ad × Int × Int} (he : e ≠ 0) (h : ZeroAt r) : ZeroAt (if c then errA e at_ else r) := by
  by_cases hc : c
  · rw [if_pos hc]; exact fun h => absurd h he
  · rw [if_neg hc]; exact h
theorem pts_zero (p : List (List Tok)) (last : Nat) : ZeroAt (parsePts p last) :=
  zeroAt_ite (by decide) (zeroAt_ite (by decide) (zeroAt_ite (by decide) (zeroAt_ite (by decide) (zeroAt_ite (by decide) (zeroAt_ite (by decide) (zeroAt_ite (by decide) (zeroAt_ite (by decide) (fun _ => rfl))))))))
theorem parse_zero {s : Bs} (h : (parseP s).2.1 = 0) : (parseP s).2 = (0, 0) := by
  unfold parseP at h ⊢
  dsimp only at h ⊢
  by_cases h1 : (tokensP s).2.1 ≠ 0
  · rw [if_pos h1] at h
    exact absurd h h1
  · rw [if_neg h1] at h ⊢
    have := pts_zero _ _ h
    exact Prod.ext h this
/-- What Normal hands back. -/
def NmR (W : World) (r : Bs × Int × Int) (e : Ending) (w' : World) : Prop := e = .returned (.tuple #[.string ⟨r.1.toArray⟩, .agg #[.int .i64 r.2.1, .int .i64 r.2.2]]) ∧ Ext W w'
theorem parsed_AdS {s : Bs} (h : (parseP s).2.1 = 0) : AdS (parseP s).1 1000 ∧ i64 (parseP s).1.n := by
  have hc := checkP_ok (parse_check h)
  have hB := txtB (parse_check h)
  have hl := hB.l
  rw [lineP_eq] at hl
  simp only [List.length_append] at hl
  have al : ∀ s : Bs, s.length ≤ (aheadP s).length := fun s => by
    unfold aheadP
    by_cases h : s = []
    · rw [if_pos h, h]; exact Nat.le_refl _
    · rw [if_neg h]; simp
  have a1 := al (parseP s).1.pre
  have a2 := al (parseP s).1.name
  have a3 := al (parseP s).1.suf
  have a4 := al (parseP s).1.post
  have b1 := hB.u
  have b2 := hB.c
  have b3 := hB.s
  have b4 := hB.z
  have b5 := hB.m
  have n1 := hc.n1
  have n2 := hc.n2
  exact ⟨⟨by omega, by omega, by omega, by omega, by omega, by omega, by omega, by omega, by omega⟩, by unfold i64; omega⟩
set_option maxRecDepth 100000 in
set_option maxHeartbeats 2000000 in
theorem normal_any (s : Bs) (hs : s.length ≤ 100000) (W : World) (hS : Std W) : Calls Tryz.prog 12 #[.string ⟨s.toArray⟩] W (NmR W (normalP s)) := by
  have HP := Lib.hid (fun w (hx : Ext W w) => parse_any s hs w (hS.ext hx))
  have HS := Lib.hid (fun w (hx : Ext W w) => hS.ext hx)
  have HZ := Lib.hid (fun h : (parseP s).2.1 = 0 => parse_zero h)
  have HA := Lib.hid (fun h : (parseP s).2.1 = 0 => parsed_AdS h)
  obtain ⟨T, hT⟩ : ∃ T, normalP s = T := ⟨_, rfl⟩
  rw [hT]
  unfold normalP at hT
  generalize parseP s = r at *
  obtain ⟨a, fe, fa⟩ := r
  dsimp only at *
  replace hT := Lib.hid hT
  clear hS hs
  go_enter Tryz.func12, Tryz.ntmps12
  go_wp2_with fail
  have X1 := (Ext.refl W).alloc (.cells #[.int .i64 0, .int .i64 0] 26)
  have B1 := Blk.new W 26 #[.int .i64 0, .int .i64 0]
  refine (HP.out _ X1).mono ?_
  rintro e w2 ⟨rfl, hx2⟩
  have X2 := Lib.hid (X1.trans hx2)
  replace B1 := Lib.hid (B1.ext hx2)
  clear X1 hx2 HP
  generalize hW : W.heap.size = g3 at *
  have hg3 := Lib.hid (Nat.le_of_eq hW)
  clear hW
  obtain ⟨zn, zh, zpre, zname, zsuf, zpost, zunit, zcity, zstate, zzip, zmore⟩ := a
  rw [adV_eq]
  dsimp only
  go_upto_region 2 with (fail)
  have XX := ((Ext.refl w2).alloc (.cells #[.int .i64 zn, .bool zh, .string ⟨zpre.toArray⟩, .string ⟨zname.toArray⟩, .string ⟨zsuf.toArray⟩, .string ⟨zpost.toArray⟩, .string ⟨zunit.toArray⟩, .string ⟨zcity.toArray⟩, .string ⟨zstate.toArray⟩, .string ⟨zzip.toArray⟩, .string ⟨zmore.toArray⟩] 23)).alloc (.cells #[.int .i64 fe, .int .i64 fa] 26)
  have BA := (Blk.new w2 23 #[.int .i64 zn, .bool zh, .string ⟨zpre.toArray⟩, .string ⟨zname.toArray⟩, .string ⟨zsuf.toArray⟩, .string ⟨zpost.toArray⟩, .string ⟨zunit.toArray⟩, .string ⟨zcity.toArray⟩, .string ⟨zstate.toArray⟩, .string ⟨zzip.toArray⟩, .string ⟨zmore.toArray⟩]).alloc (.cells #[.int .i64 fe, .int .i64 fa] 26)
  have BF := Blk.new (w2.alloc (.cells #[.int .i64 zn, .bool zh, .string ⟨zpre.toArray⟩, .string ⟨zname.toArray⟩, .string ⟨zsuf.toArray⟩, .string ⟨zpost.toArray⟩, .string ⟨zunit.toArray⟩, .string ⟨zcity.toArray⟩, .string ⟨zstate.toArray⟩, .string ⟨zzip.toArray⟩, .string ⟨zmore.toArray⟩] 23)) 26 #[.int .i64 fe, .int .i64 fa]
  rw [show (w2.alloc (.cells #[.int .i64 zn, .bool zh, .string ⟨zpre.toArray⟩, .string ⟨zname.toArray⟩, .string ⟨zsuf.toArray⟩, .string ⟨zpost.toArray⟩, .string ⟨zunit.toArray⟩, .string ⟨zcity.toArray⟩, .string ⟨zstate.toArray⟩, .string ⟨zzip.toArray⟩, .string ⟨zmore.toArray⟩] 23)).heap.size = w2.heap.size + 1 by simp] at BF
  replace B1 := B1.out
  have h35 := Lib.hid (show g3 ≠ w2.heap.size + 1 from fun e => by have := B1.lt; omega)
  have X3 := Lib.hid (X2.out.trans XX)
  have B3 := Lib.hid (B1.ext XX)
  clear XX X2 B1
  generalize (w2.alloc (.cells #[.int .i64 zn, .bool zh, .string ⟨zpre.toArray⟩, .string ⟨zname.toArray⟩, .string ⟨zsuf.toArray⟩, .string ⟨zpost.toArray⟩, .string ⟨zunit.toArray⟩, .string ⟨zcity.toArray⟩, .string ⟨zstate.toArray⟩, .string ⟨zzip.toArray⟩, .string ⟨zmore.toArray⟩] 23)).alloc (.cells #[.int .i64 fe, .int .i64 fa] 26) = w3 at *
  generalize w2.heap.size + 1 = g5 at *
  generalize w2.heap.size = g4 at *
  obtain ⟨c0, c1⟩ : w3.cell? ⟨g5, 0, none⟩ = some (.int .i64 fe) ∧ w3.cell? ⟨g5, 1, none⟩ = some (.int .i64 fa) := ⟨BF.cell 0, BF.cell 1⟩
  have lf := BF.lt
  have h35' := h35.out
  by_cases h0 : fe = 0
  · obtain ⟨s1, s2⟩ := HA.out h0
    have hfa : fa = 0 := (congrArg Prod.snd (HZ.out h0) :)
    have hT2 := Lib.hid (show T = ((textA ⟨zn, zh, zpre, zname, zsuf, zpost, zunit, zcity, zstate, zzip, zmore⟩).1, 0, 0) by rw [← hT.out, if_neg (by simp [h0])])
    have HX := Lib.hid (addText_any _ s1 s2 w3 (HS.out _ X3.out))
    rw [adV_eq] at HX
    dsimp only at HX
    generalize textA ⟨zn, zh, zpre, zname, zsuf, zpost, zunit, zcity, zstate, zzip, zmore⟩ = tx at *
    obtain ⟨tt, te⟩ := tx
    dsimp only at *
    have hb : (fe != 0) = false := by simpa using h0
    replace h0 := Lib.hid h0
    replace hfa := Lib.hid hfa
    obtain ⟨qa, _⟩ := BA.cells
    have la := BA.lt
    replace BF := Lib.hid BF
    clear BA s1 s2 HA HZ hT HS
    go_wp2_with fail
    refine HX.out.mono ?_
    rintro e w4 ⟨rfl, hx4⟩
    have X4 := Lib.hid (X3.out.trans hx4)
    replace B3 := Lib.hid (B3.out.ext hx4)
    replace BF := BF.out.ext hx4
    clear hx4 c0 c1 lf qa la X3 HX
    obtain ⟨c0, c1⟩ : w4.cell? ⟨g5, 0, none⟩ = some (.int .i64 fe) ∧ w4.cell? ⟨g5, 1, none⟩ = some (.int .i64 fa) := ⟨BF.cell 0, BF.cell 1⟩
    have lf := BF.lt
    clear BF hb
    obtain ⟨q0, q1⟩ := B3.out.cells
    have l3 := B3.out.lt
    have F := Lib.hid ((fault_set B3.out (.int .i64 fe) (.int .i64 fa)).ext (Ext.refl _).drew)
    have XF := Lib.hid (((X4.out.set (p := ⟨g3, 0, none⟩) hg3.out (.int .i64 fe)).set (p := ⟨g3, 1, none⟩) hg3.out (.int .i64 fa)).drew)
    go_wp2_with fail
    go_region
    change Exit.then _ _ Exit.normal _ (((w4.setCell ⟨g3, 0, none⟩ (.int .i64 fe)).setCell ⟨g3, 1, none⟩ (.int .i64 fa)).drew)
    clear q0 q1 l3
    generalize ((w4.setCell ⟨g3, 0, none⟩ (.int .i64 fe)).setCell ⟨g3, 1, none⟩ (.int .i64 fa)).drew = wz at *
    go_wp2_with fail
    exact bodyPost_ret (results_tc rfl rfl (ld_fault F.out)) rfl ⟨by rw [hT2.out]; show Ending.returned (.tuple #[.string ⟨tt.toArray⟩, .agg #[.int .i64 fe, .int .i64 fa]]) = _; rw [h0.out, hfa.out], XF.out⟩
  · have hb : (fe != 0) = true := by simpa using h0
    have hT2 := Lib.hid (show T = ([], fe, fa) by rw [← hT.out, if_pos h0])
    clear BA BF HA HZ hT HS
    obtain ⟨q0, q1⟩ := B3.out.cells
    have l3 := B3.out.lt
    have F := Lib.hid ((fault_set B3.out (.int .i64 fe) (.int .i64 fa)).ext (Ext.refl _).drew)
    have XF := Lib.hid (((X3.out.set (p := ⟨g3, 0, none⟩) hg3.out (.int .i64 fe)).set (p := ⟨g3, 1, none⟩) hg3.out (.int .i64 fa)).drew)
    go_wp2_with fail
    go_region
    change Exit.then _ _ Exit.normal _ (((w3.setCell ⟨g3, 0, none⟩ (.int .i64 fe)).setCell ⟨g3, 1, none⟩ (.int .i64 fa)).drew)
    clear q0 q1 l3
    generalize ((w3.setCell ⟨g3, 0, none⟩ (.int .i64 fe)).setCell ⟨g3, 1, none⟩ (.int .i64 fa)).drew = wz at *
    go_wp2_with fail
    exact bodyPost_ret (results_tc rfl rfl (ld_fault F.out)) rfl ⟨by rw [hT2.out]; rfl, XF.out⟩
end Go.Proofs.YtjneghncmgjkeaaGreatDoor
