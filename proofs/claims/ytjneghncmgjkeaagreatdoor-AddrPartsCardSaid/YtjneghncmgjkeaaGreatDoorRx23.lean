/-
  addr: the cursor's front.
-/
import Derived.Test.YtjneghncmgjkeaaGreatDoorRx22
set_option linter.unusedVariables false
namespace Go.Proofs.YtjneghncmgjkeaaGreatDoor
open Go.RowKit

set_option maxRecDepth 100000 in
theorem cfront_any (l : List Tok) (kind : Int) (hk : kindOk kind) (g B : Nat) (W0 W : World) (h : CurAt W g B l) (hS : Std W0) (hX0 : Ext W0 W) (hg0 : W0.heap.size ≤ g) :
    Calls Tryz.prog 72 #[.pointer (some ⟨g, 0, none⟩), .int .i64 kind] W fun e w' => e = .returned (.string ⟨(frontP l kind).2.toArray⟩) ∧ CurAt w' g B (frontP l kind).1 ∧ W.grownBy w' (some g) := by
  obtain ⟨A, n, cap, hB, hT, hlt⟩ := h
  have c0 : W.cell? ⟨g, 0, none⟩ = some (.slice A n cap) := hB.cell 0
  have lg := hB.lt
  have hn := hT.len
  have h40 := hT.l40
  by_cases h2 : n < 2
  · have hd : decide ((n : Int) < 2) = true := by simp; omega
    have hR := Lib.hid (show frontP l kind = (l, []) by unfold frontP; rw [if_neg (by omega)])
    have HC := Lib.hid (show CurAt W g B l from ⟨A, n, cap, hB, hT, hlt⟩)
    clear hB hT
    go_enter Tryz.func72, Tryz.ntmps72
    go_wp2_with fail
    go_ret
    exact ⟨by rw [hR.out]; rfl, by rw [hR.out]; exact HC.out, World.grownBy.refl _ _⟩
  · have hd : decide ((n : Int) < 2) = false := by simp; omega
    obtain ⟨m, hm⟩ : ∃ m, n = m + 1 := ⟨n - 1, by omega⟩
    have h0l : 0 < l.length := by omega
    have hhead : l.headD ⟨0, []⟩ = l[0] := by
      cases l with
      | nil => simp at h0l
      | cons t l => rfl
    have hP : frontP l kind = if shortT l[0] kind ≠ [] then (l.tail, shortT l[0] kind) else (l, []) := by
      unfold frontP
      rw [hhead]
      by_cases hs : shortT l[0] kind ≠ []
      · rw [if_pos ⟨by omega, hs⟩, if_pos hs]
      · rw [if_neg (fun e => hs e.2), if_neg hs]
    have HL := Lib.hid (fun w (hx : Ext W w) => first_any l A cap g w (by rw [hn]; exact hB.ext hx) (by have := (hT.rd.ext hx); rw [← hn] at this; exact this) h0l (by omega))
    have HSh := Lib.hid (fun w (hx : Ext W0 w) => shortTok_any l[0] kind hk (by have := hT.sm l[0] (List.getElem_mem h0l); omega) w (hS.ext hx))
    obtain ⟨b, o, rfl, hbg⟩ := hT.ne (x := .nilIface) (y := .nilIface) hB h0l
    have hB' := Lib.hid hB
    have hT' := Lib.hid hT
    have lmax := hT.le
    clear hB hT hhead
    unfold tokV at HL
    generalize shortT l[0] kind = sh at *
    generalize l[0].k = tk at *
    generalize l[0].t = tt at *
    have l1 : (1 : Int) ≤ (n : Int) := by omega
    replace hm := Lib.hid hm
    go_enter Tryz.func72, Tryz.ntmps72
    go_wp2_with fail
    refine (HL.out _ (Ext.refl _)).mono ?_
    rintro e w1 ⟨rfl, hx1⟩
    go_wp2_with fail
    refine (HSh.out _ (hX0.trans hx1)).mono ?_
    rintro e w2 ⟨rfl, hx2⟩
    have X2 := hx1.trans hx2
    by_cases hs0 : sh = []
    · have hse : sh.isEmpty = true := by rw [hs0]; rfl
      have hR := Lib.hid (show frontP l kind = (l, []) by rw [hP, if_neg (fun e => e hs0)])
      clear hP hs0 hx1 hx2 HL HSh
      go_wp2_with fail
      go_ret
      exact ⟨by rw [hR.out]; rfl, by rw [hR.out]; exact ⟨_, n, cap, hB'.out.ext X2, hT'.out.ext X2, hlt⟩, only_ext (World.grownBy.refl _ _) X2⟩
    · have hse : sh.isEmpty = false := by cases sh with | nil => exact absurd rfl hs0 | cons _ _ => rfl
      have hR := Lib.hid (show frontP l kind = (l.tail, sh) by rw [hP, if_pos hs0])
      clear hP hs0 hx1 hx2
      go_wp2_with fail
      refine (HL.out _ X2).mono ?_
      rintro e w3 ⟨rfl, hx3⟩
      have X3 := X2.trans hx3
      have X4 := X3.alloc (.cells #[.int .i64 tk, .string ⟨tt.toArray⟩] 58)
      have B4 := Blk.new w3 58 #[.int .i64 tk, .string ⟨tt.toArray⟩]
      clear hx3 X2 HL
      go_upto_region 4 with (fail)
      generalize w3.alloc (.cells #[.int .i64 tk, .string ⟨tt.toArray⟩] 58) = w4 at *
      generalize w3.heap.size = g5 at *
      have d0 := (X4.cell g 0 none lg).trans c0
      have B5 := hB'.out.ext X4
      have T5 := hT'.out.ext X4
      have f0 := B5.frozen 0
      have lg4 := B5.lt
      have hg5 : g5 ≠ g := (B4.ne_ B5 (by decide))
      have G4 : w4.grownBy (w4.setCell ⟨g, 0, none⟩ (.slice (some ⟨b, o + 2, none⟩) (n - 1) (cap - 1))) (some g) := only_set (World.grownBy.refl _ _) (p := ⟨g, 0, none⟩) (.inl rfl) _
      have h5 : CurAt (w4.setCell ⟨g, 0, none⟩ (.slice (some ⟨b, o + 2, none⟩) (n - 1) (cap - 1))) g B l.tail := ⟨_, n - 1, cap - 1, B5.set_ 0 _, (T5.tail (by have := hm.out; omega)).grown B5 G4, fun _ b' o' e => by cases e; exact hlt h0l b o rfl⟩
      have HG : W.grownBy (w4.setCell ⟨g, 0, none⟩ (.slice (some ⟨b, o + 2, none⟩) (n - 1) (cap - 1))) (some g) := only_trans (only_ext (World.grownBy.refl W (some g)) X4) G4
      have X5 : Ext W0 (w4.setCell ⟨g, 0, none⟩ (.slice (some ⟨b, o + 2, none⟩) (n - 1) (cap - 1))) := hX0.grown HG (fun k hk => by cases hk; exact hg0)
      have B6 := B4.grown G4 (fun e => hg5 (Option.some.inj e))
      clear B5 T5 G4 B4
      go_upto_region 5 with (fail)
      generalize w4.setCell ⟨g, 0, none⟩ (.slice (some ⟨b, o + 2, none⟩) (n - 1) (cap - 1)) = w5 at *
      obtain ⟨b0, b1⟩ := B6.cells
      have lb := B6.lt
      go_wp2_with fail
      refine (HSh.out _ X5).mono ?_
      rintro e w6 ⟨rfl, hx6⟩
      have h6 := h5.ext hx6
      have HG6 := only_ext HG hx6
      go_wp2_with fail
      go_ret
      exact ⟨by rw [hR.out]; rfl, by rw [hR.out]; exact h6, HG6⟩
end Go.Proofs.YtjneghncmgjkeaaGreatDoor
