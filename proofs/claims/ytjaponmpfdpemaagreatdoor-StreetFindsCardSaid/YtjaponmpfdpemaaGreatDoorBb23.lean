/-
  street.New.
-/
import Derived.Deep.CutRange
import Derived.Deep.RegionLaw
import Derived.Test.YtjaponmpfdpemaaGreatDoorBb22
set_option linter.unusedSimpArgs false
set_option linter.unusedVariables false
namespace Go.Proofs.YtjaponmpfdpemaaGreatDoor
open Go.RowKit Go.Maps
set_option maxRecDepth 100000 in
set_option maxHeartbeats 4000000 in
theorem srnew_any (l : List Sr) (hs : ∀ s ∈ l, SrS s 1000) (A : Option Addr) (cap : Nat) (w : World) (hr : Reads w w.heap.size 13 A l.length (srCells l)) (hl : l.length ≤ 1000) (hS : Std w) :
  Calls Tryz.prog 17 #[.slice A l.length cap] w fun e w' => ∃ v, e = .returned (.tuple #[v, .agg #[.int .i64 (newP l).2.1, .int .i64 (newP l).2.2]]) ∧ Ext w w' ∧ (match (newP l).1 with
   | some T => ∃ tb, v = .pointer (some ⟨tb, 0, none⟩) ∧ StrAt w w' tb l.length T
   | none => v = .pointer none) := by
 have HI := Lib.hid (fun W (hx : Ext w W) => srindex_any l hs A cap W (hr.ext hx) hl (hS.ext hx))
 by_cases h500 : 500 < l.length
 ·have hP : newP l = (none, 8, 0) := by unfold newP; rw [if_pos h500]
  rw [hP]
  clear hP HI hr hS
  have hd : (500 : Int) < (l.length : Int) := by omega
  have B1 := Blk.new w 36 #[.int .i64 0, .int .i64 0]
  have X1 := (Ext.refl w).alloc (.cells #[.int .i64 0, .int .i64 0] 36)
  go_enter Tryz.func17, Tryz.ntmps17
  go_wp2_with fail
  exact bodyPost_ret (results_tc rfl rfl (ld_fault (Blk.new w _ _))) rfl ⟨_, rfl, (Ext.refl w).alloc _, rfl⟩
 ·have hd : ¬ (500 : Int) < (l.length : Int) := by omega
  have B1 := Blk.new w 36 #[.int .i64 0, .int .i64 0]
  have X1 := (Ext.refl w).alloc (.cells #[.int .i64 0, .int .i64 0] 36)
  have HI1 := Lib.hid (HI.out _ X1)
  by_cases hb : 0 ≤ srBad l
  ·have hP : newP l = (none, 2, srBad l) := by unfold newP; rw [if_neg h500, if_pos hb]
   rw [hP]
   generalize srBad l = q at *
   clear hP HI hr hS
   have FS := Lib.hid (fun W (hx : Ext (w.alloc (.cells #[.int .i64 0, .int .i64 0] 36)) W) => (show Blk W w.heap.size 36 #[.int .i64 0, .int .i64 0] ∧ Ext w W from ⟨B1.ext hx, X1.trans hx⟩))
   clear B1 X1
   go_enter Tryz.func17, Tryz.ntmps17
   go_wp2_with fail
   refine HI1.out.mono ?_
   rintro e w1 ⟨rfl, hx1⟩
   obtain ⟨B2, X2⟩ := FS.out _ hx1
   have HB := Lib.hid B2
   obtain ⟨b0, b1⟩ := B2.cells
   have lb := B2.lt
   clear B2
   go_wp2_with fail
   exact bodyPost_ret (results_tc rfl rfl (ld_fault ((HB.out.set_ 0 _).set_ 1 _))) rfl ⟨_, rfl, (X2.set (p := ⟨w.heap.size, 0, none⟩) (Nat.le_refl _) _).set (p := ⟨w.heap.size, 1, none⟩) (Nat.le_refl _) _, rfl⟩
  ·have hnb : ¬ ((0 : Int) ≤ srBad l) := hb
   have hNum : ∀ s ∈ l, s.Num := fun s hm => by
    have hz : s.check = 0 := by
     by_cases hz : s.check = 0
     ·exact hz
     ·refine absurd ?_ hb
      unfold srBad
      cases hf : l.findIdx? (fun s => decide (s.check ≠ 0)) with
      | some q => exact Int.natCast_nonneg q
      | none =>
       rw [List.findIdx?_eq_none_iff] at hf
       have := hf s hm
       simp [hz] at this
    exact (Sr.fine_num (srOk_fine hz))
   have FS := Lib.hid (fun W (hx : Ext (w.alloc (.cells #[.int .i64 0, .int .i64 0] 36)) W) => (show Blk W w.heap.size 36 #[.int .i64 0, .int .i64 0] ∧ Ext w W from ⟨B1.ext hx, X1.trans hx⟩))
   replace hr := Lib.hid hr
   replace hs := Lib.hid hs
   clear B1 X1 HI hS
   replace hb := Lib.hid hb
   obtain ⟨NP, hNP⟩ : ∃ NP, newP l = NP := ⟨_, rfl⟩
   rw [hNP]
   replace hNP := Lib.hid hNP
   go_enter Tryz.func17, Tryz.ntmps17
   go_wp2_with fail
   refine HI1.out.mono ?_
   rintro e w1 ⟨rfl, hx1⟩
   obtain ⟨B2, X2⟩ := FS.out _ hx1
   have lb := B2.lt
   have HB := Lib.hid B2
   replace X2 := Lib.hid X2
   clear B2 hx1
   have hmm := @run_makeMap Tryz.prog
   have R0 := Lib.hid (show NwRel w l w.heap.size (w1.heap.size + 1) w1.heap.size (.int .i64 ((0 : Nat) : Int)) ((w1.alloc (.map #[] 0)).alloc (.cells #[.map (some w1.heap.size), .int .i64 (l.length : Int), .bool true] 61)) from
    ⟨0, STab.z, 0, by omega, rfl, by simp [tabP], (HB.out.ext ((Ext.refl w1).alloc _)).alloc _, by
     have h := Blk.new (w1.alloc (.map #[] 0)) 61 #[.map (some w1.heap.size), .int .i64 (l.length : Int), .bool true]
     rwa [show (w1.alloc (.map #[] 0)).heap.size = w1.heap.size + 1 by simp] at h, Nat.le_refl _, (TabAt.made w w1).ext ((Ext.refl _).alloc _), (X2.out.alloc _).alloc _⟩)
   have hw1 : w.heap.size ≤ w1.heap.size := X2.out.size
   clear HB X2 HI1 FS
   obtain ⟨tb, htb⟩ : ∃ tb, w1.heap.size + 1 = tb := ⟨_, rfl⟩
   go_wp2_with fail
   clear hmm
   generalize (w1.alloc (.map #[] 0)).alloc (.cells #[.map (some w1.heap.size), .int .i64 (l.length : Int), .bool true] 61) = w2 at *
   rw [htb] at R0
   go_loopw [32] (fun i wr => NwRel w l w.heap.size tb w1.heap.size i wr) (fun i _ => l.length - (intOf i).toNat)
   case atStart => exact R0.out
   case round =>
    clear R0
    obtain ⟨k, T, c, hk, rfl, hT, HF, HB, hc, HM, HX⟩ := hrel
    by_cases hlt : k < l.length
    ·have hd : decide ((k : Int) < (l.length : Int)) = true := decide_eq_true (by omega)
     have kl : (k : Int) < (l.length : Int) := by omega
     have kz : (0 : Int) ≤ (k : Int) := by omega
     obtain ⟨g, off, rfl, hg, c0, c1, c2, c3, c4, c5, c6, c7, c8, c9, c10, c11, c12⟩ := sr_at (hr.out.ext HX) hlt
     have hxs := hs.out _ (List.getElem_mem hlt)
     have hNx := Lib.hid (hNum _ (List.getElem_mem hlt))
     obtain ⟨v0, v1, hrun, ho0, ho1⟩ := HM.lookE _ hxs.okK
     obtain ⟨A0, p0, rfl, hp0, hq0, _⟩ := own_slice ho0
     obtain ⟨A1, p1, rfl, hp1, hq1, _⟩ := own_slice ho1
     have HR : Hid (∀ W, Ext wr W → KeyRun W w1.heap.size l[k] (.slice A0 (T (l[k]).key).1.length p0) (.slice A1 (T (l[k]).key).2.length p1)) := Lib.hid (fun W hx => hrun W hx)
     have HO := Lib.hid (fun W => srof_any l[k] W)
     have HA := Lib.hid ho0
     have HB1 := Lib.hid ho1
     have XR : Ext wr (wr.alloc (.cells (srC l[k]) 25)) := (Ext.refl wr).alloc _
     have BR := Blk.new wr 25 (srC l[k])
     have F7 := Lib.hid (fun W (hx : Ext (wr.alloc (.cells (srC l[k]) 25)) W) => (show SrCell W wr.heap.size 0 l[k] from ⟨(BR.ext hx).cell 0, (BR.ext hx).cell 1, (BR.ext hx).cell 2, (BR.ext hx).cell 3, (BR.ext hx).cell 4, (BR.ext hx).cell 5, (BR.ext hx).cell 6, (BR.ext hx).cell 7, (BR.ext hx).cell 8, (BR.ext hx).cell 9, (BR.ext hx).cell 10, (BR.ext hx).cell 11, (BR.ext hx).cell 12⟩))
     have FT := Lib.hid (fun W (hx : Ext wr W) => (show W.cell? ⟨tb, 0, none⟩ = some (.map (some w1.heap.size)) from (HB.ext hx).cell 0))
     replace HF := Lib.hid HF
     replace HB := Lib.hid HB
     replace HM := Lib.hid HM
     replace HX := Lib.hid HX
     replace hT := Lib.hid hT
     replace hxs := Lib.hid hxs
     clear hrun ho0 ho1 BR hr hs
     go_upto_region 10 with (fail)
     clear c0 c1 c2 c3 c4 c5 c6 c7 c8 c9 c10 c11 c12
     generalize hxk : l[k] = x at *
     replace hxk := Lib.hid hxk
     generalize hn0 : (T x.key).1.length = n0 at *
     generalize hn1 : (T x.key).2.length = n1 at *
     replace hn0 := Lib.hid hn0
     replace hn1 := Lib.hid hn1
     unfold srC at XR F7
     generalize hml : w1.heap.size = ml at *
     replace hml := Lib.hid hml
     generalize hwa : wr.alloc (.cells #[.string ⟨x.state.toArray⟩, .string ⟨x.city.toArray⟩, .string ⟨x.pre.toArray⟩, .string ⟨x.name.toArray⟩, .string ⟨x.suf.toArray⟩, .string ⟨x.post.toArray⟩, .int .i64 x.fr, .int .i64 x.to_, .int .i64 x.side, .int .i64 x.ax, .int .i64 x.ay, .int .i64 x.bx, .int .i64 x.by_] 25) = wa at *
     generalize hg7 : wr.heap.size = g7 at *
     have HQ := Lib.hid (fun w' (hx : Ext wa w') => (show w'.cell? ⟨tb, 0, none⟩ = some (.map (some ml)) ∧ w'.cell? ⟨g7, 0, none⟩ = some (.string ⟨x.state.toArray⟩) ∧ w'.cell? ⟨g7, 1, none⟩ = some (.string ⟨x.city.toArray⟩) ∧ w'.cell? ⟨g7, 2, none⟩ = some (.string ⟨x.pre.toArray⟩) ∧ w'.cell? ⟨g7, 3, none⟩ = some (.string ⟨x.name.toArray⟩) ∧ w'.cell? ⟨g7, 4, none⟩ = some (.string ⟨x.suf.toArray⟩) ∧ w'.cell? ⟨g7, 5, none⟩ = some (.string ⟨x.post.toArray⟩) ∧ w'.cell? ⟨g7, 6, none⟩ = some (.int .i64 x.fr) ∧ w'.cell? ⟨g7, 7, none⟩ = some (.int .i64 x.to_) ∧ w'.cell? ⟨g7, 8, none⟩ = some (.int .i64 x.side) ∧ w'.cell? ⟨g7, 9, none⟩ = some (.int .i64 x.ax) ∧ w'.cell? ⟨g7, 10, none⟩ = some (.int .i64 x.ay) ∧ w'.cell? ⟨g7, 11, none⟩ = some (.int .i64 x.bx) ∧ w'.cell? ⟨g7, 12, none⟩ = some (.int .i64 x.by_) ∧ (Instr.lookup 59 (.map (some ml)) (.agg #[.string ⟨x.state.toArray⟩, .string ⟨x.city.toArray⟩, .string ⟨x.pre.toArray⟩, .string ⟨x.name.toArray⟩, .string ⟨x.suf.toArray⟩, .string ⟨x.post.toArray⟩]) false).run Tryz.prog w' = .ok (.agg #[.slice A0 n0 p0, .slice A1 n1 p1]) w' from
      ⟨FT.out _ (XR.trans hx), by
       obtain ⟨q0, q1, q2, q3, q4, q5, q6, q7, q8, q9, q10, q11, q12⟩ := F7.out _ hx
       exact ⟨q0, q1, q2, q3, q4, q5, q6, q7, q8, q9, q10, q11, q12, HR.out _ (XR.trans hx)⟩⟩))
     have hg7a : g7 < wa.heap.size := by rw [← hwa, ← hg7]; simp
     replace hwa := Lib.hid hwa
     replace hg7 := Lib.hid hg7
     obtain ⟨s1, q0, q1, q2, q3, q4, q5, q6, q7, q8, q9, q10, q11, q12, s3⟩ := HQ.out _ (Ext.refl wa)
     simp only [srV_eq] at HO
     go_cut [8] from 33 to 43 (fun v wx => ∃ g8, v = .pointer (some ⟨g8, 0, none⟩) ∧ wa.heap.size ≤ g8 ∧ SdRel w wa (T x.key).1 (T x.key).2 x g8 (.int .i64 ((0 : Nat) : Int)) wx)
     case first =>
      go_region_held3 (fun w' => w'.cell? ⟨tb, 0, none⟩ = some (.map (some ml)) ∧ w'.cell? ⟨g7, 0, none⟩ = some (.string ⟨x.state.toArray⟩) ∧ w'.cell? ⟨g7, 1, none⟩ = some (.string ⟨x.city.toArray⟩) ∧ w'.cell? ⟨g7, 2, none⟩ = some (.string ⟨x.pre.toArray⟩) ∧ w'.cell? ⟨g7, 3, none⟩ = some (.string ⟨x.name.toArray⟩) ∧ w'.cell? ⟨g7, 4, none⟩ = some (.string ⟨x.suf.toArray⟩) ∧ w'.cell? ⟨g7, 5, none⟩ = some (.string ⟨x.post.toArray⟩) ∧ w'.cell? ⟨g7, 6, none⟩ = some (.int .i64 x.fr) ∧ w'.cell? ⟨g7, 7, none⟩ = some (.int .i64 x.to_) ∧ w'.cell? ⟨g7, 8, none⟩ = some (.int .i64 x.side) ∧ w'.cell? ⟨g7, 9, none⟩ = some (.int .i64 x.ax) ∧ w'.cell? ⟨g7, 10, none⟩ = some (.int .i64 x.ay) ∧ w'.cell? ⟨g7, 11, none⟩ = some (.int .i64 x.bx) ∧ w'.cell? ⟨g7, 12, none⟩ = some (.int .i64 x.by_) ∧ (Instr.lookup 59 (.map (some ml)) (.agg #[.string ⟨x.state.toArray⟩, .string ⟨x.city.toArray⟩, .string ⟨x.pre.toArray⟩, .string ⟨x.name.toArray⟩, .string ⟨x.suf.toArray⟩, .string ⟨x.post.toArray⟩]) false).run Tryz.prog w' = .ok (.agg #[.slice A0 n0 p0, .slice A1 n1 p1]) w')
       (with_reducible refine HQ.out _ ?_; repeat (first | (with_reducible assumption) | (with_reducible exact Ext.refl _) | (with_reducible refine Ext.drew ?_) | (with_reducible refine Ext.alloc ?_ _) | (with_reducible refine Ext.set ?_ (by first | exact Nat.le_refl _ | exact Ext.size (by assumption)) _)))
       (first
        | (go_at_call 41; refine (HO.out _).mono ?_; rintro e w4 ⟨rfl, hx4⟩; have hx5 : Ext wa w4 := Ext.trans (by repeat (first | (with_reducible assumption) | (with_reducible exact Ext.refl _) | (with_reducible refine Ext.drew ?_) | (with_reducible refine Ext.alloc ?_ _))) hx4; have h8 : Blk w4 wa.heap.size 72 #[.slice none 0 0, .slice none 0 0] := (Blk.new wa.drew 72 #[.slice none 0 0, .slice none 0 0]).ext hx4; obtain ⟨b8, b8'⟩ := h8.cells; have l8 := h8.lt; have H8 := Lib.hid h8; clear hx4 h8)
        | (go_at_call 41; refine (HO.out _).mono ?_; rintro e w4 ⟨rfl, hx4⟩; have hx5 : Ext wa w4 := Ext.trans (by repeat (first | (with_reducible assumption) | (with_reducible exact Ext.refl _) | (with_reducible refine Ext.drew ?_) | (with_reducible refine Ext.alloc ?_ _))) hx4; clear hx4))
      all_goals rename_i hh; clear hh
      all_goals first
       | (have B8 := (H8.out.set_ 0 (.slice A0 n0 p0)).set_ 1 (.slice A1 n1 p1)
          have X8 := (hx5.set (p := ⟨wa.heap.size, 0, none⟩) (Nat.le_refl _) (.slice A0 n0 p0)).set (p := ⟨wa.heap.size, 1, none⟩) (Nat.le_refl _) (.slice A1 n1 p1)
          have l8' := Nat.le_refl wa.heap.size
          clear b8 b8' l8 H8 hx5
          generalize hW : (w4.setCell ⟨wa.heap.size, 0, none⟩ (.slice A0 n0 p0)).setCell ⟨wa.heap.size, 1, none⟩ (.slice A1 n1 p1) = W at *
          replace hW := Lib.hid hW
          obtain ⟨g8, hg8⟩ : ∃ g8, wa.heap.size = g8 := ⟨_, rfl⟩
          rw [hg8] at B8
          have l8 : wa.heap.size ≤ g8 := by omega
          rw [hg8]
          replace hg8 := Lib.hid hg8)
       | (have B8 := Blk.new w4 72 #[.slice A0 n0 p0, .slice A1 n1 p1]
          have X8 := hx5.alloc (.cells #[.slice A0 n0 p0, .slice A1 n1 p1] 72)
          have l8 := hx5.size
          clear hx5
          generalize hW : w4.alloc (.cells #[.slice A0 n0 p0, .slice A1 n1 p1] 72) = W at *
          replace hW := Lib.hid hW
          generalize hg8 : w4.heap.size = g8 at *
          replace hg8 := Lib.hid hg8)
      all_goals
       have S0 := Lib.hid (show SdRel w wa (T x.key).1 (T x.key).2 x g8 (.int .i64 ((0 : Nat) : Int)) W from
        ⟨0, _, _, _, _, by omega, rfl, B8, by rw [hn0.out]; exact own_ext HA.out (XR.trans X8), by rw [hn1.out]; exact own_ext HB1.out (XR.trans X8), fun _ => rfl, fun _ => rfl, fun h => absurd h (by omega), fun h => absurd h (by omega), X8⟩)
      all_goals clear B8 X8 s1 q0 q1 q2 q3 q4 q5 q6 q7 q8 q9 q10 q11 q12 s3
      all_goals go_wp2_with fail
      all_goals go_meet
      all_goals exact ⟨g8, rfl, l8, S0.out⟩
     case rest =>
      obtain ⟨g8, rfl, l8, S0⟩ := hcut
      replace S0 := Lib.hid S0
      clear s1 q0 q1 q2 q3 q4 q5 q6 q7 q8 q9 q10 q11 q12 s3
      go_wp2_with fail
      go_loopw [44] (fun i wr' => SdRel w wa (T x.key).1 (T x.key).2 x g8 i wr') (fun i _ => 2 - (intOf i).toNat)
      case atStart => exact S0.out
      case round =>
       clear S0
       have hrel0 := hrel
       obtain ⟨j, a, b, v0, v1, hj, rfl, B8, ha, hb', e0, e1, e2, e3, X8⟩ := hrel
       obtain ⟨q0, q1, q2, q3, q4, q5, q6, q7, q8, q9, q10, q11, q12⟩ := F7.out _ X8
       by_cases hj2 : j < 2
       ·obtain ⟨r, v, hc8, hl8, hor, her, hB8, hx8, HG, HSk⟩ := hrel0.next hj2
        clear B8 ha hb' e0 e1 e2 e3 X8 hrel0
        have hd2 : decide ((j : Int) < 2) = true := decide_eq_true (by omega)
        have kj : (j : Int) < 2 := by omega
        have HN := Lib.hid (fun W => srnum_any x (hNx.out) (j : Int) W)
        simp only [srV_eq] at HN
        replace HG := Lib.hid HG
        replace HSk := Lib.hid HSk
        replace hor := Lib.hid hor
        replace hB8 := Lib.hid hB8
        replace hx8 := Lib.hid hx8
        replace her := Lib.hid her
        by_cases hq : x.isQ (j : Int) = false
        ·rw [hq] at HN
         go_wp2_with fail
         refine (HN.out _).mono ?_
         rintro e w5 ⟨rfl, hx5⟩
         have HE := Lib.hid (HSk.out _ hx5 hq)
         clear HG HSk HN
         go_wp2_with fail
         go_roundw
         case rel => exact HE.out
         case measure => simp [intOf]; omega
        ·rw [show x.isQ (j : Int) = true by simpa using hq] at HN
         replace hq := Lib.hid hq
         have hOK := tabP_ok hNum k hk T hT.out
         have hRow : Row (j : Int) r ∧ r.length ≤ 500 := by
          rw [her.out]
          obtain rfl | rfl : j = 0 ∨ j = 1 := by omega
          ·exact ⟨hOK.even _, by have := hOK.le0 x.key; show (T x.key).1.length ≤ _; omega⟩
          ·exact ⟨hOK.odd _, by have := hOK.le1 x.key; show (T x.key).2.length ≤ _; omega⟩
         obtain ⟨A5, p5, rfl, hp5, hq5, hr5⟩ := own_slice hor.out
         have HP := Lib.hid (fun W (hx : Ext wr W) => srplace_any r (fun s hm => (hRow.1.mem s hm).1) (j : Int) (x.low (j : Int)) (hRow.1.mono _) A5 p5 W (hr5.ext hx) (by omega))
         replace hr5 := Lib.hid hr5
         have hrl := hRow.2
         replace hRow := Lib.hid hRow
         clear hOK
         go_wp2_with fail
         refine (HN.out _).mono ?_
         rintro e w5 ⟨rfl, hx5⟩
         have hc5 := (hx5.cell g8 j none hl8).trans hc8
         have HP5 := Lib.hid (HP.out _ hx5)
         have hl85 := Nat.lt_of_lt_of_le hl8 hx5.size
         replace hx5 := Lib.hid hx5
         have hclq : clashQ r x (j : Int) = (plF r (j : Int) (x.low (j : Int)) || (match r[plK r (j : Int) (x.low (j : Int))]? with | some t => decide (t.low (j : Int) ≤ x.high (j : Int)) | none => false)) := rfl
         have hsd : sideP r x (j : Int) = if clashQ r x (j : Int) = true then none else some (r.take (plK r (j : Int) (x.low (j : Int))) ++ x :: r.drop (plK r (j : Int) (x.low (j : Int)))) := by unfold sideP; rw [if_neg hq.out]
         have hKl : plK r (j : Int) (x.low (j : Int)) ≤ r.length := hRow.out.1.at_.1
         replace hsd := Lib.hid hsd
         clear HN HSk HP hc8
         generalize plK r (j : Int) (x.low (j : Int)) = K at *
         generalize plF r (j : Int) (x.low (j : Int)) = fd at *
         generalize hlw : x.low (j : Int) = lw at *
         generalize hhi : x.high (j : Int) = hi at *
         go_wp2_with fail
         refine HP5.out.mono ?_
         rintro e w6 ⟨rfl, hx6⟩
         have hc6 := (hx6.cell g8 j none hl85).trans hc5
         have hl86 := Nat.lt_of_lt_of_le hl85 hx6.size
         replace hx6 := Lib.hid (hx5.out.trans hx6)
         clear HP5 hc5 hx5
         obtain ⟨CQ, hCQ⟩ : ∃ CQ, clashQ r x (j : Int) = CQ := ⟨_, rfl⟩
         rw [hCQ] at hclq
         replace hsd := Lib.hid (show sideP r x (j : Int) = if CQ = true then none else some (r.take K ++ x :: r.drop K) by rw [← hCQ]; exact hsd.out)
         clear hCQ
         go_upto_region 17 with (fail)
         go_cut [85] from 45 to 85 (fun v wx => v = .bool CQ ∧ Ext w6 wx)
         case first =>
          cases fd
          ·by_cases hKr : K < r.length
           ·have hd5 : decide ((K : Int) < (r.length : Int)) = true := decide_eq_true (by omega)
            have kK : (K : Int) < (r.length : Int) := by omega
            have k0 : (0 : Int) ≤ (K : Int) := by omega
            obtain ⟨g, off, rfl, hg, c0, c1, c2, c3, c4, c5, c6, c7, c8, c9, c10, c11, c12⟩ := sr_at (hr5.out.ext hx6.out) hKr
            have HFi := Lib.hid (fun W => srfirst_any r[K] (hRow.out.1.mem _ (List.getElem_mem hKr)).1 (j : Int) (by omega) W)
            rw [List.getElem?_eq_getElem hKr] at hclq
            simp only [srV_eq] at HFi
            generalize r[K] = y at *
            dsimp only at hclq
            generalize y.low (j : Int) = ly at *
            obtain rfl : CQ = decide (ly ≤ hi) := by simpa using hclq
            clear hclq
            go_wp2_with fail
            refine (HFi.out _).mono ?_
            rintro e w7 ⟨rfl, hx7⟩
            go_wp2_with fail
            go_meet
            case rel => exact ⟨rfl, hx7⟩
           ·have hd5 : decide ((K : Int) < (r.length : Int)) = false := by simp; omega
            have kn : ¬ (K : Int) < (r.length : Int) := by omega
            rw [List.getElem?_eq_none (by omega)] at hclq
            obtain rfl : CQ = false := by simpa using hclq
            clear hclq
            go_wp2_with fail
            go_meet
            case rel => exact ⟨rfl, Ext.refl _⟩
          ·obtain rfl : CQ = true := by simpa using hclq
           clear hclq
           go_wp2_with fail
           go_meet
           case rel => exact ⟨rfl, Ext.refl _⟩
         case rest =>
          obtain ⟨rfl, hx7⟩ := hcut
          replace hx6 := Lib.hid (hx6.out.trans hx7)
          have hc7 := (hx7.cell g8 j none hl86).trans hc6
          have hl87 := Nat.lt_of_lt_of_le hl86 hx7.size
          clear hc6 hx7 hclq
          cases CQ with
          | true =>
           have hbad : sideP r x (j : Int) = none := by rw [hsd.out]; simp
           have hNPk : newP l = (none, 7, (k : Int)) := newP_clash h500 (by have := hb.out; omega) hlt hT.out (by rw [hxk.out]; exact stepT_none hj2 (by rw [← her.out]; exact hbad))
           have HQ' := hNP.out
           rw [hNPk] at HQ'
           subst HQ'
           have hF6 := HF.out.ext (XR.trans (hx8.out.trans hx6.out))
           have hX6 := Lib.hid (HX.out.trans (XR.trans (hx8.out.trans hx6.out)))
           obtain ⟨f0, f0'⟩ := hF6.cells
           have lf := hF6.lt
           replace hF6 := Lib.hid hF6
           replace hNPk := Lib.hid hNPk
           clear hbad
           go_wp2_with fail
           exact bodyPost_ret (results_tc rfl rfl (ld_fault ((hF6.out.set_ 0 _).set_ 1 _))) rfl ⟨rfl, (hX6.out.set (p := ⟨w.heap.size, 0, none⟩) (Nat.le_refl _) _).set (p := ⟨w.heap.size, 1, none⟩) (Nat.le_refl _) _⟩
          | false =>
           have hgood : sideP r x (j : Int) = some (r.take K ++ x :: r.drop K) := by rw [hsd.out]; simp
           replace hgood := Lib.hid hgood
           clear hsd
           go_upto_region 19 with (fail)
           have hy7 : Ext wr wc := hx6.out
           have hg7c : g7 < wc.heap.size := Nat.lt_of_lt_of_le hg7a (hx8.out.trans hy7).size
           have HCl := Lib.hid (fun W (hx : Ext wc W) => srclone_any r r.length A5 p5 W rfl (hr5.out.ext (hy7.trans hx)) (by omega))
           have hr9 : r.length ≤ 999 := by omega
           have hlt9 : wc.heap.size < (wc.alloc (.cells #[.string ⟨x.state.toArray⟩, .string ⟨x.city.toArray⟩, .string ⟨x.pre.toArray⟩, .string ⟨x.name.toArray⟩, .string ⟨x.suf.toArray⟩, .string ⟨x.post.toArray⟩, .int .i64 x.fr, .int .i64 x.to_, .int .i64 x.side, .int .i64 x.ax, .int .i64 x.ay, .int .i64 x.bx, .int .i64 x.by_] 25)).drew.heap.size := by show _ < (wc.alloc _).heap.size; simp
           have HI8 := Lib.hid (fun W (hx : Ext wc W) => (show SrCell W g7 0 x ∧ W.cell? ⟨g8, j, none⟩ = some (.slice A5 r.length p5) ∧ W.frozen? ⟨g8, j, none⟩ = false ∧ g7 < W.heap.size ∧ g8 < W.heap.size from
            ⟨F7.out _ (hx8.out.trans (hy7.trans hx)), (hx.cell g8 j none hl87).trans hc7, (by obtain ⟨cs, hcs⟩ := hB8.out; exact (hcs.ext (hy7.trans hx)).frozen j), Nat.lt_of_lt_of_le hg7c hx.size, Nat.lt_of_lt_of_le hl87 hx.size⟩))
           clear q0 q1 q2 q3 q4 q5 q6 q7 q8 q9 q10 q11 q12 hc7
           obtain ⟨⟨z0, z1, z2, z3, z4, z5, z6, z7, z8, z9, z10, z11, z12⟩, zc, zf, zl7, zl8⟩ := HI8.out _ (Ext.refl wc)
           have xwc := Ext.refl wc
           have hwc : w.heap.size ≤ wc.heap.size := (HX.out.trans (XR.trans (hx8.out.trans hy7))).size
           have hwB : w.heap.size ≤ wc.drew.heap.size := hwc
           have hwA : w.heap.size ≤ (wc.alloc (.cells #[.string ⟨x.state.toArray⟩, .string ⟨x.city.toArray⟩, .string ⟨x.pre.toArray⟩, .string ⟨x.name.toArray⟩, .string ⟨x.suf.toArray⟩, .string ⟨x.post.toArray⟩, .int .i64 x.fr, .int .i64 x.to_, .int .i64 x.side, .int .i64 x.ax, .int .i64 x.ay, .int .i64 x.bx, .int .i64 x.by_] 25)).drew.heap.size := Nat.le_trans hwc (Nat.le_of_lt hlt9)
           have HDone := Lib.hid (fun W10 A10 c10 (hx : Ext wc W10) (ho : W10.ownsRow w.heap.size 25 13 (.slice A10 (r.length + 1) c10) (r.length + 1) (srCells (r.take K ++ x :: r.drop K))) =>
            (show SdRel w wa (T x.key).1 (T x.key).2 x g8 (.int .i64 ((j + 1 : Nat) : Int)) (W10.setCell ⟨g8, j, none⟩ (.slice A10 (r.length + 1) c10)) from by
             obtain ⟨cs, hcs⟩ := hB8.out
             have hcs' := hcs.ext (hy7.trans hx)
             have hlen : (r.take K ++ x :: r.drop K).length = r.length + 1 := by rw [List.length_append, List.length_cons, List.length_take, List.length_drop]; omega
             refine HG.out _ _ (r.take K ++ x :: r.drop K) ((hx8.out.trans (hy7.trans hx)).set (p := ⟨g8, j, none⟩) l8 _) (fun cs h => (h.ext (hy7.trans hx)).set_ j _) (fun v n xs hv => own_set (own_ext hv (hy7.trans hx)) (own_blk_ne (own_ext hv (hy7.trans hx)) hcs' (by decide)) _) ?_ hgood.out
             rw [hlen]
             exact own_set ho (own_blk_ne ho hcs' (by decide)) _))
           clear HG hgood hwc
           refine wp_last ?_
           intro K0 hK0
           go_cut [44] from 45 to 97 (fun v wx => v = .int .i64 (j : Int) ∧ SdRel w wa (T x.key).1 (T x.key).2 x g8 (.int .i64 ((j + 1 : Nat) : Int)) wx)
           case first =>
            go_region_law (first
             | (go_simp; go_at_call 45; refine (HCl.out _ (by repeat (first | (with_reducible assumption) | (with_reducible exact Ext.refl _) | (with_reducible refine Ext.drew ?_) | (with_reducible refine Ext.alloc ?_ _)))).mono ?_; rintro e w8 ⟨A8, c8, rfl, ho8, hx9⟩; have hy8 : Ext wc w8 := Ext.trans (by repeat (first | (with_reducible assumption) | (with_reducible exact Ext.refl _) | (with_reducible refine Ext.drew ?_) | (with_reducible refine Ext.alloc ?_ _))) hx9; obtain ⟨⟨y0, y1, y2, y3, y4, y5, y6, y7, y8, y9, y10, y11, y12⟩, yc, yf, yl7, yl8⟩ := HI8.out _ hy8)
             | (go_simp; go_at_call 44; with_reducible have hq9 : Ext wc.drew w8 := hx9; with_reducible have ho9 : w8.ownsRow wc.drew.heap.size 25 13 (.slice A8 r.length c8) r.length (srCells r) := ho8; have hv : (w8.alloc (.cells #[.string ⟨x.state.toArray⟩, .string ⟨x.city.toArray⟩, .string ⟨x.pre.toArray⟩, .string ⟨x.name.toArray⟩, .string ⟨x.suf.toArray⟩, .string ⟨x.post.toArray⟩, .int .i64 x.fr, .int .i64 x.to_, .int .i64 x.side, .int .i64 x.ax, .int .i64 x.ay, .int .i64 x.bx, .int .i64 x.by_] 25)).heap[w8.heap.size]? = some (.cells (srC x) 25 (0, 0)) := (Blk.new w8 25 #[.string ⟨x.state.toArray⟩, .string ⟨x.city.toArray⟩, .string ⟨x.pre.toArray⟩, .string ⟨x.name.toArray⟩, .string ⟨x.suf.toArray⟩, .string ⟨x.post.toArray⟩, .int .i64 x.fr, .int .i64 x.to_, .int .i64 x.side, .int .i64 x.ax, .int .i64 x.ay, .int .i64 x.bx, .int .i64 x.by_]).sr; with_reducible refine (srinsert_any r x K r.length rfl hKl A8 c8 wc.drew (w8.alloc (.cells #[.string ⟨x.state.toArray⟩, .string ⟨x.city.toArray⟩, .string ⟨x.pre.toArray⟩, .string ⟨x.name.toArray⟩, .string ⟨x.suf.toArray⟩, .string ⟨x.post.toArray⟩, .int .i64 x.fr, .int .i64 x.to_, .int .i64 x.side, .int .i64 x.ax, .int .i64 x.ay, .int .i64 x.bx, .int .i64 x.by_] 25)) (own_ext ho9 ((Ext.refl w8).alloc _)) (hq9.alloc _) hr9 w8.heap.size hv (own_ne_new ho9)).mono ?_; rintro e w10 ⟨A10, c10, rfl, ho10, hx10⟩; replace ho10 := own_base ho10 hwB; have hy10 : Ext wc w10 := Ext.trans ((Ext.refl wc).drew) hx10; obtain ⟨⟨t0, t1, t2, t3, t4, t5, t6, t7, t8, t9, t10, t11, t12⟩, tc, tf, tl7, tl8⟩ := HI8.out _ hy10)
             | (go_simp; go_at_call 44; with_reducible have hq9 : Ext (wc.alloc (.cells #[.string ⟨x.state.toArray⟩, .string ⟨x.city.toArray⟩, .string ⟨x.pre.toArray⟩, .string ⟨x.name.toArray⟩, .string ⟨x.suf.toArray⟩, .string ⟨x.post.toArray⟩, .int .i64 x.fr, .int .i64 x.to_, .int .i64 x.side, .int .i64 x.ax, .int .i64 x.ay, .int .i64 x.bx, .int .i64 x.by_] 25)).drew w8 := hx9; with_reducible have ho9 : w8.ownsRow (wc.alloc (.cells #[.string ⟨x.state.toArray⟩, .string ⟨x.city.toArray⟩, .string ⟨x.pre.toArray⟩, .string ⟨x.name.toArray⟩, .string ⟨x.suf.toArray⟩, .string ⟨x.post.toArray⟩, .int .i64 x.fr, .int .i64 x.to_, .int .i64 x.side, .int .i64 x.ax, .int .i64 x.ay, .int .i64 x.bx, .int .i64 x.by_] 25)).drew.heap.size 25 13 (.slice A8 r.length c8) r.length (srCells r) := ho8; have hv : w8.heap[wc.heap.size]? = some (.cells (srC x) 25 (0, 0)) := ((Blk.new wc 25 #[.string ⟨x.state.toArray⟩, .string ⟨x.city.toArray⟩, .string ⟨x.pre.toArray⟩, .string ⟨x.name.toArray⟩, .string ⟨x.suf.toArray⟩, .string ⟨x.post.toArray⟩, .int .i64 x.fr, .int .i64 x.to_, .int .i64 x.side, .int .i64 x.ax, .int .i64 x.ay, .int .i64 x.bx, .int .i64 x.by_]).ext (((Ext.refl _).drew).trans hq9)).sr; with_reducible refine (srinsert_any r x K r.length rfl hKl A8 c8 (wc.alloc (.cells #[.string ⟨x.state.toArray⟩, .string ⟨x.city.toArray⟩, .string ⟨x.pre.toArray⟩, .string ⟨x.name.toArray⟩, .string ⟨x.suf.toArray⟩, .string ⟨x.post.toArray⟩, .int .i64 x.fr, .int .i64 x.to_, .int .i64 x.side, .int .i64 x.ax, .int .i64 x.ay, .int .i64 x.bx, .int .i64 x.by_] 25)).drew w8 ho9 hq9 hr9 wc.heap.size hv (own_ne_old ho9 hlt9)).mono ?_; rintro e w10 ⟨A10, c10, rfl, ho10, hx10⟩; replace ho10 := own_base ho10 hwA; have hy10 : Ext wc w10 := Ext.trans (((Ext.refl wc).alloc _).drew) hx10; obtain ⟨⟨t0, t1, t2, t3, t4, t5, t6, t7, t8, t9, t10, t11, t12⟩, tc, tf, tl7, tl8⟩ := HI8.out _ hy10)
             | fail)
            all_goals go_wp2_with fail
            all_goals go_meet
            all_goals exact ⟨rfl, HDone.out _ _ _ hy10 ho10⟩
           case rest =>
            obtain ⟨rfl, HE⟩ := hcut
            replace HE := Lib.hid HE
            clear HDone HI8 HCl
            refine hK0 _ _ ?_
            go_wp2_with fail
            go_roundw
            case rel => exact HE.out
            case measure => simp [intOf]; omega
       ·obtain rfl : j = 2 := by omega
        have hd2 : decide (((2 : Nat) : Int) < 2) = false := by decide
        have d22 : decide ((2 : Int) < 2) = false := by decide
        have f0 := e2 (by omega)
        have f1 := e3 (by omega)
        have hst : stepT T x = some (setT T x.key (a, b)) := by
         unfold stepT
         rw [f0]
         dsimp only
         rw [f1]
        have hT' : tabP (l.take (k + 1)) = some (setT T x.key (a, b)) := by
         rw [tabP_take hlt, hT.out, hxk.out]
         exact hst
        replace hT' := Lib.hid hT'
        obtain ⟨A3, p3, rfl, _, _, _⟩ := own_slice ha
        obtain ⟨A4, p4, rfl, _, _, _⟩ := own_slice hb'
        replace ha := Lib.hid ha
        replace hb' := Lib.hid hb'
        obtain ⟨n3, hn3⟩ : ∃ n, a.length = n := ⟨_, rfl⟩
        obtain ⟨n4, hn4⟩ : ∃ n, b.length = n := ⟨_, rfl⟩
        rw [hn3] at B8 ha
        rw [hn4] at B8 hb'
        replace hn3 := Lib.hid hn3
        replace hn4 := Lib.hid hn4
        have c80 : wr.cell? ⟨g8, 0, none⟩ = some (.slice A3 n3 p3) := B8.cell 0
        have c81 : wr.cell? ⟨g8, 1, none⟩ = some (.slice A4 n4 p4) := B8.cell 1
        have l8' := B8.lt
        have tbc := FT.out _ (XR.trans X8)
        replace X8 := Lib.hid X8
        replace B8 := Lib.hid B8
        clear e0 e1 e2 e3 f0 f1 hst hrel0
        have xwr := Ext.refl wr
        have HPut := Lib.hid (fun W (hx : Ext wr W) => (show ∃ W', (Instr.mapUpdate 59 (.map (some ml)) (.agg #[.string ⟨x.state.toArray⟩, .string ⟨x.city.toArray⟩, .string ⟨x.pre.toArray⟩, .string ⟨x.name.toArray⟩, .string ⟨x.suf.toArray⟩, .string ⟨x.post.toArray⟩]) (.agg #[.slice A3 n3 p3, .slice A4 n4 p4])).run Tryz.prog W = .ok () W' ∧ TabAt w W' ml (c + 1) (setT T x.key (a, b)) ∧ W.grownBy W' (some ml) from (HM.out.ext (XR.trans (X8.out.trans hx))).put (by omega) x.key hxs.out.okK (.slice A3 n3 p3) (.slice A4 n4 p4) a b (by rw [hn3.out]; exact own_ext ha.out hx) (by rw [hn4.out]; exact own_ext hb'.out hx)))
        have H8c := Lib.hid (fun W (hx : Ext wr W) => (show SrCell W g7 0 x ∧ W.cell? ⟨g8, 0, none⟩ = some (.slice A3 n3 p3) ∧ W.cell? ⟨g8, 1, none⟩ = some (.slice A4 n4 p4) ∧ W.cell? ⟨tb, 0, none⟩ = some (.map (some ml)) from
         ⟨F7.out _ (X8.out.trans hx), (B8.out.ext hx).cell 0, (B8.out.ext hx).cell 1, FT.out _ (XR.trans (X8.out.trans hx))⟩))
        have HDone := Lib.hid (fun W9 (hx : Ext wr W9) W' (hT9 : TabAt w W' ml (c + 1) (setT T x.key (a, b))) (hg9 : W9.grownBy W' (some ml)) => (show NwRel w l w.heap.size tb ml (.int .i64 ((k + 1 : Nat) : Int)) W' from
         have hy := XR.trans (X8.out.trans hx)
         ⟨k + 1, setT T x.key (a, b), c + 1, by omega, rfl, hT'.out, (HF.out.ext hy).grown hg9 (by intro e; have := Option.some.inj e; omega), (HB.out.ext hy).grown hg9 (by intro e; have := Option.some.inj e; omega), by omega, hT9, (HX.out.trans hy).grown hg9 (fun j e => by have := Option.some.inj e; omega)⟩))
        clear hT' ha hb' hn3 hn4
        go_upto_region 21 with (fail)
        refine wp_last ?_
        intro K0 hK0
        go_cut [32] from 33 to 105 (fun v wx => v = .int .i64 (k : Int) ∧ NwRel w l w.heap.size tb ml (.int .i64 ((k + 1 : Nat) : Int)) wx)
        case first =>
         go_region_law (first
          | (go_simp; go_at_call 41; refine (HO.out _).mono ?_; rintro e w9 ⟨rfl, hx9⟩; have hy9 : Ext wr w9 := Ext.trans (by repeat (first | (with_reducible assumption) | (with_reducible exact Ext.refl _) | (with_reducible refine Ext.drew ?_) | (with_reducible refine Ext.alloc ?_ _))) hx9; obtain ⟨⟨y0, y1, y2, y3, y4, y5, y6, y7, y8, y9, y10, y11, y12⟩, y13, y14, y15⟩ := H8c.out _ hy9; obtain ⟨W', hrun, hTT, hgg⟩ := HPut.out _ hy9)
          | fail)
         all_goals go_wp2_with fail
         all_goals go_meet
         all_goals exact ⟨rfl, HDone.out _ hy9 _ hTT hgg⟩
        case rest =>
         obtain ⟨rfl, HE⟩ := hcut
         replace HE := Lib.hid HE
         clear HDone HPut H8c
         refine hK0 _ _ ?_
         go_wp2_with fail
         go_roundw
         case rel =>
          rw [hml.out]
          repeat (with_reducible apply Exists.intro)
          exact ⟨HE.out, rfl⟩
         case measure => simp [intOf]; omega
    ·obtain rfl : k = l.length := by omega
     have hd : decide ((l.length : Int) < (l.length : Int)) = false := by simp
     have hP : newP l = (some T, 0, 0) := by
      unfold newP
      rw [if_neg h500, if_neg (by have := hb.out; omega)]
      simp only [List.take_length] at hT
      rw [hT]
     have HQ := hNP.out
     rw [hP] at HQ
     subst HQ
     have hF := Lib.hid HF
     have hsi := (HB.lt)
     have hfi := HF.lt
     have HXs := HX.size
     replace HB := Lib.hid HB
     replace HM := Lib.hid HM
     replace HX := Lib.hid HX
     obtain ⟨b0, b1⟩ := HF.cells
     clear HF hP hT hNP hr hs
     go_wp2_with fail
     have hft := hF.out.ne_ HB.out (by decide)
     have F1 := hF.out.set_ 0 (.int .i64 0)
     refine bodyPost_ret (results_tc rfl rfl (ld_fault (F1.set_ 1 (.int .i64 0)))) rfl ⟨_, rfl, (HX.out.set (p := ⟨w.heap.size, 0, none⟩) (Nat.le_refl _) _).set (p := ⟨w.heap.size, 1, none⟩) (Nat.le_refl _) _, tb, rfl, ?_⟩
     exact ⟨w1.heap.size, c, hc, (HB.out.far (p := ⟨w.heap.size, 0, none⟩) (Ne.symm hft) _).far (p := ⟨w.heap.size, 1, none⟩) (Ne.symm hft) _, (HM.out.set hF.out (by decide) 0 _).set F1 (by decide) 1 _, by omega, hw1⟩
end Go.Proofs.YtjaponmpfdpemaaGreatDoor
