/-
  words: cut, the walk.
-/
import Derived.Deep.RegionHeld3
import Derived.Test.YtjaponmpfdpemaaGreatDoorBb11
import Derived.Test.YtjaponmpfdpemaaGreatDoorBb10
import Derived.Test.YtjaponmpfdpemaaGreatDoorBb09
import Derived.Deep.LoopGhost
import Derived.WalkMore
import Derived.Test.YtjaponmpfdpemaaGreatDoorBb02
import Derived.Test.YtjaponmpfdpemaaGreatDoorBb07
set_option linter.unusedSimpArgs false
set_option linter.unusedVariables false
namespace Go.Proofs.YtjaponmpfdpemaaGreatDoor
open Go.RowKit Go.Maps Go.Sort
def CtRel (w0 : World) (gr gt b1 b2 F : Nat) (fs : List Bs) (i : Value) (wr : World) : Prop := ∃ k v, k ≤ fs.length ∧ i = .int .i64 (k : Int) ∧ CtAt w0 wr gr gt b1 b2 F fs k k v
theorem cut_len (f : Bs) : (Lib.cut f [61]).2.1.length ≤ f.length := by
 unfold Lib.cut
 split
 ·simp
 ·simp
theorem grownBy_putRow {α : Type} [Inhabited α] (enc : α → Value) {w : World} {g n : Nat} {os : Array Obj} (d : Array α) : w.grownBy (grow (putRow enc (Sort.ahead w n) g 0 d) os) (some g) := by
 refine ⟨rfl, rfl, rfl, by simp, fun k hk hne => ?_⟩
 rw [heap_grow_old _ _ (by simpa using hk)]
 have : g ≠ k := fun e => hne (by rw [e])
 simp [putRow, mapBlock, Sort.ahead, Array.getElem?_modify, this]
theorem sortS_any {w : World} {base n : Nat} {v : Value} {ss : List Bs} (h : w.ownsRow base 9 1 v n (strC ss)) (hn : n ≤ 1000) :
  Calls Tryz.prog 167 #[v] w fun e w' => e = .returned (.tuple #[]) ∧ w.grownBy w' v.ownBlock := by
 have hl : ss.length = n := by have := h.1; simpa [strC] using this
 rcases h.2 with ⟨rfl, hn0⟩ | ⟨g, cap, cur, rfl, hb, hh, hnc, hcm, hsz, hx⟩
 ·refine (Tryz.slices_Sort_string_none none 0 w).mono ?_
  rintro e w' ⟨rfl, rfl⟩
  exact ⟨rfl, ⟨rfl, rfl, rfl, Nat.le_refl _, fun _ _ _ => rfl⟩⟩
 ·have hlt := (Array.getElem?_eq_some_iff.1 hh).1
  subst hl
  refine (Tryz.slices_Sort_string g 0 cap ss w (fun j hj => ?_) hlt (by omega)).mono ?_
  ·have hj' : j < ss.length := by simpa using hj
   have h1 := h.cells (g := g) rfl j (.string ⟨ss[j].toArray⟩) (by simp [strC, hj'])
   rw [add_flat] at h1
   refine ⟨?_, ?_⟩
   ·rw [h1]; simp [hj']
   ·simp [World.frozen?, hh]
  ·rintro e w' ⟨rfl, m, os, rfl⟩
   exact ⟨rfl, grownBy_putRow _ _⟩
theorem ld_table {w : World} {g : Nat} {a b c : Value} (h : Blk w g 172 #[a, b, c]) : (loadVar 172 ⟨g, 0, none⟩).run Tryz.prog w = .ok (.agg #[a, b, c]) w := by
 have q := h.cell
 simp [go_sem, q]
set_option maxRecDepth 100000 in
theorem cut_any (kind : Int) (hk : wdsOk kind = true) (W : World) (hS : Std W) :
  Calls Tryz.prog 144 #[.string ⟨(txtP kind).toArray⟩] W fun e w' => ∃ b1 b2 A n c, e = .returned (.agg #[.map (some b1), .map (some b2), .slice A n c]) ∧ w'.ownsMap Tryz.prog 9 formR b1 1000 (shortD (wordsP kind)) ∧ w'.ownsMap Tryz.prog 9 formR b2 1000 (longD' (wordsP kind)) ∧ Ext W w' := by
 have hmm := @run_makeMap Tryz.prog
 unfold wdsOk at hk
 simp only [Bool.and_eq_true, beq_iff_eq, decide_eq_true_eq] at hk
 obtain ⟨⟨⟨⟨e1, e2⟩, e3⟩, e4⟩, e5⟩ := hk
 have hall := fun f hf => List.all_eq_true.1 e5 f hf
 simp only [Bool.and_eq_true, decide_eq_true_eq] at hall
 clear e5
 generalize hT : txtP kind = T at *
 have hprs := Lib.hid e1
 clear e1
 generalize wordsP kind = prs at *
 have HF := Lib.hid (fun w h => fieldsS_any T (by omega) e2 w h)
 generalize hfs : Lib.fields T = fs at *
 have HS := Lib.hid (fun w' (hx : Ext W w') => hS.ext hx)
 have HA := Lib.hid hall
 clear hS e2 hT hfs hall
 go_enter Tryz.func144, Tryz.ntmps144
 go_wp2_with fail
 refine (HF.out _ (HS.out _ (((((Ext.refl W).alloc _).alloc _).alloc _).alloc _))).mono ?_
 rintro e w5 ⟨rfl, rfl⟩
 have H0 := CtAt.start W fs rfl rfl rfl
 unfold strC at H0
 generalize hF : ((((W.alloc (.cells #[.map none, .map none, .slice none 0 0] 172)).alloc (.map #[] 0)).alloc (.map #[] 0)).alloc (.cells #[.map (some (W.heap.size + 1)), .map (some (W.heap.size + 1 + 1)), .slice none 0 0] 172)).heap.size = F at *
 generalize ((((W.alloc (.cells #[.map none, .map none, .slice none 0 0] 172)).alloc (.map #[] 0)).alloc (.map #[] 0)).alloc (.cells #[.map (some (W.heap.size + 1)), .map (some (W.heap.size + 1 + 1)), .slice none 0 0] 172)).alloc (.cells (fs.map fun b => Value.string ⟨b.toArray⟩).toArray 9) = w5 at *
 generalize W.heap.size + 1 + 1 + 1 = gt at *
 generalize W.heap.size + 1 + 1 = b2 at *
 generalize W.heap.size + 1 = b1 at *
 generalize hgr : W.heap.size = gr at *
 replace hgr := Lib.hid hgr
 replace hF := Lib.hid hF
 have H1 := Lib.hid (show CtRel W gr gt b1 b2 F fs (.int .i64 ((0 : Nat) : Int)) w5 from ⟨0, _, by omega, rfl, H0⟩)
 clear H0
 go_wp2_with fail
 go_loopw [15] (fun i wr => CtRel W gr gt b1 b2 F fs i wr) (fun i _ => fs.length - (intOf i).toNat)
 case atStart => exact H1.out
 case round =>
  clear H1
  obtain ⟨k, v, hk, rfl, HC⟩ := hrel
  obtain ⟨w6, rfl⟩ : ∃ w6, w6 = wr := ⟨_, rfl⟩
  by_cases hlt : k < fs.length
  ·have hd : decide ((k : Int) < (fs.length : Int)) = true := by simp; omega
   have kl : (k : Int) < (fs.length : Int) := by omega
   have kz : (0 : Int) ≤ (k : Int) := by omega
   have lF := HC.f.lt
   have cF : w6.cell? ⟨F, k, none⟩ = some (.string ⟨fs[k].toArray⟩) := by
    rw [HC.f.cell k]
    simp [strC, hlt]
   obtain ⟨⟨⟨a1, a2⟩, a3⟩, a4⟩ := HA.out _ (List.getElem_mem hlt)
   have hcl := cut_len fs[k]
   have HCu := Lib.hid (fun w (hx : Ext W w) => cutS_any fs[k] [61] (by omega) w (HS.out w hx))
   have hwl : (wpOf fs[k]).l = Lib.replaceAll (Lib.cut fs[k] [61]).1 [95] [32] := rfl
   have hws : (wpOf fs[k]).s = (Lib.cut fs[k] [61]).2.1 := rfl
   have HRe := Lib.hid (fun w (hx : Ext W w) => replS_any (Lib.cut fs[k] [61]).1 (by omega) a2 w (HS.out w hx))
   have HM := Lib.hid (fun w' (hx : Ext w6 w') => (HC.to hx).maps hlt e4 rfl hws (by omega) (by omega))
   have HP := Lib.hid (fun (w0 w W5 : World) (v v5 z : Value) (h : CtAt w0 w gr gt b1 b2 F fs (k + 1) k v) => h.push (W5 := W5) (v5 := v5) (z := z) hlt hws)
   have X0 := HC.ext
   have c0 : w6.cell? ⟨gt, 0, none⟩ = some (.map (some b1)) := HC.blk.cell 0
   have c1 : w6.cell? ⟨gt, 1, none⟩ = some (.map (some b2)) := HC.blk.cell 1
   have lg := HC.blk.lt
   clear HC
   rw [hwl] at HM a4
   generalize Lib.replaceAll (Lib.cut fs[k] [61]).1 [95] [32] = pl at *
   generalize (Lib.cut fs[k] [61]).2.1 = ps at *
   generalize (Lib.cut fs[k] [61]).1 = p0 at *
   generalize (Lib.cut fs[k] [61]).2.2 = pb at *
   clear hwl hws hcl a3 a2
   go_wp2_with fail
   refine (HCu.out _ X0).mono ?_
   rintro e w7 ⟨rfl, hx7⟩
   have X7 := X0.trans hx7
   go_wp2_with fail
   refine (HRe.out _ X7).mono ?_
   rintro e w8 ⟨rfl, hx8⟩
   have X8 := hx7.trans hx8
   have d0 := (X8.cell gt 0 none lg).trans c0
   have d1 := (X8.cell gt 1 none lg).trans c1
   have lg8 : gt < w8.heap.size := Nat.lt_of_lt_of_le lg X8.size
   obtain ⟨wa, wb, wc, ra, rb, rc, H9, Ba, Bb⟩ := HM.out _ X8.drew
   have a0 : wa.cell? ⟨gt, 0, none⟩ = some (.map (some b1)) := Ba.cell 0
   have a1 : wa.cell? ⟨gt, 1, none⟩ = some (.map (some b2)) := Ba.cell 1
   have b0 : wb.cell? ⟨gt, 0, none⟩ = some (.map (some b1)) := Bb.cell 0
   have b1' : wb.cell? ⟨gt, 1, none⟩ = some (.map (some b2)) := Bb.cell 1
   clear Ba Bb
   replace H9 := Lib.hid H9
   clear HM HCu HRe hx7 hx8 X7 c0 c1 cF lF
   go_upto_region 7 with (fail)
   go_region
   have c2 : wc.cell? ⟨gt, 2, none⟩ = some v := H9.out.blk.cell 2
   have lgc := H9.out.blk.lt
   clear ra rb rc a0 a1 b0 b1' d0 d1 lg8 X8
   obtain ⟨A, cap, rfl, hcl, hcm, _⟩ := own_slice H9.out.row
   go_wp2_with (at_builtin; refine wpl_app1 row_strS W wc (.tmp 43) (.tmp 45) rfl rfl rfl H9.out.row H9.out.ext rfl rfl rfl (by simp [Value.oneCell']) (by omega) (by unfold maxLen; omega) ?_; intro v5 W5 hg5; obtain ⟨HE, k1, k2, k3⟩ := HP.out _ _ _ _ _ _ H9.out hg5; replace HE := Lib.hid (show CtRel W gr gt b1 b2 F fs (.int .i64 ((k + 1 : Nat) : Int)) _ from ⟨k + 1, _, hlt, rfl, HE⟩); obtain ⟨A5, c5, rfl, _, _, _⟩ := own_slice hg5.own; clear hg5)
   go_roundw
   case rel => exact HE.out
   case measure => simp [intOf]; omega
  ·obtain rfl : k = fs.length := by omega
   have hd : decide ((fs.length : Int) < (fs.length : Int)) = false := by simp
   have c2 : w6.cell? ⟨gt, 2, none⟩ = some v := HC.blk.cell 2
   have lg := HC.blk.lt
   have hpr := hprs.out
   have M1 := HC.m1
   have M2 := HC.m2
   rw [List.take_length, hpr] at M1 M2
   obtain ⟨A, cap, rfl, hcl, hcm, hrd⟩ := own_slice HC.row
   have hgr' := hgr.out
   have hlr := HC.lr
   have HSo := Lib.hid (sortS_any HC.row (by omega))
   have hne := own_blk_ne HC.row HC.blk (by decide)
   have hne1 := own_map_ne HC.row HC.m1
   have hne2 := own_map_ne HC.row HC.m2
   have hnr := own_blk_ne HC.row HC.r (by decide)
   have hBr := HC.r
   have hBt := HC.blk
   have hown := HC.row.lt
   have X6 := HC.ext
   have HK := Lib.hid (fun w' (hg : w6.grownBy w' (Value.slice A fs.length cap).ownBlock) => (show Blk w' gr 172 #[.map none, .map none, .slice none 0 0] ∧ Blk w' gt 172 #[.map (some b1), .map (some b2), .slice A fs.length cap] ∧ w'.ownsMap Tryz.prog 9 formR b1 1000 (shortD prs) ∧ w'.ownsMap Tryz.prog 9 formR b2 1000 (longD' prs) ∧ Ext W w' from
    ⟨hBr.grown hg (fun e => hnr e.symm), hBt.grown hg (fun e => hne e.symm), (M1.kept hg (fun e => hne1 e.symm)).mono (by omega), (M2.kept hg (fun e => hne2 e.symm)).mono (by omega), X6.grown hg (fun x hx => (hown x hx).1)⟩))
   have hlr' := HC.lr
   have nr := HC.nr
   clear HC M1 M2 hne hne1 hne2 hnr hBr hBt hown X6 hrd hgr'
   go_wp2_with fail
   refine HSo.out.mono ?_
   rintro e w7 ⟨rfl, hg⟩
   obtain ⟨B1, B2, M1, M2, X⟩ := HK.out _ hg
   clear HK HSo hg
   obtain ⟨p0, p1⟩ := B1.cells
   obtain ⟨q0, q1⟩ := B2.cells
   have lr := B1.lt
   have lt := B2.lt
   replace B1 := Lib.hid B1
   go_wp2_with fail
   have Z : Blk (((w7.setCell ⟨gr, 0, none⟩ (.map (some b1))).setCell ⟨gr, 1, none⟩ (.map (some b2))).setCell ⟨gr, 2, none⟩ (.slice A fs.length cap)) gr 172 #[.map (some b1), .map (some b2), .slice A fs.length cap] := ((B1.out.set_ 0 _).set_ 1 _).set_ 2 _
   have m1 := (blk_map_ne B1.out M1).symm
   have m2 := (blk_map_ne B1.out M2).symm
   exact bodyPost_ret (results_c rfl rfl (ld_table Z)) rfl ⟨b1, b2, _, _, _, rfl, ((M1.setCell (a := ⟨gr, 0, none⟩) m1 _).setCell (a := ⟨gr, 1, none⟩) m1 _).setCell (a := ⟨gr, 2, none⟩) m1 _, ((M2.setCell (a := ⟨gr, 0, none⟩) m2 _).setCell (a := ⟨gr, 1, none⟩) m2 _).setCell (a := ⟨gr, 2, none⟩) m2 _,
    ((X.set (p := ⟨gr, 0, none⟩) hlr _).set (p := ⟨gr, 1, none⟩) hlr _).set (p := ⟨gr, 2, none⟩) hlr _⟩
end Go.Proofs.YtjaponmpfdpemaaGreatDoor
set_option linter.unusedSimpArgs false
set_option linter.unusedVariables false
namespace Go.Proofs.YtjaponmpfdpemaaGreatDoor
open Go.RowKit Go.Maps
def kindOk (k : Int) : Prop := k = 1 ∨ k = 2 ∨ k = 3 ∨ k = 4
def OfPost (kind : Int) (W : World) (e : Ending) (w' : World) : Prop := ∃ b1 b2 A n c, e = .returned (.agg #[.map (some b1), .map (some b2), .slice A n c]) ∧ w'.ownsMap Tryz.prog 9 formR b1 1000 (shortD (wordsP kind)) ∧ w'.ownsMap Tryz.prog 9 formR b2 1000 (longD' (wordsP kind)) ∧ Ext W w'
theorem cut_of (kind : Int) (T : Bs) (h : txtP kind = T) (hk : wdsOk kind = true) (W w : World) (hS : Std W) (hx : Ext W w) :
  Calls Tryz.prog 144 #[.string ⟨T.toArray⟩] w (OfPost kind w) := by
 subst h
 exact cut_any kind hk w (hS.ext hx)
theorem of_end {kind : Int} {W w' : World} {g b1 b2 n c : Nat} {A : Option Addr} {x y z : Value} {tmps : Array Value} (hg : W.heap.size ≤ g) (B : Blk w' g 172 #[x, y, z]) (M1 : w'.ownsMap Tryz.prog 9 formR b1 1000 (shortD (wordsP kind))) (M2 : w'.ownsMap Tryz.prog 9 formR b2 1000 (longD' (wordsP kind))) (X : Ext W w')
  (ht : tmps.getD 2 undef = .pointer (some ⟨g, 0, none⟩)) :
  bodyPost Tryz.prog Tryz.f116 (OfPost kind W) Exit.ret { tmps := tmps, defers := [] } (((w'.setCell ⟨g, 0, none⟩ (.map (some b1))).setCell ⟨g, 1, none⟩ (.map (some b2))).setCell ⟨g, 2, none⟩ (.slice A n c)) := by
 have m1 := (blk_map_ne B M1).symm
 have m2 := (blk_map_ne B M2).symm
 exact bodyPost_ret (results_c rfl ht (ld_table (((B.set_ 0 (.map (some b1))).set_ 1 (.map (some b2))).set_ 2 (.slice A n c)))) rfl ⟨b1, b2, A, n, c, rfl, ((M1.setCell (a := ⟨g, 0, none⟩) m1 _).setCell (a := ⟨g, 1, none⟩) m1 _).setCell (a := ⟨g, 2, none⟩) m1 _, ((M2.setCell (a := ⟨g, 0, none⟩) m2 _).setCell (a := ⟨g, 1, none⟩) m2 _).setCell (a := ⟨g, 2, none⟩) m2 _,
  ((X.set (p := ⟨g, 0, none⟩) hg _).set (p := ⟨g, 1, none⟩) hg _).set (p := ⟨g, 2, none⟩) hg _⟩
set_option maxRecDepth 100000 in
theorem of_1 (W : World) (hS : Std W) : Calls Tryz.prog 116 #[.int .i64 1] W (OfPost 1 W) := by
 have HC := Lib.hid (fun w hx => cut_of 1 sufText rfl wds_ok.1 W w hS hx)
 go_enter Tryz.func116, Tryz.ntmps116
 go_wp2_with fail
 have B0 := Blk.new W 172 #[.map none, .map none, .slice none 0 0]
 have X0 := (Ext.refl W).alloc (.cells #[.map none, .map none, .slice none 0 0] 172)
 have hg := Nat.le_refl W.heap.size
 generalize W.alloc (.cells #[.map none, .map none, .slice none 0 0] 172) = w1 at *
 refine (HC.out _ (X0.alloc _)).mono ?_
 rintro e w' ⟨b1, b2, A, n, c, rfl, M1, M2, X⟩
 have B2 := (B0.alloc _).ext X
 have X2 := (X0.alloc _).trans X
 clear HC X0 B0 X
 obtain ⟨q0, q1⟩ := B2.cells
 have lg := B2.lt
 generalize hgg : W.heap.size = g at *
 have hg' := Lib.hid (show W.heap.size ≤ g by omega)
 clear hg
 replace hgg := Lib.hid hgg
 replace B2 := Lib.hid B2
 replace M1 := Lib.hid M1
 replace M2 := Lib.hid M2
 go_wp2_with fail
 refine of_end hg'.out B2.out M1.out M2.out X2 ?_
 rfl
set_option maxRecDepth 100000 in
theorem of_2 (W : World) (hS : Std W) : Calls Tryz.prog 116 #[.int .i64 2] W (OfPost 2 W) := by
 have HC := Lib.hid (fun w hx => cut_of 2 dirText rfl wds_ok.2.1 W w hS hx)
 go_enter Tryz.func116, Tryz.ntmps116
 go_wp2_with fail
 have B0 := Blk.new W 172 #[.map none, .map none, .slice none 0 0]
 have X0 := (Ext.refl W).alloc (.cells #[.map none, .map none, .slice none 0 0] 172)
 have hg := Nat.le_refl W.heap.size
 generalize W.alloc (.cells #[.map none, .map none, .slice none 0 0] 172) = w1 at *
 refine (HC.out _ (X0.alloc _)).mono ?_
 rintro e w' ⟨b1, b2, A, n, c, rfl, M1, M2, X⟩
 have B2 := (B0.alloc _).ext X
 have X2 := (X0.alloc _).trans X
 clear HC X0 B0 X
 obtain ⟨q0, q1⟩ := B2.cells
 have lg := B2.lt
 generalize hgg : W.heap.size = g at *
 have hg' := Lib.hid (show W.heap.size ≤ g by omega)
 clear hg
 replace hgg := Lib.hid hgg
 replace B2 := Lib.hid B2
 replace M1 := Lib.hid M1
 replace M2 := Lib.hid M2
 go_wp2_with fail
 refine of_end hg'.out B2.out M1.out M2.out X2 ?_
 rfl
set_option maxRecDepth 100000 in
theorem of_3 (W : World) (hS : Std W) : Calls Tryz.prog 116 #[.int .i64 3] W (OfPost 3 W) := by
 have HC := Lib.hid (fun w hx => cut_of 3 staText rfl wds_ok.2.2.1 W w hS hx)
 go_enter Tryz.func116, Tryz.ntmps116
 go_wp2_with fail
 have B0 := Blk.new W 172 #[.map none, .map none, .slice none 0 0]
 have X0 := (Ext.refl W).alloc (.cells #[.map none, .map none, .slice none 0 0] 172)
 have hg := Nat.le_refl W.heap.size
 generalize W.alloc (.cells #[.map none, .map none, .slice none 0 0] 172) = w1 at *
 refine (HC.out _ (X0.alloc _)).mono ?_
 rintro e w' ⟨b1, b2, A, n, c, rfl, M1, M2, X⟩
 have B2 := (B0.alloc _).ext X
 have X2 := (X0.alloc _).trans X
 clear HC X0 B0 X
 obtain ⟨q0, q1⟩ := B2.cells
 have lg := B2.lt
 generalize hgg : W.heap.size = g at *
 have hg' := Lib.hid (show W.heap.size ≤ g by omega)
 clear hg
 replace hgg := Lib.hid hgg
 replace B2 := Lib.hid B2
 replace M1 := Lib.hid M1
 replace M2 := Lib.hid M2
 go_wp2_with fail
 refine of_end hg'.out B2.out M1.out M2.out X2 ?_
 rfl
set_option maxRecDepth 100000 in
theorem of_4 (W : World) (hS : Std W) : Calls Tryz.prog 116 #[.int .i64 4] W (OfPost 4 W) := by
 have HC := Lib.hid (fun w hx => cut_of 4 uniText rfl wds_ok.2.2.2 W w hS hx)
 go_enter Tryz.func116, Tryz.ntmps116
 go_wp2_with fail
 have B0 := Blk.new W 172 #[.map none, .map none, .slice none 0 0]
 have X0 := (Ext.refl W).alloc (.cells #[.map none, .map none, .slice none 0 0] 172)
 have hg := Nat.le_refl W.heap.size
 generalize W.alloc (.cells #[.map none, .map none, .slice none 0 0] 172) = w1 at *
 refine (HC.out _ (X0.alloc _)).mono ?_
 rintro e w' ⟨b1, b2, A, n, c, rfl, M1, M2, X⟩
 have B2 := (B0.alloc _).ext X
 have X2 := (X0.alloc _).trans X
 clear HC X0 B0 X
 obtain ⟨q0, q1⟩ := B2.cells
 have lg := B2.lt
 generalize hgg : W.heap.size = g at *
 have hg' := Lib.hid (show W.heap.size ≤ g by omega)
 clear hg
 replace hgg := Lib.hid hgg
 replace B2 := Lib.hid B2
 replace M1 := Lib.hid M1
 replace M2 := Lib.hid M2
 go_wp2_with fail
 refine of_end hg'.out B2.out M1.out M2.out X2 ?_
 rfl
theorem wof_any (kind : Int) (hk : kindOk kind) (W : World) (hS : Std W) : Calls Tryz.prog 116 #[.int .i64 kind] W (OfPost kind W) := by
 rcases hk with rfl | rfl | rfl | rfl
 ·exact of_1 W hS
 ·exact of_2 W hS
 ·exact of_3 W hS
 ·exact of_4 W hS
theorem shortP_F (kind : Int) (w : Bs) : shortP kind w = shortF (wordsP kind).reverse w := rfl
theorem look_form {w : World} {b n : Nat} {D : DataW Unit} (h : w.ownsMap Tryz.prog 9 formR b n D) {k s : Bs} (hk : k.length ≤ 100000) (ha : D.atKey (klS k) (.lit (.string [])) = .lit (.string s)) {q : Bool} (hh : has D (klS k) = q) :
  (Instr.lookup 170 (.map (some b)) (.string ⟨k.toArray⟩) true).run Tryz.prog w = .ok (.tuple #[.agg #[.string ⟨s.toArray⟩], .bool q]) w := by
 obtain ⟨v, ps, hr, hv⟩ := h.look_ok keyedS Tryz.underlying170 (zeroForm w) (formR_mk []) (keyS k hk)
 rw [ha] at hv
 rw [hh] at hr
 have := formR_inv hv
 rw [this] at hr
 exact hr
set_option maxRecDepth 100000 in
theorem short_any (kind : Int) (hk : kindOk kind) (word : Bs) (hw : word.length ≤ 100000) (W : World) (hS : Std W) :
  Calls Tryz.prog 78 #[.int .i64 kind, .string ⟨word.toArray⟩] W fun e w' => e = .returned (.tuple #[.string ⟨(shortP kind word).1.toArray⟩, .bool (shortP kind word).2]) ∧ Ext W w' := by
 have HO := Lib.hid (wof_any kind hk W hS)
 have HD := Lib.hid (shortD_at _ (wordsP kind) word rfl)
 rw [shortP_F]
 generalize shortF (wordsP kind).reverse word = R at *
 clear hk
 go_enter Tryz.func78, Tryz.ntmps78
 go_wp2_with fail
 refine HO.out.mono ?_
 rintro e w1 ⟨b1, b2, A, n, c, rfl, M1, M2, X⟩
 have hl := look_form M1 hw HD.out.2.1 HD.out.2.2
 clear HO HD M1 M2
 have hfd : (Instr.field 172 (.agg #[.map (some b1), .map (some b2), .slice A n c]) 0).run Tryz.prog w1 = .ok (.map (some b1)) w1 := by kernel_rfl
 go_wp2_with fail
 go_ret2
 exact ⟨rfl, X.alloc _⟩
end Go.Proofs.YtjaponmpfdpemaaGreatDoor
set_option linter.unusedSimpArgs false
set_option linter.unusedVariables false
namespace Go.Proofs.YtjaponmpfdpemaaGreatDoor
open Go.RowKit
def iV (l : List Int) : List Value := l.map fun n => .int .i64 n
def PutsRel (w : World) (l : List Int) (o i : Value) (wr : World) : Prop :=
 ∃ k : Nat, k ≤ l.length ∧ i = .int .i64 (k : Int) ∧ wr.ownsRow w.heap.size 5 1 o (putsL (l.take k)).length (bV (putsL (l.take k))) ∧ Ext w wr ∧ AllP wr o u8P
theorem PutsRel.next {w w1 : World} {l : List Int} {k : Nat} {v1 : Value} {n m : Nat} {xs : List Value} (hk : k < l.length) (hg : w1.ownsRow w.heap.size 5 1 v1 n xs) (hn : n = (putsL (l.take k)).length + (putL l[k]).length) (hxs : xs = bV (putsL (l.take k)) ++ bV (putL l[k])) (hx : Ext w w1) (hall : AllP w1 v1 u8P) (hm : m = k + 1) : PutsRel w l v1 (.int .i64 (m : Int)) w1 := by
 subst hm hn hxs
 refine ⟨k + 1, by omega, rfl, ?_, hx, hall⟩
 rw [putsL_snoc l k hk, bV_app, List.length_append]
 exact hg
theorem PutsRel.done {w w1 : World} {l : List Int} {k : Nat} {o : Value} (hk : k = l.length) (h : w1.ownsRow w.heap.size 5 1 o (putsL (l.take k)).length (bV (putsL (l.take k)))) : w1.ownsRow w.heap.size 5 1 o (putsL l).length (bV (putsL l)) := by
 subst hk; rwa [List.take_length] at h
end Go.Proofs.YtjaponmpfdpemaaGreatDoor
set_option linter.unusedSimpArgs false
set_option linter.unusedVariables false
namespace Go.Proofs.YtjaponmpfdpemaaGreatDoor
open Go.RowKit
theorem tok_reads {w : World} {B : Nat} {A : Option Addr} {out : List Tok} (h : Reads w B 2 A out.length (tokCells out)) {k : Nat} (hk : k < out.length) : ∃ g o, A = some ⟨g, o, none⟩ ∧ g < B ∧ w.cell? ⟨g, o + k * 2, none⟩ = some (.int .i64 out[k].k) ∧ w.cell? ⟨g, o + k * 2 + 1, none⟩ = some (.string ⟨out[k].t.toArray⟩) := by
 obtain ⟨g, o, e, hg, hc⟩ := h.cellAt hk
 exact ⟨g, o, e, hg, hc _ _ (flat_get (f := tokC) (c := 2) (fun _ => rfl) out k 0 hk (by decide)), hc _ _ (flat_get (f := tokC) (c := 2) (fun _ => rfl) out k 1 hk (by decide))⟩
def OnOut (W : World) (l : List Tok) (ks : List Int) (g : Nat) (i : Value) (wr : World) : Prop := ∃ k : Nat, k + g = l.length ∧ i = .int .i64 (k : Int) ∧ (∀ j (h : j < l.length), j < k → ks.contains l[j].k = true) ∧ Ext W wr
def OnIn (W : World) (ks : List Int) (kk : Int) (g : Nat) (i : Value) (wr : World) : Prop := ∃ q : Nat, q + g = ks.length ∧ i = .int .i64 (q : Int) ∧ (∀ j (h : j < ks.length), j < q → ks[j] ≠ kk) ∧ W = wr
theorem kind_all {l : List Tok} {ks : List Int} (h : ∀ j (h : j < l.length), ks.contains l[j].k = true) : kindOf l ks = true := by
 unfold kindOf
 rw [List.all_eq_true]
 intro t ht
 obtain ⟨j, hj, rfl⟩ := List.mem_iff_getElem.1 ht
 exact h j hj
theorem kind_not {l : List Tok} {ks : List Int} {k : Nat} (hk : k < l.length) (h : ∀ j (h : j < ks.length), ks[j] ≠ l[k].k) : kindOf l ks = false := by
 cases hx : kindOf l ks with
 | false => rfl
 | true =>
  have := List.all_eq_true.1 hx _ (List.getElem_mem hk)
  rw [List.contains_iff_mem] at this
  obtain ⟨j, hj, e⟩ := List.mem_iff_getElem.1 this
  exact absurd e (h j hj)
set_option maxRecDepth 100000 in
theorem only_any (l : List Tok) (A : Option Addr) (n cap : Nat) (ks : List Int) (A' : Option Addr) (m cap' : Nat) (W : World) (hn : l.length = n) (hm : ks.length = m) (h1 : Reads W W.heap.size 2 A n (tokCells l)) (h2 : Reads W W.heap.size 1 A' m (iV ks)) (l1 : n ≤ 1000) (l2 : m ≤ 1000) :
  Calls Tryz.prog 76 #[.slice A n cap, .slice A' m cap'] W fun e w' => e = .returned (.bool (kindOf l ks)) ∧ Ext W w' := by
 subst hn hm
 have H1 := Lib.hid (fun w' (hx : Ext W w') => h1.ext hx)
 have H2 := Lib.hid (fun w' (hx : Ext W w') => h2.ext hx)
 clear h1 h2
 go_enter Tryz.func76, Tryz.ntmps76
 go_wp2
 go_step3
 go_wp2
 go_step3
 go_wp2
 go_loopg [11] l.length (fun g i wr => OnOut W l ks g i wr)
 case atStart => exact ⟨0, by omega, rfl, fun j h hj => absurd hj (by omega), Ext.refl _⟩
 case round =>
  obtain ⟨k, hk, rfl, hP, hX⟩ := hrel
  obtain ⟨w3, rfl⟩ : ∃ w3, w3 = wr := ⟨_, rfl⟩
  cases gk with
  | succ g1 =>
   have hlt : k < l.length := by omega
   have hd : decide ((k : Int) < (l.length : Int)) = true := by simp; omega
   have kl : (k : Int) < (l.length : Int) := by omega
   have kz : (0 : Int) ≤ (k : Int) := by omega
   obtain ⟨g, o, rfl, hg, t0, t1⟩ := tok_reads (H1.out _ hX) hlt
   have X4 := hX.alloc (.cells #[.int .i64 l[k].k, .string ⟨l[k].t.toArray⟩] 105)
   have B6 := Blk.new w3 105 #[.int .i64 l[k].k, .string ⟨l[k].t.toArray⟩]
   have HN := Lib.hid (fun w' (hx : Ext W w') (hc : ks.contains l[k].k = true) => (show OnOut W l ks g1 (.int .i64 ((k + 1 : Nat) : Int)) w' from ⟨k + 1, by omega, rfl, fun j h hj => by
    by_cases e : j = k
    ·subst e; exact hc
    ·exact hP j h (by omega), hx⟩))
   have HK := Lib.hid (fun h => kind_not (ks := ks) hlt h)
   clear hP
   generalize l[k].k = kk at *
   generalize l[k].t = tt at *
   go_wp2_with fail
   generalize w3.alloc (.cells #[.int .i64 kk, .string ⟨tt.toArray⟩] 105) = w4 at *
   generalize w3.heap.size = g6 at *
   clear t0 t1 hg
   go_loopg [17] ks.length (fun g i wr => OnIn w4 ks kk g i wr)
   case atStart => exact ⟨0, by omega, rfl, fun j h hj => absurd hj (by omega), rfl⟩
   case round =>
    obtain ⟨q, hq, rfl, hne, rfl⟩ := hrel
    cases gk with
    | succ g2 =>
     have hql : q < ks.length := by omega
     have hd2 : decide ((q : Int) < (ks.length : Int)) = true := by simp; omega
     have ql : (q : Int) < (ks.length : Int) := by omega
     have qz : (0 : Int) ≤ (q : Int) := by omega
     obtain ⟨gb, o2, rfl, hg2, hc2⟩ := (H2.out _ X4).cellAt hql
     have c2 := hc2 q (.int .i64 ks[q]) (by simp [iV, hql])
     obtain ⟨b0, b1⟩ := B6.cells
     have lb := B6.lt
     clear hc2
     by_cases he : kk = ks[q]
     ·have e0 : (kk == ks[q]) = true := by simpa using he
      have HE := Lib.hid (HN.out _ X4 (by rw [List.contains_iff_mem, he]; exact List.getElem_mem hql))
      clear hne
      generalize ks[q] = kq at *
      go_wp2_with fail
      go_roundg g1
      case rel => exact HE.out
      case measure => omega
     ·have e0 : (kk == ks[q]) = false := by simpa using he
      have HE := Lib.hid (show OnIn w4 ks kk g2 (.int .i64 ((q + 1 : Nat) : Int)) w4 from ⟨q + 1, by omega, rfl, fun j h hj => by
       by_cases e : j = q
       ·subst e; exact fun e => he e.symm
       ·exact hne j h (by omega), rfl⟩)
      clear hne he
      generalize ks[q] = kq at *
      go_wp2_with fail
      go_roundg g2
      case rel => exact HE.out
      case measure => omega
    | zero =>
     have hql : ¬ q < ks.length := by omega
     have hd2 : decide ((q : Int) < (ks.length : Int)) = false := by simp; omega
     have hkf := Lib.hid (HK.out fun j h => hne j h (by omega))
     clear hne
     go_wp2_with fail
     try rw [Exit.noGoto_ret]
     go_ret
     exact ⟨by rw [hkf.out]; rfl, X4⟩
  | zero =>
   have hd : decide ((k : Int) < (l.length : Int)) = false := by simp; omega
   have hkt := Lib.hid (kind_all (l := l) (ks := ks) fun j h => hP j h (by omega))
   clear hP
   go_wp2_with fail
   try rw [Exit.noGoto_ret]
   go_ret
   exact ⟨by rw [hkt.out]; rfl, hX⟩
end Go.Proofs.YtjaponmpfdpemaaGreatDoor
set_option linter.unusedSimpArgs false
set_option linter.unusedVariables false
namespace Go.Proofs.YtjaponmpfdpemaaGreatDoor
open Go.RowKit
def tokV (t : Tok) : Value := .agg #[.int .i64 t.k, .string ⟨t.t.toArray⟩]
theorem tok_end (W : World) (x y : Value) : (loadVar 105 ⟨W.heap.size, 0, none⟩).run Tryz.prog (W.alloc (.cells #[x, y] 105)) = .ok (.agg #[x, y]) (W.alloc (.cells #[x, y] 105)) ∧ Ext W (W.alloc (.cells #[x, y] 105)) := by
 refine ⟨?_, (Ext.refl W).alloc _⟩
 have q := (Blk.new W 105 #[x, y]).cell
 generalize W.alloc (.cells #[x, y] 105) = w' at *
 simp [go_sem, q]
set_option maxRecDepth 100000 in
theorem first_any (l : List Tok) (A : Option Addr) (cap g : Nat) (W : World) (hc : Blk W g 113 #[.slice A l.length cap]) (h : Reads W W.heap.size 2 A l.length (tokCells l)) (h0 : 0 < l.length) (hl : l.length ≤ 1000) :
  Calls Tryz.prog 86 #[.pointer (some ⟨g, 0, none⟩)] W fun e w' => e = .returned (tokV l[0]) ∧ Ext W w' := by
 obtain ⟨g2, o, rfl, hg, t0, t1⟩ := tok_reads h h0
 obtain ⟨b0, b1⟩ := hc.cells
 have lb := hc.lt
 have kl : (0 : Int) < (l.length : Int) := by omega
 simp only [Nat.zero_mul, Nat.add_zero] at t0 t1
 clear h
 unfold tokV
 generalize l[0].k = kk at *
 generalize l[0].t = tt at *
 go_enter Tryz.func86, Tryz.ntmps86
 go_wp2_with fail
 obtain ⟨e1, e2⟩ := tok_end W (.int .i64 kk) (.string ⟨tt.toArray⟩)
 exact bodyPost_ret (results_c rfl rfl e1) rfl ⟨rfl, e2⟩
set_option maxRecDepth 100000 in
theorem must_so (e : Int) (at_ : Int) (W : World) : Calls Tryz.prog 92 #[.bool true, .int .i64 e, .int .i64 at_] W fun e w' => e = .returned (.tuple #[]) ∧ w' = W := by
 go_enter Tryz.func92, Tryz.ntmps92
 go_wp2_with fail
 exact bodyPost_end (results_none rfl _ _ _) rfl ⟨rfl, rfl⟩
end Go.Proofs.YtjaponmpfdpemaaGreatDoor
set_option linter.unusedSimpArgs false
set_option linter.unusedVariables false
namespace Go.Proofs.YtjaponmpfdpemaaGreatDoor
open Go.RowKit
theorem tok_ld {w : World} {g : Nat} {x y : Value} (h : Blk w g 105 #[x, y]) : (loadVar 105 ⟨g, 0, none⟩).run Tryz.prog w = .ok (.agg #[x, y]) w := by
 have q := h.cell
 simp [go_sem, q]
set_option maxRecDepth 100000 in
theorem last_any (l : List Tok) (A : Option Addr) (n N cap g : Nat) (W : World) (hN : N = n + 1) (hn : N = l.length) (hc : Blk W g 113 #[.slice A N cap]) (h : Reads W W.heap.size 2 A l.length (tokCells l)) (hl : l.length ≤ 1000) :
  Calls Tryz.prog 95 #[.pointer (some ⟨g, 0, none⟩)] W fun e w' => e = .returned (tokV (l[n]'(by omega))) ∧ Ext W w' := by
 obtain ⟨g2, o, rfl, hg, t0, t1⟩ := tok_reads h (k := n) (by omega)
 have c0 : W.cell? ⟨g, 0, none⟩ = some (.slice (some ⟨g2, o, none⟩) N cap) := hc.cell 0
 have lb := hc.lt
 have kz : (0 : Int) ≤ (n : Int) := by omega
 have kl : (n : Int) < (N : Int) := by omega
 have kx : n ≤ 1000 := by omega
 have ee : (N : Int) - 1 = (n : Int) := by omega
 have ew : IntKind.i64.wrap ((N : Int) - 1) = (n : Int) := by rw [ee]; rw [IntKind.wrap_i64]; omega
 clear h hc
 unfold tokV
 generalize (l[n]'(by omega)).k = kk at *
 generalize (l[n]'(by omega)).t = tt at *
 clear hn hl hN ee
 have HX : ∀ w', Ext W w' → w'.cell? ⟨g, 0, none⟩ = some (.slice (some ⟨g2, o, none⟩) N cap) ∧ w'.cell? ⟨g2, o + n * 2, none⟩ = some (.int .i64 kk) ∧ w'.cell? ⟨g2, o + n * 2 + 1, none⟩ = some (.string ⟨tt.toArray⟩) := fun w' hx => ⟨(hx.cell _ _ none lb).trans c0, (hx.cell _ _ none hg).trans t0, (hx.cell _ _ none hg).trans t1⟩
 replace HX := Lib.hid HX
 go_enter Tryz.func95, Tryz.ntmps95
 go_wp2_with fail
 go_region_held3 (fun w' => w'.cell? ⟨g, 0, none⟩ = some (.slice (some ⟨g2, o, none⟩) N cap) ∧ w'.cell? ⟨g2, o + n * 2, none⟩ = some (.int .i64 kk) ∧ w'.cell? ⟨g2, o + n * 2 + 1, none⟩ = some (.string ⟨tt.toArray⟩))
  (with_reducible refine HX.out _ ?_; with_reducible repeat (first | exact Ext.refl _ | refine Ext.drew ?_ | refine Ext.alloc ?_ _))
  (fail)
 all_goals
  go_wp2_with fail
  have B := (Blk.new W 105 #[.int .i64 kk, .string ⟨tt.toArray⟩]).ext (Ext.drew (Ext.refl _))
  exact bodyPost_ret (results_c rfl rfl (tok_ld B)) rfl ⟨rfl, Ext.drew ((Ext.refl W).alloc _)⟩
end Go.Proofs.YtjaponmpfdpemaaGreatDoor
set_option linter.unusedSimpArgs false
set_option linter.unusedVariables false
namespace Go.Proofs.YtjaponmpfdpemaaGreatDoor
open Go.RowKit
set_option maxRecDepth 100000 in
theorem must_not (e : Int) (at_ : Int) (W : World) : Calls Tryz.prog 92 #[.bool false, .int .i64 e, .int .i64 at_] W fun r w' => r = .panicked [{ v := .iface 184 (.agg #[.int .i64 e, .int .i64 at_]), recovered := false }] ∧ w' = W := by
 go_enter Tryz.func92, Tryz.ntmps92
 go_wp2_with fail
 all_goals (simp [Oper.upon, Instr.panic, go_sem]; go_wp2_with fail; first | (unfold bodyPost; exact ⟨rfl, rfl, rfl⟩) | (simp [bodyPost, go_sem]; done) | (unfold bodyPost; trace_state))
end Go.Proofs.YtjaponmpfdpemaaGreatDoor
set_option linter.unusedSimpArgs false
set_option linter.unusedVariables false
namespace Go.Proofs.YtjaponmpfdpemaaGreatDoor
open Go.RowKit
set_option maxRecDepth 100000 in
theorem shortTok_any (t : Tok) (kind : Int) (hk : kindOk kind) (ht : t.t.length ≤ 1000) (W : World) (hS : Std W) :
  Calls Tryz.prog 117 #[.agg #[.int .i64 t.k, .string ⟨t.t.toArray⟩], .int .i64 kind] W fun e w' => e = .returned (.string ⟨(shortT t kind).toArray⟩) ∧ Ext W w' := by
 have HS := Lib.hid (fun w (hx : Ext W w) => short_any kind hk t.t (by omega) w (hS.ext hx))
 have B0 := Blk.new W 105 #[.int .i64 t.k, .string ⟨t.t.toArray⟩]
 unfold shortT
 generalize t.t = tt at *
 generalize t.k = tk at *
 go_enter Tryz.func117, Tryz.ntmps117
 go_wp2_with fail
 refine (HS.out _ ((Ext.refl W).alloc _)).mono ?_
 rintro e w1 ⟨rfl, hx⟩
 have X := ((Ext.refl W).alloc (.cells #[.int .i64 tk, .string ⟨tt.toArray⟩] 105)).trans hx
 clear HS B0 hx
 go_wp2_with fail
 go_ret
 exact ⟨rfl, X⟩
set_option maxRecDepth 100000 in
theorem digits_any (s : Bs) (lo hi : Nat) (hs : s.length ≤ 1000) (hb : lo ≤ 100 ∧ hi ≤ 100) (W : World) :
  Calls Tryz.prog 52 #[.string ⟨s.toArray⟩, .int .i64 (lo : Int), .int .i64 (hi : Int)] W fun e w' => e = .returned (.bool (digitsP s lo hi)) ∧ Ext W w' := by
 have hP : digitsP s lo hi = (decide (lo ≤ s.length ∧ s.length ≤ hi) && s.all digB) := rfl
 have HT := Lib.hid (fun w => trim_any s w (by omega))
 by_cases h1 : lo ≤ s.length
 ·by_cases h2 : s.length ≤ hi
  ·have d1 : decide ((lo : Int) ≤ (s.length : Int)) = true := by simp; omega
   have d2 : decide ((s.length : Int) ≤ (hi : Int)) = true := by simp; omega
   rw [hP, decide_eq_true (show lo ≤ s.length ∧ s.length ≤ hi from ⟨h1, h2⟩), Bool.true_and]
   go_enter Tryz.func52, Tryz.ntmps52
   go_wp2_with fail
   refine (HT.out _).mono ?_
   rintro e w1 ⟨⟨r, rfl, hr⟩, hx⟩
   by_cases hr0 : r = []
   ·subst hr0
    have hq := Lib.hid (hr.1 rfl)
    clear hr HT hP
    go_wp2_with fail
    go_ret
    exact ⟨by rw [hq.out]; rfl, hx⟩
   ·have hf : s.all digB = false := by
     cases h : s.all digB with
     | true => exact absurd (hr.2 h) hr0
     | false => rfl
    have hre : r.isEmpty = false := by cases r with | nil => exact absurd rfl hr0 | cons _ _ => rfl
    replace hf := Lib.hid hf
    clear hr HT hP hr0
    go_wp2_with fail
    go_ret
    exact ⟨by rw [hf.out]; rfl, hx⟩
  ·have d1 : decide ((lo : Int) ≤ (s.length : Int)) = true := by simp; omega
   have d2 : decide ((s.length : Int) ≤ (hi : Int)) = false := by simp; omega
   rw [hP, decide_eq_false (show ¬ (lo ≤ s.length ∧ s.length ≤ hi) from fun h => h2 h.2), Bool.false_and]
   go_enter Tryz.func52, Tryz.ntmps52
   go_wp2_with fail
   go_ret
   exact ⟨rfl, Ext.refl _⟩
 ·have d1 : decide ((lo : Int) ≤ (s.length : Int)) = false := by simp; omega
  rw [hP, decide_eq_false (show ¬ (lo ≤ s.length ∧ s.length ≤ hi) from fun h => h1 h.1), Bool.false_and]
  go_enter Tryz.func52, Tryz.ntmps52
  go_wp2_with fail
  go_ret
  exact ⟨rfl, Ext.refl _⟩
structure TokS (w : World) (A : Option Addr) (n cap : Nat) (l : List Tok) : Prop where
 len : l.length = n
 rd : Reads w w.heap.size 2 A n (tokCells l)
 le : n ≤ cap
 max : cap ≤ maxLen
 l40 : n ≤ 100
 sm : ∀ t ∈ l, t.t.length ≤ 300
theorem TokS.ext {w w' : World} {A : Option Addr} {n cap : Nat} {l : List Tok} (h : TokS w A n cap l) (hx : Ext w w') : TokS w' A n cap l := ⟨h.len, h.rd.ext hx, h.le, h.max, h.l40, h.sm⟩
theorem TokS.at_ {w : World} {A : Option Addr} {n cap : Nat} {l : List Tok} (h : TokS w A n cap l) {k : Nat} (hk : k < l.length) : ∃ g o, A = some ⟨g, o, none⟩ ∧ g < w.heap.size ∧ w.cell? ⟨g, o + k * 2, none⟩ = some (.int .i64 l[k].k) ∧ w.cell? ⟨g, o + k * 2 + 1, none⟩ = some (.string ⟨l[k].t.toArray⟩) := by
 have := h.rd
 rw [← h.len] at this
 exact tok_reads this hk
theorem join_texts : ∀ l : List Tok, Lib.join (l.map Tok.t) [32] = textsP l
 | [] => rfl
 | [t] => by simp [Lib.join, textsP]
 | t :: u :: l => by
  have ih := join_texts (u :: l)
  rw [textsP, ← ih]
  simp [Lib.join]
theorem joinP_any (l : List (List UInt8)) (sep : List UInt8) (A : Option Addr) (c n : Nat) (w : World) (hn : l.length = n) (h0 : 0 < n) (h1 : n ≤ 1000) (hr : Reads w w.heap.size 1 A n (strC l)) (hc : n ≤ c) (hall : ∀ b ∈ l, b.length ≤ 1000) (hs : sep.length ≤ 1000) :
  Calls Tryz.prog 115 #[.slice A n c, .string ⟨sep.toArray⟩] w fun e w' => e = .returned (.string ⟨(Lib.join l sep).toArray⟩) ∧ Ext w w' := by
 subst hn
 have hm : (l.map fun b : List UInt8 => (⟨b.toArray⟩ : ByteArray)).map (·.data.toList) = l := by simp [Function.comp_def]
 have hlen : (l.map fun b : List UInt8 => (⟨b.toArray⟩ : ByteArray)).length = l.length := by simp
 obtain ⟨g, off, hA, hg, hcl⟩ := hr.cellAt h0
 subst hA
 have hL : (Lib.join l sep).length ≤ 140737488355328 := by
  have hle : ∀ l : List (List UInt8), (∀ b ∈ l, b.length ≤ 1000) → Lib.lens l ≤ 1000 * l.length := by
   intro l
   induction l with
   | nil => intro _; simp [Lib.lens]
   | cons b l ih =>
    intro h
    have h1 := h b (by simp)
    have h2 := ih fun x hx => h x (by simp [hx])
    simp only [Lib.lens, List.map_cons, List.sum_cons, List.length_cons] at h2 ⊢
    omega
  cases l with
  | nil => simp at h0
  | cons b l =>
   rw [Lib.join_length]
   have h2 := hle (b :: l) hall
   simp only [List.length_cons] at h1 h2
   have : sep.length * l.length ≤ 1000 * 1000 := Nat.mul_le_mul hs (by omega)
   omega
 have := Tryz.strings_Join g off c (l.map fun b : List UInt8 => (⟨b.toArray⟩ : ByteArray)) ⟨sep.toArray⟩ w (fun j x hx => by
  apply hcl
  rw [List.getElem?_map] at hx
  unfold strC
  rw [List.getElem?_map]
  cases hj : l[j]? with
  | none => rw [hj] at hx; cases hx
  | some b => rw [hj] at hx; simp only [Option.map] at hx ⊢; rw [← Option.some.inj hx]) hg (by rw [hlen]; omega) (by rw [hlen]; exact hc) (by rw [hm]; exact hL)
 rw [hm, hlen] at this
 exact this
theorem joinS_any (l : List Bs) (sep : Bs) (A : Option Addr) (c n : Nat) (w : World) (hn : l.length = n) (h1 : n ≤ 1000) (hr : Reads w w.heap.size 1 A n (strC l)) (hc : n ≤ c) (hall : ∀ b ∈ l, b.length ≤ 1000) (hs : sep.length ≤ 1000) :
  Calls Tryz.prog 115 #[.slice A n c, .string ⟨sep.toArray⟩] w fun e w' => e = .returned (.string ⟨(Lib.join l sep).toArray⟩) ∧ Ext w w' := by
 rcases Nat.eq_zero_or_pos n with h0 | h0
 ·subst h0
  have : l = [] := List.eq_nil_of_length_eq_zero hn
  subst this
  refine (Tryz.strings_Join_none A c ⟨sep.toArray⟩ w).mono ?_
  rintro e w' ⟨rfl, rfl⟩
  exact ⟨rfl, Ext.refl _⟩
 ·exact joinP_any l sep A c n w hn h0 h1 hr hc hall hs
def TxAt (w0 : World) (l : List Tok) (v i : Value) (wr : World) : Prop := ∃ k : Nat, k ≤ l.length ∧ i = .int .i64 (k : Int) ∧ wr.ownsRow w0.heap.size 9 1 v k (strC ((l.take k).map Tok.t)) ∧ Ext w0 wr
set_option maxRecDepth 100000 in
theorem text_any (l : List Tok) (A : Option Addr) (n cap g : Nat) (W : World) (hc : Blk W g 113 #[.slice A n cap]) (h : TokS W A n cap l) :
  Calls Tryz.prog 77 #[.pointer (some ⟨g, 0, none⟩)] W fun e w' => e = .returned (.string ⟨(textsP l).toArray⟩) ∧ Ext W w' := by
 obtain rfl := h.len
 have HX := Lib.hid (fun w' (hx : Ext W w') => h.ext hx)
 have hl := h.l40
 have hsm := Lib.hid h.sm
 have c0 : W.cell? ⟨g, 0, none⟩ = some (.slice A l.length cap) := hc.cell 0
 have lg := hc.lt
 have H0 := Lib.hid (show TxAt W l (.slice none 0 0) (.int .i64 ((0 : Nat) : Int)) W from ⟨0, by omega, rfl, World.ownsRow_nil _ _ _ _, Ext.refl _⟩)
 clear h hc
 go_enter Tryz.func77, Tryz.ntmps77
 go_wp2_with fail
 go_loopw [3, 11] (fun v i wr => TxAt W l v i wr) (fun _ i _ => l.length - (intOf i).toNat)
 case atStart => exact H0.out
 case round =>
  clear H0
  obtain ⟨k, hk, rfl, hown, hx⟩ := hrel
  obtain ⟨w3, rfl⟩ : ∃ w3, w3 = wr := ⟨_, rfl⟩
  by_cases hlt : k < l.length
  ·have hd : decide ((k : Int) < (l.length : Int)) = true := by simp; omega
   have kl : (k : Int) < (l.length : Int) := by omega
   have kz : (0 : Int) ≤ (k : Int) := by omega
   obtain ⟨g2, o, rfl, hg2, t0, t1⟩ := (HX.out _ hx).at_ hlt
   have X4 := hx.alloc (.cells #[.int .i64 l[k].k, .string ⟨l[k].t.toArray⟩] 105)
   have B4 := Blk.new w3 105 #[.int .i64 l[k].k, .string ⟨l[k].t.toArray⟩]
   have H4 := own_ext hown ((Ext.refl w3).alloc (.cells #[.int .i64 l[k].k, .string ⟨l[k].t.toArray⟩] 105))
   have HN := Lib.hid (fun v5 (W5 : World) (z : Value) (w4 : World) (hg : Grew W w4 W5 9 1 z v5 v5 (k + 1) (strC ((l.take k).map Tok.t) ++ #[Value.string ⟨l[k].t.toArray⟩].toList)) => trivial)
   have HE := Lib.hid (fun (vp v5 : Value) (W5 : World) (z : Value) (w4 : World) (hg : Grew W w4 W5 9 1 z vp v5 (k + 1) (strC ((l.take k).map Tok.t) ++ #[Value.string ⟨l[k].t.toArray⟩].toList)) => (show TxAt W l v5 (.int .i64 ((k + 1 : Nat) : Int)) W5 from
    ⟨k + 1, by omega, rfl, by
     have := hg.own
     rw [List.take_succ_eq_append_getElem hlt, List.map_append, List.map_singleton, strC_snoc]
     exact this, hg.ext⟩))
   clear HN hx
   obtain ⟨A3, c3, rfl, hcl, hcm, _⟩ := own_slice hown
   clear hown
   generalize l[k].k = tk at *
   generalize l[k].t = tt at *
   go_upto_region 5 with (fail)
   clear t0 t1 hg2
   generalize w3.alloc (.cells #[.int .i64 tk, .string ⟨tt.toArray⟩] 105) = w4 at *
   generalize w3.heap.size = g5 at *
   obtain ⟨b0, b1⟩ := B4.cells
   have lb := B4.lt
   go_wp2_with (at_builtin; refine wpl_app1 row_strS W w4 (.tmp 15) (.tmp 18) rfl rfl rfl H4 X4 rfl rfl rfl (by simp [Value.oneCell']) (by omega) (by unfold maxLen; omega) ?_; intro v5 W5 hg5; replace HE := Lib.hid (HE.out _ _ _ _ _ hg5); obtain ⟨A5, c5, rfl, _, _, _⟩ := own_slice hg5.own; clear hg5)
   go_roundw
   case rel => exact HE.out
   case measure => simp [intOf]; omega
  ·obtain rfl : k = l.length := by omega
   have hd : decide ((l.length : Int) < (l.length : Int)) = false := by simp
   rw [List.take_length] at hown
   obtain ⟨A3, c3, rfl, hcl, hcm, hrd⟩ := own_slice hown
   have hJ := Lib.hid (joinS_any (l.map Tok.t) [32] A3 c3 l.length w3 (by simp) (by omega) hrd hcl (fun b hb => by
    obtain ⟨t, ht, rfl⟩ := List.mem_map.1 hb
    have := hsm.out t ht
    omega) (by decide))
   rw [join_texts] at hJ
   clear hrd hown HX
   go_wp2_with fail
   refine hJ.out.mono ?_
   rintro e w4 ⟨rfl, hx4⟩
   go_wp2_with fail
   go_ret
   exact ⟨rfl, hx.trans hx4⟩
end Go.Proofs.YtjaponmpfdpemaaGreatDoor
