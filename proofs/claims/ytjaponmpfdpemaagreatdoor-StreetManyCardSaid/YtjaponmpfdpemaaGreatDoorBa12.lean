/-
  words: cut, the walk.
-/
import Derived.Deep.RegionHeld3
import Derived.Test.YtjaponmpfdpemaaGreatDoorBa11
set_option linter.unusedVariables false
namespace Go.Proofs.YtjaponmpfdpemaaGreatDoor
open Go.RowKit Go.Maps Go.Sort

def CtRel (w0 : World) (gr gt b1 b2 F : Nat) (fs : List Bs) (i : Value) (wr : World) : Prop := ∃ k v, k ≤ fs.length ∧ i = .int .i64 (k : Int) ∧ CtAt w0 wr gr gt b1 b2 F fs k k v
theorem cut_len (f : Bs) : (Lib.cut f [61]).2.1.length ≤ f.length := by
  unfold Lib.cut
  split
  · simp
  · simp
theorem grownBy_putRow {α : Type} [Inhabited α] (enc : α → Value) {w : World} {g n : Nat} {os : Array Obj} (d : Array α) : w.grownBy (grow (putRow enc (Sort.ahead w n) g 0 d) os) (some g) := by
  refine ⟨rfl, rfl, rfl, by simp, fun k hk hne => ?_⟩
  rw [heap_grow_old _ _ (by simpa using hk)]
  have : g ≠ k := fun e => hne (by rw [e])
  simp [putRow, mapBlock, Sort.ahead, Array.getElem?_modify, this]
theorem sortS_any {w : World} {base n : Nat} {v : Value} {ss : List Bs} (h : w.ownsRow base 9 1 v n (strC ss)) (hn : n ≤ 1000) :
    Calls Tryz.prog 167 #[v] w fun e w' => e = .returned (.tuple #[]) ∧ w.grownBy w' v.ownBlock := by
  have hl : ss.length = n := by have := h.1; simpa [strC] using this
  rcases h.2 with ⟨rfl, hn0⟩ | ⟨g, cap, cur, rfl, hb, hh, hnc, hcm, hsz, hx⟩
  · refine (Tryz.slices_Sort_string_none none 0 w).mono ?_
    rintro e w' ⟨rfl, rfl⟩
    exact ⟨rfl, ⟨rfl, rfl, rfl, Nat.le_refl _, fun _ _ _ => rfl⟩⟩
  · have hlt := (Array.getElem?_eq_some_iff.1 hh).1
    subst hl
    refine (Tryz.slices_Sort_string g 0 cap ss w (fun j hj => ?_) hlt (by omega)).mono ?_
    · have hj' : j < ss.length := by simpa using hj
      have h1 := h.cells (g := g) rfl j (.string ⟨ss[j].toArray⟩) (by simp [strC, hj'])
      rw [add_flat] at h1
      refine ⟨?_, ?_⟩
      · rw [h1]; simp [hj']
      · simp [World.frozen?, hh]
    · rintro e w' ⟨rfl, m, os, rfl⟩
      exact ⟨rfl, grownBy_putRow _ _⟩
theorem ld_table {w : World} {g : Nat} {a b c : Value} (h : Blk w g 172 #[a, b, c]) : (loadVar 172 ⟨g, 0, none⟩).run Tryz.prog w = .ok (.agg #[a, b, c]) w := by
  have q := h.cell
  simp [go_sem, q]
set_option maxRecDepth 100000 in
theorem cut_any (kind : Int) (hk : wdsOk kind = true) (W : World) (hS : Std W) :
    Calls Tryz.prog 144 #[.string ⟨(txtP kind).toArray⟩] W fun e w' => ∃ b1 b2 A n c, e = .returned (.agg #[.map (some b1), .map (some b2), .slice A n c]) ∧ w'.ownsMap Tryz.prog 9 formR b1 1000 (shortD (wordsP kind)) ∧ w'.ownsMap Tryz.prog 9 formR b2 1000 (longD' (wordsP kind)) ∧ Ext W w' := by
  have hmm := @run_makeMap Tryz.prog
  unfold wdsOk at hk
  simp only [Bool.and_eq_true, beq_iff_eq, decide_eq_true_eq] at hk
  obtain ⟨⟨⟨⟨e1, e2⟩, e3⟩, e4⟩, e5⟩ := hk
  have hall := fun f hf => List.all_eq_true.1 e5 f hf
  simp only [Bool.and_eq_true, decide_eq_true_eq] at hall
  clear e5
  generalize hT : txtP kind = T at *
  have hprs := Lib.hid e1
  clear e1
  generalize wordsP kind = prs at *
  have HF := Lib.hid (fun w h => fieldsS_any T (by omega) e2 w h)
  generalize hfs : Lib.fields T = fs at *
  have HS := Lib.hid (fun w' (hx : Ext W w') => hS.ext hx)
  have HA := Lib.hid hall
  clear hS e2 hT hfs hall
  go_enter Tryz.func144, Tryz.ntmps144
  go_wp2_with fail
  refine (HF.out _ (HS.out _ (((((Ext.refl W).alloc _).alloc _).alloc _).alloc _))).mono ?_
  rintro e w5 ⟨rfl, rfl⟩
  have H0 := CtAt.start W fs rfl rfl rfl
  unfold strC at H0
  generalize hF : ((((W.alloc (.cells #[.map none, .map none, .slice none 0 0] 172)).alloc (.map #[] 0)).alloc (.map #[] 0)).alloc (.cells #[.map (some (W.heap.size + 1)), .map (some (W.heap.size + 1 + 1)), .slice none 0 0] 172)).heap.size = F at *
  generalize ((((W.alloc (.cells #[.map none, .map none, .slice none 0 0] 172)).alloc (.map #[] 0)).alloc (.map #[] 0)).alloc (.cells #[.map (some (W.heap.size + 1)), .map (some (W.heap.size + 1 + 1)), .slice none 0 0] 172)).alloc (.cells (fs.map fun b => Value.string ⟨b.toArray⟩).toArray 9) = w5 at *
  generalize W.heap.size + 1 + 1 + 1 = gt at *
  generalize W.heap.size + 1 + 1 = b2 at *
  generalize W.heap.size + 1 = b1 at *
  generalize hgr : W.heap.size = gr at *
  replace hgr := Lib.hid hgr
  replace hF := Lib.hid hF
  have H1 := Lib.hid (show CtRel W gr gt b1 b2 F fs (.int .i64 ((0 : Nat) : Int)) w5 from ⟨0, _, by omega, rfl, H0⟩)
  clear H0
  go_wp2_with fail
  go_loopw [15] (fun i wr => CtRel W gr gt b1 b2 F fs i wr) (fun i _ => fs.length - (intOf i).toNat)
  case atStart => exact H1.out
  case round =>
    clear H1
    obtain ⟨k, v, hk, rfl, HC⟩ := hrel
    obtain ⟨w6, rfl⟩ : ∃ w6, w6 = wr := ⟨_, rfl⟩
    by_cases hlt : k < fs.length
    · have hd : decide ((k : Int) < (fs.length : Int)) = true := by simp; omega
      have kl : (k : Int) < (fs.length : Int) := by omega
      have kz : (0 : Int) ≤ (k : Int) := by omega
      have lF := HC.f.lt
      have cF : w6.cell? ⟨F, k, none⟩ = some (.string ⟨fs[k].toArray⟩) := by
        rw [HC.f.cell k]
        simp [strC, hlt]
      obtain ⟨⟨⟨a1, a2⟩, a3⟩, a4⟩ := HA.out _ (List.getElem_mem hlt)
      have hcl := cut_len fs[k]
      have HCu := Lib.hid (fun w (hx : Ext W w) => cutS_any fs[k] [61] (by omega) w (HS.out w hx))
      have hwl : (wpOf fs[k]).l = Lib.replaceAll (Lib.cut fs[k] [61]).1 [95] [32] := rfl
      have hws : (wpOf fs[k]).s = (Lib.cut fs[k] [61]).2.1 := rfl
      have HRe := Lib.hid (fun w (hx : Ext W w) => replS_any (Lib.cut fs[k] [61]).1 (by omega) a2 w (HS.out w hx))
      have HM := Lib.hid (fun w' (hx : Ext w6 w') => (HC.to hx).maps hlt e4 rfl hws (by omega) (by omega))
      have HP := Lib.hid (fun (w0 w W5 : World) (v v5 z : Value) (h : CtAt w0 w gr gt b1 b2 F fs (k + 1) k v) => h.push (W5 := W5) (v5 := v5) (z := z) hlt hws)
      have X0 := HC.ext
      have c0 : w6.cell? ⟨gt, 0, none⟩ = some (.map (some b1)) := HC.blk.cell 0
      have c1 : w6.cell? ⟨gt, 1, none⟩ = some (.map (some b2)) := HC.blk.cell 1
      have lg := HC.blk.lt
      clear HC
      rw [hwl] at HM a4
      generalize Lib.replaceAll (Lib.cut fs[k] [61]).1 [95] [32] = pl at *
      generalize (Lib.cut fs[k] [61]).2.1 = ps at *
      generalize (Lib.cut fs[k] [61]).1 = p0 at *
      generalize (Lib.cut fs[k] [61]).2.2 = pb at *
      clear hwl hws hcl a3 a2
      go_wp2_with fail
      refine (HCu.out _ X0).mono ?_
      rintro e w7 ⟨rfl, hx7⟩
      have X7 := X0.trans hx7
      go_wp2_with fail
      refine (HRe.out _ X7).mono ?_
      rintro e w8 ⟨rfl, hx8⟩
      have X8 := hx7.trans hx8
      have d0 := (X8.cell gt 0 none lg).trans c0
      have d1 := (X8.cell gt 1 none lg).trans c1
      have lg8 : gt < w8.heap.size := Nat.lt_of_lt_of_le lg X8.size
      obtain ⟨wa, wb, wc, ra, rb, rc, H9, Ba, Bb⟩ := HM.out _ X8.drew
      have a0 : wa.cell? ⟨gt, 0, none⟩ = some (.map (some b1)) := Ba.cell 0
      have a1 : wa.cell? ⟨gt, 1, none⟩ = some (.map (some b2)) := Ba.cell 1
      have b0 : wb.cell? ⟨gt, 0, none⟩ = some (.map (some b1)) := Bb.cell 0
      have b1' : wb.cell? ⟨gt, 1, none⟩ = some (.map (some b2)) := Bb.cell 1
      clear Ba Bb
      replace H9 := Lib.hid H9
      clear HM HCu HRe hx7 hx8 X7 c0 c1 cF lF
      go_upto_region 7 with (fail)
      go_region
      have c2 : wc.cell? ⟨gt, 2, none⟩ = some v := H9.out.blk.cell 2
      have lgc := H9.out.blk.lt
      clear ra rb rc a0 a1 b0 b1' d0 d1 lg8 X8
      obtain ⟨A, cap, rfl, hcl, hcm, _⟩ := own_slice H9.out.row
      go_wp2_with (at_builtin; refine wpl_app1 row_strS W wc (.tmp 43) (.tmp 45) rfl rfl rfl H9.out.row H9.out.ext rfl rfl rfl (by simp [Value.oneCell']) (by omega) (by unfold maxLen; omega) ?_; intro v5 W5 hg5; obtain ⟨HE, k1, k2, k3⟩ := HP.out _ _ _ _ _ _ H9.out hg5; replace HE := Lib.hid (show CtRel W gr gt b1 b2 F fs (.int .i64 ((k + 1 : Nat) : Int)) _ from ⟨k + 1, _, hlt, rfl, HE⟩); obtain ⟨A5, c5, rfl, _, _, _⟩ := own_slice hg5.own; clear hg5)
      go_roundw
      case rel => exact HE.out
      case measure => simp [intOf]; omega
    · obtain rfl : k = fs.length := by omega
      have hd : decide ((fs.length : Int) < (fs.length : Int)) = false := by simp
      have c2 : w6.cell? ⟨gt, 2, none⟩ = some v := HC.blk.cell 2
      have lg := HC.blk.lt
      have hpr := hprs.out
      have M1 := HC.m1
      have M2 := HC.m2
      rw [List.take_length, hpr] at M1 M2
      obtain ⟨A, cap, rfl, hcl, hcm, hrd⟩ := own_slice HC.row
      have hgr' := hgr.out
      have hlr := HC.lr
      have HSo := Lib.hid (sortS_any HC.row (by omega))
      have hne := own_blk_ne HC.row HC.blk (by decide)
      have hne1 := own_map_ne HC.row HC.m1
      have hne2 := own_map_ne HC.row HC.m2
      have hnr := own_blk_ne HC.row HC.r (by decide)
      have hBr := HC.r
      have hBt := HC.blk
      have hown := HC.row.lt
      have X6 := HC.ext
      have HK := Lib.hid (fun w' (hg : w6.grownBy w' (Value.slice A fs.length cap).ownBlock) => (show Blk w' gr 172 #[.map none, .map none, .slice none 0 0] ∧ Blk w' gt 172 #[.map (some b1), .map (some b2), .slice A fs.length cap] ∧ w'.ownsMap Tryz.prog 9 formR b1 1000 (shortD prs) ∧ w'.ownsMap Tryz.prog 9 formR b2 1000 (longD' prs) ∧ Ext W w' from
        ⟨hBr.grown hg (fun e => hnr e.symm), hBt.grown hg (fun e => hne e.symm), (M1.kept hg (fun e => hne1 e.symm)).mono (by omega), (M2.kept hg (fun e => hne2 e.symm)).mono (by omega), X6.grown hg (fun x hx => (hown x hx).1)⟩))
      have hlr' := HC.lr
      have nr := HC.nr
      clear HC M1 M2 hne hne1 hne2 hnr hBr hBt hown X6 hrd hgr'
      go_wp2_with fail
      refine HSo.out.mono ?_
      rintro e w7 ⟨rfl, hg⟩
      obtain ⟨B1, B2, M1, M2, X⟩ := HK.out _ hg
      clear HK HSo hg
      obtain ⟨p0, p1⟩ := B1.cells
      obtain ⟨q0, q1⟩ := B2.cells
      have lr := B1.lt
      have lt := B2.lt
      replace B1 := Lib.hid B1
      go_wp2_with fail
      have Z : Blk (((w7.setCell ⟨gr, 0, none⟩ (.map (some b1))).setCell ⟨gr, 1, none⟩ (.map (some b2))).setCell ⟨gr, 2, none⟩ (.slice A fs.length cap)) gr 172 #[.map (some b1), .map (some b2), .slice A fs.length cap] := ((B1.out.set_ 0 _).set_ 1 _).set_ 2 _
      have m1 := (blk_map_ne B1.out M1).symm
      have m2 := (blk_map_ne B1.out M2).symm
      exact bodyPost_ret (results_c rfl rfl (ld_table Z)) rfl ⟨b1, b2, _, _, _, rfl, ((M1.setCell (a := ⟨gr, 0, none⟩) m1 _).setCell (a := ⟨gr, 1, none⟩) m1 _).setCell (a := ⟨gr, 2, none⟩) m1 _, ((M2.setCell (a := ⟨gr, 0, none⟩) m2 _).setCell (a := ⟨gr, 1, none⟩) m2 _).setCell (a := ⟨gr, 2, none⟩) m2 _,
        ((X.set (p := ⟨gr, 0, none⟩) hlr _).set (p := ⟨gr, 1, none⟩) hlr _).set (p := ⟨gr, 2, none⟩) hlr _⟩
end Go.Proofs.YtjaponmpfdpemaaGreatDoor

set_option linter.unusedVariables false
namespace Go.Proofs.YtjaponmpfdpemaaGreatDoor
open Go.RowKit Go.Maps

def kindOk (k : Int) : Prop := k = 1 ∨ k = 2 ∨ k = 3 ∨ k = 4
def OfPost (kind : Int) (W : World) (e : Ending) (w' : World) : Prop := ∃ b1 b2 A n c, e = .returned (.agg #[.map (some b1), .map (some b2), .slice A n c]) ∧ w'.ownsMap Tryz.prog 9 formR b1 1000 (shortD (wordsP kind)) ∧ w'.ownsMap Tryz.prog 9 formR b2 1000 (longD' (wordsP kind)) ∧ Ext W w'
theorem cut_of (kind : Int) (T : Bs) (h : txtP kind = T) (hk : wdsOk kind = true) (W w : World) (hS : Std W) (hx : Ext W w) :
    Calls Tryz.prog 144 #[.string ⟨T.toArray⟩] w (OfPost kind w) := by
  subst h
  exact cut_any kind hk w (hS.ext hx)
theorem of_end {kind : Int} {W w' : World} {g b1 b2 n c : Nat} {A : Option Addr} {x y z : Value} {tmps : Array Value} (hg : W.heap.size ≤ g) (B : Blk w' g 172 #[x, y, z]) (M1 : w'.ownsMap Tryz.prog 9 formR b1 1000 (shortD (wordsP kind))) (M2 : w'.ownsMap Tryz.prog 9 formR b2 1000 (longD' (wordsP kind))) (X : Ext W w')
    (ht : tmps.getD 2 undef = .pointer (some ⟨g, 0, none⟩)) :
    bodyPost Tryz.prog Tryz.f116 (OfPost kind W) Exit.ret { tmps := tmps, defers := [] } (((w'.setCell ⟨g, 0, none⟩ (.map (some b1))).setCell ⟨g, 1, none⟩ (.map (some b2))).setCell ⟨g, 2, none⟩ (.slice A n c)) := by
  have m1 := (blk_map_ne B M1).symm
  have m2 := (blk_map_ne B M2).symm
  exact bodyPost_ret (results_c rfl ht (ld_table (((B.set_ 0 (.map (some b1))).set_ 1 (.map (some b2))).set_ 2 (.slice A n c)))) rfl ⟨b1, b2, A, n, c, rfl, ((M1.setCell (a := ⟨g, 0, none⟩) m1 _).setCell (a := ⟨g, 1, none⟩) m1 _).setCell (a := ⟨g, 2, none⟩) m1 _, ((M2.setCell (a := ⟨g, 0, none⟩) m2 _).setCell (a := ⟨g, 1, none⟩) m2 _).setCell (a := ⟨g, 2, none⟩) m2 _,
    ((X.set (p := ⟨g, 0, none⟩) hg _).set (p := ⟨g, 1, none⟩) hg _).set (p := ⟨g, 2, none⟩) hg _⟩
set_option maxRecDepth 100000 in
theorem of_1 (W : World) (hS : Std W) : Calls Tryz.prog 116 #[.int .i64 1] W (OfPost 1 W) := by
  have HC := Lib.hid (fun w hx => cut_of 1 sufText rfl wds_ok.1 W w hS hx)
  go_enter Tryz.func116, Tryz.ntmps116
  go_wp2_with fail
  have B0 := Blk.new W 172 #[.map none, .map none, .slice none 0 0]
  have X0 := (Ext.refl W).alloc (.cells #[.map none, .map none, .slice none 0 0] 172)
  have hg := Nat.le_refl W.heap.size
  generalize W.alloc (.cells #[.map none, .map none, .slice none 0 0] 172) = w1 at *
  refine (HC.out _ (X0.alloc _)).mono ?_
  rintro e w' ⟨b1, b2, A, n, c, rfl, M1, M2, X⟩
  have B2 := (B0.alloc _).ext X
  have X2 := (X0.alloc _).trans X
  clear HC X0 B0 X
  obtain ⟨q0, q1⟩ := B2.cells
  have lg := B2.lt
  generalize hgg : W.heap.size = g at *
  have hg' := Lib.hid (show W.heap.size ≤ g by omega)
  clear hg
  replace hgg := Lib.hid hgg
  replace B2 := Lib.hid B2
  replace M1 := Lib.hid M1
  replace M2 := Lib.hid M2
  go_wp2_with fail
  refine of_end hg'.out B2.out M1.out M2.out X2 ?_
  rfl
set_option maxRecDepth 100000 in
theorem of_2 (W : World) (hS : Std W) : Calls Tryz.prog 116 #[.int .i64 2] W (OfPost 2 W) := by
  have HC := Lib.hid (fun w hx => cut_of 2 dirText rfl wds_ok.2.1 W w hS hx)
  go_enter Tryz.func116, Tryz.ntmps116
  go_wp2_with fail
  have B0 := Blk.new W 172 #[.map none, .map none, .slice none 0 0]
  have X0 := (Ext.refl W).alloc (.cells #[.map none, .map none, .slice none 0 0] 172)
  have hg := Nat.le_refl W.heap.size
  generalize W.alloc (.cells #[.map none, .map none, .slice none 0 0] 172) = w1 at *
  refine (HC.out _ (X0.alloc _)).mono ?_
  rintro e w' ⟨b1, b2, A, n, c, rfl, M1, M2, X⟩
  have B2 := (B0.alloc _).ext X
  have X2 := (X0.alloc _).trans X
  clear HC X0 B0 X
  obtain ⟨q0, q1⟩ := B2.cells
  have lg := B2.lt
  generalize hgg : W.heap.size = g at *
  have hg' := Lib.hid (show W.heap.size ≤ g by omega)
  clear hg
  replace hgg := Lib.hid hgg
  replace B2 := Lib.hid B2
  replace M1 := Lib.hid M1
  replace M2 := Lib.hid M2
  go_wp2_with fail
  refine of_end hg'.out B2.out M1.out M2.out X2 ?_
  rfl
set_option maxRecDepth 100000 in
theorem of_3 (W : World) (hS : Std W) : Calls Tryz.prog 116 #[.int .i64 3] W (OfPost 3 W) := by
  have HC := Lib.hid (fun w hx => cut_of 3 staText rfl wds_ok.2.2.1 W w hS hx)
  go_enter Tryz.func116, Tryz.ntmps116
  go_wp2_with fail
  have B0 := Blk.new W 172 #[.map none, .map none, .slice none 0 0]
  have X0 := (Ext.refl W).alloc (.cells #[.map none, .map none, .slice none 0 0] 172)
  have hg := Nat.le_refl W.heap.size
  generalize W.alloc (.cells #[.map none, .map none, .slice none 0 0] 172) = w1 at *
  refine (HC.out _ (X0.alloc _)).mono ?_
  rintro e w' ⟨b1, b2, A, n, c, rfl, M1, M2, X⟩
  have B2 := (B0.alloc _).ext X
  have X2 := (X0.alloc _).trans X
  clear HC X0 B0 X
  obtain ⟨q0, q1⟩ := B2.cells
  have lg := B2.lt
  generalize hgg : W.heap.size = g at *
  have hg' := Lib.hid (show W.heap.size ≤ g by omega)
  clear hg
  replace hgg := Lib.hid hgg
  replace B2 := Lib.hid B2
  replace M1 := Lib.hid M1
  replace M2 := Lib.hid M2
  go_wp2_with fail
  refine of_end hg'.out B2.out M1.out M2.out X2 ?_
  rfl
set_option maxRecDepth 100000 in
theorem of_4 (W : World) (hS : Std W) : Calls Tryz.prog 116 #[.int .i64 4] W (OfPost 4 W) := by
  have HC := Lib.hid (fun w hx => cut_of 4 uniText rfl wds_ok.2.2.2 W w hS hx)
  go_enter Tryz.func116, Tryz.ntmps116
  go_wp2_with fail
  have B0 := Blk.new W 172 #[.map none, .map none, .slice none 0 0]
  have X0 := (Ext.refl W).alloc (.cells #[.map none, .map none, .slice none 0 0] 172)
  have hg := Nat.le_refl W.heap.size
  generalize W.alloc (.cells #[.map none, .map none, .slice none 0 0] 172) = w1 at *
  refine (HC.out _ (X0.alloc _)).mono ?_
  rintro e w' ⟨b1, b2, A, n, c, rfl, M1, M2, X⟩
  have B2 := (B0.alloc _).ext X
  have X2 := (X0.alloc _).trans X
  clear HC X0 B0 X
  obtain ⟨q0, q1⟩ := B2.cells
  have lg := B2.lt
  generalize hgg : W.heap.size = g at *
  have hg' := Lib.hid (show W.heap.size ≤ g by omega)
  clear hg
  replace hgg := Lib.hid hgg
  replace B2 := Lib.hid B2
  replace M1 := Lib.hid M1
  replace M2 := Lib.hid M2
  go_wp2_with fail
  refine of_end hg'.out B2.out M1.out M2.out X2 ?_
  rfl
theorem wof_any (kind : Int) (hk : kindOk kind) (W : World) (hS : Std W) : Calls Tryz.prog 116 #[.int .i64 kind] W (OfPost kind W) := by
  rcases hk with rfl | rfl | rfl | rfl
  · exact of_1 W hS
  · exact of_2 W hS
  · exact of_3 W hS
  · exact of_4 W hS
theorem shortP_F (kind : Int) (w : Bs) : shortP kind w = shortF (wordsP kind).reverse w := rfl
theorem look_form {w : World} {b n : Nat} {D : DataW Unit} (h : w.ownsMap Tryz.prog 9 formR b n D) {k s : Bs} (hk : k.length ≤ 100000) (ha : D.atKey (klS k) (.lit (.string [])) = .lit (.string s)) {q : Bool} (hh : has D (klS k) = q) :
    (Instr.lookup 170 (.map (some b)) (.string ⟨k.toArray⟩) true).run Tryz.prog w = .ok (.tuple #[.agg #[.string ⟨s.toArray⟩], .bool q]) w := by
  obtain ⟨v, ps, hr, hv⟩ := h.look_ok keyedS Tryz.underlying170 (zeroForm w) (formR_mk []) (keyS k hk)
  rw [ha] at hv
  rw [hh] at hr
  have := formR_inv hv
  rw [this] at hr
  exact hr
set_option maxRecDepth 100000 in
theorem short_any (kind : Int) (hk : kindOk kind) (word : Bs) (hw : word.length ≤ 100000) (W : World) (hS : Std W) :
    Calls Tryz.prog 78 #[.int .i64 kind, .string ⟨word.toArray⟩] W fun e w' => e = .returned (.tuple #[.string ⟨(shortP kind word).1.toArray⟩, .bool (shortP kind word).2]) ∧ Ext W w' := by
  have HO := Lib.hid (wof_any kind hk W hS)
  have HD := Lib.hid (shortD_at _ (wordsP kind) word rfl)
  rw [shortP_F]
  generalize shortF (wordsP kind).reverse word = R at *
  clear hk
  go_enter Tryz.func78, Tryz.ntmps78
  go_wp2_with fail
  refine HO.out.mono ?_
  rintro e w1 ⟨b1, b2, A, n, c, rfl, M1, M2, X⟩
  have hl := look_form M1 hw HD.out.2.1 HD.out.2.2
  clear HO HD M1 M2
  have hfd : (Instr.field 172 (.agg #[.map (some b1), .map (some b2), .slice A n c]) 0).run Tryz.prog w1 = .ok (.map (some b1)) w1 := by kernel_rfl
  go_wp2_with fail
  go_ret2
  exact ⟨rfl, X.alloc _⟩
end Go.Proofs.YtjaponmpfdpemaaGreatDoor
