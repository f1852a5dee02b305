/-
  apportionlaw18: StreetKnown (printed by tools/genMq.py).
-/
import Derived.Deep.CutRange
import Derived.Test.YtjaponmpfdpemaaGreatDoorKb45
set_option linter.unusedVariables false
namespace Go.Proofs.YtjaponmpfdpemaaGreatDoor
open Go.RowKit

theorem knownU_V : srV knownU = .agg #[.string ⟨(oakS 1).state.toArray⟩, .string ⟨(oakS 1).city.toArray⟩, .string ⟨(oakS 1).pre.toArray⟩, .string ⟨(oakS 1).name.toArray⟩, .string ⟨(oakS 1).suf.toArray⟩, .string ⟨(oakS 1).post.toArray⟩, .int .i64 2, .int .i64 2, .int .i64 (oakS 1).side, .int .i64 (oakS 1).ax, .int .i64 (oakS 1).ay, .int .i64 (oakS 1).bx, .int .i64 (oakS 1).by_] := rfl
theorem knownV_V : srV knownV = .agg #[.string ⟨(oakS 1).state.toArray⟩, .string ⟨(oakS 1).city.toArray⟩, .string ⟨(oakS 1).pre.toArray⟩, .string ⟨(oakS 1).name.toArray⟩, .string ⟨(oakS 1).suf.toArray⟩, .string ⟨(oakS 1).post.toArray⟩, .int .i64 (oakS 1).fr, .int .i64 3, .int .i64 3, .int .i64 (oakS 1).ax, .int .i64 (oakS 1).ay, .int .i64 (-7), .int .i64 0] := rfl
set_option maxRecDepth 100000 in
set_option maxHeartbeats 8000000 in
theorem streetKnown_any (W : World) (hS : Std W) : Calls Tryz.prog 8 #[] W fun e w' => e = .returned (.bool true) ∧ Ext W w' := by
  have hs1 : ∀ s ∈ [oakS 1], SrS s 1000 := fun s hm => by
    rcases List.mem_cons.1 hm with rfl | hm
    · exact oakS_sh 1
    · cases hm
  have hs2 : ∀ s ∈ [oakS 1, oakS 1], SrS s 1000 := fun s hm => by
    rcases List.mem_cons.1 hm with rfl | hm
    · exact oakS_sh 1
    · exact hs1 s hm
  obtain ⟨T, hNew, hR, hF⟩ := new_table known_new.1 hs1 (by decide)
  have hTwo : ∃ o, newP [oakS 1, oakS 1] = (o, 7, 1) ∧ o = none := by
    obtain ⟨e1, e2⟩ := new_eq [oakS 1, oakS 1]
    rw [known_new.2] at e1 e2
    obtain ⟨o, q⟩ : ∃ o, newP [oakS 1, oakS 1] = o := ⟨_, rfl⟩
    rw [q] at e1 e2
    refine ⟨o.1, by rw [q, ← e1], ?_⟩
    cases ho : o.1 with
    | none => rfl
    | some _ => rw [ho] at e2; simp at e2
  obtain ⟨o, hTwo, rfl⟩ := hTwo
  have HN1 := Lib.hid (fun g w (hb : Blk w g 25 #[.string ⟨(oakS 1).state.toArray⟩, .string ⟨(oakS 1).city.toArray⟩, .string ⟨(oakS 1).pre.toArray⟩, .string ⟨(oakS 1).name.toArray⟩, .string ⟨(oakS 1).suf.toArray⟩, .string ⟨(oakS 1).post.toArray⟩, .int .i64 (oakS 1).fr, .int .i64 (oakS 1).to_, .int .i64 (oakS 1).side, .int .i64 (oakS 1).ax, .int .i64 (oakS 1).ay, .int .i64 (oakS 1).bx, .int .i64 (oakS 1).by_]) (hx : Ext W w) => srnew_any [oakS 1] hs1 (some ⟨g, 0, none⟩) 1 w (reads_sole hb) (by decide) (hS.ext hx))
  have HN2 := Lib.hid (fun g w (hb : Blk w g 25 #[.string ⟨(oakS 1).state.toArray⟩, .string ⟨(oakS 1).city.toArray⟩, .string ⟨(oakS 1).pre.toArray⟩, .string ⟨(oakS 1).name.toArray⟩, .string ⟨(oakS 1).suf.toArray⟩, .string ⟨(oakS 1).post.toArray⟩, .int .i64 (oakS 1).fr, .int .i64 (oakS 1).to_, .int .i64 (oakS 1).side, .int .i64 (oakS 1).ax, .int .i64 (oakS 1).ay, .int .i64 (oakS 1).bx, .int .i64 (oakS 1).by_, .string ⟨(oakS 1).state.toArray⟩, .string ⟨(oakS 1).city.toArray⟩, .string ⟨(oakS 1).pre.toArray⟩, .string ⟨(oakS 1).name.toArray⟩, .string ⟨(oakS 1).suf.toArray⟩, .string ⟨(oakS 1).post.toArray⟩, .int .i64 (oakS 1).fr, .int .i64 (oakS 1).to_, .int .i64 (oakS 1).side, .int .i64 (oakS 1).ax, .int .i64 (oakS 1).ay, .int .i64 (oakS 1).bx, .int .i64 (oakS 1).by_]) (hx : Ext W w) => srnew_any [oakS 1, oakS 1] hs2 (some ⟨g, 0, none⟩) 2 w (reads_two hb) (by decide) (hS.ext hx))
  rw [hNew] at HN1
  rw [hTwo] at HN2
  have HO1 := Lib.hid (fun w => oak_any 1 w)
  have HA1 := Lib.hid (fun w (hx : Ext W w) => l18at_any (oakS 1) (oakS_sh 1) 1 0 0 w (hS.ext hx))
  have HA2 := Lib.hid (fun w (hx : Ext W w) => l18at_any (oakS 1) (oakS_sh 1) 9 100 40 w (hS.ext hx))
  have HA3 := Lib.hid (fun w (hx : Ext W w) => l18at_any (oakS 1) (oakS_sh 1) 3 25 10 w (hS.ext hx))
  have HA4 := Lib.hid (fun w (hx : Ext W w) => l18none_any (oakS 1) (oakS_sh 1) 11 w (hS.ext hx))
  have HU := Lib.hid (fun w (hx : Ext W w) => srcheck_any knownU (by constructor <;> simp [knownU, oakS]) w (hS.ext hx))
  have HV := Lib.hid (fun w (hx : Ext W w) => l18at_any knownV (by constructor <;> simp [knownV, oakS]) 2 (-4) 0 w (hS.ext hx))
  rw [known_at.1] at HA1
  rw [known_at.2.1] at HA2
  rw [known_at.2.2.1] at HA3
  rw [known_at.2.2.2] at HA4
  rw [known_two.1, knownU_V] at HU
  rw [known_two.2, knownV_V] at HV
  have HF1 := Lib.hid (fun w00 w tb (hx : Ext W w) (hT : StrAt w00 w tb 1 T) => finds_any knownS (by decide) known_parse.1 w00 w (hS.ext hx) tb 1 T hT hR)
  have HF2 := Lib.hid (fun w00 w tb (hx : Ext W w) (hT : StrAt w00 w tb 1 T) => finds_any knownT (by decide) known_parse.2 w00 w (hS.ext hx) tb 1 T hT hR)
  rw [hF, known_find.1] at HF1
  rw [hF, known_find.2] at HF2
  have HW := Lib.hid (fun w (hx : Ext W w) => l18awake_any w (hS.ext hx))
  unfold ptV knownS at HF1
  unfold ptV knownT at HF2
  dsimp only at HF1 HF2 HA1 HA2 HA3 HA4 HN1 HN2 HU HV
  simp only [Bool.true_and, decide_true, Bool.not_false] at HA1 HA2 HA3 HA4 HV
  generalize oakS 1 = s1 at *
  simp only [srV_eq] at HO1 HA1 HA2 HA3 HA4
  clear hs1 hs2 hNew hR hF hS hTwo
  go_enter Tryz.func8, Tryz.ntmps8
  go_wp2_with fail
  refine (HO1.out _).mono ?_
  rintro e w1 ⟨rfl, hx⟩
  have X1 := Lib.hid (hx.alloc (.cells #[.string ⟨s1.state.toArray⟩, .string ⟨s1.city.toArray⟩, .string ⟨s1.pre.toArray⟩, .string ⟨s1.name.toArray⟩, .string ⟨s1.suf.toArray⟩, .string ⟨s1.post.toArray⟩, .int .i64 s1.fr, .int .i64 s1.to_, .int .i64 s1.side, .int .i64 s1.ax, .int .i64 s1.ay, .int .i64 s1.bx, .int .i64 s1.by_] 25))
  have B1 := Lib.hid (Blk.new w1 25 #[.string ⟨s1.state.toArray⟩, .string ⟨s1.city.toArray⟩, .string ⟨s1.pre.toArray⟩, .string ⟨s1.name.toArray⟩, .string ⟨s1.suf.toArray⟩, .string ⟨s1.post.toArray⟩, .int .i64 s1.fr, .int .i64 s1.to_, .int .i64 s1.side, .int .i64 s1.ax, .int .i64 s1.ay, .int .i64 s1.bx, .int .i64 s1.by_])
  clear hx
  go_upto_region 2 with (fail)
  generalize w1.alloc (.cells #[.string ⟨s1.state.toArray⟩, .string ⟨s1.city.toArray⟩, .string ⟨s1.pre.toArray⟩, .string ⟨s1.name.toArray⟩, .string ⟨s1.suf.toArray⟩, .string ⟨s1.post.toArray⟩, .int .i64 s1.fr, .int .i64 s1.to_, .int .i64 s1.side, .int .i64 s1.ax, .int .i64 s1.ay, .int .i64 s1.bx, .int .i64 s1.by_] 25) = w2 at *
  generalize w1.heap.size = g1 at *
  have BX := Lib.hid (fun w (hx : Ext w2 w) => B1.out.ext hx)
  have Y2 := Lib.hid (Ext.refl w2)
  clear B1
  obtain ⟨qa, _⟩ := (BX.out _ Y2.out).cells
  have la := (BX.out _ Y2.out).lt
  go_wp2_with fail
  refine (HA1.out _ (X1.out.trans Y2.out)).mono ?_
  rintro e w3 ⟨rfl, hx⟩
  have Y3 := Lib.hid (Y2.out.trans hx)
  clear hx qa la Y2
  obtain ⟨qa, _⟩ := (BX.out _ Y3.out).cells
  have la := (BX.out _ Y3.out).lt
  go_wp2_with fail
  refine (HA2.out _ (X1.out.trans Y3.out)).mono ?_
  rintro e w4 ⟨rfl, hx⟩
  have Y4 := Lib.hid (Y3.out.trans hx)
  clear hx qa la Y3
  obtain ⟨qa, _⟩ := (BX.out _ Y4.out).cells
  have la := (BX.out _ Y4.out).lt
  go_wp2_with fail
  refine (HA3.out _ (X1.out.trans Y4.out)).mono ?_
  rintro e w5 ⟨rfl, hx⟩
  have Y5 := Lib.hid (Y4.out.trans hx)
  clear hx qa la Y4
  obtain ⟨qa, _⟩ := (BX.out _ Y5.out).cells
  have la := (BX.out _ Y5.out).lt
  go_wp2_with fail
  refine (HA4.out _ (X1.out.trans Y5.out)).mono ?_
  rintro e w6 ⟨rfl, hx⟩
  have Y6 := Lib.hid (Y5.out.trans hx)
  clear hx qa la Y5
  obtain ⟨qa, _⟩ := (BX.out _ Y6.out).cells
  have la := (BX.out _ Y6.out).lt
  go_wp2_with fail
  refine (HN2.out _ _ (Blk.new w6 _ _) ((X1.out.trans Y6.out).alloc _)).mono ?_
  rintro e w7 ⟨_, rfl, hx, rfl⟩
  have Y8 := Lib.hid (((Y6.out.alloc _).trans hx).alloc (.cells #[.int .i64 7, .int .i64 1] 36))
  have B4 := Lib.hid (Blk.new w7 36 #[.int .i64 7, .int .i64 1])
  clear hx qa la Y6
  go_upto_region 4 with (fail)
  generalize w7.alloc (.cells #[.int .i64 7, .int .i64 1] 36) = w8 at *
  generalize w7.heap.size = g4 at *
  obtain ⟨qa, _⟩ := (BX.out _ Y8.out).cells
  have la := (BX.out _ Y8.out).lt
  go_wp2_with fail
  refine (HN1.out _ _ (Blk.new w8 _ _) ((X1.out.trans Y8.out).alloc _)).mono ?_
  rintro e w9 ⟨_, rfl, hx, tb, rfl, hT⟩
  have Y9 := Lib.hid (((Y8.out.alloc _).trans hx).alloc (.cells #[.int .i64 0, .int .i64 0] 36))
  have B6 := Lib.hid (Blk.new w9 36 #[.int .i64 0, .int .i64 0])
  have E4 := Lib.hid ((((Ext.refl w8).alloc (.cells #[.string ⟨s1.state.toArray⟩, .string ⟨s1.city.toArray⟩, .string ⟨s1.pre.toArray⟩, .string ⟨s1.name.toArray⟩, .string ⟨s1.suf.toArray⟩, .string ⟨s1.post.toArray⟩, .int .i64 s1.fr, .int .i64 s1.to_, .int .i64 s1.side, .int .i64 s1.ax, .int .i64 s1.ay, .int .i64 s1.bx, .int .i64 s1.by_] 25)).trans hx).alloc (.cells #[.int .i64 0, .int .i64 0] 36))
  clear hx qa la Y8
  have TT := Lib.hid (hT.ext ((Ext.refl w9).alloc (.cells #[.int .i64 0, .int .i64 0] 36)))
  clear hT
  go_upto_region 5 with (fail)
  generalize w9.alloc (.cells #[.int .i64 0, .int .i64 0] 36) = wb at *
  generalize w9.heap.size = g6 at *
  have XB := Lib.hid (X1.out.trans Y9.out)
  replace BX := Lib.hid (fun w (hx : Ext wb w) => BX.out w (Y9.out.trans hx))
  replace B4 := Lib.hid (fun w (hx : Ext wb w) => B4.out.ext (E4.out.trans hx))
  replace TT := Lib.hid (fun w (hx : Ext wb w) => TT.out.ext hx)
  obtain ⟨qa, _⟩ := B6.out.cells
  have la := B6.out.lt
  clear X1 Y9 E4
  go_wp2_with fail
  refine (HF1.out _ _ _ XB.out (TT.out _ (Ext.refl wb))).mono ?_
  rintro e wc ⟨rfl, hx⟩
  have Yc := Lib.hid (hx.alloc (.cells #[.int .i64 0, .int .i64 0] 23))
  have B7 := Lib.hid (Blk.new wc 23 #[.int .i64 0, .int .i64 0])
  clear hx qa la B6
  go_upto_region 8 with (fail)
  generalize wc.alloc (.cells #[.int .i64 0, .int .i64 0] 23) = wd at *
  generalize wc.heap.size = g7 at *
  go_wp2_with fail
  refine (HF2.out _ _ _ (XB.out.trans Yc.out) (TT.out _ Yc.out)).mono ?_
  rintro e we ⟨rfl, hx⟩
  have Ye := Lib.hid (Yc.out.trans (hx.alloc (.cells #[.int .i64 0, .int .i64 0] 23)))
  clear hx Yc B7 HF1 HF2 TT
  go_upto_region 9 with (fail)
  generalize we.alloc (.cells #[.int .i64 0, .int .i64 0] 23) = wf at *
  generalize we.heap.size = g9 at *
  have BXf := BX.out _ Ye.out
  go_cut [11, 12] from 13 to 59 (fun u v wx => ∃ g11 g12, u = .pointer (some ⟨g11, 0, none⟩) ∧ v = .pointer (some ⟨g12, 0, none⟩) ∧ Blk wx g11 25 #[.string ⟨s1.state.toArray⟩, .string ⟨s1.city.toArray⟩, .string ⟨s1.pre.toArray⟩, .string ⟨s1.name.toArray⟩, .string ⟨s1.suf.toArray⟩, .string ⟨s1.post.toArray⟩, .int .i64 s1.fr, .int .i64 s1.to_, .int .i64 s1.side, .int .i64 s1.ax, .int .i64 s1.ay, .int .i64 s1.bx, .int .i64 s1.by_] ∧ Blk wx g12 25 #[.string ⟨s1.state.toArray⟩, .string ⟨s1.city.toArray⟩, .string ⟨s1.pre.toArray⟩, .string ⟨s1.name.toArray⟩, .string ⟨s1.suf.toArray⟩, .string ⟨s1.post.toArray⟩, .int .i64 s1.fr, .int .i64 s1.to_, .int .i64 s1.side, .int .i64 s1.ax, .int .i64 s1.ay, .int .i64 s1.bx, .int .i64 s1.by_] ∧ g11 ≠ g12 ∧ wf.heap.size ≤ g11 ∧ wf.heap.size ≤ g12 ∧ Ext wf wx)
  case first =>
    have q := BXf.cells.1
    have q0 : wf.cell? ⟨g1, 0, none⟩ = some (.string ⟨s1.state.toArray⟩) := q 0
    have q1 : wf.cell? ⟨g1, 1, none⟩ = some (.string ⟨s1.city.toArray⟩) := q 1
    have q2 : wf.cell? ⟨g1, 2, none⟩ = some (.string ⟨s1.pre.toArray⟩) := q 2
    have q3 : wf.cell? ⟨g1, 3, none⟩ = some (.string ⟨s1.name.toArray⟩) := q 3
    have q4 : wf.cell? ⟨g1, 4, none⟩ = some (.string ⟨s1.suf.toArray⟩) := q 4
    have q5 : wf.cell? ⟨g1, 5, none⟩ = some (.string ⟨s1.post.toArray⟩) := q 5
    have q6 : wf.cell? ⟨g1, 6, none⟩ = some (.int .i64 s1.fr) := q 6
    have q7 : wf.cell? ⟨g1, 7, none⟩ = some (.int .i64 s1.to_) := q 7
    have q8 : wf.cell? ⟨g1, 8, none⟩ = some (.int .i64 s1.side) := q 8
    have q9 : wf.cell? ⟨g1, 9, none⟩ = some (.int .i64 s1.ax) := q 9
    have q10 : wf.cell? ⟨g1, 10, none⟩ = some (.int .i64 s1.ay) := q 10
    have q11 : wf.cell? ⟨g1, 11, none⟩ = some (.int .i64 s1.bx) := q 11
    have q12 : wf.cell? ⟨g1, 12, none⟩ = some (.int .i64 s1.by_) := q 12
    have lq := BXf.lt
    clear q
    have Ba := (Blk.new wf 25 #[.string ⟨s1.state.toArray⟩, .string ⟨s1.city.toArray⟩, .string ⟨s1.pre.toArray⟩, .string ⟨s1.name.toArray⟩, .string ⟨s1.suf.toArray⟩, .string ⟨s1.post.toArray⟩, .int .i64 s1.fr, .int .i64 s1.to_, .int .i64 s1.side, .int .i64 s1.ax, .int .i64 s1.ay, .int .i64 s1.bx, .int .i64 s1.by_]).alloc (.cells #[.string ⟨s1.state.toArray⟩, .string ⟨s1.city.toArray⟩, .string ⟨s1.pre.toArray⟩, .string ⟨s1.name.toArray⟩, .string ⟨s1.suf.toArray⟩, .string ⟨s1.post.toArray⟩, .int .i64 s1.fr, .int .i64 s1.to_, .int .i64 s1.side, .int .i64 s1.ax, .int .i64 s1.ay, .int .i64 s1.bx, .int .i64 s1.by_] 25)
    have Bb := Blk.new (wf.alloc (.cells #[.string ⟨s1.state.toArray⟩, .string ⟨s1.city.toArray⟩, .string ⟨s1.pre.toArray⟩, .string ⟨s1.name.toArray⟩, .string ⟨s1.suf.toArray⟩, .string ⟨s1.post.toArray⟩, .int .i64 s1.fr, .int .i64 s1.to_, .int .i64 s1.side, .int .i64 s1.ax, .int .i64 s1.ay, .int .i64 s1.bx, .int .i64 s1.by_] 25)) 25 #[.string ⟨s1.state.toArray⟩, .string ⟨s1.city.toArray⟩, .string ⟨s1.pre.toArray⟩, .string ⟨s1.name.toArray⟩, .string ⟨s1.suf.toArray⟩, .string ⟨s1.post.toArray⟩, .int .i64 s1.fr, .int .i64 s1.to_, .int .i64 s1.side, .int .i64 s1.ax, .int .i64 s1.ay, .int .i64 s1.bx, .int .i64 s1.by_]
    rw [show (wf.alloc (.cells #[.string ⟨s1.state.toArray⟩, .string ⟨s1.city.toArray⟩, .string ⟨s1.pre.toArray⟩, .string ⟨s1.name.toArray⟩, .string ⟨s1.suf.toArray⟩, .string ⟨s1.post.toArray⟩, .int .i64 s1.fr, .int .i64 s1.to_, .int .i64 s1.side, .int .i64 s1.ax, .int .i64 s1.ay, .int .i64 s1.bx, .int .i64 s1.by_] 25)).heap.size = wf.heap.size + 1 by simp] at Bb
    have XE := ((Ext.refl wf).alloc (.cells #[.string ⟨s1.state.toArray⟩, .string ⟨s1.city.toArray⟩, .string ⟨s1.pre.toArray⟩, .string ⟨s1.name.toArray⟩, .string ⟨s1.suf.toArray⟩, .string ⟨s1.post.toArray⟩, .int .i64 s1.fr, .int .i64 s1.to_, .int .i64 s1.side, .int .i64 s1.ax, .int .i64 s1.ay, .int .i64 s1.bx, .int .i64 s1.by_] 25)).alloc (.cells #[.string ⟨s1.state.toArray⟩, .string ⟨s1.city.toArray⟩, .string ⟨s1.pre.toArray⟩, .string ⟨s1.name.toArray⟩, .string ⟨s1.suf.toArray⟩, .string ⟨s1.post.toArray⟩, .int .i64 s1.fr, .int .i64 s1.to_, .int .i64 s1.side, .int .i64 s1.ax, .int .i64 s1.ay, .int .i64 s1.bx, .int .i64 s1.by_] 25)
    replace Ba := Lib.hid Ba
    replace Bb := Lib.hid Bb
    replace XE := Lib.hid XE
    go_region
    all_goals go_wp2_with fail
    all_goals go_meet
    all_goals first
      | exact ⟨_, _, rfl, rfl, Ba.out, Bb.out, by omega, by omega, by omega, XE.out⟩
      | exact ⟨_, _, rfl, rfl, Bb.out, Ba.out, by omega, by omega, by omega, XE.out⟩
      | exact ⟨_, _, rfl, rfl, Ba.out, Bb.out, by omega, by omega, by omega, XE.out.drew⟩
      | exact ⟨_, _, rfl, rfl, Bb.out, Ba.out, by omega, by omega, by omega, XE.out.drew⟩
  case rest =>
    obtain ⟨g11, g12, rfl, rfl, B11, B12, hne, h11, h12, hxf⟩ := hcut
    generalize wc = wg at *
    have C1 := ((((((B11.set_ 6 (.int .i64 2)).set_ 7 (.int .i64 2)).far (p := ⟨g12, 7, none⟩) hne (.int .i64 3)).far (p := ⟨g12, 8, none⟩) hne (.int .i64 3)).far (p := ⟨g12, 11, none⟩) hne (.int .i64 (-7))).far (p := ⟨g12, 12, none⟩) hne (.int .i64 0))
    have C2 := ((((((B12.far (p := ⟨g11, 6, none⟩) (Ne.symm hne) (.int .i64 2)).far (p := ⟨g11, 7, none⟩) (Ne.symm hne) (.int .i64 2)).set_ 7 (.int .i64 3)).set_ 8 (.int .i64 3)).set_ 11 (.int .i64 (-7))).set_ 12 (.int .i64 0))
    have XG := (((((((hxf.set (p := ⟨g11, 6, none⟩) h11 (.int .i64 2)).set (p := ⟨g11, 7, none⟩) h11 (.int .i64 2)).set (p := ⟨g12, 7, none⟩) h12 (.int .i64 3)).set (p := ⟨g12, 8, none⟩) h12 (.int .i64 3)).set (p := ⟨g12, 11, none⟩) h12 (.int .i64 (-7))).set (p := ⟨g12, 12, none⟩) h12 (.int .i64 0)))
    obtain ⟨f, f'⟩ := B11.cells
    obtain ⟨h, h'⟩ := B12.cells
    have l11 := B11.lt
    have l12 := B12.lt
    have hne' := Ne.symm hne
    replace C1 := Lib.hid C1
    replace C2 := Lib.hid C2
    replace XG := Lib.hid XG
    clear B11 B12 hxf h11 h12
    go_upto_region 12 with (fail)
    clear f f' h h' l11 l12
    generalize (((((wg.setCell ⟨g11, 6, none⟩ (.int .i64 2)).setCell ⟨g11, 7, none⟩ (.int .i64 2)).setCell ⟨g12, 7, none⟩ (.int .i64 3)).setCell ⟨g12, 8, none⟩ (.int .i64 3)).setCell ⟨g12, 11, none⟩ (.int .i64 (-7))).setCell ⟨g12, 12, none⟩ (.int .i64 0) = wh at *
    replace C1 : Hid (Blk wh g11 25 #[.string ⟨s1.state.toArray⟩, .string ⟨s1.city.toArray⟩, .string ⟨s1.pre.toArray⟩, .string ⟨s1.name.toArray⟩, .string ⟨s1.suf.toArray⟩, .string ⟨s1.post.toArray⟩, .int .i64 2, .int .i64 2, .int .i64 s1.side, .int .i64 s1.ax, .int .i64 s1.ay, .int .i64 s1.bx, .int .i64 s1.by_]) := C1
    replace C2 : Hid (Blk wh g12 25 #[.string ⟨s1.state.toArray⟩, .string ⟨s1.city.toArray⟩, .string ⟨s1.pre.toArray⟩, .string ⟨s1.name.toArray⟩, .string ⟨s1.suf.toArray⟩, .string ⟨s1.post.toArray⟩, .int .i64 s1.fr, .int .i64 3, .int .i64 3, .int .i64 s1.ax, .int .i64 s1.ay, .int .i64 (-7), .int .i64 0]) := C2
    have XH := Lib.hid (XB.out.trans (Ye.out.trans XG.out))
    have YH := Lib.hid (Ye.out.trans XG.out)
    clear XG XB Ye BX
    go_wp2_with fail
    refine (HW.out _ XH.out).mono ?_
    rintro e wi ⟨rfl, hx⟩
    have BFi := B4.out _ (YH.out.trans hx)
    obtain ⟨qa, _⟩ := BFi.cells
    have la := BFi.lt
    have BUi := C1.out.ext hx
    obtain ⟨qu, _⟩ := BUi.cells
    have lu := BUi.lt
    have XI := Lib.hid (XH.out.trans hx)
    replace C2 := Lib.hid (C2.out.ext hx)
    clear BFi BUi C1 XH YH hx B4
    go_wp2_with fail
    refine (HU.out _ XI.out).mono ?_
    rintro e wj ⟨rfl, hx⟩
    have BVj := C2.out.ext hx
    obtain ⟨qv, _⟩ := BVj.cells
    have lv := BVj.lt
    have XJ := Lib.hid (XI.out.trans hx)
    clear BVj qa la qu lu hx XI C2
    go_wp2_with fail
    refine (HV.out _ XJ.out).mono ?_
    rintro e wk ⟨rfl, hx⟩
    have XK := Lib.hid (XJ.out.trans hx)
    clear hx
    go_wp2_with fail
    go_ret
    exact ⟨rfl, XK.out⟩
end Go.Proofs.YtjaponmpfdpemaaGreatDoor
