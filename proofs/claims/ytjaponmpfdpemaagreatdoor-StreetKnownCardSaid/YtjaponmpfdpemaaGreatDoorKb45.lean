/-
  addr: the chapter's examples; apportionlaw17.awake, AddrKnown (printed by tools/genZp.py).
-/
import Derived.Test.YtjaponmpfdpemaaGreatDoorKb39
import Derived.Test.YtjaponmpfdpemaaGreatDoorKb44
set_option linter.unusedVariables false
namespace Go.Proofs.YtjaponmpfdpemaaGreatDoor
open Go.RowKit
end Go.Proofs.YtjaponmpfdpemaaGreatDoor

set_option linter.unusedVariables false
namespace Go.Proofs.YtjaponmpfdpemaaGreatDoor
open Go.RowKit
end Go.Proofs.YtjaponmpfdpemaaGreatDoor

set_option linter.unusedVariables false
namespace Go.Proofs.YtjaponmpfdpemaaGreatDoor
open Go.RowKit
theorem ld_sr {w : World} {g : Nat} {s : Sr} (h : Blk w g 25 #[.string ⟨s.state.toArray⟩, .string ⟨s.city.toArray⟩, .string ⟨s.pre.toArray⟩, .string ⟨s.name.toArray⟩, .string ⟨s.suf.toArray⟩, .string ⟨s.post.toArray⟩, .int .i64 s.fr, .int .i64 s.to_, .int .i64 s.side, .int .i64 s.ax, .int .i64 s.ay, .int .i64 s.bx, .int .i64 s.by_]) : (loadVar 25 ⟨g, 0, none⟩).run Tryz.prog w = .ok (srV s) w := by
  have q := h.cell
  rw [srV_eq]
  simp [go_sem, q]
def oakS (side : Int) : Sr := ⟨[78, 89], [65], [], [79, 65, 75], [83, 84], [], 1, 9, side, 0, 0, 100, 40⟩
set_option maxRecDepth 100000 in
theorem oak_any (side : Int) (W : World) : Calls Tryz.prog 24 #[.int .i64 side] W fun e w' => e = .returned (srV (oakS side)) ∧ Ext W w' := by
  have B1 := Blk.new W 25 #[.string ⟨#[]⟩, .string ⟨#[]⟩, .string ⟨#[]⟩, .string ⟨#[]⟩, .string ⟨#[]⟩, .string ⟨#[]⟩, .int .i64 0, .int .i64 0, .int .i64 0, .int .i64 0, .int .i64 0, .int .i64 0, .int .i64 0]
  have X1 := (Ext.refl W).alloc (.cells #[.string ⟨#[]⟩, .string ⟨#[]⟩, .string ⟨#[]⟩, .string ⟨#[]⟩, .string ⟨#[]⟩, .string ⟨#[]⟩, .int .i64 0, .int .i64 0, .int .i64 0, .int .i64 0, .int .i64 0, .int .i64 0, .int .i64 0] 25)
  go_enter Tryz.func24, Tryz.ntmps24
  go_wp2_with fail
  exact bodyPost_ret (results_c rfl rfl (ld_sr (s := oakS side) (Blk.new W _ _))) rfl ⟨rfl, (Ext.refl W).alloc _⟩
set_option maxRecDepth 100000 in
theorem l18at_any (s : Sr) (h : SrS s 1000) (n x y : Int) (W : World) (hS : Std W) : Calls Tryz.prog 25 #[srV s, .int .i64 n, .int .i64 x, .int .i64 y] W fun e w' => e = .returned (.bool ((s.at_ n).2 && decide ((s.at_ n).1 = (x, y)))) ∧ Ext W w' := by
  have HA := Lib.hid (fun w (hx : Ext W w) => srat_any s h n w (hS.ext hx))
  obtain ⟨R, hR⟩ : ∃ R, s.at_ n = R := ⟨_, rfl⟩
  rw [hR] at HA ⊢
  clear hR
  obtain ⟨⟨p, q⟩, b⟩ := R
  unfold ptV at HA
  dsimp only at HA ⊢
  simp only [srV_eq] at HA ⊢
  have X0 := Lib.hid ((Ext.refl W).alloc (.cells #[.string ⟨s.state.toArray⟩, .string ⟨s.city.toArray⟩, .string ⟨s.pre.toArray⟩, .string ⟨s.name.toArray⟩, .string ⟨s.suf.toArray⟩, .string ⟨s.post.toArray⟩, .int .i64 s.fr, .int .i64 s.to_, .int .i64 s.side, .int .i64 s.ax, .int .i64 s.ay, .int .i64 s.bx, .int .i64 s.by_] 25))
  clear hS h
  by_cases h1 : p = x
  rotate_left
  · have hD : decide ((p, q) = (x, y)) = false := decide_eq_false (by simp [h1])
    rw [hD]
    cases b
    all_goals
      go_enter Tryz.func25, Tryz.ntmps25
      go_wp2_with fail
      refine (HA.out _ X0.out).mono ?_
      rintro e w1 ⟨rfl, hx⟩
      have X1 := Lib.hid (X0.out.trans hx)
      clear hx
      go_wp2_with fail
      go_ret
      exact ⟨by simp, X1.out.alloc _⟩
  subst h1
  by_cases h2 : q = y
  rotate_left
  · have hD : decide ((p, q) = (p, y)) = false := decide_eq_false (by simp [h2])
    rw [hD]
    cases b
    all_goals
      go_enter Tryz.func25, Tryz.ntmps25
      go_wp2_with fail
      refine (HA.out _ X0.out).mono ?_
      rintro e w1 ⟨rfl, hx⟩
      have X1 := Lib.hid (X0.out.trans hx)
      clear hx
      go_wp2_with fail
      go_ret
      exact ⟨by simp, X1.out.alloc _⟩
  subst h2
  have hD : decide ((p, q) = (p, q)) = true := decide_eq_true rfl
  rw [hD]
  cases b
  all_goals
    go_enter Tryz.func25, Tryz.ntmps25
    go_wp2_with fail
    refine (HA.out _ X0.out).mono ?_
    rintro e w1 ⟨rfl, hx⟩
    have X1 := Lib.hid (X0.out.trans hx)
    clear hx
    go_wp2_with fail
    go_ret
    exact ⟨by simp, X1.out.alloc _⟩
set_option maxRecDepth 100000 in
theorem l18none_any (s : Sr) (h : SrS s 1000) (n : Int) (W : World) (hS : Std W) : Calls Tryz.prog 26 #[srV s, .int .i64 n] W fun e w' => e = .returned (.bool (!(s.at_ n).2 && decide ((s.at_ n).1 = (0, 0)))) ∧ Ext W w' := by
  have HA := Lib.hid (fun w (hx : Ext W w) => srat_any s h n w (hS.ext hx))
  obtain ⟨R, hR⟩ : ∃ R, s.at_ n = R := ⟨_, rfl⟩
  rw [hR] at HA ⊢
  clear hR
  obtain ⟨⟨p, q⟩, b⟩ := R
  unfold ptV at HA
  dsimp only at HA ⊢
  simp only [srV_eq] at HA ⊢
  have X0 := Lib.hid ((Ext.refl W).alloc (.cells #[.string ⟨s.state.toArray⟩, .string ⟨s.city.toArray⟩, .string ⟨s.pre.toArray⟩, .string ⟨s.name.toArray⟩, .string ⟨s.suf.toArray⟩, .string ⟨s.post.toArray⟩, .int .i64 s.fr, .int .i64 s.to_, .int .i64 s.side, .int .i64 s.ax, .int .i64 s.ay, .int .i64 s.bx, .int .i64 s.by_] 25))
  clear hS h
  by_cases h1 : p = 0
  rotate_left
  · have hD : decide ((p, q) = (0, 0)) = false := decide_eq_false (by simp [h1])
    rw [hD]
    cases b
    all_goals
      go_enter Tryz.func26, Tryz.ntmps26
      go_wp2_with fail
      refine (HA.out _ X0.out).mono ?_
      rintro e w1 ⟨rfl, hx⟩
      have X1 := Lib.hid (X0.out.trans hx)
      clear hx
      go_wp2_with fail
      go_ret
      exact ⟨by simp, X1.out.alloc _⟩
  subst h1
  by_cases h2 : q = 0
  rotate_left
  · have hD : decide ((0, q) = ((0 : Int), (0 : Int))) = false := decide_eq_false (by simp [h2])
    rw [hD]
    cases b
    all_goals
      go_enter Tryz.func26, Tryz.ntmps26
      go_wp2_with fail
      refine (HA.out _ X0.out).mono ?_
      rintro e w1 ⟨rfl, hx⟩
      have X1 := Lib.hid (X0.out.trans hx)
      clear hx
      go_wp2_with fail
      go_ret
      exact ⟨by simp, X1.out.alloc _⟩
  subst h2
  have hD : decide (((0 : Int), (0 : Int)) = ((0 : Int), (0 : Int))) = true := decide_eq_true rfl
  rw [hD]
  cases b
  all_goals
    go_enter Tryz.func26, Tryz.ntmps26
    go_wp2_with fail
    refine (HA.out _ X0.out).mono ?_
    rintro e w1 ⟨rfl, hx⟩
    have X1 := Lib.hid (X0.out.trans hx)
    clear hx
    go_wp2_with fail
    go_ret
    exact ⟨by simp, X1.out.alloc _⟩
end Go.Proofs.YtjaponmpfdpemaaGreatDoor

set_option linter.unusedVariables false
namespace Go.Proofs.YtjaponmpfdpemaaGreatDoor
open Go.RowKit

theorem new_table {l : List Sr} (h : newR l = (0, 0)) (hs : ∀ s ∈ l, SrS s 1000) (hl : l.length ≤ 1000) : ∃ T, newP l = (some T, 0, 0) ∧ SrTab T l.length ∧ ∀ a, findP T a = findR l a := by
  obtain ⟨e1, e2⟩ := new_eq l
  rw [h] at e1 e2
  obtain ⟨_, hC, _⟩ := (newR_ok l).1 (by rw [h])
  have hN : ∀ s ∈ l, s.Num := fun s hm => (Sr.check_ok (hC s hm)).num
  obtain ⟨o, e⟩ : ∃ o, newP l = o := ⟨_, rfl⟩
  rw [e] at e1 e2
  obtain ⟨o1, o2⟩ := o
  dsimp only at e1 e2
  subst e1
  cases o1 with
  | none => simp at e2
  | some T =>
    have hT : tabP l = some T := by
      unfold newP at e
      split at e
      · cases e
      · split at e
        · cases e
        · split at e
          · rename_i T' hT'
            rw [hT']
            injection e with e
          · cases e
    have hl' : tabP (l.take l.length) = some T := by rw [List.take_length]; exact hT
    have hO := tabP_ok hN l.length (Nat.le_refl _) T hl'
    have hH := tabP_holds hN l.length (Nat.le_refl _) T hl'
    rw [List.take_length] at hH
    exact ⟨T, e, ⟨hO, fun k s hm => hs s (((hH k s).1.1 hm).1), fun k s hm => hs s (((hH k s).2.1 hm).1), hl⟩, find_eq hN hT⟩
def oakL : List Sr := [oakS 1, oakS 2]
theorem oakS_sh (side : Int) : SrS (oakS side) 1000 := by constructor <;> simp [oakS]
theorem awake_new : newR oakL = (0, 0) := by decide +kernel
theorem awake_at : (oakS 1).at_ 5 = ((50, 20), true) ∧ (oakS 1).at_ 2 = ((0, 0), false) := by decide +kernel
def awakeS : Bs := [51, 32, 49, 47, 50, 32, 79, 65, 75, 32, 83, 84, 44, 32, 35, 52, 44, 32, 65, 44, 32, 78, 89, 32, 49, 48, 48, 48, 49]
theorem awake_parse : (parseP awakeS).2 = (0, 0) := by decide +kernel
theorem awake_find : findR oakL (parseP awakeS).1 = ((25, 10), 0) := by decide +kernel
def knownS : Bs := [50, 32, 79, 65, 75, 32, 83, 84, 44, 32, 65, 44, 32, 78, 89, 32, 49, 48, 48, 48, 49]
def knownT : Bs := [51, 32, 79, 65, 75, 32, 65, 86, 69, 44, 32, 65, 44, 32, 78, 89, 32, 49, 48, 48, 48, 49]
theorem known_parse : (parseP knownS).2 = (0, 0) ∧ (parseP knownT).2 = (0, 0) := by decide +kernel
theorem known_find : findR [oakS 1] (parseP knownS).1 = ((0, 0), 6) ∧ findR [oakS 1] (parseP knownT).1 = ((0, 0), 6) := by decide +kernel
theorem known_new : newR [oakS 1] = (0, 0) ∧ newR [oakS 1, oakS 1] = (7, 1) := by decide +kernel
theorem known_at : (oakS 1).at_ 1 = ((0, 0), true) ∧ (oakS 1).at_ 9 = ((100, 40), true) ∧ (oakS 1).at_ 3 = ((25, 10), true) ∧ (oakS 1).at_ 11 = ((0, 0), false) := by decide +kernel
def knownU : Sr := { oakS 1 with fr := 2, to_ := 2 }
def knownV : Sr := { oakS 1 with to_ := 3, side := 3, bx := -7, by_ := 0 }
theorem known_two : knownU.check = 2 ∧ knownV.at_ 2 = ((-4, 0), true) := by decide +kernel
set_option maxRecDepth 100000 in
set_option maxHeartbeats 1000000 in
theorem finds_any (s : Bs) (hs : s.length ≤ 1000) (hp : (parseP s).2 = (0, 0)) (w00 W : World) (hS : Std W) (tb n : Nat) (T : STab) (hT : StrAt w00 W tb n T) (hR : SrTab T n) :
    Calls Tryz.prog 27 #[.pointer (some ⟨tb, 0, none⟩), .string ⟨s.toArray⟩] W fun e w' => e = .returned (.tuple #[ptV (findP T (parseP s).1).1, .int .i64 (findP T (parseP s).1).2]) ∧ Ext W w' := by
  have HP := Lib.hid (fun w (hx : Ext W w) => parse_any s (by omega) w (hS.ext hx))
  have HF := Lib.hid (fun w (hx : Ext W w) => srfind_any (parseP s).1 (parsed_AdS (by rw [hp])).1 w00 w (hS.ext hx) tb n T (hT.ext hx) hR)
  unfold PsR at HP
  rw [hp] at HP
  generalize (parseP s).1 = a at *
  generalize findP T a = r at *
  obtain ⟨⟨px, py⟩, er⟩ := r
  unfold ptV at HF
  rw [adV_eq] at HP HF
  obtain ⟨zn, zh, zpre, zname, zsuf, zpost, zunit, zcity, zstate, zzip, zmore⟩ := a
  dsimp only at *
  clear hS hp hT hR hs
  have BP := Lib.hid (Blk.new W 23 #[.int .i64 0, .int .i64 0])
  have X0 := Lib.hid ((Ext.refl W).alloc (.cells #[.int .i64 0, .int .i64 0] 23))
  go_enter Tryz.func27, Tryz.ntmps27
  go_wp2_with fail
  refine (HP.out _ X0.out).mono ?_
  rintro e w1 ⟨rfl, hx⟩
  have X1 := Lib.hid (X0.out.trans hx)
  replace BP := Lib.hid (BP.out.ext hx)
  clear hx X0 HP
  go_wp2_with fail
  refine (HF.out _ ((X1.out.alloc _).alloc _)).mono ?_
  rintro e w2 ⟨rfl, hx⟩
  have X2 := Lib.hid (((X1.out.alloc _).alloc _).trans hx)
  have BP2 := ((BP.out.alloc _).alloc _).ext hx
  have BE := Lib.hid (pt_set BP2 (.int .i64 px) (.int .i64 py))
  have XE := Lib.hid ((X2.out.set (p := ⟨W.heap.size, 0, none⟩) (Nat.le_refl _) (.int .i64 px)).set (p := ⟨W.heap.size, 1, none⟩) (Nat.le_refl _) (.int .i64 py))
  obtain ⟨p4, p4'⟩ := BP2.cells
  have l4 := BP2.lt
  clear BP2 hx
  go_wp2_with fail
  exact bodyPost_ret (results_ct rfl rfl (ld_pt BE.out)) rfl ⟨rfl, XE.out⟩
theorem reads_two {w : World} {g : Nat} {s t : Sr} (h : Blk w g 25 #[.string ⟨s.state.toArray⟩, .string ⟨s.city.toArray⟩, .string ⟨s.pre.toArray⟩, .string ⟨s.name.toArray⟩, .string ⟨s.suf.toArray⟩, .string ⟨s.post.toArray⟩, .int .i64 s.fr, .int .i64 s.to_, .int .i64 s.side, .int .i64 s.ax, .int .i64 s.ay, .int .i64 s.bx, .int .i64 s.by_, .string ⟨t.state.toArray⟩, .string ⟨t.city.toArray⟩, .string ⟨t.pre.toArray⟩, .string ⟨t.name.toArray⟩, .string ⟨t.suf.toArray⟩, .string ⟨t.post.toArray⟩, .int .i64 t.fr, .int .i64 t.to_, .int .i64 t.side, .int .i64 t.ax, .int .i64 t.ay, .int .i64 t.bx, .int .i64 t.by_]) : Reads w w.heap.size 13 (some ⟨g, 0, none⟩) [s, t].length (srCells [s, t]) := by
  refine ⟨by rw [srCells_len], fun _ => ⟨g, 0, rfl, h.lt, fun j u hu => ?_⟩⟩
  rw [Nat.zero_add, h.cell j]
  simpa [srCells, srL] using hu
theorem reads_sole {w : World} {g : Nat} {s : Sr} (h : Blk w g 25 #[.string ⟨s.state.toArray⟩, .string ⟨s.city.toArray⟩, .string ⟨s.pre.toArray⟩, .string ⟨s.name.toArray⟩, .string ⟨s.suf.toArray⟩, .string ⟨s.post.toArray⟩, .int .i64 s.fr, .int .i64 s.to_, .int .i64 s.side, .int .i64 s.ax, .int .i64 s.ay, .int .i64 s.bx, .int .i64 s.by_]) : Reads w w.heap.size 13 (some ⟨g, 0, none⟩) [s].length (srCells [s]) := by
  refine ⟨by rw [srCells_len], fun _ => ⟨g, 0, rfl, h.lt, fun j u hu => ?_⟩⟩
  rw [Nat.zero_add, h.cell j]
  simpa [srCells, srL] using hu
set_option maxRecDepth 100000 in
set_option maxHeartbeats 2000000 in
theorem l18awake_any (W : World) (hS : Std W) : Calls Tryz.prog 16 #[] W fun e w' => e = .returned (.bool true) ∧ Ext W w' := by
  have hs : ∀ s ∈ oakL, SrS s 1000 := fun s hm => by
    rcases List.mem_cons.1 hm with rfl | hm
    · exact oakS_sh 1
    · rcases List.mem_cons.1 hm with rfl | hm
      · exact oakS_sh 2
      · cases hm
  obtain ⟨T, hNew, hR, hF⟩ := new_table awake_new hs (by decide)
  have HN := Lib.hid (fun g w (hb : Blk w g 25 #[.string ⟨(oakS 1).state.toArray⟩, .string ⟨(oakS 1).city.toArray⟩, .string ⟨(oakS 1).pre.toArray⟩, .string ⟨(oakS 1).name.toArray⟩, .string ⟨(oakS 1).suf.toArray⟩, .string ⟨(oakS 1).post.toArray⟩, .int .i64 (oakS 1).fr, .int .i64 (oakS 1).to_, .int .i64 (oakS 1).side, .int .i64 (oakS 1).ax, .int .i64 (oakS 1).ay, .int .i64 (oakS 1).bx, .int .i64 (oakS 1).by_, .string ⟨(oakS 2).state.toArray⟩, .string ⟨(oakS 2).city.toArray⟩, .string ⟨(oakS 2).pre.toArray⟩, .string ⟨(oakS 2).name.toArray⟩, .string ⟨(oakS 2).suf.toArray⟩, .string ⟨(oakS 2).post.toArray⟩, .int .i64 (oakS 2).fr, .int .i64 (oakS 2).to_, .int .i64 (oakS 2).side, .int .i64 (oakS 2).ax, .int .i64 (oakS 2).ay, .int .i64 (oakS 2).bx, .int .i64 (oakS 2).by_]) (hx : Ext W w) => srnew_any oakL hs (some ⟨g, 0, none⟩) 2 w (reads_two hb) (by decide) (hS.ext hx))
  rw [hNew] at HN
  have HO1 := Lib.hid (fun w => oak_any 1 w)
  have HO2 := Lib.hid (fun w => oak_any 2 w)
  have HA := Lib.hid (fun w (hx : Ext W w) => l18at_any (oakS 1) (oakS_sh 1) 5 50 20 w (hS.ext hx))
  have HB := Lib.hid (fun w (hx : Ext W w) => l18none_any (oakS 1) (oakS_sh 1) 2 w (hS.ext hx))
  rw [awake_at.1] at HA
  rw [awake_at.2] at HB
  have HF := Lib.hid (fun w00 w tb (hx : Ext W w) (hT : StrAt w00 w tb 2 T) => finds_any awakeS (by decide) awake_parse w00 w (hS.ext hx) tb 2 T hT hR)
  rw [hF, show oakL = oakL from rfl, awake_find] at HF
  unfold ptV awakeS at HF
  dsimp only at HF HA HB HN
  simp only [Bool.true_and, decide_true, Bool.not_false] at HA HB
  generalize oakS 1 = s1 at *
  generalize oakS 2 = s2 at *
  simp only [srV_eq] at HO1 HO2 HA HB
  clear hs hNew hR hF hS
  go_enter Tryz.func16, Tryz.ntmps16
  go_wp2_with fail
  refine (HO1.out _).mono ?_
  rintro e w1 ⟨rfl, hx⟩
  have X1 := Lib.hid hx
  clear hx
  go_wp2_with fail
  refine (HO2.out _).mono ?_
  rintro e w2 ⟨rfl, hx⟩
  have X2 := Lib.hid (X1.out.trans hx)
  clear hx X1
  go_wp2_with fail
  refine (HN.out _ _ (Blk.new w2 _ _) (X2.out.alloc _)).mono ?_
  rintro e w3 ⟨_, rfl, hx, tb, rfl, hT⟩
  have X3 := Lib.hid (((X2.out.alloc _).trans hx).alloc (.cells #[.int .i64 0, .int .i64 0] 36))
  have BF := Lib.hid (Blk.new w3 36 #[.int .i64 0, .int .i64 0])
  have T3 := Lib.hid (hT.ext ((Ext.refl w3).alloc (.cells #[.int .i64 0, .int .i64 0] 36)))
  clear hx hT X2 HN HO2
  go_upto_region 2 with (fail)
  generalize w3.alloc (.cells #[.int .i64 0, .int .i64 0] 36) = w4 at *
  generalize w3.heap.size = gf at *
  obtain ⟨qa, _⟩ := BF.out.cells
  have la := BF.out.lt
  go_wp2_with fail
  refine (HO1.out _).mono ?_
  rintro e w5 ⟨rfl, hx⟩
  have X5 := Lib.hid (X3.out.trans hx)
  have Y5 := Lib.hid hx
  clear hx
  go_wp2_with fail
  refine (HA.out _ X5.out).mono ?_
  rintro e w6 ⟨rfl, hx⟩
  have X6 := Lib.hid (X5.out.trans hx)
  have Y6 := Lib.hid (Y5.out.trans hx)
  clear hx X5 Y5
  go_wp2_with fail
  refine (HO1.out _).mono ?_
  rintro e w7 ⟨rfl, hx⟩
  have X7 := Lib.hid (X6.out.trans hx)
  have Y7 := Lib.hid (Y6.out.trans hx)
  clear hx X6 Y6
  go_wp2_with fail
  refine (HB.out _ X7.out).mono ?_
  rintro e w8 ⟨rfl, hx⟩
  have X8 := Lib.hid (X7.out.trans hx)
  have Y8 := Lib.hid (Y7.out.trans hx)
  clear hx X7 Y7
  go_wp2_with fail
  refine (HF.out _ _ _ X8.out (T3.out.ext Y8.out)).mono ?_
  rintro e w9 ⟨rfl, hx⟩
  have X9 := Lib.hid (X8.out.trans hx)
  clear hx
  go_wp2_with fail
  go_ret
  exact ⟨rfl, X9.out.alloc _⟩
end Go.Proofs.YtjaponmpfdpemaaGreatDoor
