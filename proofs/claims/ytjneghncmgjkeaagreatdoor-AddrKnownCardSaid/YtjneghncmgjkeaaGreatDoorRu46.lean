/-
  apportionlaw17: normal, fails, awake.
-/
import Derived.Test.YtjneghncmgjkeaaGreatDoorRu45
set_option linter.unusedVariables false
namespace Go.Proofs.YtjneghncmgjkeaaGreatDoor
open Go.RowKit

set_option maxRecDepth 100000 in
theorem l17normal_any (s want : Bs) (hs : s.length ≤ 100000) (h : normalP s = (want, 0, 0)) (W : World) (hS : Std W) :
    Calls Tryz.prog 20 #[.string ⟨s.toArray⟩, .string ⟨want.toArray⟩] W fun e w' => e = .returned (.bool true) ∧ Ext W w' := by
  have HN := Lib.hid (normal_any s hs W hS)
  rw [h] at HN
  clear h hS
  go_enter Tryz.func20, Tryz.ntmps20
  go_wp2_with fail
  refine HN.out.mono ?_
  rintro e w1 ⟨rfl, hx⟩
  have X2 := Lib.hid (hx.alloc (.cells #[.int .i64 0, .int .i64 0] 26))
  dsimp only
  clear hx HN
  go_wp2_with fail
  go_ret
  exact ⟨rfl, X2.out⟩
set_option maxRecDepth 100000 in
theorem l17fails_any (s : Bs) (er at_ : Int) (hs : s.length ≤ 100000) (h : parseP s = (Ad.zero, er, at_)) (W : World) (hS : Std W) :
    Calls Tryz.prog 24 #[.string ⟨s.toArray⟩, .int .i64 er, .int .i64 at_] W fun e w' => e = .returned (.bool true) ∧ Ext W w' := by
  have HN := Lib.hid (parse_any s hs W hS)
  rw [h] at HN
  clear h hS
  go_enter Tryz.func24, Tryz.ntmps24
  go_wp2_with fail
  refine HN.out.mono ?_
  rintro e w1 ⟨rfl, hx⟩
  have X2 := Lib.hid ((hx.alloc (.cells #[.int .i64 0, .bool false, .string ⟨#[]⟩, .string ⟨#[]⟩, .string ⟨#[]⟩, .string ⟨#[]⟩, .string ⟨#[]⟩, .string ⟨#[]⟩, .string ⟨#[]⟩, .string ⟨#[]⟩, .string ⟨#[]⟩] 23)).alloc (.cells #[.int .i64 er, .int .i64 at_] 26))
  rw [adV_eq]
  dsimp only [Ad.zero]
  clear hx HN
  go_wp2_with fail
  go_ret
  exact ⟨rfl, X2.out⟩
end Go.Proofs.YtjneghncmgjkeaaGreatDoor

set_option linter.unusedVariables false
namespace Go.Proofs.YtjneghncmgjkeaaGreatDoor
open Go.RowKit

theorem itoa_small : Lib.itoa 12 = [49, 50] ∧ Lib.itoa 7 = [55] := by
  refine ⟨?_, ?_⟩
  · unfold Lib.itoa
    rw [if_neg (by decide)]
    show Lib.decDigits 12 = _
    rw [Lib.decDigits, dif_neg (by decide)]
    show Lib.decDigits 1 ++ _ = _
    rw [Lib.decDigits, dif_pos (by decide)]
    rfl
  · unfold Lib.itoa
    rw [if_neg (by decide)]
    show Lib.decDigits 7 = _
    rw [Lib.decDigits, dif_pos (by decide)]
    rfl
theorem normal_of {s w I : Bs} {a : Ad} (hp : parseP s = (a, 0, 0)) (hc : checkP a = 0) (hi : Lib.itoa a.n = I) (hw : I ++ lineP a ++ (if a.unit = [] then [] else 44 :: 32 :: a.unit) ++ [44, 32] ++ a.city ++ [44, 32] ++ a.state ++ 32 :: a.zip ++ (if a.more = [] then [] else 45 :: a.more) = w) : normalP s = (w, 0, 0) := by
  unfold normalP
  rw [hp, if_neg (by simp)]
  dsimp only
  unfold textA
  rw [if_neg (by simp [hc]), hi, hw]
theorem awake_p1 : normalP [49, 50, 32, 110, 111, 114, 116, 104, 32, 109, 97, 105, 110, 32, 115, 116, 114, 101, 101, 116, 32, 97, 112, 116, 32, 52, 44, 32, 83, 112, 114, 105, 110, 103, 102, 105, 101, 108, 100, 44, 32, 73, 108, 108, 105, 110, 111, 105, 115, 32, 54, 50, 55, 48, 49] = ([49, 50, 32, 78, 32, 77, 65, 73, 78, 32, 83, 84, 44, 32, 65, 80, 84, 32, 52, 44, 32, 83, 80, 82, 73, 78, 71, 70, 73, 69, 76, 68, 44, 32, 73, 76, 32, 54, 50, 55, 48, 49], 0, 0) := normal_of (a := ⟨12, false, [78], [77, 65, 73, 78], [83, 84], [], [65, 80, 84, 32, 52], [83, 80, 82, 73, 78, 71, 70, 73, 69, 76, 68], [73, 76], [54, 50, 55, 48, 49], []⟩) (by decide +kernel) (by decide +kernel) itoa_small.1 (by decide +kernel)
theorem awake_p2 : parseP [49, 32, 65, 44, 32, 78, 89, 32, 49, 48, 48, 48, 49] = (Ad.zero, 270, 0) := by decide +kernel
theorem known_p1 : parseP [49, 32, 78, 111, 114, 116, 104, 32, 83, 116, 44, 32, 65, 44, 32, 78, 89, 32, 49, 48, 48, 48, 49] = (⟨1, false, [], [78, 79, 82, 84, 72], [83, 84], [], [], [65], [78, 89], [49, 48, 48, 48, 49], []⟩, 0, 0) := by decide +kernel
theorem known_p2 : normalP [55, 32, 49, 47, 50, 32, 65, 118, 101, 110, 117, 101, 32, 78, 44, 32, 35, 98, 44, 32, 78, 101, 119, 32, 89, 111, 114, 107, 44, 32, 110, 101, 119, 32, 121, 111, 114, 107, 32, 49, 48, 48, 48, 49, 45, 48, 48, 48, 50] = ([55, 32, 49, 47, 50, 32, 65, 86, 69, 78, 85, 69, 32, 78, 44, 32, 35, 66, 44, 32, 78, 69, 87, 32, 89, 79, 82, 75, 44, 32, 78, 89, 32, 49, 48, 48, 48, 49, 45, 48, 48, 48, 50], 0, 0) := normal_of (a := ⟨7, true, [], [65, 86, 69, 78, 85, 69], [], [78], [35, 66], [78, 69, 87, 32, 89, 79, 82, 75], [78, 89], [49, 48, 48, 48, 49], [48, 48, 48, 50]⟩) (by decide +kernel) (by decide +kernel) itoa_small.2 (by decide +kernel)
theorem known_p3 : parseP [120, 44, 32, 65, 44, 32, 78, 89, 32, 49, 48, 48, 48, 49] = (Ad.zero, 271, 0) ∧ parseP [49, 32, 65, 44, 32, 50, 44, 32, 78, 89, 32, 49, 48, 48, 48, 49] = (Ad.zero, 274, 1) ∧ parseP [49, 32, 65, 44, 32, 66, 44, 32, 78, 88, 32, 49, 48, 48, 48, 49] = (Ad.zero, 275, 2) ∧ parseP [49, 32, 65, 44, 32, 66, 44, 32, 78, 89, 32, 49] = (Ad.zero, 276, 2) := by decide +kernel
theorem known_p4 : checkP ⟨1, false, [], [77, 65, 73, 78, 32, 83, 84], [], [], [], [65], [78, 89], [49, 48, 48, 48, 49], []⟩ = 2 := by decide +kernel
set_option maxRecDepth 100000 in
theorem l17awake_any (W : World) (hS : Std W) : Calls Tryz.prog 14 #[] W fun e w' => e = .returned (.bool true) ∧ Ext W w' := by
  have H1 := Lib.hid (l17normal_any [49, 50, 32, 110, 111, 114, 116, 104, 32, 109, 97, 105, 110, 32, 115, 116, 114, 101, 101, 116, 32, 97, 112, 116, 32, 52, 44, 32, 83, 112, 114, 105, 110, 103, 102, 105, 101, 108, 100, 44, 32, 73, 108, 108, 105, 110, 111, 105, 115, 32, 54, 50, 55, 48, 49] [49, 50, 32, 78, 32, 77, 65, 73, 78, 32, 83, 84, 44, 32, 65, 80, 84, 32, 52, 44, 32, 83, 80, 82, 73, 78, 71, 70, 73, 69, 76, 68, 44, 32, 73, 76, 32, 54, 50, 55, 48, 49] (by decide) awake_p1 W hS)
  have H2 := Lib.hid (fun w (hx : Ext W w) => l17fails_any [49, 32, 65, 44, 32, 78, 89, 32, 49, 48, 48, 48, 49] 270 0 (by decide) awake_p2 w (hS.ext hx))
  clear hS
  go_enter Tryz.func14, Tryz.ntmps14
  go_wp2_with fail
  refine H1.out.mono ?_
  rintro e w1 ⟨rfl, hx1⟩
  have X1 := Lib.hid hx1
  clear hx1
  go_wp2_with fail
  refine (H2.out _ X1.out).mono ?_
  rintro e w2 ⟨rfl, hx2⟩
  have X2 := Lib.hid (X1.out.trans hx2)
  clear hx2
  go_wp2_with fail
  go_ret
  exact ⟨rfl, X2.out⟩
set_option maxRecDepth 100000 in
set_option maxHeartbeats 2000000 in
theorem addrKnown_any (W : World) (hS : Std W) : Calls Tryz.prog 8 #[] W fun e w' => e = .returned (.bool true) ∧ Ext W w' := by
  have HS := Lib.hid (fun w (hx : Ext W w) => hS.ext hx)
  have H1 := Lib.hid (parse_any [49, 32, 78, 111, 114, 116, 104, 32, 83, 116, 44, 32, 65, 44, 32, 78, 89, 32, 49, 48, 48, 48, 49] (by decide) W hS)
  rw [known_p1] at H1
  clear hS
  go_enter Tryz.func8, Tryz.ntmps8
  go_wp2_with fail
  refine H1.out.mono ?_
  rintro e w1 ⟨rfl, hx1⟩
  rw [adV_eq]
  dsimp only
  have X1 := Lib.hid hx1
  clear hx1 H1
  have HN := Lib.hid (fun w (hx : Ext W w) => l17normal_any [55, 32, 49, 47, 50, 32, 65, 118, 101, 110, 117, 101, 32, 78, 44, 32, 35, 98, 44, 32, 78, 101, 119, 32, 89, 111, 114, 107, 44, 32, 110, 101, 119, 32, 121, 111, 114, 107, 32, 49, 48, 48, 48, 49, 45, 48, 48, 48, 50] [55, 32, 49, 47, 50, 32, 65, 86, 69, 78, 85, 69, 32, 78, 44, 32, 35, 66, 44, 32, 78, 69, 87, 32, 89, 79, 82, 75, 44, 32, 78, 89, 32, 49, 48, 48, 48, 49, 45, 48, 48, 48, 50] (by decide) known_p2 w (HS.out w hx))
  have HF0 := Lib.hid (fun w (hx : Ext W w) => l17fails_any [120, 44, 32, 65, 44, 32, 78, 89, 32, 49, 48, 48, 48, 49] 271 0 (by decide) known_p3.1 w (HS.out w hx))
  have HF1 := Lib.hid (fun w (hx : Ext W w) => l17fails_any [49, 32, 65, 44, 32, 50, 44, 32, 78, 89, 32, 49, 48, 48, 48, 49] 274 1 (by decide) known_p3.2.1 w (HS.out w hx))
  have HF2 := Lib.hid (fun w (hx : Ext W w) => l17fails_any [49, 32, 65, 44, 32, 66, 44, 32, 78, 88, 32, 49, 48, 48, 48, 49] 275 2 (by decide) known_p3.2.2.1 w (HS.out w hx))
  have HF3 := Lib.hid (fun w (hx : Ext W w) => l17fails_any [49, 32, 65, 44, 32, 66, 44, 32, 78, 89, 32, 49] 276 2 (by decide) known_p3.2.2.2 w (HS.out w hx))
  have HAw := Lib.hid (fun w (hx : Ext W w) => l17awake_any w (HS.out w hx))
  have HC := Lib.hid (fun w (hx : Ext W w) => adcheck_any ⟨1, false, [], [77, 65, 73, 78, 32, 83, 84], [], [], [], [65], [78, 89], [49, 48, 48, 48, 49], []⟩ ⟨by decide, by decide, by decide, by decide, by decide, by decide, by decide, by decide, by decide⟩ w (HS.out w hx))
  rw [known_p4, adV_eq] at HC
  dsimp only at HC
  go_wp2_with fail
  refine (HN.out _ ((X1.out.alloc _).alloc _)).mono ?_
  rintro e w2 ⟨rfl, hx⟩
  have X2 := Lib.hid (((X1.out.alloc _).alloc _).trans hx)
  clear hx X1
  go_wp2_with fail
  refine (HF0.out _ X2.out).mono ?_
  rintro e w3 ⟨rfl, hx⟩
  have X3 := Lib.hid (X2.out.trans hx)
  clear hx X2
  go_wp2_with fail
  refine (HF1.out _ X3.out).mono ?_
  rintro e w4 ⟨rfl, hx⟩
  have X4 := Lib.hid (X3.out.trans hx)
  clear hx X3
  go_wp2_with fail
  refine (HF2.out _ X4.out).mono ?_
  rintro e w5 ⟨rfl, hx⟩
  have X5 := Lib.hid (X4.out.trans hx)
  clear hx X4
  go_wp2_with fail
  refine (HF3.out _ X5.out).mono ?_
  rintro e w6 ⟨rfl, hx⟩
  have X6 := Lib.hid (X5.out.trans hx)
  clear hx X5
  go_wp2_with fail
  refine (HAw.out _ X6.out).mono ?_
  rintro e w7 ⟨rfl, hx⟩
  have X7 := Lib.hid (X6.out.trans hx)
  clear hx X6
  go_wp2_with fail
  refine (HC.out _ X7.out).mono ?_
  rintro e w8 ⟨rfl, hx⟩
  have X8 := Lib.hid (X7.out.trans hx)
  clear hx X7
  go_wp2_with fail
  go_ret
  exact ⟨rfl, X8.out⟩
end Go.Proofs.YtjneghncmgjkeaaGreatDoor
