/-
  apportionref17: Parse, the end (printed by tools/genIf.py).
-/
import Derived.Deep.RegionHeld3
import Derived.Test.YtjneghncmgjkeaaGreatDoorKa45
import Derived.Test.YtjneghncmgjkeaaGreatDoorKa33
set_option linter.unusedVariables false
namespace Go.Proofs.YtjneghncmgjkeaaGreatDoor
open Go.RowKit

/-- Where Parse stands behind street: the results' blocks, the address. -/
structure RpAt (W wp w : World) (g2 g3 g9 : Nat) (a : Ad) : Prop where
  x0 : Ext W wp
  ext : Ext wp w
  r2 : Blk wp g2 23 (adC Ad.zero)
  r3 : Blk wp g3 26 #[.int .i64 0, .int .i64 0]
  b : Blk w g9 23 (adC a)
  l2 : W.heap.size ≤ g2
  l3 : W.heap.size ≤ g3
  l9 : wp.heap.size ≤ g9
theorem RpAt.to {W wp w w' : World} {g2 g3 g9 : Nat} {a : Ad} (h : RpAt W wp w g2 g3 g9 a) (hx : Ext w w') : RpAt W wp w' g2 g3 g9 a := ⟨h.x0, h.ext.trans hx, h.r2, h.r3, h.b.ext hx, h.l2, h.l3, h.l9⟩
theorem RpAt.put {W wp w : World} {g2 g3 g9 : Nat} {a b : Ad} (h : RpAt W wp w g2 g3 g9 a) (i : Nat) (u : Value) (hu : (adC a).setIfInBounds i u = adC b) : RpAt W wp (w.setCell ⟨g9, i, none⟩ u) g2 g3 g9 b :=
  ⟨h.x0, h.ext.set (p := ⟨g9, i, none⟩) h.l9 _, h.r2, h.r3, ad_put h.b i u b hu, h.l2, h.l3, h.l9⟩
/-- The parts, as a slice of slices. -/
structure PtsAt (w : World) (gO : Nat) (ps : List (List Tok)) : Prop where
  lt : gO < w.heap.size
  at_ : ∀ i (h : i < ps.length), ∃ A c, w.cell? ⟨gO, i, none⟩ = some (.slice A ps[i].length c) ∧ TokS w A ps[i].length c ps[i]
theorem PtsAt.ext {w w' : World} {gO : Nat} {ps : List (List Tok)} (h : PtsAt w gO ps) (hx : Ext w w') : PtsAt w' gO ps :=
  ⟨Nat.lt_of_lt_of_le h.lt hx.size, fun i hi => by obtain ⟨A, c, e, T⟩ := h.at_ i hi; exact ⟨A, c, (hx.cell _ _ none h.lt).trans e, T.ext hx⟩⟩
theorem InIs.ext {w w' : World} {v : Value} {o : Option (List Tok)} (h : InIs w w.heap.size v o) (hx : Ext w w') : InIs w' w'.heap.size v o := h.move (Ext.refl _) hx
end Go.Proofs.YtjneghncmgjkeaaGreatDoor

set_option linter.unusedVariables false
namespace Go.Proofs.YtjneghncmgjkeaaGreatDoor
open Go.RowKit
end Go.Proofs.YtjneghncmgjkeaaGreatDoor

set_option linter.unusedVariables false
namespace Go.Proofs.YtjneghncmgjkeaaGreatDoor
open Go.RowKit
end Go.Proofs.YtjneghncmgjkeaaGreatDoor

set_option linter.unusedVariables false
namespace Go.Proofs.YtjneghncmgjkeaaGreatDoor
open Go.RowKit
end Go.Proofs.YtjneghncmgjkeaaGreatDoor

set_option linter.unusedVariables false
namespace Go.Proofs.YtjneghncmgjkeaaGreatDoor
open Go.RowKit
end Go.Proofs.YtjneghncmgjkeaaGreatDoor

set_option linter.unusedVariables false
namespace Go.Proofs.YtjneghncmgjkeaaGreatDoor
open Go.RowKit
end Go.Proofs.YtjneghncmgjkeaaGreatDoor

set_option linter.unusedVariables false
namespace Go.Proofs.YtjneghncmgjkeaaGreatDoor
open Go.RowKit
end Go.Proofs.YtjneghncmgjkeaaGreatDoor

set_option linter.unusedVariables false
namespace Go.Proofs.YtjneghncmgjkeaaGreatDoor
open Go.RowKit
end Go.Proofs.YtjneghncmgjkeaaGreatDoor

set_option linter.unusedVariables false
namespace Go.Proofs.YtjneghncmgjkeaaGreatDoor
open Go.RowKit

theorem itoa_small : Lib.itoa 12 = [49, 50] ∧ Lib.itoa 7 = [55] := by
  refine ⟨?_, ?_⟩
  · unfold Lib.itoa
    rw [if_neg (by decide)]
    show Lib.decDigits 12 = _
    rw [Lib.decDigits, dif_neg (by decide)]
    show Lib.decDigits 1 ++ _ = _
    rw [Lib.decDigits, dif_pos (by decide)]
    rfl
  · unfold Lib.itoa
    rw [if_neg (by decide)]
    show Lib.decDigits 7 = _
    rw [Lib.decDigits, dif_pos (by decide)]
    rfl
theorem normal_of {s w I : Bs} {a : Ad} (hp : parseP s = (a, 0, 0)) (hc : checkP a = 0) (hi : Lib.itoa a.n = I) (hw : I ++ lineP a ++ (if a.unit = [] then [] else 44 :: 32 :: a.unit) ++ [44, 32] ++ a.city ++ [44, 32] ++ a.state ++ 32 :: a.zip ++ (if a.more = [] then [] else 45 :: a.more) = w) : normalP s = (w, 0, 0) := by
  unfold normalP
  rw [hp, if_neg (by simp)]
  dsimp only
  unfold textA
  rw [if_neg (by simp [hc]), hi, hw]
theorem awake_p1 : normalP [49, 50, 32, 110, 111, 114, 116, 104, 32, 109, 97, 105, 110, 32, 115, 116, 114, 101, 101, 116, 32, 97, 112, 116, 32, 52, 44, 32, 83, 112, 114, 105, 110, 103, 102, 105, 101, 108, 100, 44, 32, 73, 108, 108, 105, 110, 111, 105, 115, 32, 54, 50, 55, 48, 49] = ([49, 50, 32, 78, 32, 77, 65, 73, 78, 32, 83, 84, 44, 32, 65, 80, 84, 32, 52, 44, 32, 83, 80, 82, 73, 78, 71, 70, 73, 69, 76, 68, 44, 32, 73, 76, 32, 54, 50, 55, 48, 49], 0, 0) := normal_of (a := ⟨12, false, [78], [77, 65, 73, 78], [83, 84], [], [65, 80, 84, 32, 52], [83, 80, 82, 73, 78, 71, 70, 73, 69, 76, 68], [73, 76], [54, 50, 55, 48, 49], []⟩) (by decide +kernel) (by decide +kernel) itoa_small.1 (by decide +kernel)
theorem awake_p2 : parseP [49, 32, 65, 44, 32, 78, 89, 32, 49, 48, 48, 48, 49] = (Ad.zero, 270, 0) := by decide +kernel
set_option maxRecDepth 100000 in
theorem l17awake_any (W : World) (hS : Std W) : Calls Tryz.prog 14 #[] W fun e w' => e = .returned (.bool true) ∧ Ext W w' := by
  have H1 := Lib.hid (l17normal_any [49, 50, 32, 110, 111, 114, 116, 104, 32, 109, 97, 105, 110, 32, 115, 116, 114, 101, 101, 116, 32, 97, 112, 116, 32, 52, 44, 32, 83, 112, 114, 105, 110, 103, 102, 105, 101, 108, 100, 44, 32, 73, 108, 108, 105, 110, 111, 105, 115, 32, 54, 50, 55, 48, 49] [49, 50, 32, 78, 32, 77, 65, 73, 78, 32, 83, 84, 44, 32, 65, 80, 84, 32, 52, 44, 32, 83, 80, 82, 73, 78, 71, 70, 73, 69, 76, 68, 44, 32, 73, 76, 32, 54, 50, 55, 48, 49] (by decide) awake_p1 W hS)
  have H2 := Lib.hid (fun w (hx : Ext W w) => l17fails_any [49, 32, 65, 44, 32, 78, 89, 32, 49, 48, 48, 48, 49] 270 0 (by decide) awake_p2 w (hS.ext hx))
  clear hS
  go_enter Tryz.func14, Tryz.ntmps14
  go_wp2_with fail
  refine H1.out.mono ?_
  rintro e w1 ⟨rfl, hx1⟩
  have X1 := Lib.hid hx1
  clear hx1
  go_wp2_with fail
  refine (H2.out _ X1.out).mono ?_
  rintro e w2 ⟨rfl, hx2⟩
  have X2 := Lib.hid (X1.out.trans hx2)
  clear hx2
  go_wp2_with fail
  go_ret
  exact ⟨rfl, X2.out⟩
end Go.Proofs.YtjneghncmgjkeaaGreatDoor

set_option linter.unusedVariables false
namespace Go.Proofs.YtjneghncmgjkeaaGreatDoor
open Go.RowKit

def fieldsA (a : Ad) : List Bs := [a.pre, a.name, a.suf, a.post, a.unit, a.city, a.state, a.zip, a.more]
def longA (a : Ad) : Bool := (fieldsA a).any fun x => decide (300 < x.length)
theorem longA_no {a : Ad} (h : longA a = false) : AdS a 1000 := by
  unfold longA at h
  rw [List.any_eq_false] at h
  have q : ∀ x ∈ fieldsA a, x.length ≤ 1000 := fun x hx => by
    have := h x hx
    rw [decide_eq_true_eq] at this
    omega
  exact ⟨q _ (by simp [fieldsA]), q _ (by simp [fieldsA]), q _ (by simp [fieldsA]), q _ (by simp [fieldsA]), q _ (by simp [fieldsA]), q _ (by simp [fieldsA]), q _ (by simp [fieldsA]), q _ (by simp [fieldsA]), q _ (by simp [fieldsA])⟩
def LgAt (W : World) (q : Nat) (l : List Bs) (i : Value) (wr : World) : Prop := ∃ k : Nat, k ≤ l.length ∧ i = .int .i64 (k : Int) ∧ wr = W ∧ ∀ j (h : j < l.length), j < k → l[j].length ≤ 300
set_option maxRecDepth 100000 in
set_option maxHeartbeats 1000000 in
theorem l17long_any (a : Ad) (W : World) : Calls Tryz.prog 15 #[adV a] W fun e w' => e = .returned (.bool (longA a)) ∧ Ext W w' := by
  obtain ⟨R, hR⟩ : ∃ R, longA a = R := ⟨_, rfl⟩
  have hlen : (fieldsA a).length = 9 := rfl
  have HT := Lib.hid (fun (k : Nat) (hk : k < (fieldsA a).length) (h : 300 < (fieldsA a)[k].length) => (show R = true by
    rw [← hR]; unfold longA; rw [List.any_eq_true]; exact ⟨_, List.getElem_mem hk, decide_eq_true h⟩))
  have HF := Lib.hid (fun (h : ∀ j (hj : j < (fieldsA a).length), (fieldsA a)[j].length ≤ 300) => (show R = false by
    rw [← hR]; unfold longA; rw [List.any_eq_false]
    intro x hx
    obtain ⟨j, hj, rfl⟩ := List.mem_iff_getElem.1 hx
    have := h j hj
    rw [decide_eq_true_eq]; omega))
  rw [hR]
  replace hR := Lib.hid hR
  obtain ⟨l, hl⟩ : ∃ l, fieldsA a = l := ⟨_, rfl⟩
  rw [hl] at HT HF hlen
  obtain ⟨zn, zh, zpre, zname, zsuf, zpost, zunit, zcity, zstate, zzip, zmore⟩ := a
  have hC := Lib.hid (show (strC l).toArray = #[.string ⟨zpre.toArray⟩, .string ⟨zname.toArray⟩, .string ⟨zsuf.toArray⟩, .string ⟨zpost.toArray⟩, .string ⟨zunit.toArray⟩, .string ⟨zcity.toArray⟩, .string ⟨zstate.toArray⟩, .string ⟨zzip.toArray⟩, .string ⟨zmore.toArray⟩] by rw [← hl]; rfl)
  replace hl := Lib.hid hl
  replace hlen := Lib.hid hlen
  rw [adV_eq]
  dsimp only
  go_enter Tryz.func15, Tryz.ntmps15
  go_upto_region 1 with (fail)
  have BA := Blk.new W 23 #[.int .i64 zn, .bool zh, .string ⟨zpre.toArray⟩, .string ⟨zname.toArray⟩, .string ⟨zsuf.toArray⟩, .string ⟨zpost.toArray⟩, .string ⟨zunit.toArray⟩, .string ⟨zcity.toArray⟩, .string ⟨zstate.toArray⟩, .string ⟨zzip.toArray⟩, .string ⟨zmore.toArray⟩]
  have X1 := Lib.hid ((Ext.refl W).alloc (.cells #[.int .i64 zn, .bool zh, .string ⟨zpre.toArray⟩, .string ⟨zname.toArray⟩, .string ⟨zsuf.toArray⟩, .string ⟨zpost.toArray⟩, .string ⟨zunit.toArray⟩, .string ⟨zcity.toArray⟩, .string ⟨zstate.toArray⟩, .string ⟨zzip.toArray⟩, .string ⟨zmore.toArray⟩] 23))
  generalize W.alloc (.cells #[.int .i64 zn, .bool zh, .string ⟨zpre.toArray⟩, .string ⟨zname.toArray⟩, .string ⟨zsuf.toArray⟩, .string ⟨zpost.toArray⟩, .string ⟨zunit.toArray⟩, .string ⟨zcity.toArray⟩, .string ⟨zstate.toArray⟩, .string ⟨zzip.toArray⟩, .string ⟨zmore.toArray⟩] 23) = w1 at *
  generalize W.heap.size = ga at *
  obtain ⟨qa, _⟩ := BA.cells
  have la := BA.lt
  clear BA
  go_upto_region 2 with (fail)
  have X2 := Lib.hid (X1.out.alloc (.cells #[.string ⟨zpre.toArray⟩, .string ⟨zname.toArray⟩, .string ⟨zsuf.toArray⟩, .string ⟨zpost.toArray⟩, .string ⟨zunit.toArray⟩, .string ⟨zcity.toArray⟩, .string ⟨zstate.toArray⟩, .string ⟨zzip.toArray⟩, .string ⟨zmore.toArray⟩] 9))
  have BQ := Blk.new w1 9 #[.string ⟨zpre.toArray⟩, .string ⟨zname.toArray⟩, .string ⟨zsuf.toArray⟩, .string ⟨zpost.toArray⟩, .string ⟨zunit.toArray⟩, .string ⟨zcity.toArray⟩, .string ⟨zstate.toArray⟩, .string ⟨zzip.toArray⟩, .string ⟨zmore.toArray⟩]
  rw [← hC.out] at BQ X2
  clear qa la X1
  rw [← hC.out]
  generalize w1.alloc (.cells (strC l).toArray 9) = w2 at *
  generalize w1.heap.size = gq at *
  replace BQ := Lib.hid BQ
  clear hC
  go_wp2_with fail
  go_loopw [4] (fun i wr => LgAt w2 gq l i wr) (fun i _ => 9 - (intOf i).toNat)
  case atStart => exact ⟨0, by omega, rfl, rfl, fun j _ h => absurd h (by omega)⟩
  case round =>
    obtain ⟨k, hk, rfl, rfl, hne⟩ := hrel
    have hk9 : k ≤ 9 := by have := hlen.out; omega
    by_cases hlt : k < 9
    · have hlt' : k < l.length := by have := hlen.out; omega
      have hd : decide ((k : Int) < 9) = true := decide_eq_true (by omega)
      have kz : (0 : Int) ≤ (k : Int) := by omega
      have kl : (k : Int) < 9 := by omega
      have ck : wr.cell? ⟨gq, k, none⟩ = some (.string ⟨l[k].toArray⟩) := by
        rw [BQ.out.cell k]
        simp only [strC, List.getElem?_toArray, List.getElem?_map]
        rw [List.getElem?_eq_getElem hlt']
        rfl
      have lq := BQ.out.lt
      have HT2 := Lib.hid (HT.out k hlt')
      have HE := Lib.hid (fun h300 : l[k].length ≤ 300 => (show LgAt wr gq l (.int .i64 ((k + 1 : Nat) : Int)) wr from ⟨k + 1, hlt', rfl, rfl, fun j h hj => by
        by_cases e : j = k
        · subst e; exact h300
        · exact hne j h (by omega)⟩))
      clear hne
      generalize l[k] = x at *
      by_cases hx : 300 < x.length
      · have d3 : decide ((300 : Int) < (x.length : Int)) = true := decide_eq_true (by omega)
        have d4 : decide (300 < x.length) = true := decide_eq_true hx
        have hRt := Lib.hid (HT2.out hx)
        clear hx
        go_wp2_with fail
        go_ret
        exact ⟨by rw [hRt.out]; rfl, X2.out⟩
      · have d3 : decide ((300 : Int) < (x.length : Int)) = false := decide_eq_false (by omega)
        have d4 : decide (300 < x.length) = false := decide_eq_false hx
        replace HE := Lib.hid (HE.out (by omega))
        clear hx
        go_wp2_with fail
        go_roundw
        case rel => exact HE.out
        case measure => simp [intOf]; omega
    · obtain rfl : k = 9 := by omega
      have hRf := Lib.hid (HF.out fun j hj => hne j hj (by have := hlen.out; omega))
      clear hne
      go_wp2_with fail
      go_ret
      exact ⟨by rw [hRf.out]; rfl, X2.out⟩
end Go.Proofs.YtjneghncmgjkeaaGreatDoor
