/-
  addr: the chapter's examples; apportionlaw17.awake, AddrKnown (printed by tools/genZp.py).
-/
import Derived.Test.YtjaponmpfdpemaaGreatDoorBb27
import Derived.Test.YtjaponmpfdpemaaGreatDoorBb40
import Derived.Test.YtjaponmpfdpemaaGreatDoorBb05
set_option linter.unusedSimpArgs false
set_option linter.unusedVariables false
namespace Go.Proofs.YtjaponmpfdpemaaGreatDoor
open Go.RowKit
end Go.Proofs.YtjaponmpfdpemaaGreatDoor
set_option linter.unusedSimpArgs false
set_option linter.unusedVariables false
namespace Go.Proofs.YtjaponmpfdpemaaGreatDoor
open Go.RowKit
def fieldsA (a : Ad) : List Bs := [a.pre, a.name, a.suf, a.post, a.unit, a.city, a.state, a.zip, a.more]
def longA (a : Ad) : Bool := (fieldsA a).any fun x => decide (300 < x.length)
theorem longA_no {a : Ad} (h : longA a = false) : AdS a 1000 := by
 unfold longA at h
 rw [List.any_eq_false] at h
 have q : ∀ x ∈ fieldsA a, x.length ≤ 1000 := fun x hx => by
  have := h x hx
  rw [decide_eq_true_eq] at this
  omega
 exact ⟨q _ (by simp [fieldsA]), q _ (by simp [fieldsA]), q _ (by simp [fieldsA]), q _ (by simp [fieldsA]), q _ (by simp [fieldsA]), q _ (by simp [fieldsA]), q _ (by simp [fieldsA]), q _ (by simp [fieldsA]), q _ (by simp [fieldsA])⟩
end Go.Proofs.YtjaponmpfdpemaaGreatDoor
set_option linter.unusedSimpArgs false
set_option linter.unusedVariables false
namespace Go.Proofs.YtjaponmpfdpemaaGreatDoor
open Go.RowKit
theorem pt_ne (x y x' y' : Int) (w : World) : (binOp .neq 23 (.agg #[.int .i64 x, .int .i64 y]) (.agg #[.int .i64 x', .int .i64 y'])).run Tryz.prog w = .ok (.bool (decide ((x, y) ≠ (x', y')))) w := by
 by_cases h1 : x = x'
 ·subst h1
  by_cases h2 : y = y'
  ·subst h2; simp [go_sem]
  ·simp [go_sem, h2]
 ·simp [go_sem, h1]
def bigS (s : Sr) : Bool := decide (300 < s.state.length) || decide (300 < s.city.length) || decide (300 < s.pre.length) || decide (300 < s.name.length) || decide (300 < s.suf.length) || decide (300 < s.post.length)
def longS (l : List Sr) : Bool := (l.take 101).any bigS || decide (100 < l.length)
theorem longS_no {l : List Sr} (h : longS l = false) : l.length ≤ 100 ∧ ∀ s ∈ l, SrS s 1000 := by
 unfold longS at h
 rw [Bool.or_eq_false_iff, decide_eq_false_iff_not] at h
 refine ⟨by omega, fun s hs => ?_⟩
 have h1 := List.any_eq_false.1 h.1 s (by rwa [List.take_of_length_le (by omega)])
 simp only [bigS, Bool.not_eq_true, Bool.or_eq_false_iff, decide_eq_false_iff_not] at h1
 obtain ⟨⟨⟨⟨⟨a, b⟩, c⟩, d⟩, e⟩, f⟩ := h1
 constructor <;> omega
theorem ld_sr {w : World} {g : Nat} {s : Sr} (h : Blk w g 25 #[.string ⟨s.state.toArray⟩, .string ⟨s.city.toArray⟩, .string ⟨s.pre.toArray⟩, .string ⟨s.name.toArray⟩, .string ⟨s.suf.toArray⟩, .string ⟨s.post.toArray⟩, .int .i64 s.fr, .int .i64 s.to_, .int .i64 s.side, .int .i64 s.ax, .int .i64 s.ay, .int .i64 s.bx, .int .i64 s.by_]) : (loadVar 25 ⟨g, 0, none⟩).run Tryz.prog w = .ok (srV s) w := by
 have q := h.cell
 rw [srV_eq]
 simp [go_sem, q]
def oakS (side : Int) : Sr := ⟨[78, 89], [65], [], [79, 65, 75], [83, 84], [], 1, 9, side, 0, 0, 100, 40⟩
set_option maxRecDepth 100000 in
theorem oak_any (side : Int) (W : World) : Calls Tryz.prog 24 #[.int .i64 side] W fun e w' => e = .returned (srV (oakS side)) ∧ Ext W w' := by
 have B1 := Blk.new W 25 #[.string ⟨#[]⟩, .string ⟨#[]⟩, .string ⟨#[]⟩, .string ⟨#[]⟩, .string ⟨#[]⟩, .string ⟨#[]⟩, .int .i64 0, .int .i64 0, .int .i64 0, .int .i64 0, .int .i64 0, .int .i64 0, .int .i64 0]
 have X1 := (Ext.refl W).alloc (.cells #[.string ⟨#[]⟩, .string ⟨#[]⟩, .string ⟨#[]⟩, .string ⟨#[]⟩, .string ⟨#[]⟩, .string ⟨#[]⟩, .int .i64 0, .int .i64 0, .int .i64 0, .int .i64 0, .int .i64 0, .int .i64 0, .int .i64 0] 25)
 go_enter Tryz.func24, Tryz.ntmps24
 go_wp2_with fail
 exact bodyPost_ret (results_c rfl rfl (ld_sr (s := oakS side) (Blk.new W _ _))) rfl ⟨rfl, (Ext.refl W).alloc _⟩
set_option maxRecDepth 100000 in
theorem l18at_any (s : Sr) (h : SrS s 1000) (n x y : Int) (W : World) (hS : Std W) : Calls Tryz.prog 25 #[srV s, .int .i64 n, .int .i64 x, .int .i64 y] W fun e w' => e = .returned (.bool ((s.at_ n).2 && decide ((s.at_ n).1 = (x, y)))) ∧ Ext W w' := by
 have HA := Lib.hid (fun w (hx : Ext W w) => srat_any s h n w (hS.ext hx))
 obtain ⟨R, hR⟩ : ∃ R, s.at_ n = R := ⟨_, rfl⟩
 rw [hR] at HA ⊢
 clear hR
 obtain ⟨⟨p, q⟩, b⟩ := R
 unfold ptV at HA
 dsimp only at HA ⊢
 simp only [srV_eq] at HA ⊢
 have X0 := Lib.hid ((Ext.refl W).alloc (.cells #[.string ⟨s.state.toArray⟩, .string ⟨s.city.toArray⟩, .string ⟨s.pre.toArray⟩, .string ⟨s.name.toArray⟩, .string ⟨s.suf.toArray⟩, .string ⟨s.post.toArray⟩, .int .i64 s.fr, .int .i64 s.to_, .int .i64 s.side, .int .i64 s.ax, .int .i64 s.ay, .int .i64 s.bx, .int .i64 s.by_] 25))
 clear hS h
 by_cases h1 : p = x
 rotate_left
 ·have hD : decide ((p, q) = (x, y)) = false := decide_eq_false (by simp [h1])
  rw [hD]
  cases b
  all_goals
   go_enter Tryz.func25, Tryz.ntmps25
   go_wp2_with fail
   refine (HA.out _ X0.out).mono ?_
   rintro e w1 ⟨rfl, hx⟩
   have X1 := Lib.hid (X0.out.trans hx)
   clear hx
   go_wp2_with fail
   go_ret
   exact ⟨by simp, X1.out.alloc _⟩
 subst h1
 by_cases h2 : q = y
 rotate_left
 ·have hD : decide ((p, q) = (p, y)) = false := decide_eq_false (by simp [h2])
  rw [hD]
  cases b
  all_goals
   go_enter Tryz.func25, Tryz.ntmps25
   go_wp2_with fail
   refine (HA.out _ X0.out).mono ?_
   rintro e w1 ⟨rfl, hx⟩
   have X1 := Lib.hid (X0.out.trans hx)
   clear hx
   go_wp2_with fail
   go_ret
   exact ⟨by simp, X1.out.alloc _⟩
 subst h2
 have hD : decide ((p, q) = (p, q)) = true := decide_eq_true rfl
 rw [hD]
 cases b
 all_goals
  go_enter Tryz.func25, Tryz.ntmps25
  go_wp2_with fail
  refine (HA.out _ X0.out).mono ?_
  rintro e w1 ⟨rfl, hx⟩
  have X1 := Lib.hid (X0.out.trans hx)
  clear hx
  go_wp2_with fail
  go_ret
  exact ⟨by simp, X1.out.alloc _⟩
set_option maxRecDepth 100000 in
theorem l18none_any (s : Sr) (h : SrS s 1000) (n : Int) (W : World) (hS : Std W) : Calls Tryz.prog 26 #[srV s, .int .i64 n] W fun e w' => e = .returned (.bool (!(s.at_ n).2 && decide ((s.at_ n).1 = (0, 0)))) ∧ Ext W w' := by
 have HA := Lib.hid (fun w (hx : Ext W w) => srat_any s h n w (hS.ext hx))
 obtain ⟨R, hR⟩ : ∃ R, s.at_ n = R := ⟨_, rfl⟩
 rw [hR] at HA ⊢
 clear hR
 obtain ⟨⟨p, q⟩, b⟩ := R
 unfold ptV at HA
 dsimp only at HA ⊢
 simp only [srV_eq] at HA ⊢
 have X0 := Lib.hid ((Ext.refl W).alloc (.cells #[.string ⟨s.state.toArray⟩, .string ⟨s.city.toArray⟩, .string ⟨s.pre.toArray⟩, .string ⟨s.name.toArray⟩, .string ⟨s.suf.toArray⟩, .string ⟨s.post.toArray⟩, .int .i64 s.fr, .int .i64 s.to_, .int .i64 s.side, .int .i64 s.ax, .int .i64 s.ay, .int .i64 s.bx, .int .i64 s.by_] 25))
 clear hS h
 by_cases h1 : p = 0
 rotate_left
 ·have hD : decide ((p, q) = (0, 0)) = false := decide_eq_false (by simp [h1])
  rw [hD]
  cases b
  all_goals
   go_enter Tryz.func26, Tryz.ntmps26
   go_wp2_with fail
   refine (HA.out _ X0.out).mono ?_
   rintro e w1 ⟨rfl, hx⟩
   have X1 := Lib.hid (X0.out.trans hx)
   clear hx
   go_wp2_with fail
   go_ret
   exact ⟨by simp, X1.out.alloc _⟩
 subst h1
 by_cases h2 : q = 0
 rotate_left
 ·have hD : decide ((0, q) = ((0 : Int), (0 : Int))) = false := decide_eq_false (by simp [h2])
  rw [hD]
  cases b
  all_goals
   go_enter Tryz.func26, Tryz.ntmps26
   go_wp2_with fail
   refine (HA.out _ X0.out).mono ?_
   rintro e w1 ⟨rfl, hx⟩
   have X1 := Lib.hid (X0.out.trans hx)
   clear hx
   go_wp2_with fail
   go_ret
   exact ⟨by simp, X1.out.alloc _⟩
 subst h2
 have hD : decide (((0 : Int), (0 : Int)) = ((0 : Int), (0 : Int))) = true := decide_eq_true rfl
 rw [hD]
 cases b
 all_goals
  go_enter Tryz.func26, Tryz.ntmps26
  go_wp2_with fail
  refine (HA.out _ X0.out).mono ?_
  rintro e w1 ⟨rfl, hx⟩
  have X1 := Lib.hid (X0.out.trans hx)
  clear hx
  go_wp2_with fail
  go_ret
  exact ⟨by simp, X1.out.alloc _⟩
def LgAt18 (W : World) (q : Nat) (l : List Bs) (i : Value) (wr : World) : Prop := ∃ k : Nat, k ≤ l.length ∧ i = .int .i64 (k : Int) ∧ wr = W ∧ ∀ j (h : j < l.length), j < k → l[j].length ≤ 300
set_option maxRecDepth 100000 in
set_option maxHeartbeats 1000000 in
theorem l18large_any (a : Ad) (W : World) : Calls Tryz.prog 21 #[adV a] W fun e w' => e = .returned (.bool (longA a)) ∧ Ext W w' := by
 obtain ⟨R, hR⟩ : ∃ R, longA a = R := ⟨_, rfl⟩
 have hlen : (fieldsA a).length = 9 := rfl
 have HT := Lib.hid (fun (k : Nat) (hk : k < (fieldsA a).length) (h : 300 < (fieldsA a)[k].length) => (show R = true by
  rw [← hR]; unfold longA; rw [List.any_eq_true]; exact ⟨_, List.getElem_mem hk, decide_eq_true h⟩))
 have HF := Lib.hid (fun (h : ∀ j (hj : j < (fieldsA a).length), (fieldsA a)[j].length ≤ 300) => (show R = false by
  rw [← hR]; unfold longA; rw [List.any_eq_false]
  intro x hx
  obtain ⟨j, hj, rfl⟩ := List.mem_iff_getElem.1 hx
  have := h j hj
  rw [decide_eq_true_eq]; omega))
 rw [hR]
 replace hR := Lib.hid hR
 obtain ⟨l, hl⟩ : ∃ l, fieldsA a = l := ⟨_, rfl⟩
 rw [hl] at HT HF hlen
 obtain ⟨zn, zh, zpre, zname, zsuf, zpost, zunit, zcity, zstate, zzip, zmore⟩ := a
 have hC := Lib.hid (show (strC l).toArray = #[.string ⟨zpre.toArray⟩, .string ⟨zname.toArray⟩, .string ⟨zsuf.toArray⟩, .string ⟨zpost.toArray⟩, .string ⟨zunit.toArray⟩, .string ⟨zcity.toArray⟩, .string ⟨zstate.toArray⟩, .string ⟨zzip.toArray⟩, .string ⟨zmore.toArray⟩] by rw [← hl]; rfl)
 replace hl := Lib.hid hl
 replace hlen := Lib.hid hlen
 rw [adV_eq]
 dsimp only
 go_enter Tryz.func21, Tryz.ntmps21
 go_upto_region 1 with (fail)
 have BA := Blk.new W 45 #[.int .i64 zn, .bool zh, .string ⟨zpre.toArray⟩, .string ⟨zname.toArray⟩, .string ⟨zsuf.toArray⟩, .string ⟨zpost.toArray⟩, .string ⟨zunit.toArray⟩, .string ⟨zcity.toArray⟩, .string ⟨zstate.toArray⟩, .string ⟨zzip.toArray⟩, .string ⟨zmore.toArray⟩]
 have X1 := Lib.hid ((Ext.refl W).alloc (.cells #[.int .i64 zn, .bool zh, .string ⟨zpre.toArray⟩, .string ⟨zname.toArray⟩, .string ⟨zsuf.toArray⟩, .string ⟨zpost.toArray⟩, .string ⟨zunit.toArray⟩, .string ⟨zcity.toArray⟩, .string ⟨zstate.toArray⟩, .string ⟨zzip.toArray⟩, .string ⟨zmore.toArray⟩] 45))
 generalize W.alloc (.cells #[.int .i64 zn, .bool zh, .string ⟨zpre.toArray⟩, .string ⟨zname.toArray⟩, .string ⟨zsuf.toArray⟩, .string ⟨zpost.toArray⟩, .string ⟨zunit.toArray⟩, .string ⟨zcity.toArray⟩, .string ⟨zstate.toArray⟩, .string ⟨zzip.toArray⟩, .string ⟨zmore.toArray⟩] 45) = w1 at *
 generalize W.heap.size = ga at *
 obtain ⟨qa, _⟩ := BA.cells
 have la := BA.lt
 clear BA
 go_upto_region 2 with (fail)
 have X2 := Lib.hid (X1.out.alloc (.cells #[.string ⟨zpre.toArray⟩, .string ⟨zname.toArray⟩, .string ⟨zsuf.toArray⟩, .string ⟨zpost.toArray⟩, .string ⟨zunit.toArray⟩, .string ⟨zcity.toArray⟩, .string ⟨zstate.toArray⟩, .string ⟨zzip.toArray⟩, .string ⟨zmore.toArray⟩] 9))
 have BQ := Blk.new w1 9 #[.string ⟨zpre.toArray⟩, .string ⟨zname.toArray⟩, .string ⟨zsuf.toArray⟩, .string ⟨zpost.toArray⟩, .string ⟨zunit.toArray⟩, .string ⟨zcity.toArray⟩, .string ⟨zstate.toArray⟩, .string ⟨zzip.toArray⟩, .string ⟨zmore.toArray⟩]
 rw [← hC.out] at BQ X2
 clear qa la X1
 rw [← hC.out]
 generalize w1.alloc (.cells (strC l).toArray 9) = w2 at *
 generalize w1.heap.size = gq at *
 replace BQ := Lib.hid BQ
 clear hC
 go_wp2_with fail
 go_loopw [4] (fun i wr => LgAt18 w2 gq l i wr) (fun i _ => 9 - (intOf i).toNat)
 case atStart => exact ⟨0, by omega, rfl, rfl, fun j _ h => absurd h (by omega)⟩
 case round =>
  obtain ⟨k, hk, rfl, rfl, hne⟩ := hrel
  have hk9 : k ≤ 9 := by have := hlen.out; omega
  by_cases hlt : k < 9
  ·have hlt' : k < l.length := by have := hlen.out; omega
   have hd : decide ((k : Int) < 9) = true := decide_eq_true (by omega)
   have kz : (0 : Int) ≤ (k : Int) := by omega
   have kl : (k : Int) < 9 := by omega
   have ck : wr.cell? ⟨gq, k, none⟩ = some (.string ⟨l[k].toArray⟩) := by
    rw [BQ.out.cell k]
    simp only [strC, List.getElem?_toArray, List.getElem?_map]
    rw [List.getElem?_eq_getElem hlt']
    rfl
   have lq := BQ.out.lt
   have HT2 := Lib.hid (HT.out k hlt')
   have HE := Lib.hid (fun h300 : l[k].length ≤ 300 => (show LgAt18 wr gq l (.int .i64 ((k + 1 : Nat) : Int)) wr from ⟨k + 1, hlt', rfl, rfl, fun j h hj => by
    by_cases e : j = k
    ·subst e; exact h300
    ·exact hne j h (by omega)⟩))
   clear hne
   generalize l[k] = x at *
   by_cases hx : 300 < x.length
   ·have d3 : decide ((300 : Int) < (x.length : Int)) = true := decide_eq_true (by omega)
    have d4 : decide (300 < x.length) = true := decide_eq_true hx
    have hRt := Lib.hid (HT2.out hx)
    clear hx
    go_wp2_with fail
    go_ret
    exact ⟨by rw [hRt.out]; rfl, X2.out⟩
   ·have d3 : decide ((300 : Int) < (x.length : Int)) = false := decide_eq_false (by omega)
    have d4 : decide (300 < x.length) = false := decide_eq_false hx
    replace HE := Lib.hid (HE.out (by omega))
    clear hx
    go_wp2_with fail
    go_roundw
    case rel => exact HE.out
    case measure => simp [intOf]; omega
  ·obtain rfl : k = 9 := by omega
   have hRf := Lib.hid (HF.out fun j hj => hne j hj (by have := hlen.out; omega))
   clear hne
   go_wp2_with fail
   go_ret
   exact ⟨by rw [hRf.out]; rfl, X2.out⟩
def LnAt18 (w : World) (l : List Sr) (i : Value) (wr : World) : Prop := ∃ k : Nat, k ≤ l.length ∧ k ≤ 101 ∧ i = .int .i64 (k : Int) ∧ (∀ j (h : j < l.length), j < k → bigS l[j] = false) ∧ Ext w wr
set_option maxRecDepth 100000 in
set_option maxHeartbeats 2000000 in
theorem l18long_any (l : List Sr) (A : Option Addr) (cap : Nat) (w : World) (hr : Reads w w.heap.size 13 A l.length (srCells l)) : Calls Tryz.prog 11 #[.slice A l.length cap] w fun e w' => e = .returned (.bool (longS l)) ∧ Ext w w' := by
 obtain ⟨R, hR⟩ : ∃ R, longS l = R := ⟨_, rfl⟩
 have HR := Lib.hid (fun W (hx : Ext w W) => hr.ext hx)
 have HT := Lib.hid (fun (k : Nat) (hk : k < l.length) (h1 : k < 101) (h : bigS l[k] = true) => (show R = true by
  rw [← hR]; unfold longS
  rw [Bool.or_eq_true, List.any_eq_true]
  exact .inl ⟨_, List.mem_take_iff_getElem.2 ⟨k, by omega, rfl⟩, h⟩))
 have HF := Lib.hid (fun (k : Nat) (hk : k ≤ l.length) (h1 : l.length ≤ k ∨ 101 ≤ k) (h : ∀ j (h : j < l.length), j < k → bigS l[j] = false) => (show R = decide (100 < l.length) by
  rw [← hR]; unfold longS
  have : (l.take 101).any bigS = false := by
   rw [List.any_eq_false]
   intro s hs
   obtain ⟨j, hj, rfl⟩ := List.mem_take_iff_getElem.1 hs
   rw [h j (by omega) (by omega)]; simp
  rw [this, Bool.false_or]))
 rw [hR]
 clear hr hR
 go_enter Tryz.func11, Tryz.ntmps11
 go_wp2_with fail
 go_loopw [3] (fun i wr => LnAt18 w l i wr) (fun i _ => l.length - (intOf i).toNat)
 case atStart => exact ⟨0, by omega, by omega, rfl, fun j _ h => absurd h (by omega), Ext.refl _⟩
 case round =>
  obtain ⟨k, hk, hk1, rfl, hN, hx⟩ := hrel
  by_cases hlt : k < l.length ∧ k < 101
  ·obtain ⟨hlt, h101⟩ := hlt
   have hd : decide ((k : Int) < (l.length : Int)) = true := decide_eq_true (by omega)
   have hd1 : decide ((k : Int) < 101) = true := decide_eq_true (by omega)
   have kl : (k : Int) < (l.length : Int) := by omega
   have kz : (0 : Int) ≤ (k : Int) := by omega
   obtain ⟨g, off, rfl, hg, c0, c1, c2, c3, c4, c5, c6, c7, c8, c9, c10, c11, c12⟩ := sr_at (HR.out _ hx) hlt
   have HTk := Lib.hid (HT.out k hlt h101)
   have HE := Lib.hid (fun (h : bigS l[k] = false) W (hx2 : Ext wr W) => (show LnAt18 w l (.int .i64 ((k + 1 : Nat) : Int)) W from ⟨k + 1, by omega, by omega, rfl, fun j hj hjk => by
    by_cases e : j = k
    ·subst e; exact h
    ·exact hN j hj (by omega), hx.trans hx2⟩))
   have hbig : bigS l[k] = (decide (300 < l[k].state.length) || decide (300 < l[k].city.length) || decide (300 < l[k].pre.length) || decide (300 < l[k].name.length) || decide (300 < l[k].suf.length) || decide (300 < l[k].post.length)) := rfl
   replace hx := Lib.hid hx
   clear hN HT HF HR
   generalize l[k] = x at *
   have dI : ∀ n : Nat, decide ((300 : Int) < (n : Int)) = decide (300 < n) := fun n => by rw [decide_eq_decide]; omega
   have e0 := dI x.state.length
   have e1 := dI x.city.length
   have e2 := dI x.pre.length
   have e3 := dI x.name.length
   have e4 := dI x.suf.length
   have e5 := dI x.post.length
   clear dI
   obtain ⟨b0, hb0⟩ : ∃ b, decide (300 < x.state.length) = b := ⟨_, rfl⟩
   rw [hb0] at hbig e0
   obtain ⟨b1, hb1⟩ : ∃ b, decide (300 < x.city.length) = b := ⟨_, rfl⟩
   rw [hb1] at hbig e1
   obtain ⟨b2, hb2⟩ : ∃ b, decide (300 < x.pre.length) = b := ⟨_, rfl⟩
   rw [hb2] at hbig e2
   obtain ⟨b3, hb3⟩ : ∃ b, decide (300 < x.name.length) = b := ⟨_, rfl⟩
   rw [hb3] at hbig e3
   obtain ⟨b4, hb4⟩ : ∃ b, decide (300 < x.suf.length) = b := ⟨_, rfl⟩
   rw [hb4] at hbig e4
   obtain ⟨b5, hb5⟩ : ∃ b, decide (300 < x.post.length) = b := ⟨_, rfl⟩
   rw [hb5] at hbig e5
   generalize bigS x = bg at *
   replace hbig := Lib.hid hbig
   cases b0 with
   | true =>
    have hRt := Lib.hid (HTk.out (by rw [hbig.out]; simp))
    clear HE HTk hbig
    go_wp2_with fail
    go_ret
    exact ⟨by rw [hRt.out]; rfl, hx.out.alloc _⟩
   | false =>
    cases b1 with
    | true =>
     have hRt := Lib.hid (HTk.out (by rw [hbig.out]; simp))
     clear HE HTk hbig
     go_wp2_with fail
     go_ret
     exact ⟨by rw [hRt.out]; rfl, hx.out.alloc _⟩
    | false =>
     cases b2 with
     | true =>
      have hRt := Lib.hid (HTk.out (by rw [hbig.out]; simp))
      clear HE HTk hbig
      go_wp2_with fail
      go_ret
      exact ⟨by rw [hRt.out]; rfl, hx.out.alloc _⟩
     | false =>
      cases b3 with
      | true =>
       have hRt := Lib.hid (HTk.out (by rw [hbig.out]; simp))
       clear HE HTk hbig
       go_wp2_with fail
       go_ret
       exact ⟨by rw [hRt.out]; rfl, hx.out.alloc _⟩
      | false =>
       cases b4 with
       | true =>
        have hRt := Lib.hid (HTk.out (by rw [hbig.out]; simp))
        clear HE HTk hbig
        go_wp2_with fail
        go_ret
        exact ⟨by rw [hRt.out]; rfl, hx.out.alloc _⟩
       | false =>
        cases b5 with
        | true =>
         have hRt := Lib.hid (HTk.out (by rw [hbig.out]; simp))
         clear HE HTk hbig
         go_wp2_with fail
         go_ret
         exact ⟨by rw [hRt.out]; rfl, hx.out.alloc _⟩
        | false =>
         have hRe := Lib.hid (HE.out (by rw [hbig.out]; rfl) _ ((Ext.refl wr).alloc (.cells #[.string ⟨x.state.toArray⟩, .string ⟨x.city.toArray⟩, .string ⟨x.pre.toArray⟩, .string ⟨x.name.toArray⟩, .string ⟨x.suf.toArray⟩, .string ⟨x.post.toArray⟩, .int .i64 x.fr, .int .i64 x.to_, .int .i64 x.side, .int .i64 x.ax, .int .i64 x.ay, .int .i64 x.bx, .int .i64 x.by_] 25)))
         clear HE HTk hbig
         go_wp2_with fail
         go_roundw
         case rel => exact hRe.out
         case measure => simp [intOf]; omega
  ·have hRf := Lib.hid (HF.out k hk (by omega) hN)
   have dl : decide ((100 : Int) < (l.length : Int)) = decide (100 < l.length) := by rw [decide_eq_decide]; omega
   clear hN HT HF HR
   by_cases hkl : k < l.length
   ·have hd : decide ((k : Int) < (l.length : Int)) = true := decide_eq_true (by omega)
    have hd1 : decide ((k : Int) < 101) = false := decide_eq_false (by omega)
    replace hx := Lib.hid hx
    go_wp2_with fail
    go_ret
    exact ⟨by rw [hRf.out]; first | rfl | rw [← dl], hx.out⟩
   ·have hd : decide ((k : Int) < (l.length : Int)) = false := decide_eq_false (by omega)
    replace hx := Lib.hid hx
    go_wp2_with fail
    go_ret
    exact ⟨by rw [hRf.out]; first | rfl | rw [← dl], hx.out⟩
end Go.Proofs.YtjaponmpfdpemaaGreatDoor
set_option linter.unusedSimpArgs false
set_option linter.unusedVariables false
namespace Go.Proofs.YtjaponmpfdpemaaGreatDoor
open Go.RowKit
theorem new_table {l : List Sr} (h : newR l = (0, 0)) (hs : ∀ s ∈ l, SrS s 1000) (hl : l.length ≤ 1000) : ∃ T, newP l = (some T, 0, 0) ∧ SrTab T l.length ∧ ∀ a, findP T a = findR l a := by
 obtain ⟨e1, e2⟩ := new_eq l
 rw [h] at e1 e2
 obtain ⟨_, hC, _⟩ := (newR_ok l).1 (by rw [h])
 have hN : ∀ s ∈ l, s.Num := fun s hm => (Sr.check_ok (hC s hm)).num
 obtain ⟨o, e⟩ : ∃ o, newP l = o := ⟨_, rfl⟩
 rw [e] at e1 e2
 obtain ⟨o1, o2⟩ := o
 dsimp only at e1 e2
 subst e1
 cases o1 with
 | none => simp at e2
 | some T =>
  have hT : tabP l = some T := by
   unfold newP at e
   split at e
   ·cases e
   ·split at e
    ·cases e
    ·split at e
     ·rename_i T' hT'
      rw [hT']
      injection e with e
     ·cases e
  have hl' : tabP (l.take l.length) = some T := by rw [List.take_length]; exact hT
  have hO := tabP_ok hN l.length (Nat.le_refl _) T hl'
  have hH := tabP_holds hN l.length (Nat.le_refl _) T hl'
  rw [List.take_length] at hH
  exact ⟨T, e, ⟨hO, fun k s hm => hs s (((hH k s).1.1 hm).1), fun k s hm => hs s (((hH k s).2.1 hm).1), hl⟩, find_eq hN hT⟩
def oakL : List Sr := [oakS 1, oakS 2]
theorem oakS_sh (side : Int) : SrS (oakS side) 1000 := by constructor <;> simp [oakS]
theorem awake_new : newR oakL = (0, 0) := by decide +kernel
theorem awake_at : (oakS 1).at_ 5 = ((50, 20), true) ∧ (oakS 1).at_ 2 = ((0, 0), false) := by decide +kernel
def awakeS : Bs := [51, 32, 49, 47, 50, 32, 79, 65, 75, 32, 83, 84, 44, 32, 35, 52, 44, 32, 65, 44, 32, 78, 89, 32, 49, 48, 48, 48, 49]
theorem awake_parse : (parseP awakeS).2 = (0, 0) := by decide +kernel
theorem awake_find : findR oakL (parseP awakeS).1 = ((25, 10), 0) := by decide +kernel
set_option maxRecDepth 100000 in
set_option maxHeartbeats 1000000 in
theorem finds_any (s : Bs) (hs : s.length ≤ 1000) (hp : (parseP s).2 = (0, 0)) (w00 W : World) (hS : Std W) (tb n : Nat) (T : STab) (hT : StrAt w00 W tb n T) (hR : SrTab T n) :
  Calls Tryz.prog 27 #[.pointer (some ⟨tb, 0, none⟩), .string ⟨s.toArray⟩] W fun e w' => e = .returned (.tuple #[ptV (findP T (parseP s).1).1, .int .i64 (findP T (parseP s).1).2]) ∧ Ext W w' := by
 have HP := Lib.hid (fun w (hx : Ext W w) => parse_any s (by omega) w (hS.ext hx))
 have HF := Lib.hid (fun w (hx : Ext W w) => srfind_any (parseP s).1 (parsed_AdS (by rw [hp])).1 w00 w (hS.ext hx) tb n T (hT.ext hx) hR)
 unfold PsR at HP
 rw [hp] at HP
 generalize (parseP s).1 = a at *
 generalize findP T a = r at *
 obtain ⟨⟨px, py⟩, er⟩ := r
 unfold ptV at HF
 rw [adV_eq] at HP HF
 obtain ⟨zn, zh, zpre, zname, zsuf, zpost, zunit, zcity, zstate, zzip, zmore⟩ := a
 dsimp only at *
 clear hS hp hT hR hs
 have BP := Lib.hid (Blk.new W 23 #[.int .i64 0, .int .i64 0])
 have X0 := Lib.hid ((Ext.refl W).alloc (.cells #[.int .i64 0, .int .i64 0] 23))
 go_enter Tryz.func27, Tryz.ntmps27
 go_wp2_with fail
 refine (HP.out _ X0.out).mono ?_
 rintro e w1 ⟨rfl, hx⟩
 have X1 := Lib.hid (X0.out.trans hx)
 replace BP := Lib.hid (BP.out.ext hx)
 clear hx X0 HP
 go_wp2_with fail
 refine (HF.out _ ((X1.out.alloc _).alloc _)).mono ?_
 rintro e w2 ⟨rfl, hx⟩
 have X2 := Lib.hid (((X1.out.alloc _).alloc _).trans hx)
 have BP2 := ((BP.out.alloc _).alloc _).ext hx
 have BE := Lib.hid (pt_set BP2 (.int .i64 px) (.int .i64 py))
 have XE := Lib.hid ((X2.out.set (p := ⟨W.heap.size, 0, none⟩) (Nat.le_refl _) (.int .i64 px)).set (p := ⟨W.heap.size, 1, none⟩) (Nat.le_refl _) (.int .i64 py))
 obtain ⟨p4, p4'⟩ := BP2.cells
 have l4 := BP2.lt
 clear BP2 hx
 go_wp2_with fail
 exact bodyPost_ret (results_ct rfl rfl (ld_pt BE.out)) rfl ⟨rfl, XE.out⟩
theorem reads_two {w : World} {g : Nat} {s t : Sr} (h : Blk w g 25 #[.string ⟨s.state.toArray⟩, .string ⟨s.city.toArray⟩, .string ⟨s.pre.toArray⟩, .string ⟨s.name.toArray⟩, .string ⟨s.suf.toArray⟩, .string ⟨s.post.toArray⟩, .int .i64 s.fr, .int .i64 s.to_, .int .i64 s.side, .int .i64 s.ax, .int .i64 s.ay, .int .i64 s.bx, .int .i64 s.by_, .string ⟨t.state.toArray⟩, .string ⟨t.city.toArray⟩, .string ⟨t.pre.toArray⟩, .string ⟨t.name.toArray⟩, .string ⟨t.suf.toArray⟩, .string ⟨t.post.toArray⟩, .int .i64 t.fr, .int .i64 t.to_, .int .i64 t.side, .int .i64 t.ax, .int .i64 t.ay, .int .i64 t.bx, .int .i64 t.by_]) : Reads w w.heap.size 13 (some ⟨g, 0, none⟩) [s, t].length (srCells [s, t]) := by
 refine ⟨by rw [srCells_len], fun _ => ⟨g, 0, rfl, h.lt, fun j u hu => ?_⟩⟩
 rw [Nat.zero_add, h.cell j]
 simpa [srCells, srL] using hu
set_option maxRecDepth 100000 in
set_option maxHeartbeats 2000000 in
theorem l18awake_any (W : World) (hS : Std W) : Calls Tryz.prog 16 #[] W fun e w' => e = .returned (.bool true) ∧ Ext W w' := by
 have hs : ∀ s ∈ oakL, SrS s 1000 := fun s hm => by
  rcases List.mem_cons.1 hm with rfl | hm
  ·exact oakS_sh 1
  ·rcases List.mem_cons.1 hm with rfl | hm
   ·exact oakS_sh 2
   ·cases hm
 obtain ⟨T, hNew, hR, hF⟩ := new_table awake_new hs (by decide)
 have HN := Lib.hid (fun g w (hb : Blk w g 25 #[.string ⟨(oakS 1).state.toArray⟩, .string ⟨(oakS 1).city.toArray⟩, .string ⟨(oakS 1).pre.toArray⟩, .string ⟨(oakS 1).name.toArray⟩, .string ⟨(oakS 1).suf.toArray⟩, .string ⟨(oakS 1).post.toArray⟩, .int .i64 (oakS 1).fr, .int .i64 (oakS 1).to_, .int .i64 (oakS 1).side, .int .i64 (oakS 1).ax, .int .i64 (oakS 1).ay, .int .i64 (oakS 1).bx, .int .i64 (oakS 1).by_, .string ⟨(oakS 2).state.toArray⟩, .string ⟨(oakS 2).city.toArray⟩, .string ⟨(oakS 2).pre.toArray⟩, .string ⟨(oakS 2).name.toArray⟩, .string ⟨(oakS 2).suf.toArray⟩, .string ⟨(oakS 2).post.toArray⟩, .int .i64 (oakS 2).fr, .int .i64 (oakS 2).to_, .int .i64 (oakS 2).side, .int .i64 (oakS 2).ax, .int .i64 (oakS 2).ay, .int .i64 (oakS 2).bx, .int .i64 (oakS 2).by_]) (hx : Ext W w) => srnew_any oakL hs (some ⟨g, 0, none⟩) 2 w (reads_two hb) (by decide) (hS.ext hx))
 rw [hNew] at HN
 have HO1 := Lib.hid (fun w => oak_any 1 w)
 have HO2 := Lib.hid (fun w => oak_any 2 w)
 have HA := Lib.hid (fun w (hx : Ext W w) => l18at_any (oakS 1) (oakS_sh 1) 5 50 20 w (hS.ext hx))
 have HB := Lib.hid (fun w (hx : Ext W w) => l18none_any (oakS 1) (oakS_sh 1) 2 w (hS.ext hx))
 rw [awake_at.1] at HA
 rw [awake_at.2] at HB
 have HF := Lib.hid (fun w00 w tb (hx : Ext W w) (hT : StrAt w00 w tb 2 T) => finds_any awakeS (by decide) awake_parse w00 w (hS.ext hx) tb 2 T hT hR)
 rw [hF, show oakL = oakL from rfl, awake_find] at HF
 unfold ptV awakeS at HF
 dsimp only at HF HA HB HN
 simp only [Bool.true_and, decide_true, Bool.not_false] at HA HB
 generalize oakS 1 = s1 at *
 generalize oakS 2 = s2 at *
 simp only [srV_eq] at HO1 HO2 HA HB
 clear hs hNew hR hF hS
 go_enter Tryz.func16, Tryz.ntmps16
 go_wp2_with fail
 refine (HO1.out _).mono ?_
 rintro e w1 ⟨rfl, hx⟩
 have X1 := Lib.hid hx
 clear hx
 go_wp2_with fail
 refine (HO2.out _).mono ?_
 rintro e w2 ⟨rfl, hx⟩
 have X2 := Lib.hid (X1.out.trans hx)
 clear hx X1
 go_wp2_with fail
 refine (HN.out _ _ (Blk.new w2 _ _) (X2.out.alloc _)).mono ?_
 rintro e w3 ⟨_, rfl, hx, tb, rfl, hT⟩
 have X3 := Lib.hid (((X2.out.alloc _).trans hx).alloc (.cells #[.int .i64 0, .int .i64 0] 36))
 have BF := Lib.hid (Blk.new w3 36 #[.int .i64 0, .int .i64 0])
 have T3 := Lib.hid (hT.ext ((Ext.refl w3).alloc (.cells #[.int .i64 0, .int .i64 0] 36)))
 clear hx hT X2 HN HO2
 go_upto_region 2 with (fail)
 generalize w3.alloc (.cells #[.int .i64 0, .int .i64 0] 36) = w4 at *
 generalize w3.heap.size = gf at *
 obtain ⟨qa, _⟩ := BF.out.cells
 have la := BF.out.lt
 go_wp2_with fail
 refine (HO1.out _).mono ?_
 rintro e w5 ⟨rfl, hx⟩
 have X5 := Lib.hid (X3.out.trans hx)
 have Y5 := Lib.hid hx
 clear hx
 go_wp2_with fail
 refine (HA.out _ X5.out).mono ?_
 rintro e w6 ⟨rfl, hx⟩
 have X6 := Lib.hid (X5.out.trans hx)
 have Y6 := Lib.hid (Y5.out.trans hx)
 clear hx X5 Y5
 go_wp2_with fail
 refine (HO1.out _).mono ?_
 rintro e w7 ⟨rfl, hx⟩
 have X7 := Lib.hid (X6.out.trans hx)
 have Y7 := Lib.hid (Y6.out.trans hx)
 clear hx X6 Y6
 go_wp2_with fail
 refine (HB.out _ X7.out).mono ?_
 rintro e w8 ⟨rfl, hx⟩
 have X8 := Lib.hid (X7.out.trans hx)
 have Y8 := Lib.hid (Y7.out.trans hx)
 clear hx X7 Y7
 go_wp2_with fail
 refine (HF.out _ _ _ X8.out (T3.out.ext Y8.out)).mono ?_
 rintro e w9 ⟨rfl, hx⟩
 have X9 := Lib.hid (X8.out.trans hx)
 clear hx
 go_wp2_with fail
 go_ret
 exact ⟨rfl, X9.out.alloc _⟩
end Go.Proofs.YtjaponmpfdpemaaGreatDoor
set_option linter.unusedSimpArgs false
set_option linter.unusedVariables false
namespace Go.Proofs.YtjaponmpfdpemaaGreatDoor
theorem newR_zero {l : List Sr} (h : (newR l).1 = 0) : newR l = (0, 0) := by
 unfold newR at h ⊢
 by_cases h5 : 500 < l.length
 ·rw [if_pos h5] at h; cases h
 ·rw [if_neg h5] at h ⊢
  by_cases hb : 0 ≤ srBad l
  ·rw [if_pos hb] at h; cases h
  ·rw [if_neg hb] at h ⊢
   cases hf : (List.range l.length).find? (clashR l) with
   | none => rfl
   | some k => rw [hf] at h; cases h
end Go.Proofs.YtjaponmpfdpemaaGreatDoor
set_option linter.unusedSimpArgs false
set_option linter.unusedVariables false
namespace Go.Proofs.YtjaponmpfdpemaaGreatDoor
open Go.RowKit
def Finds (w : World) (v : Value) (l : List Sr) : Prop := ∀ a, AdS a 1000 → ∀ w', Ext w w' → Std w' → Calls Tryz.prog 22 #[v, adV a] w' fun e w3 => e = .returned (.tuple #[ptV (findR l a).1, .int .i64 (findR l a).2]) ∧ Ext w' w3
theorem srnew_table (l : List Sr) (hs : ∀ s ∈ l, SrS s 1000) (A : Option Addr) (cap : Nat) (w : World) (hr : Reads w w.heap.size 13 A l.length (srCells l)) (hl : l.length ≤ 1000) (hS : Std w) :
  Calls Tryz.prog 17 #[.slice A l.length cap] w fun e w' => ∃ v, e = .returned (.tuple #[v, .agg #[.int .i64 (newR l).1, .int .i64 (newR l).2]]) ∧ Ext w w' ∧
   (((newR l).1 = 0 ∧ ∃ tb T, v = .pointer (some ⟨tb, 0, none⟩) ∧ StrAt w w' tb l.length T ∧ SrTab T l.length ∧ ∀ a, findP T a = findR l a) ∨ ((newR l).1 ≠ 0 ∧ v = .pointer none)) := by
 refine (srnew_any l hs A cap w hr hl hS).mono ?_
 rintro e w' ⟨v, rfl, hx, hm⟩
 have hn := new_eq l
 by_cases h : (newR l).1 = 0
 ·obtain ⟨T, hT, hR, hF⟩ := new_table (newR_zero h) hs hl
  rw [hT] at hm
  obtain ⟨tb, rfl, hA⟩ := hm
  exact ⟨_, by rw [hn.1], hx, .inl ⟨h, tb, T, rfl, hA, hR, hF⟩⟩
 ·refine ⟨v, by rw [hn.1], hx, .inr ⟨h, ?_⟩⟩
  cases hP : (newP l).1 with
  | none => rw [hP] at hm; exact hm
  | some T => rw [hP] at hn; exact absurd (hn.2.1 rfl) h
theorem srfind_table {l : List Sr} {w0 w : World} {tb n : Nat} {T : STab} (hT : StrAt w0 w tb n T) (hR : SrTab T n) (hF : ∀ a, findP T a = findR l a) : Finds w (.pointer (some ⟨tb, 0, none⟩)) l := fun a ha w' hx hS => by
 have := srfind_any a ha w0 w' hS tb n T (hT.ext hx) hR
 rwa [hF a] at this
end Go.Proofs.YtjaponmpfdpemaaGreatDoor
