/-
  apportionref17: digits, whole, ahead, own.
-/
import Derived.Test.YtjaponmpfdpemaaGreatDoorBb28
import Derived.Test.YtjaponmpfdpemaaGreatDoorBb05
set_option linter.unusedSimpArgs false
set_option linter.unusedVariables false
namespace Go.Proofs.YtjaponmpfdpemaaGreatDoor
open Go.RowKit
set_option maxRecDepth 100000 in
set_option maxHeartbeats 2000000 in
theorem rdigits_any (s : Bs) (lo hi : Nat) (hs : s.length ≤ 100000) (hb : lo ≤ 100 ∧ hi ≤ 100) (W : World) :
  Calls Tryz.prog 64 #[.string ⟨s.toArray⟩, .int .i64 (lo : Int), .int .i64 (hi : Int)] W fun e w' => e = .returned (.bool (digitsP s lo hi)) ∧ Ext W w' := by
 have hP : digitsP s lo hi = (decide (lo ≤ s.length ∧ s.length ≤ hi) && s.all digB) := rfl
 obtain ⟨R, hR⟩ : ∃ R, digitsP s lo hi = R := ⟨_, rfl⟩
 rw [hR] at hP ⊢
 replace hR := Lib.hid hR
 replace hP := Lib.hid hP
 have H0 := Lib.hid (show KdAt W s (.int .i64 ((0 : Nat) : Int)) W from ⟨0, by omega, rfl, rfl, fun j _ h => absurd h (by omega)⟩)
 go_enter Tryz.func64, Tryz.ntmps64
 go_wp2_with fail
 go_loopw [7] (fun i wr => KdAt W s i wr) (fun i _ => s.length - (intOf i).toNat)
 case atStart => exact H0.out
 case round =>
  clear H0
  obtain ⟨k, hk, rfl, hw, hne⟩ := hrel
  by_cases hlt : k < s.length
  ·have hd : decide ((k : Int) < (s.length : Int)) = true := decide_eq_true (by omega)
   have hd' : decide (k < s.length) = true := decide_eq_true hlt
   have kz : (0 : Int) ≤ (k : Int) := by omega
   have kl : (k : Int) < (s.length : Int) := by omega
   obtain ⟨n, hn⟩ : ∃ n, s[k].toNat = n := ⟨_, rfl⟩
   have hb : ∀ h, ((⟨s.toArray⟩ : ByteArray)[k]'h).toNat = n := fun _ => hn
   have hdg : digB s[k] = decide (48 ≤ n ∧ n ≤ 57) := by unfold digB; rw [hn]
   by_cases h1 : n < 48
   ·have d1 : decide ((n : Int) < 48) = true := decide_eq_true (by omega)
    have hRf := Lib.hid (show R = false by
     rw [hP.out]
     have h2 : s.all digB = false := by
      rw [List.all_eq_false]
      exact ⟨s[k], List.getElem_mem hlt, by rw [hdg, decide_eq_true_eq]; omega⟩
     rw [h2, Bool.and_false])
    have hx := Lib.hid (show Ext W wr by rw [hw]; exact Ext.refl _)
    clear hne hdg h1 hw hP
    go_wp2_with fail
    go_ret
    exact ⟨by rw [hRf.out]; rfl, hx.out⟩
   ·have d1 : decide ((n : Int) < 48) = false := decide_eq_false (by omega)
    by_cases h2 : 57 < n
    ·have d2 : decide (57 < (n : Int)) = true := decide_eq_true (by omega)
     have hRf := Lib.hid (show R = false by
      rw [hP.out]
      have h2 : s.all digB = false := by
       rw [List.all_eq_false]
       exact ⟨s[k], List.getElem_mem hlt, by rw [hdg, decide_eq_true_eq]; omega⟩
      rw [h2, Bool.and_false])
     have hx := Lib.hid (show Ext W wr by rw [hw]; exact Ext.refl _)
     clear hne hdg h1 h2 hw hP
     go_wp2_with fail
     go_ret
     exact ⟨by rw [hRf.out]; rfl, hx.out⟩
    ·have d2 : decide (57 < (n : Int)) = false := decide_eq_false (by omega)
     have HE := Lib.hid (show KdAt W s (.int .i64 ((k + 1 : Nat) : Int)) wr from ⟨k + 1, hlt, rfl, hw, fun j h hj => by
      by_cases e : j = k
      ·subst e; rw [hdg, decide_eq_true_eq]; omega
      ·exact hne j h (by omega)⟩)
     clear hne hdg h1 h2 hw hP
     go_wp2_with fail
     go_roundw
     case rel => exact HE.out
     case measure => simp [intOf]; omega
  ·obtain rfl : k = s.length := by omega
   have hd : decide ((s.length : Int) < (s.length : Int)) = false := by simp
   have hall : s.all digB = true := by
    rw [List.all_eq_true]
    intro c hc
    obtain ⟨j, hj, rfl⟩ := List.mem_iff_getElem.1 hc
    exact hne j hj hj
   have hx := Lib.hid (show Ext W wr by rw [hw]; exact Ext.refl _)
   by_cases h1 : lo ≤ s.length
   ·have d1 : decide ((lo : Int) ≤ (s.length : Int)) = true := decide_eq_true (by omega)
    have d1' : decide (lo ≤ s.length) = true := decide_eq_true h1
    by_cases h2 : s.length ≤ hi
    ·have d2 : decide ((s.length : Int) ≤ (hi : Int)) = true := decide_eq_true (by omega)
     have d2' : decide (s.length ≤ hi) = true := decide_eq_true h2
     have hRf := Lib.hid (show R = true by rw [hP.out, hall, decide_eq_true ⟨h1, h2⟩]; rfl)
     clear hne hw hP hall h1 h2
     go_wp2_with fail
     go_ret
     exact ⟨by rw [hRf.out]; rfl, hx.out⟩
    ·have d2 : decide ((s.length : Int) ≤ (hi : Int)) = false := decide_eq_false (by omega)
     have d2' : decide (s.length ≤ hi) = false := decide_eq_false h2
     have hRf := Lib.hid (show R = false by rw [hP.out, decide_eq_false (fun h => h2 h.2), Bool.false_and])
     clear hne hw hP hall h1 h2
     go_wp2_with fail
     go_ret
     exact ⟨by rw [hRf.out]; rfl, hx.out⟩
   ·have d1 : decide ((lo : Int) ≤ (s.length : Int)) = false := decide_eq_false (by omega)
    have d1' : decide (lo ≤ s.length) = false := decide_eq_false h1
    have hRf := Lib.hid (show R = false by rw [hP.out, decide_eq_false (fun h => h1 h.1), Bool.false_and])
    clear hne hw hP hall h1
    go_wp2_with fail
    go_ret
    exact ⟨by rw [hRf.out]; rfl, hx.out⟩
set_option maxRecDepth 100000 in
theorem rahead_any (s : Bs) (hs : s.length ≤ 100000) (W : World) : Calls Tryz.prog 113 #[.string ⟨s.toArray⟩] W fun e w' => e = .returned (.string ⟨(aheadP s).toArray⟩) ∧ Ext W w' := by
 by_cases h : s = []
 ·subst h
  go_enter Tryz.func113, Tryz.ntmps113
  go_wp2_with fail
  go_ret
  exact ⟨rfl, Ext.refl _⟩
 ·have hP : aheadP s = 32 :: s := by unfold aheadP; rw [if_neg h]
  have b0 : s.isEmpty = false := by cases s with | nil => exact absurd rfl h | cons _ _ => rfl
  rw [hP]
  clear hP h
  go_enter Tryz.func113, Tryz.ntmps113
  go_wp2_with fail
  go_ret
  exact ⟨by exact congrArg (fun x => Ending.returned (.string x)) (bs_app [32] s), Ext.refl _⟩
set_option maxRecDepth 100000 in
theorem rown_any (kind : Int) (hk : kindOk kind) (s : Bs) (W : World) : Calls Tryz.prog 63 #[.int .i64 kind, .string ⟨s.toArray⟩] W fun e w' => e = .returned (.bool (ownP kind s)) ∧ Ext W w' := by
 have HS := Lib.hid (fun W => rshort_any kind hk s W)
 have he := fun w => bs_eq (shortP kind s).1 s w
 unfold ownP
 generalize shortP kind s = sh at *
 obtain ⟨x, y⟩ := sh
 dsimp only at *
 clear hk
 go_enter Tryz.func63, Tryz.ntmps63
 go_wp2_with fail
 refine (HS.out _).mono ?_
 rintro e w1 ⟨rfl, hx⟩
 go_wp2_with fail
 go_ret
 exact ⟨rfl, hx⟩
end Go.Proofs.YtjaponmpfdpemaaGreatDoor
set_option linter.unusedSimpArgs false
set_option linter.unusedVariables false
namespace Go.Proofs.YtjaponmpfdpemaaGreatDoor
open Go.RowKit
def KiAt (W : World) (l : List Tok) (kind : Int) (a b i : Value) (wr : World) : Prop := ∃ (k : Nat) (x y : Bool), k ≤ l.length ∧ i = .int .i64 (k : Int) ∧ a = .bool x ∧ b = .bool y ∧ x = (l.take k).all (fun t => t.k == kind) ∧ y = (l.take k).any (fun t => t.k == kind) ∧ Ext W wr
set_option maxRecDepth 100000 in
set_option maxHeartbeats 2000000 in
theorem rkinds_any (l : List Tok) (A : Option Addr) (n cap : Nat) (kind : Int) (W : World) (hT : TokS W A n cap l) :
  Calls Tryz.prog 62 #[.slice A n cap, .int .i64 kind] W fun e w' => e = .returned (.tuple #[.bool (l.all fun t => t.k == kind), .bool (l.any fun t => t.k == kind)]) ∧ Ext W w' := by
 have hlen := hT.len
 subst hlen
 have hl40 := hT.l40
 have HT := Lib.hid (fun w (hx : Ext W w) => hT.ext hx)
 clear hT
 have H0 := Lib.hid (show KiAt W l kind (.bool true) (.bool false) (.int .i64 ((0 : Nat) : Int)) W from ⟨0, true, false, by omega, rfl, rfl, rfl, rfl, rfl, Ext.refl _⟩)
 go_enter Tryz.func62, Tryz.ntmps62
 go_wp2_with fail
 go_loopw [6, 7, 8] (fun a b i wr => KiAt W l kind a b i wr) (fun _ _ i _ => l.length - (intOf i).toNat)
 case atStart => exact H0.out
 case round =>
  clear H0
  obtain ⟨k, x, y, hk, rfl, rfl, rfl, hxe, hye, hx⟩ := hrel
  by_cases hlt : k < l.length
  ·have hd : decide ((k : Int) < (l.length : Int)) = true := decide_eq_true (by omega)
   have kz : (0 : Int) ≤ (k : Int) := by omega
   have kl : (k : Int) < (l.length : Int) := by omega
   obtain ⟨g, o, rfl, hg, t0, t1⟩ := (HT.out _ hx).at_ hlt
   have e1 : (l.take (k + 1)).all (fun t => t.k == kind) = (x && (l[k].k == kind)) := by
    rw [List.take_succ_eq_append_getElem hlt, List.all_append, ← hxe]; simp
   have e2 : (l.take (k + 1)).any (fun t => t.k == kind) = (y || (l[k].k == kind)) := by
    rw [List.take_succ_eq_append_getElem hlt, List.any_append, ← hye]; simp
   have HE := Lib.hid (fun x' y' (h1 : x' = (x && (l[k].k == kind))) (h2 : y' = (y || (l[k].k == kind))) => (show KiAt W l kind (.bool x') (.bool y') (.int .i64 ((k + 1 : Nat) : Int)) wr from ⟨k + 1, x', y', hlt, rfl, rfl, rfl, by rw [e1, h1], by rw [e2, h2], hx⟩))
   obtain ⟨z, hz⟩ : ∃ z, (l[k].k == kind) = z := ⟨_, rfl⟩
   rw [hz] at HE
   clear e1 e2 hxe hye HT t1 hx
   generalize l[k].k = q at *
   cases x <;> cases y
   all_goals
    go_wp2_with fail
    go_roundw
    case rel => exact HE.out _ _ rfl rfl
    case measure => simp [intOf]; omega
  ·obtain rfl : k = l.length := by omega
   have hd : decide ((l.length : Int) < (l.length : Int)) = false := by simp
   rw [List.take_length] at hxe hye
   replace hx := Lib.hid hx
   replace hxe := Lib.hid hxe
   replace hye := Lib.hid hye
   clear HT
   go_wp2_with fail
   go_ret2
   exact ⟨by rw [← hxe.out, ← hye.out]; rfl, hx.out⟩
theorem textsP_snoc : ∀ (l : List Tok) (t : Tok), textsP (l ++ [t]) = (if l = [] then [] else textsP l ++ [32]) ++ t.t
 | [], t => rfl
 | [a], t => by simp [textsP]
 | a :: b :: l, t => by
  have := textsP_snoc (b :: l) t
  rw [if_neg (by simp)] at this
  rw [if_neg (by simp)]
  show a.t ++ 32 :: textsP (b :: l ++ [t]) = _
  rw [this]
  simp [textsP]
theorem textsP_le : ∀ (l : List Tok) (h : ∀ t ∈ l, t.t.length ≤ 300), (textsP l).length ≤ 301 * l.length
 | [], _ => by simp [textsP]
 | [a], h => by have := h a (by simp); simp [textsP]; omega
 | a :: b :: l, h => by
  have h1 := h a (by simp)
  have h2 := textsP_le (b :: l) (fun t ht => h t (by simp at ht ⊢; exact .inr ht))
  simp only [textsP, List.length_append, List.length_cons] at h2 ⊢
  omega
def RtxAt (W : World) (l : List Tok) (v i : Value) (wr : World) : Prop := ∃ k : Nat, k ≤ l.length ∧ i = .int .i64 (k : Int) ∧ v = .string ⟨(textsP (l.take k)).toArray⟩ ∧ Ext W wr
set_option maxRecDepth 100000 in
set_option maxHeartbeats 2000000 in
theorem rtexts_any (l : List Tok) (A : Option Addr) (n cap : Nat) (W : World) (hT : TokS W A n cap l) :
  Calls Tryz.prog 108 #[.slice A n cap] W fun e w' => e = .returned (.string ⟨(textsP l).toArray⟩) ∧ Ext W w' := by
 have hlen := hT.len
 subst hlen
 have hl40 := hT.l40
 have hsm := Lib.hid hT.sm
 have HT := Lib.hid (fun w (hx : Ext W w) => hT.ext hx)
 clear hT
 have H0 := Lib.hid (show RtxAt W l (.string ⟨#[]⟩) (.int .i64 ((0 : Nat) : Int)) W from ⟨0, by omega, rfl, rfl, Ext.refl _⟩)
 go_enter Tryz.func108, Tryz.ntmps108
 go_wp2_with fail
 go_loopw [3, 4] (fun v i wr => RtxAt W l v i wr) (fun _ i _ => l.length - (intOf i).toNat)
 case atStart => exact H0.out
 case round =>
  clear H0
  obtain ⟨k, hk, rfl, rfl, hx⟩ := hrel
  by_cases hlt : k < l.length
  ·have hd : decide ((k : Int) < (l.length : Int)) = true := decide_eq_true (by omega)
   have kz : (0 : Int) ≤ (k : Int) := by omega
   have kl : (k : Int) < (l.length : Int) := by omega
   obtain ⟨g, o, rfl, hg, t0, t1⟩ := (HT.out _ hx).at_ hlt
   have h1 := hsm.out l[k] (List.getElem_mem hlt)
   have h2 := textsP_le (l.take k) (fun t ht => hsm.out t (List.mem_of_mem_take ht))
   rw [List.length_take] at h2
   have h2' : (textsP (l.take k)).length ≤ 40000 := by omega
   have e1 : textsP (l.take (k + 1)) = (if l.take k = [] then [] else textsP (l.take k) ++ [32]) ++ l[k].t := by
    rw [List.take_succ_eq_append_getElem hlt, textsP_snoc]
   by_cases h0 : 0 < k
   ·have d0 : decide ((0 : Int) < (k : Int)) = true := decide_eq_true (by omega)
    have d0' : decide (0 < k) = true := decide_eq_true h0
    have hne : l.take k ≠ [] := by
     intro h
     have h3 : (l.take k).length = 0 := by rw [h]; rfl
     rw [List.length_take] at h3
     omega
    rw [if_neg hne] at e1
    have HE := Lib.hid (fun v (hv : v = .string ⟨(textsP (l.take k) ++ [32] ++ l[k].t).toArray⟩) => (show RtxAt W l v (.int .i64 ((k + 1 : Nat) : Int)) wr from ⟨k + 1, hlt, rfl, by rw [e1]; exact hv, hx⟩))
    clear e1 hne h2 h0 t0 HT hx
    generalize textsP (l.take k) = a at *
    generalize l[k].t = b at *
    have ea := bs_app a [32]
    have eb := bs_app (a ++ [32]) b
    have la : (a ++ [32]).length ≤ 40001 := by rw [List.length_append]; simp; omega
    go_wp2_with fail
    go_roundw
    case rel => exact HE.out _ (by simp)
    case measure => simp [intOf]; omega
   ·have d0 : decide ((0 : Int) < (k : Int)) = false := decide_eq_false (by omega)
    obtain rfl : k = 0 := by omega
    have HE := Lib.hid (fun v (hv : v = .string ⟨(l[0].t).toArray⟩) => (show RtxAt W l v (.int .i64 ((0 + 1 : Nat) : Int)) wr from ⟨0 + 1, hlt, rfl, by rw [e1]; exact hv, hx⟩))
    clear e1 h2 h0 t0 HT hx
    rw [show textsP (l.take 0) = [] from rfl] at *
    generalize l[0].t = b at *
    have eb := bs_app [] b
    go_wp2_with fail
    go_roundw
    case rel => exact HE.out _ (by simp)
    case measure => simp [intOf]; omega
  ·obtain rfl : k = l.length := by omega
   have hd : decide ((l.length : Int) < (l.length : Int)) = false := by simp
   rw [List.take_length]
   replace hx := Lib.hid hx
   clear HT
   go_wp2_with fail
   go_ret
   exact ⟨rfl, hx.out⟩
end Go.Proofs.YtjaponmpfdpemaaGreatDoor
set_option linter.unusedSimpArgs false
set_option linter.unusedVariables false
namespace Go.Proofs.YtjaponmpfdpemaaGreatDoor
open Go.RowKit
theorem shortP_snd {kind : Int} (hk : kindOk kind) (w : Bs) : ((shortP kind w).1 != []) = (shortP kind w).2 := by
 cases h : (shortP kind w).2 with
 | false => rw [shortP_none h]; rfl
 | true =>
  obtain ⟨p, hp, e⟩ := shortP_mem h
  rw [e]
  have hne : (wordsP kind).all (fun p => p.s != []) = true := by
   rcases hk with rfl | rfl | rfl | rfl <;> kernel_rfl
  exact List.all_eq_true.1 hne p hp
set_option maxRecDepth 100000 in
set_option maxHeartbeats 4000000 in
theorem runit_any (l : List Tok) (A : Option Addr) (n cap : Nat) (W : World) (h : TokS W A n cap l) :
  Calls Tryz.prog 66 #[.slice A n cap] W fun e w' => e = .returned (.bool (unitP l).2) ∧ Ext W w' := by
 obtain rfl := h.len
 have hl := h.l40
 by_cases h2 : l.length = 2
 ·match l, h2 with
  | [a, b], _ =>
   have HT := Lib.hid (fun w (hx : Ext W w) => h.ext hx)
   obtain ⟨g, o, rfl, hg, a0, a1⟩ := h.at_ (k := 0) (by simp)
   obtain ⟨g', o', e, _, b0, b1⟩ := h.at_ (k := 1) (by simp)
   injection e with e
   injection e with e1 e2 _
   subst e1 e2
   simp only [List.getElem_cons_zero, List.getElem_cons_succ, Nat.zero_mul, Nat.add_zero, Nat.one_mul] at a0 a1 b0 b1
   have hlen : [a, b].length = 2 := rfl
   rw [hlen] at *
   have HS := Lib.hid (fun w => rhas_any a 4 (.inr (.inr (.inr rfl))) w)
   have hR : (unitP [a, b]).2 = (((a.k == 5) || (shortP 4 a.t).2) && (b.k != 5) && (b.k != 4)) := by
    have hs := shortP_snd (kind := 4) (.inr (.inr (.inr rfl))) a.t
    have hP : unitP [a, b] = if b.k = 5 ∨ b.k = 4 then ([], false) else if a.k = 5 then (35 :: b.t, true) else (shortT a 4 ++ 32 :: b.t, shortT a 4 != []) := rfl
    rw [hP]
    by_cases h5 : b.k = 5
    ·rw [if_pos (.inl h5), h5]; simp
    ·by_cases h4 : b.k = 4
     ·rw [if_pos (.inr h4), h4]; simp
     ·rw [if_neg (fun e => e.elim h5 h4), bne_iff_ne.2 h5, bne_iff_ne.2 h4]
      by_cases ha : a.k = 5
      ·rw [if_pos ha, ha]; simp
      ·rw [if_neg ha, beq_eq_false_iff_ne.2 ha]
       unfold shortT
       rw [hs]
       simp
   obtain ⟨R, hRR⟩ : ∃ R, (unitP [a, b]).2 = R := ⟨_, rfl⟩
   rw [hRR] at hR ⊢
   clear hRR
   obtain ⟨x, hx⟩ : ∃ x, (a.k == 5) = x := ⟨_, rfl⟩
   obtain ⟨y, hy⟩ : ∃ y, (b.k != 5) = y := ⟨_, rfl⟩
   obtain ⟨z, hz⟩ : ∃ z, (b.k != 4) = z := ⟨_, rfl⟩
   rw [hx, hy, hz] at hR
   unfold tokV at HS
   generalize (shortP 4 a.t).2 = q at *
   generalize a.k = ak at *
   generalize a.t = at_ at *
   generalize b.k = bk at *
   generalize b.t = bt at *
   replace hR := Lib.hid hR
   clear h HT
   cases x with
   | true =>
    clear HS
    cases y <;> cases z
    all_goals
     go_enter Tryz.func66, Tryz.ntmps66
     go_wp2_with fail
     go_ret
     exact ⟨by rw [hR.out]; rfl, Ext.refl _⟩
   | false =>
    go_enter Tryz.func66, Tryz.ntmps66
    go_wp2_with fail
    refine (HS.out _).mono ?_
    rintro e w1 ⟨rfl, hx1⟩
    have c0 := (hx1.cell g _ none hg).trans b0
    have c1 := (hx1.cell g _ none hg).trans b1
    clear HS a0 a1 b0 b1
    cases q <;> cases y <;> cases z
    all_goals
     go_wp2_with fail
     go_ret
     exact ⟨by rw [hR.out]; rfl, hx1⟩
 ·have hd : ((l.length : Int) == 2) = false := by rw [beq_eq_false_iff_ne]; omega
  have hR := Lib.hid (unitP_len h2)
  go_enter Tryz.func66, Tryz.ntmps66
  go_wp2_with fail
  go_ret
  exact ⟨by rw [hR.out]; rfl, Ext.refl _⟩
end Go.Proofs.YtjaponmpfdpemaaGreatDoor
set_option linter.unusedSimpArgs false
set_option linter.unusedVariables false
namespace Go.Proofs.YtjaponmpfdpemaaGreatDoor
open Go.RowKit
set_option maxRecDepth 100000 in
set_option maxHeartbeats 4000000 in
theorem runitText_any (l : List Tok) (A : Option Addr) (n cap : Nat) (W : World) (h : TokS W A n cap l) (hu : (unitP l).2 = true) :
  Calls Tryz.prog 67 #[.slice A n cap] W fun e w' => e = .returned (.string ⟨(unitP l).1.toArray⟩) ∧ Ext W w' := by
 obtain rfl := h.len
 have hl := h.l40
 have h2 : l.length = 2 := by
  by_cases h2 : l.length = 2
  ·exact h2
  ·rw [unitP_len h2] at hu; cases hu
 match l, h2 with
 | [a, b], _ =>
  obtain ⟨g, o, rfl, hg, a0, a1⟩ := h.at_ (k := 0) (by simp)
  obtain ⟨g', o', e, _, b0, b1⟩ := h.at_ (k := 1) (by simp)
  injection e with e
  injection e with e1 e2 _
  subst e1 e2
  simp only [List.getElem_cons_zero, List.getElem_cons_succ, Nat.zero_mul, Nat.add_zero, Nat.one_mul] at a0 a1 b0 b1
  have hlen : [a, b].length = 2 := rfl
  rw [hlen] at *
  have sb := h.sm b (by simp)
  have HS := Lib.hid (fun w => rshortT_any a 4 (.inr (.inr (.inr rfl))) w)
  have lsh : (shortT a 4).length ≤ 4 := (shortP_ok words_fine.2.2.2 short0.2.2.2 a.t).len
  have hR : (unitP [a, b]).1 = if a.k = 5 then 35 :: b.t else shortT a 4 ++ 32 :: b.t := by
   have hP : unitP [a, b] = if b.k = 5 ∨ b.k = 4 then ([], false) else if a.k = 5 then (35 :: b.t, true) else (shortT a 4 ++ 32 :: b.t, shortT a 4 != []) := rfl
   by_cases h54 : b.k = 5 ∨ b.k = 4
   ·rw [hP, if_pos h54] at hu; cases hu
   ·rw [hP, if_neg h54]
    by_cases ha : a.k = 5
    ·rw [if_pos ha, if_pos ha]
    ·rw [if_neg ha, if_neg ha]
  obtain ⟨R, hRR⟩ : ∃ R, (unitP [a, b]).1 = R := ⟨_, rfl⟩
  rw [hRR] at hR ⊢
  clear hRR hu
  unfold tokV at HS
  generalize shortT a 4 = sh at *
  generalize a.k = ak at *
  generalize a.t = at_ at *
  generalize b.k = bk at *
  generalize b.t = bt at *
  clear h
  by_cases h5 : ak = 5
  ·rw [if_pos h5] at hR
   replace hR := Lib.hid hR
   subst h5
   have ea := bs_app [35] bt
   clear HS
   go_enter Tryz.func67, Tryz.ntmps67
   go_wp2_with fail
   go_ret
   exact ⟨by rw [hR.out]; rfl, Ext.refl _⟩
  ·rw [if_neg h5] at hR
   have d5 : (ak == 5) = false := by rw [beq_eq_false_iff_ne]; exact h5
   obtain ⟨T, hT⟩ : ∃ T, sh ++ [32] = T := ⟨_, rfl⟩
   have ea : (⟨sh.toArray⟩ ++ ⟨#[32]⟩ : ByteArray) = ⟨T.toArray⟩ := by rw [← hT]; exact bs_app sh [32]
   obtain ⟨U, hU⟩ : ∃ U, T ++ bt = U := ⟨_, rfl⟩
   have eb : (⟨T.toArray⟩ ++ ⟨bt.toArray⟩ : ByteArray) = ⟨U.toArray⟩ := by rw [← hU]; exact bs_app T bt
   have lT : T.length ≤ 5 := by rw [← hT, List.length_append]; simp; omega
   have hRU := Lib.hid (show R = U by rw [hR, ← hU, ← hT]; simp)
   clear hR hT hU h5
   have n1 : (9223372036854775807 < List.length sh + 1) = False := eq_false (by omega)
   have n2 : (9223372036854775807 < T.length + List.length bt) = False := eq_false (by omega)
   have HX : ∀ w', Ext W w' → w'.cell? ⟨g, o, none⟩ = some (.int .i64 ak) ∧ w'.cell? ⟨g, o + 1, none⟩ = some (.string ⟨at_.toArray⟩) ∧ w'.cell? ⟨g, o + 2, none⟩ = some (.int .i64 bk) ∧ w'.cell? ⟨g, o + 2 + 1, none⟩ = some (.string ⟨bt.toArray⟩) := fun w' hx => ⟨(hx.cell _ _ none hg).trans a0, (hx.cell _ _ none hg).trans a1, (hx.cell _ _ none hg).trans b0, (hx.cell _ _ none hg).trans b1⟩
   replace HX := Lib.hid HX
   have X0 := Ext.refl W
   have HS2 := Lib.hid (fun w (hx : Ext W w) => (HS.out w).mono (fun e w' h => (⟨h.1, hx.trans h.2⟩ : _ ∧ Ext W w')))
   clear HS
   go_enter Tryz.func67, Tryz.ntmps67
   go_wp2_with fail
   go_region_held3 (fun w' => w'.cell? ⟨g, o, none⟩ = some (.int .i64 ak) ∧ w'.cell? ⟨g, o + 1, none⟩ = some (.string ⟨at_.toArray⟩) ∧ w'.cell? ⟨g, o + 2, none⟩ = some (.int .i64 bk) ∧ w'.cell? ⟨g, o + 2 + 1, none⟩ = some (.string ⟨bt.toArray⟩))
    (with_reducible refine HX.out _ ?_; with_reducible repeat (first | assumption | refine Ext.drew ?_ | refine Ext.alloc ?_ _))
    (first
     | (go_at_call 112; refine (HS2.out _ (by with_reducible repeat (first | assumption | refine Ext.drew ?_ | refine Ext.alloc ?_ _))).mono ?_; rintro e v1 ⟨rfl, hv1⟩))
   all_goals
    go_wp2_with fail
    go_ret
    exact ⟨by rw [hRU.out]; rfl, by assumption⟩
end Go.Proofs.YtjaponmpfdpemaaGreatDoor
set_option linter.unusedSimpArgs false
set_option linter.unusedVariables false
namespace Go.Proofs.YtjaponmpfdpemaaGreatDoor
open Go.RowKit
end Go.Proofs.YtjaponmpfdpemaaGreatDoor
set_option linter.unusedSimpArgs false
set_option linter.unusedVariables false
namespace Go.Proofs.YtjaponmpfdpemaaGreatDoor
end Go.Proofs.YtjaponmpfdpemaaGreatDoor
set_option linter.unusedSimpArgs false
set_option linter.unusedVariables false
namespace Go.Proofs.YtjaponmpfdpemaaGreatDoor
open Go.RowKit
theorem aheadP_len (s : Bs) : (aheadP s).length ≤ s.length + 1 := by
 unfold aheadP
 split
 ·simp
 ·simp
set_option maxRecDepth 100000 in
set_option maxHeartbeats 2000000 in
theorem rline_any (a : Ad) (hp : a.pre.length ≤ 20000) (hn : a.name.length ≤ 20000) (hs : a.suf.length ≤ 20000) (ho : a.post.length ≤ 20000) (W : World) :
  Calls Tryz.prog 68 #[adV a] W fun e w' => e = .returned (.string ⟨(lineP a).toArray⟩) ∧ Ext W w' := by
 have hL : lineP a = (if a.half then [32, 49, 47, 50] else []) ++ aheadP a.pre ++ aheadP a.name ++ aheadP a.suf ++ aheadP a.post := rfl
 obtain ⟨R, hR⟩ : ∃ R, lineP a = R := ⟨_, rfl⟩
 rw [hR] at hL ⊢
 replace hR := Lib.hid hR
 obtain ⟨zn, zh, zpre, zname, zsuf, zpost, zunit, zcity, zstate, zzip, zmore⟩ := a
 dsimp only at *
 have HA := Lib.hid (fun (x : Bs) (hx : x.length ≤ 100000) (w : World) => rahead_any x hx w)
 have b1 := aheadP_len zpre
 have b2 := aheadP_len zname
 have b3 := aheadP_len zsuf
 have b4 := aheadP_len zpost
 have BA := Blk.new W 45 (adC ⟨zn, zh, zpre, zname, zsuf, zpost, zunit, zcity, zstate, zzip, zmore⟩)
 have X0 := (Ext.refl W).alloc (.cells (adC ⟨zn, zh, zpre, zname, zsuf, zpost, zunit, zcity, zstate, zzip, zmore⟩) 45)
 unfold adC at BA X0
 dsimp only at BA X0
 replace hL := Lib.hid hL
 unfold adV adC
 dsimp only
 go_enter Tryz.func68, Tryz.ntmps68
 go_upto_region 1 with (fail)
 generalize W.alloc (.cells #[.int .i64 zn, .bool zh, .string ⟨zpre.toArray⟩, .string ⟨zname.toArray⟩, .string ⟨zsuf.toArray⟩, .string ⟨zpost.toArray⟩, .string ⟨zunit.toArray⟩, .string ⟨zcity.toArray⟩, .string ⟨zstate.toArray⟩, .string ⟨zzip.toArray⟩, .string ⟨zmore.toArray⟩] 45) = w1 at *
 generalize W.heap.size = g at *
 have HX := Lib.hid (fun w' (hx : Ext w1 w') => (show w'.cell? ⟨g, 2, none⟩ = some (.string ⟨zpre.toArray⟩) ∧ w'.cell? ⟨g, 3, none⟩ = some (.string ⟨zname.toArray⟩) ∧ w'.cell? ⟨g, 4, none⟩ = some (.string ⟨zsuf.toArray⟩) ∧ w'.cell? ⟨g, 5, none⟩ = some (.string ⟨zpost.toArray⟩) from
  have B := BA.ext hx; ⟨B.cell 2, B.cell 3, B.cell 4, B.cell 5⟩))
 have kh : w1.cell? ⟨g, 1, none⟩ = some (.bool zh) := BA.cell 1
 have la := BA.lt
 obtain ⟨k2, k3, k4, k5⟩ := HX.out _ (Ext.refl w1)
 have HAw := Lib.hid (fun (x : Bs) (hx : x.length ≤ 100000) (w : World) (hw : Ext w1 w) => (HA.out x hx w).mono (fun e w' h => (⟨h.1, hw.trans h.2⟩ : _ ∧ Ext w1 w')))
 replace X0 := Lib.hid X0
 replace BA := Lib.hid BA
 clear HA
 cases zh
 ·have hL2 := Lib.hid (show R = [] ++ aheadP zpre ++ aheadP zname ++ aheadP zsuf ++ aheadP zpost from hL.out)
  clear hL
  obtain ⟨p1, hp1⟩ : ∃ p, aheadP zpre = p := ⟨_, rfl⟩
  obtain ⟨p2, hp2⟩ : ∃ p, aheadP zname = p := ⟨_, rfl⟩
  obtain ⟨p3, hp3⟩ : ∃ p, aheadP zsuf = p := ⟨_, rfl⟩
  obtain ⟨p4, hp4⟩ : ∃ p, aheadP zpost = p := ⟨_, rfl⟩
  have H1 := Lib.hid (fun w (hw : Ext w1 w) => HAw.out zpre (by omega) w hw)
  rw [hp1] at b1
  simp only [hp1] at H1
  have H2 := Lib.hid (fun w (hw : Ext w1 w) => HAw.out zname (by omega) w hw)
  rw [hp2] at b2
  simp only [hp2] at H2
  have H3 := Lib.hid (fun w (hw : Ext w1 w) => HAw.out zsuf (by omega) w hw)
  rw [hp3] at b3
  simp only [hp3] at H3
  have H4 := Lib.hid (fun w (hw : Ext w1 w) => HAw.out zpost (by omega) w hw)
  rw [hp4] at b4
  simp only [hp4] at H4
  rw [hp1, hp2, hp3, hp4] at hL2
  obtain ⟨W1, hW1⟩ : ∃ x, [] ++ p1 = x := ⟨_, rfl⟩
  have cW1 : (⟨#[]⟩ ++ ⟨p1.toArray⟩ : ByteArray) = ⟨W1.toArray⟩ := by rw [← hW1]; exact bs_app _ _
  have sW1 : (9223372036854775807 < List.length p1) = False := eq_false (by omega)
  have bW1 : W1.length ≤ 20001 := by rw [← hW1, List.length_append]; (try simp only [List.length_cons, List.length_nil]); omega
  obtain ⟨W2, hW2⟩ : ∃ x, W1 ++ p2 = x := ⟨_, rfl⟩
  have cW2 : (⟨W1.toArray⟩ ++ ⟨p2.toArray⟩ : ByteArray) = ⟨W2.toArray⟩ := by rw [← hW2]; exact bs_app _ _
  have sW2 : (9223372036854775807 < W1.length + List.length p2) = False := eq_false (by omega)
  have bW2 : W2.length ≤ 40002 := by rw [← hW2, List.length_append]; (try simp only [List.length_cons, List.length_nil]); omega
  obtain ⟨W3, hW3⟩ : ∃ x, W2 ++ p3 = x := ⟨_, rfl⟩
  have cW3 : (⟨W2.toArray⟩ ++ ⟨p3.toArray⟩ : ByteArray) = ⟨W3.toArray⟩ := by rw [← hW3]; exact bs_app _ _
  have sW3 : (9223372036854775807 < W2.length + List.length p3) = False := eq_false (by omega)
  have bW3 : W3.length ≤ 60003 := by rw [← hW3, List.length_append]; (try simp only [List.length_cons, List.length_nil]); omega
  obtain ⟨W4, hW4⟩ : ∃ x, W3 ++ p4 = x := ⟨_, rfl⟩
  have cW4 : (⟨W3.toArray⟩ ++ ⟨p4.toArray⟩ : ByteArray) = ⟨W4.toArray⟩ := by rw [← hW4]; exact bs_app _ _
  have sW4 : (9223372036854775807 < W3.length + List.length p4) = False := eq_false (by omega)
  have bW4 : W4.length ≤ 80004 := by rw [← hW4, List.length_append]; (try simp only [List.length_cons, List.length_nil]); omega
  have hRW := Lib.hid (show R = W4 by rw [hL2.out, hW1, hW2, hW3, hW4])
  clear hL2 HAw b1 b2 b3 b4
  replace hW1 := Lib.hid hW1
  replace hp1 := Lib.hid hp1
  replace hW2 := Lib.hid hW2
  replace hp2 := Lib.hid hp2
  replace hW3 := Lib.hid hW3
  replace hp3 := Lib.hid hp3
  replace hW4 := Lib.hid hW4
  replace hp4 := Lib.hid hp4
  have Xr := Ext.refl w1
  go_upto_region 4 with (fail)
  go_region_held3 (fun w' => w'.cell? ⟨g, 2, none⟩ = some (.string ⟨zpre.toArray⟩) ∧ w'.cell? ⟨g, 3, none⟩ = some (.string ⟨zname.toArray⟩) ∧ w'.cell? ⟨g, 4, none⟩ = some (.string ⟨zsuf.toArray⟩) ∧ w'.cell? ⟨g, 5, none⟩ = some (.string ⟨zpost.toArray⟩))
   (with_reducible refine HX.out _ ?_; with_reducible repeat (first | assumption | refine Ext.drew ?_ | refine Ext.alloc ?_ _))
   (first
     | (go_at_call 113; refine (H1.out _ (by with_reducible repeat (first | assumption | refine Ext.drew ?_ | refine Ext.alloc ?_ _))).mono ?_; rintro e v1 ⟨rfl, hv1⟩)
     | (go_at_call 113; refine (H2.out _ (by with_reducible repeat (first | assumption | refine Ext.drew ?_ | refine Ext.alloc ?_ _))).mono ?_; rintro e v2 ⟨rfl, hv2⟩)
     | (go_at_call 113; refine (H3.out _ (by with_reducible repeat (first | assumption | refine Ext.drew ?_ | refine Ext.alloc ?_ _))).mono ?_; rintro e v3 ⟨rfl, hv3⟩)
     | (go_at_call 113; refine (H4.out _ (by with_reducible repeat (first | assumption | refine Ext.drew ?_ | refine Ext.alloc ?_ _))).mono ?_; rintro e v4 ⟨rfl, hv4⟩))
  all_goals
   go_wp2_with fail
   go_ret
   exact ⟨by rw [hRW.out]; rfl, X0.out.trans (by assumption)⟩
 ·have hL2 := Lib.hid (show R = [32, 49, 47, 50] ++ aheadP zpre ++ aheadP zname ++ aheadP zsuf ++ aheadP zpost from hL.out)
  clear hL
  obtain ⟨p1, hp1⟩ : ∃ p, aheadP zpre = p := ⟨_, rfl⟩
  obtain ⟨p2, hp2⟩ : ∃ p, aheadP zname = p := ⟨_, rfl⟩
  obtain ⟨p3, hp3⟩ : ∃ p, aheadP zsuf = p := ⟨_, rfl⟩
  obtain ⟨p4, hp4⟩ : ∃ p, aheadP zpost = p := ⟨_, rfl⟩
  have H1 := Lib.hid (fun w (hw : Ext w1 w) => HAw.out zpre (by omega) w hw)
  rw [hp1] at b1
  simp only [hp1] at H1
  have H2 := Lib.hid (fun w (hw : Ext w1 w) => HAw.out zname (by omega) w hw)
  rw [hp2] at b2
  simp only [hp2] at H2
  have H3 := Lib.hid (fun w (hw : Ext w1 w) => HAw.out zsuf (by omega) w hw)
  rw [hp3] at b3
  simp only [hp3] at H3
  have H4 := Lib.hid (fun w (hw : Ext w1 w) => HAw.out zpost (by omega) w hw)
  rw [hp4] at b4
  simp only [hp4] at H4
  rw [hp1, hp2, hp3, hp4] at hL2
  obtain ⟨W1, hW1⟩ : ∃ x, [32, 49, 47, 50] ++ p1 = x := ⟨_, rfl⟩
  have cW1 : (⟨#[32, 49, 47, 50]⟩ ++ ⟨p1.toArray⟩ : ByteArray) = ⟨W1.toArray⟩ := by rw [← hW1]; exact bs_app _ _
  have sW1 : (9223372036854775807 < 4 + List.length p1) = False := eq_false (by omega)
  have bW1 : W1.length ≤ 20005 := by rw [← hW1, List.length_append]; (try simp only [List.length_cons, List.length_nil]); omega
  obtain ⟨W2, hW2⟩ : ∃ x, W1 ++ p2 = x := ⟨_, rfl⟩
  have cW2 : (⟨W1.toArray⟩ ++ ⟨p2.toArray⟩ : ByteArray) = ⟨W2.toArray⟩ := by rw [← hW2]; exact bs_app _ _
  have sW2 : (9223372036854775807 < W1.length + List.length p2) = False := eq_false (by omega)
  have bW2 : W2.length ≤ 40006 := by rw [← hW2, List.length_append]; (try simp only [List.length_cons, List.length_nil]); omega
  obtain ⟨W3, hW3⟩ : ∃ x, W2 ++ p3 = x := ⟨_, rfl⟩
  have cW3 : (⟨W2.toArray⟩ ++ ⟨p3.toArray⟩ : ByteArray) = ⟨W3.toArray⟩ := by rw [← hW3]; exact bs_app _ _
  have sW3 : (9223372036854775807 < W2.length + List.length p3) = False := eq_false (by omega)
  have bW3 : W3.length ≤ 60007 := by rw [← hW3, List.length_append]; (try simp only [List.length_cons, List.length_nil]); omega
  obtain ⟨W4, hW4⟩ : ∃ x, W3 ++ p4 = x := ⟨_, rfl⟩
  have cW4 : (⟨W3.toArray⟩ ++ ⟨p4.toArray⟩ : ByteArray) = ⟨W4.toArray⟩ := by rw [← hW4]; exact bs_app _ _
  have sW4 : (9223372036854775807 < W3.length + List.length p4) = False := eq_false (by omega)
  have bW4 : W4.length ≤ 80008 := by rw [← hW4, List.length_append]; (try simp only [List.length_cons, List.length_nil]); omega
  have hRW := Lib.hid (show R = W4 by rw [hL2.out, hW1, hW2, hW3, hW4])
  clear hL2 HAw b1 b2 b3 b4
  replace hW1 := Lib.hid hW1
  replace hp1 := Lib.hid hp1
  replace hW2 := Lib.hid hW2
  replace hp2 := Lib.hid hp2
  replace hW3 := Lib.hid hW3
  replace hp3 := Lib.hid hp3
  replace hW4 := Lib.hid hW4
  replace hp4 := Lib.hid hp4
  have Xr := Ext.refl w1
  go_upto_region 4 with (fail)
  go_region_held3 (fun w' => w'.cell? ⟨g, 2, none⟩ = some (.string ⟨zpre.toArray⟩) ∧ w'.cell? ⟨g, 3, none⟩ = some (.string ⟨zname.toArray⟩) ∧ w'.cell? ⟨g, 4, none⟩ = some (.string ⟨zsuf.toArray⟩) ∧ w'.cell? ⟨g, 5, none⟩ = some (.string ⟨zpost.toArray⟩))
   (with_reducible refine HX.out _ ?_; with_reducible repeat (first | assumption | refine Ext.drew ?_ | refine Ext.alloc ?_ _))
   (first
     | (go_at_call 113; refine (H1.out _ (by with_reducible repeat (first | assumption | refine Ext.drew ?_ | refine Ext.alloc ?_ _))).mono ?_; rintro e v1 ⟨rfl, hv1⟩)
     | (go_at_call 113; refine (H2.out _ (by with_reducible repeat (first | assumption | refine Ext.drew ?_ | refine Ext.alloc ?_ _))).mono ?_; rintro e v2 ⟨rfl, hv2⟩)
     | (go_at_call 113; refine (H3.out _ (by with_reducible repeat (first | assumption | refine Ext.drew ?_ | refine Ext.alloc ?_ _))).mono ?_; rintro e v3 ⟨rfl, hv3⟩)
     | (go_at_call 113; refine (H4.out _ (by with_reducible repeat (first | assumption | refine Ext.drew ?_ | refine Ext.alloc ?_ _))).mono ?_; rintro e v4 ⟨rfl, hv4⟩))
  all_goals
   go_wp2_with fail
   go_ret
   exact ⟨by rw [hRW.out]; rfl, X0.out.trans (by assumption)⟩
end Go.Proofs.YtjaponmpfdpemaaGreatDoor
