/-
  apportionref17: digits, whole, ahead, own.
-/
import Derived.Test.YtjneghncmgjkeaaGreatDoorKa36
set_option linter.unusedVariables false
namespace Go.Proofs.YtjneghncmgjkeaaGreatDoor
open Go.RowKit

set_option maxRecDepth 100000 in
set_option maxHeartbeats 2000000 in
theorem rdigits_any (s : Bs) (lo hi : Nat) (hs : s.length ≤ 100000) (hb : lo ≤ 100 ∧ hi ≤ 100) (W : World) :
    Calls Tryz.prog 62 #[.string ⟨s.toArray⟩, .int .i64 (lo : Int), .int .i64 (hi : Int)] W fun e w' => e = .returned (.bool (digitsP s lo hi)) ∧ Ext W w' := by
  have hP : digitsP s lo hi = (decide (lo ≤ s.length ∧ s.length ≤ hi) && s.all digB) := rfl
  obtain ⟨R, hR⟩ : ∃ R, digitsP s lo hi = R := ⟨_, rfl⟩
  rw [hR] at hP ⊢
  replace hR := Lib.hid hR
  replace hP := Lib.hid hP
  have H0 := Lib.hid (show KdAt W s (.int .i64 ((0 : Nat) : Int)) W from ⟨0, by omega, rfl, rfl, fun j _ h => absurd h (by omega)⟩)
  go_enter Tryz.func62, Tryz.ntmps62
  go_wp2_with fail
  go_loopw [7] (fun i wr => KdAt W s i wr) (fun i _ => s.length - (intOf i).toNat)
  case atStart => exact H0.out
  case round =>
    clear H0
    obtain ⟨k, hk, rfl, hw, hne⟩ := hrel
    by_cases hlt : k < s.length
    · have hd : decide ((k : Int) < (s.length : Int)) = true := decide_eq_true (by omega)
      have hd' : decide (k < s.length) = true := decide_eq_true hlt
      have kz : (0 : Int) ≤ (k : Int) := by omega
      have kl : (k : Int) < (s.length : Int) := by omega
      obtain ⟨n, hn⟩ : ∃ n, s[k].toNat = n := ⟨_, rfl⟩
      have hb : ∀ h, ((⟨s.toArray⟩ : ByteArray)[k]'h).toNat = n := fun _ => hn
      have hdg : digB s[k] = decide (48 ≤ n ∧ n ≤ 57) := by unfold digB; rw [hn]
      by_cases h1 : n < 48
      · have d1 : decide ((n : Int) < 48) = true := decide_eq_true (by omega)
        have hRf := Lib.hid (show R = false by
          rw [hP.out]
          have h2 : s.all digB = false := by
            rw [List.all_eq_false]
            exact ⟨s[k], List.getElem_mem hlt, by rw [hdg, decide_eq_true_eq]; omega⟩
          rw [h2, Bool.and_false])
        have hx := Lib.hid (show Ext W wr by rw [hw]; exact Ext.refl _)
        clear hne hdg h1 hw hP
        go_wp2_with fail
        go_ret
        exact ⟨by rw [hRf.out]; rfl, hx.out⟩
      · have d1 : decide ((n : Int) < 48) = false := decide_eq_false (by omega)
        by_cases h2 : 57 < n
        · have d2 : decide (57 < (n : Int)) = true := decide_eq_true (by omega)
          have hRf := Lib.hid (show R = false by
            rw [hP.out]
            have h2 : s.all digB = false := by
              rw [List.all_eq_false]
              exact ⟨s[k], List.getElem_mem hlt, by rw [hdg, decide_eq_true_eq]; omega⟩
            rw [h2, Bool.and_false])
          have hx := Lib.hid (show Ext W wr by rw [hw]; exact Ext.refl _)
          clear hne hdg h1 h2 hw hP
          go_wp2_with fail
          go_ret
          exact ⟨by rw [hRf.out]; rfl, hx.out⟩
        · have d2 : decide (57 < (n : Int)) = false := decide_eq_false (by omega)
          have HE := Lib.hid (show KdAt W s (.int .i64 ((k + 1 : Nat) : Int)) wr from ⟨k + 1, hlt, rfl, hw, fun j h hj => by
            by_cases e : j = k
            · subst e; rw [hdg, decide_eq_true_eq]; omega
            · exact hne j h (by omega)⟩)
          clear hne hdg h1 h2 hw hP
          go_wp2_with fail
          go_roundw
          case rel => exact HE.out
          case measure => simp [intOf]; omega
    · obtain rfl : k = s.length := by omega
      have hd : decide ((s.length : Int) < (s.length : Int)) = false := by simp
      have hall : s.all digB = true := by
        rw [List.all_eq_true]
        intro c hc
        obtain ⟨j, hj, rfl⟩ := List.mem_iff_getElem.1 hc
        exact hne j hj hj
      have hx := Lib.hid (show Ext W wr by rw [hw]; exact Ext.refl _)
      by_cases h1 : lo ≤ s.length
      · have d1 : decide ((lo : Int) ≤ (s.length : Int)) = true := decide_eq_true (by omega)
        have d1' : decide (lo ≤ s.length) = true := decide_eq_true h1
        by_cases h2 : s.length ≤ hi
        · have d2 : decide ((s.length : Int) ≤ (hi : Int)) = true := decide_eq_true (by omega)
          have d2' : decide (s.length ≤ hi) = true := decide_eq_true h2
          have hRf := Lib.hid (show R = true by rw [hP.out, hall, decide_eq_true ⟨h1, h2⟩]; rfl)
          clear hne hw hP hall h1 h2
          go_wp2_with fail
          go_ret
          exact ⟨by rw [hRf.out]; rfl, hx.out⟩
        · have d2 : decide ((s.length : Int) ≤ (hi : Int)) = false := decide_eq_false (by omega)
          have d2' : decide (s.length ≤ hi) = false := decide_eq_false h2
          have hRf := Lib.hid (show R = false by rw [hP.out, decide_eq_false (fun h => h2 h.2), Bool.false_and])
          clear hne hw hP hall h1 h2
          go_wp2_with fail
          go_ret
          exact ⟨by rw [hRf.out]; rfl, hx.out⟩
      · have d1 : decide ((lo : Int) ≤ (s.length : Int)) = false := decide_eq_false (by omega)
        have d1' : decide (lo ≤ s.length) = false := decide_eq_false h1
        have hRf := Lib.hid (show R = false by rw [hP.out, decide_eq_false (fun h => h1 h.1), Bool.false_and])
        clear hne hw hP hall h1
        go_wp2_with fail
        go_ret
        exact ⟨by rw [hRf.out]; rfl, hx.out⟩
set_option maxRecDepth 100000 in
theorem rahead_any (s : Bs) (hs : s.length ≤ 100000) (W : World) : Calls Tryz.prog 84 #[.string ⟨s.toArray⟩] W fun e w' => e = .returned (.string ⟨(aheadP s).toArray⟩) ∧ Ext W w' := by
  by_cases h : s = []
  · subst h
    go_enter Tryz.func84, Tryz.ntmps84
    go_wp2_with fail
    go_ret
    exact ⟨rfl, Ext.refl _⟩
  · have hP : aheadP s = 32 :: s := by unfold aheadP; rw [if_neg h]
    have b0 : s.isEmpty = false := by cases s with | nil => exact absurd rfl h | cons _ _ => rfl
    rw [hP]
    clear hP h
    go_enter Tryz.func84, Tryz.ntmps84
    go_wp2_with fail
    go_ret
    exact ⟨by exact congrArg (fun x => Ending.returned (.string x)) (bs_app [32] s), Ext.refl _⟩
set_option maxRecDepth 100000 in
theorem rown_any (kind : Int) (hk : kindOk kind) (s : Bs) (W : World) : Calls Tryz.prog 61 #[.int .i64 kind, .string ⟨s.toArray⟩] W fun e w' => e = .returned (.bool (ownP kind s)) ∧ Ext W w' := by
  have HS := Lib.hid (fun W => rshort_any kind hk s W)
  have he := fun w => bs_eq (shortP kind s).1 s w
  unfold ownP
  generalize shortP kind s = sh at *
  obtain ⟨x, y⟩ := sh
  dsimp only at *
  clear hk
  go_enter Tryz.func61, Tryz.ntmps61
  go_wp2_with fail
  refine (HS.out _).mono ?_
  rintro e w1 ⟨rfl, hx⟩
  go_wp2_with fail
  go_ret
  exact ⟨rfl, hx⟩
end Go.Proofs.YtjneghncmgjkeaaGreatDoor

set_option linter.unusedVariables false
namespace Go.Proofs.YtjneghncmgjkeaaGreatDoor
open Go.RowKit

def KiAt (W : World) (l : List Tok) (kind : Int) (a b i : Value) (wr : World) : Prop := ∃ (k : Nat) (x y : Bool), k ≤ l.length ∧ i = .int .i64 (k : Int) ∧ a = .bool x ∧ b = .bool y ∧ x = (l.take k).all (fun t => t.k == kind) ∧ y = (l.take k).any (fun t => t.k == kind) ∧ Ext W wr
set_option maxRecDepth 100000 in
set_option maxHeartbeats 2000000 in
theorem rkinds_any (l : List Tok) (A : Option Addr) (n cap : Nat) (kind : Int) (W : World) (hT : TokS W A n cap l) :
    Calls Tryz.prog 49 #[.slice A n cap, .int .i64 kind] W fun e w' => e = .returned (.tuple #[.bool (l.all fun t => t.k == kind), .bool (l.any fun t => t.k == kind)]) ∧ Ext W w' := by
  have hlen := hT.len
  subst hlen
  have hl40 := hT.l40
  have HT := Lib.hid (fun w (hx : Ext W w) => hT.ext hx)
  clear hT
  have H0 := Lib.hid (show KiAt W l kind (.bool true) (.bool false) (.int .i64 ((0 : Nat) : Int)) W from ⟨0, true, false, by omega, rfl, rfl, rfl, rfl, rfl, Ext.refl _⟩)
  go_enter Tryz.func49, Tryz.ntmps49
  go_wp2_with fail
  go_loopw [6, 7, 8] (fun a b i wr => KiAt W l kind a b i wr) (fun _ _ i _ => l.length - (intOf i).toNat)
  case atStart => exact H0.out
  case round =>
    clear H0
    obtain ⟨k, x, y, hk, rfl, rfl, rfl, hxe, hye, hx⟩ := hrel
    by_cases hlt : k < l.length
    · have hd : decide ((k : Int) < (l.length : Int)) = true := decide_eq_true (by omega)
      have kz : (0 : Int) ≤ (k : Int) := by omega
      have kl : (k : Int) < (l.length : Int) := by omega
      obtain ⟨g, o, rfl, hg, t0, t1⟩ := (HT.out _ hx).at_ hlt
      have e1 : (l.take (k + 1)).all (fun t => t.k == kind) = (x && (l[k].k == kind)) := by
        rw [List.take_succ_eq_append_getElem hlt, List.all_append, ← hxe]; simp
      have e2 : (l.take (k + 1)).any (fun t => t.k == kind) = (y || (l[k].k == kind)) := by
        rw [List.take_succ_eq_append_getElem hlt, List.any_append, ← hye]; simp
      have HE := Lib.hid (fun x' y' (h1 : x' = (x && (l[k].k == kind))) (h2 : y' = (y || (l[k].k == kind))) => (show KiAt W l kind (.bool x') (.bool y') (.int .i64 ((k + 1 : Nat) : Int)) wr from ⟨k + 1, x', y', hlt, rfl, rfl, rfl, by rw [e1, h1], by rw [e2, h2], hx⟩))
      obtain ⟨z, hz⟩ : ∃ z, (l[k].k == kind) = z := ⟨_, rfl⟩
      rw [hz] at HE
      clear e1 e2 hxe hye HT t1 hx
      generalize l[k].k = q at *
      cases x <;> cases y
      all_goals
        go_wp2_with fail
        go_roundw
        case rel => exact HE.out _ _ rfl rfl
        case measure => simp [intOf]; omega
    · obtain rfl : k = l.length := by omega
      have hd : decide ((l.length : Int) < (l.length : Int)) = false := by simp
      rw [List.take_length] at hxe hye
      replace hx := Lib.hid hx
      replace hxe := Lib.hid hxe
      replace hye := Lib.hid hye
      clear HT
      go_wp2_with fail
      go_ret2
      exact ⟨by rw [← hxe.out, ← hye.out]; rfl, hx.out⟩
theorem textsP_snoc : ∀ (l : List Tok) (t : Tok), textsP (l ++ [t]) = (if l = [] then [] else textsP l ++ [32]) ++ t.t
  | [], t => rfl
  | [a], t => by simp [textsP]
  | a :: b :: l, t => by
    have := textsP_snoc (b :: l) t
    rw [if_neg (by simp)] at this
    rw [if_neg (by simp)]
    show a.t ++ 32 :: textsP (b :: l ++ [t]) = _
    rw [this]
    simp [textsP]
theorem textsP_le : ∀ (l : List Tok) (h : ∀ t ∈ l, t.t.length ≤ 300), (textsP l).length ≤ 301 * l.length
  | [], _ => by simp [textsP]
  | [a], h => by have := h a (by simp); simp [textsP]; omega
  | a :: b :: l, h => by
    have h1 := h a (by simp)
    have h2 := textsP_le (b :: l) (fun t ht => h t (by simp at ht ⊢; exact .inr ht))
    simp only [textsP, List.length_append, List.length_cons] at h2 ⊢
    omega
def RtxAt (W : World) (l : List Tok) (v i : Value) (wr : World) : Prop := ∃ k : Nat, k ≤ l.length ∧ i = .int .i64 (k : Int) ∧ v = .string ⟨(textsP (l.take k)).toArray⟩ ∧ Ext W wr
set_option maxRecDepth 100000 in
set_option maxHeartbeats 2000000 in
theorem rtexts_any (l : List Tok) (A : Option Addr) (n cap : Nat) (W : World) (hT : TokS W A n cap l) :
    Calls Tryz.prog 50 #[.slice A n cap] W fun e w' => e = .returned (.string ⟨(textsP l).toArray⟩) ∧ Ext W w' := by
  have hlen := hT.len
  subst hlen
  have hl40 := hT.l40
  have hsm := Lib.hid hT.sm
  have HT := Lib.hid (fun w (hx : Ext W w) => hT.ext hx)
  clear hT
  have H0 := Lib.hid (show RtxAt W l (.string ⟨#[]⟩) (.int .i64 ((0 : Nat) : Int)) W from ⟨0, by omega, rfl, rfl, Ext.refl _⟩)
  go_enter Tryz.func50, Tryz.ntmps50
  go_wp2_with fail
  go_loopw [3, 4] (fun v i wr => RtxAt W l v i wr) (fun _ i _ => l.length - (intOf i).toNat)
  case atStart => exact H0.out
  case round =>
    clear H0
    obtain ⟨k, hk, rfl, rfl, hx⟩ := hrel
    by_cases hlt : k < l.length
    · have hd : decide ((k : Int) < (l.length : Int)) = true := decide_eq_true (by omega)
      have kz : (0 : Int) ≤ (k : Int) := by omega
      have kl : (k : Int) < (l.length : Int) := by omega
      obtain ⟨g, o, rfl, hg, t0, t1⟩ := (HT.out _ hx).at_ hlt
      have h1 := hsm.out l[k] (List.getElem_mem hlt)
      have h2 := textsP_le (l.take k) (fun t ht => hsm.out t (List.mem_of_mem_take ht))
      rw [List.length_take] at h2
      have h2' : (textsP (l.take k)).length ≤ 40000 := by omega
      have e1 : textsP (l.take (k + 1)) = (if l.take k = [] then [] else textsP (l.take k) ++ [32]) ++ l[k].t := by
        rw [List.take_succ_eq_append_getElem hlt, textsP_snoc]
      by_cases h0 : 0 < k
      · have d0 : decide ((0 : Int) < (k : Int)) = true := decide_eq_true (by omega)
        have d0' : decide (0 < k) = true := decide_eq_true h0
        have hne : l.take k ≠ [] := by
          intro h
          have h3 : (l.take k).length = 0 := by rw [h]; rfl
          rw [List.length_take] at h3
          omega
        rw [if_neg hne] at e1
        have HE := Lib.hid (fun v (hv : v = .string ⟨(textsP (l.take k) ++ [32] ++ l[k].t).toArray⟩) => (show RtxAt W l v (.int .i64 ((k + 1 : Nat) : Int)) wr from ⟨k + 1, hlt, rfl, by rw [e1]; exact hv, hx⟩))
        clear e1 hne h2 h0 t0 HT hx
        generalize textsP (l.take k) = a at *
        generalize l[k].t = b at *
        have ea := bs_app a [32]
        have eb := bs_app (a ++ [32]) b
        have la : (a ++ [32]).length ≤ 40001 := by rw [List.length_append]; simp; omega
        go_wp2_with fail
        go_roundw
        case rel => exact HE.out _ (by simp)
        case measure => simp [intOf]; omega
      · have d0 : decide ((0 : Int) < (k : Int)) = false := decide_eq_false (by omega)
        obtain rfl : k = 0 := by omega
        have HE := Lib.hid (fun v (hv : v = .string ⟨(l[0].t).toArray⟩) => (show RtxAt W l v (.int .i64 ((0 + 1 : Nat) : Int)) wr from ⟨0 + 1, hlt, rfl, by rw [e1]; exact hv, hx⟩))
        clear e1 h2 h0 t0 HT hx
        rw [show textsP (l.take 0) = [] from rfl] at *
        generalize l[0].t = b at *
        have eb := bs_app [] b
        go_wp2_with fail
        go_roundw
        case rel => exact HE.out _ (by simp)
        case measure => simp [intOf]; omega
    · obtain rfl : k = l.length := by omega
      have hd : decide ((l.length : Int) < (l.length : Int)) = false := by simp
      rw [List.take_length]
      replace hx := Lib.hid hx
      clear HT
      go_wp2_with fail
      go_ret
      exact ⟨rfl, hx.out⟩
end Go.Proofs.YtjneghncmgjkeaaGreatDoor
