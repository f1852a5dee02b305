/-
  apportionlaw17: cut; apportionkit.Pick.
-/
import Derived.Test.YtjneghncmgjkeaaGreatDoorRy41
import Derived.Test.YtjneghncmgjkeaaGreatDoorRy44
import Derived.Test.YtjneghncmgjkeaaGreatDoorRy33
set_option linter.unusedVariables false
namespace Go.Proofs.YtjneghncmgjkeaaGreatDoor
open Go.RowKit

theorem cutB_take {s : Bs} {c : UInt8} {k : Nat} (hk : k < s.length) (hc : s[k] = c) (hne : ∀ j (h : j < s.length), j < k → s[j] ≠ c) : cutB c s = (s.take k, s.drop (k + 1), true) := by
  have e : s = s.take k ++ c :: s.drop (k + 1) := by
    rw [← hc, List.getElem_cons_drop, List.take_append_drop]
  rw [e]
  have hl : (s.take k).length = k := by rw [List.length_take]; omega
  rw [cutB_at fun x hx => ?_]
  · rw [← e]
  · obtain ⟨j, hj, rfl⟩ := List.mem_iff_getElem.1 hx
    rw [List.getElem_take]
    exact hne j (by omega) (by omega)
def CuAt (W : World) (s : Bs) (c : UInt8) (i : Value) (wr : World) : Prop := ∃ k : Nat, k ≤ s.length ∧ i = .int .i64 (k : Int) ∧ wr = W ∧ ∀ j (h : j < s.length), j < k → s[j] ≠ c
theorem extract_to (s : Bs) (k : Nat) (hk : k ≤ s.length) : (⟨s.toArray⟩ : ByteArray).extract 0 k = ⟨(s.take k).toArray⟩ := by
  rw [extract_cut s 0 k hk, List.drop_zero]
theorem extract_end (s : Bs) (k : Nat) (hk : k ≤ s.length) : (⟨s.toArray⟩ : ByteArray).extract k s.length = ⟨(s.drop k).toArray⟩ := by
  rw [extract_cut s k s.length (Nat.le_refl _), List.take_length]
set_option maxRecDepth 100000 in
theorem l17cut_any (s : Bs) (c : UInt8) (hs : s.length ≤ 100000) (W : World) : Calls Tryz.prog 23 #[.string ⟨s.toArray⟩, .int .u8 (c.toNat : Int)] W fun e w' => e = .returned (.tuple #[.string ⟨(cutB c s).1.toArray⟩, .string ⟨(cutB c s).2.1.toArray⟩, .bool (cutB c s).2.2]) ∧ Ext W w' := by
  go_enter Tryz.func23, Tryz.ntmps23
  go_wp2_with fail
  go_loopw [7] (fun i wr => CuAt W s c i wr) (fun i _ => s.length - (intOf i).toNat)
  case atStart => exact ⟨0, by omega, rfl, rfl, fun j _ h => absurd h (by omega)⟩
  case round =>
    obtain ⟨k, hk, rfl, rfl, hne⟩ := hrel
    by_cases hlt : k < s.length
    · have hd : decide ((k : Int) < (s.length : Int)) = true := decide_eq_true (by omega)
      have hd' : decide (k < s.length) = true := decide_eq_true hlt
      have kz : (0 : Int) ≤ (k : Int) := by omega
      have kl : (k : Int) < (s.length : Int) := by omega
      obtain ⟨nk, hnk⟩ : ∃ n : Nat, s[k].toNat = n := ⟨_, rfl⟩
      have hb : ∀ h, ((⟨s.toArray⟩ : ByteArray)[k]'h).toNat = nk := fun _ => hnk
      by_cases hc : s[k] = c
      · have hR := Lib.hid (cutB_take hlt hc hne)
        have hq : ((nk : Int) == (c.toNat : Int)) = true := by rw [beq_iff_eq, ← hnk, hc]
        replace hnk := Lib.hid hnk
        clear hc
        have h1 := extract_to s k hk
        have h2 := extract_end s (k + 1) hlt
        have kz2 : (0 : Int) ≤ ((k + 1 : Nat) : Int) := by omega
        have kl2 : ((k + 1 : Nat) : Int) ≤ (s.length : Int) := by omega
        have kl3 : (k : Int) ≤ (s.length : Int) := by omega
        have ew : IntKind.i64.wrap ((k : Int) + 1) = ((k + 1 : Nat) : Int) := by rw [IntKind.wrap_i64]; omega
        clear hne
        go_wp2_with fail
        go_region
        go_wp2_with fail
        exact bodyPost_ret (v := .tuple #[.string ⟨(s.take k).toArray⟩, .string ⟨(s.drop (k + 1)).toArray⟩, .bool true]) (by simp [results, go_sem, Tryz.results23]) rfl ⟨by rw [hR.out], (Ext.refl _).drew⟩
      · have HE := Lib.hid (show CuAt wr s c (.int .i64 ((k + 1 : Nat) : Int)) wr from ⟨k + 1, hlt, rfl, rfl, fun j h hj => by
          by_cases e : j = k
          · subst e; exact hc
          · exact hne j h (by omega)⟩)
        have hq : ((nk : Int) == (c.toNat : Int)) = false := by
          rw [beq_eq_false_iff_ne, ← hnk]
          intro e
          exact hc (UInt8.toNat_inj.1 (by omega))
        replace hnk := Lib.hid hnk
        clear hne hc
        go_wp2_with fail
        exact ⟨HE.out, by simp [intOf]; omega⟩
    · obtain rfl : k = s.length := by omega
      have hd : decide ((s.length : Int) < (s.length : Int)) = false := by simp
      have hR := Lib.hid (cutB_none (c := c) (u := s) fun x hx => by
        obtain ⟨j, hj, rfl⟩ := List.mem_iff_getElem.1 hx
        exact hne j hj hj)
      clear hne
      go_wp2_with fail
      exact bodyPost_ret (v := .tuple #[.string ⟨s.toArray⟩, .string ⟨#[]⟩, .bool false]) (by simp [results, go_sem, Tryz.results23]) rfl ⟨by rw [hR.out], Ext.refl _⟩
set_option maxRecDepth 100000 in
theorem l17full_any (kind : Int) (hk : kindOk kind) (s : Bs) (hs : s.length ≤ 100000) (W : World) (hS : Std W) :
    Calls Tryz.prog 26 #[.int .i64 kind, .string ⟨s.toArray⟩] W fun e w' => e = .returned (.string ⟨(longP kind s).1.toArray⟩) ∧ Ext W w' := by
  have HL := Lib.hid (long_any kind hk s hs W hS)
  generalize longP kind s = r at *
  obtain ⟨x, y⟩ := r
  dsimp only at *
  clear hk
  go_enter Tryz.func26, Tryz.ntmps26
  go_wp2_with fail
  refine HL.out.mono ?_
  rintro e w1 ⟨rfl, hx⟩
  go_wp2_with fail
  go_ret
  exact ⟨rfl, hx⟩
end Go.Proofs.YtjneghncmgjkeaaGreatDoor

set_option linter.unusedVariables false
namespace Go.Proofs.YtjneghncmgjkeaaGreatDoor

theorem split_cut : ∀ s : Bs, splitC s = if (cutB 44 s).2.2 then (cutB 44 s).1 :: splitC (cutB 44 s).2.1 else [(cutB 44 s).1]
  | [] => rfl
  | c :: s => by
    have ih := split_cut s
    rw [splitC, cutB]
    by_cases hc : c = 44
    · rw [if_pos hc, if_pos hc]; rfl
    · rw [if_neg hc, if_neg hc, ih]
      by_cases h : (cutB 44 s).2.2 = true
      · rw [if_pos h]
        simp [h]
      · rw [if_neg h]
        simp [h]
theorem cutB_len (c : UInt8) : ∀ s : Bs, (cutB c s).1.length ≤ s.length ∧ (cutB c s).2.1.length ≤ s.length
  | [] => ⟨Nat.le_refl _, Nat.le_refl _⟩
  | x :: s => by
    have ih := cutB_len c s
    rw [cutB]
    by_cases hc : x = c
    · rw [if_pos hc]; simp
    · rw [if_neg hc]
      simp only [List.length_cons]
      omega
theorem join_take : ∀ (l : List Bs) (i : Nat) (h : i < l.length), joinB (l.take (i + 1)) = joinB (l.take i) ++ (if 0 < i then [44] else []) ++ l[i]
  | [], i, h => absurd h (by simp)
  | x :: l, 0, _ => by simp [joinB]
  | x :: l, i + 1, h => by
    have h' : i < l.length := by simpa using h
    have ih := join_take l i h'
    have e2 : (x :: l).take (i + 1 + 1) = x :: l.take (i + 1) := rfl
    have e1 : (x :: l).take (i + 1) = x :: l.take i := rfl
    rw [e2, e1, if_pos (by omega)]
    have hcons : ∀ (m : List Bs), m ≠ [] → joinB (x :: m) = x ++ 44 :: joinB m := fun m hm => by
      cases m with
      | nil => exact absurd rfl hm
      | cons y m => rfl
    have hne : l.take (i + 1) ≠ [] := by
      cases l with
      | nil => simp at h'
      | cons y l => simp
    rw [hcons _ hne, ih]
    cases i with
    | zero => simp [joinB]
    | succ i =>
      have hne2 : l.take (i + 1) ≠ [] := by
        cases l with
        | nil => simp at h'
        | cons y l => simp
      rw [hcons _ hne2, if_pos (by omega)]
      simp
/-- Where the pieces' loop stands. -/
def PtAt (W : World) (L : List Bs) (g : Nat) (v r m : Value) (wr : World) : Prop := ∃ (d : List Bs) (rest : Bs) (more : Bool), r = .string ⟨rest.toArray⟩ ∧ m = .bool more ∧ wr.ownsRow W.heap.size 9 1 v d.length (strC d) ∧ Ext W wr ∧ L = d ++ (if more then splitC rest else []) ∧ g = (if more then (splitC rest).length else 0) ∧ rest.length ≤ 200 ∧ L.length ≤ 4
theorem PtAt.next {W : World} {d L : List Bs} {rest : Bs} {v' : Value} {wr : World} (hL : L = d ++ splitC rest) (hown : wr.ownsRow W.heap.size 9 1 v' (d.length + 1) (strC d ++ [.string ⟨(cutB 44 rest).1.toArray⟩])) (hx : Ext W wr) (hr : rest.length ≤ 200) (h4 : L.length ≤ 4) :
    PtAt W L ((splitC rest).length - 1) v' (.string ⟨(cutB 44 rest).2.1.toArray⟩) (.bool (cutB 44 rest).2.2) wr := by
  refine ⟨d ++ [(cutB 44 rest).1], (cutB 44 rest).2.1, (cutB 44 rest).2.2, rfl, rfl, ?_, hx, ?_, ?_, ?_, h4⟩
  · rw [List.length_append]
    have e : strC (d ++ [(cutB 44 rest).1]) = strC d ++ [.string ⟨(cutB 44 rest).1.toArray⟩] := by simp [strC]
    rw [e]
    exact hown
  · rw [hL, split_cut rest, List.append_assoc]
    by_cases h : (cutB 44 rest).2.2 = true
    · rw [if_pos h, if_pos h]; rfl
    · rw [if_neg h, if_neg h]; rfl
  · rw [split_cut rest]
    by_cases h : (cutB 44 rest).2.2 = true
    · rw [if_pos h, if_pos h]; simp
    · rw [if_neg h, if_neg h]; rfl
  · have := (cutB_len 44 rest).2; omega
/-- Where the joining stands. -/
def JnAt (w0 : World) (M : List Bs) (v i : Value) (wr : World) : Prop := ∃ k : Nat, k ≤ M.length ∧ i = .int .i64 (k : Int) ∧ v = .string ⟨(joinB (M.take k)).toArray⟩ ∧ (joinB (M.take k)).length ≤ k * 200 ∧ wr = w0
theorem JnAt.next {w0 : World} {M : List Bs} {k : Nat} (hk : k < M.length) (hl : (joinB (M.take k)).length ≤ k * 200) (hm : M[k].length ≤ 150) {x : Bs} (hx : x = joinB (M.take k) ++ (if 0 < k then [44] else []) ++ M[k]) : JnAt w0 M (.string ⟨x.toArray⟩) (.int .i64 ((k + 1 : Nat) : Int)) w0 := by
  refine ⟨k + 1, hk, rfl, by rw [join_take M k hk, hx], ?_, rfl⟩
  rw [join_take M k hk, List.length_append, List.length_append]
  have : (if 0 < k then [44] else [] : Bs).length ≤ 1 := by split <;> simp
  omega
end Go.Proofs.YtjneghncmgjkeaaGreatDoor
