/-
  addr: Parse, of any text.
-/
import Derived.Test.YtjaponmpfdpemaaGreatDoorBb24
import Derived.Test.YtjaponmpfdpemaaGreatDoorBb25
import Derived.Test.YtjaponmpfdpemaaGreatDoorBb26
import Derived.Test.YtjaponmpfdpemaaGreatDoorBb03
import Derived.Test.YtjaponmpfdpemaaGreatDoorBb09
set_option linter.unusedSimpArgs false
set_option linter.unusedVariables false
namespace Go.Proofs.YtjaponmpfdpemaaGreatDoor
open Go.RowKit
theorem parse_any (s : Bs) (hs : s.length ≤ 100000) (W : World) (hS : Std W) : Calls Tryz.prog 56 #[.string ⟨s.toArray⟩] W (PsR W (parseP s)) := by
 by_cases h0 : (tokensP s).2.1 = 0
 ·by_cases hn : (partsP (tokensP s).1).length - 1 = 2 ∨ (partsP (tokensP s).1).length - 1 = 3
  ·match hp : partsP (tokensP s).1 with
   | [] => rw [hp] at hn; simp at hn
   | [_] => rw [hp] at hn; simp at hn
   | [_, _] => rw [hp] at hn; simp at hn
   | [p0, p1, p2] => exact parse_2 s hs W hS h0 hp
   | [p0, p1, p2, p3] => exact parse_3 s hs W hS h0 hp
   | _ :: _ :: _ :: _ :: _ :: _ => rw [hp] at hn; simp at hn
  ·exact parse_n s hs W hS h0 hn
 ·exact parse_f s hs W hS h0
end Go.Proofs.YtjaponmpfdpemaaGreatDoor
set_option linter.unusedSimpArgs false
set_option linter.unusedVariables false
namespace Go.Proofs.YtjaponmpfdpemaaGreatDoor
open Go.RowKit
theorem parsed_AdS {s : Bs} (h : (parseP s).2.1 = 0) : AdS (parseP s).1 1000 ∧ i64 (parseP s).1.n := by
 have hc := checkP_ok (parse_check h)
 have hB := txtB (parse_check h)
 have hl := hB.l
 rw [lineP_eq] at hl
 simp only [List.length_append] at hl
 have al : ∀ s : Bs, s.length ≤ (aheadP s).length := fun s => by
  unfold aheadP
  by_cases h : s = []
  ·rw [if_pos h, h]; exact Nat.le_refl _
  ·rw [if_neg h]; simp
 have a1 := al (parseP s).1.pre
 have a2 := al (parseP s).1.name
 have a3 := al (parseP s).1.suf
 have a4 := al (parseP s).1.post
 have b1 := hB.u
 have b2 := hB.c
 have b3 := hB.s
 have b4 := hB.z
 have b5 := hB.m
 have n1 := hc.n1
 have n2 := hc.n2
 exact ⟨⟨by omega, by omega, by omega, by omega, by omega, by omega, by omega, by omega, by omega⟩, by unfold i64; omega⟩
end Go.Proofs.YtjaponmpfdpemaaGreatDoor
set_option linter.unusedSimpArgs false
set_option linter.unusedVariables false
namespace Go.Proofs.YtjaponmpfdpemaaGreatDoor
open Go.RowKit
end Go.Proofs.YtjaponmpfdpemaaGreatDoor
set_option linter.unusedSimpArgs false
set_option linter.unusedVariables false
namespace Go.Proofs.YtjaponmpfdpemaaGreatDoor
structure WordTo (s : Bs) (at_ e : Nat) : Prop where
 le : at_ ≤ e
 len : e ≤ s.length
 on : ∀ i, at_ ≤ i → i < e → goesOn s i = true
 end_ : e = s.length ∨ goesOn s e = false
theorem goesOn_snd {s : Bs} {i : Nat} (h : sndAt s i = true) : goesOn s i = true := by unfold goesOn; rw [h]; rfl
theorem goesOn_eq {s : Bs} {n : Nat} (hn : n < s.length) : goesOn s n = (sndB s[n] || (clsB s[n] == 4 && sndAt s (n - 1) && nextSnd (s.drop (n + 1)))) := by
 unfold goesOn
 rw [sndAt_lt hn, clsAt_lt hn, nextSnd_drop]
theorem WordTo.stop {s : Bs} {a e : Nat} (h : WordTo s a e) : sndAt s e = false := by
 rcases h.end_ with h1 | h1
 ·exact sndAt_end (by omega)
 ·cases h2 : sndAt s e with
  | false => rfl
  | true => rw [goesOn_snd h2] at h1; cases h1
theorem cut_to {s : Bs} {a e : Nat} (h : WordTo s a e) : ∀ (k i : Nat) (w : Bs), e = i + k → a < i → cutL (sndAt s (i - 1)) (some w) (s.drop i) = tokW (w ++ (s.take e).drop i) :: cutL false none (s.drop e)
 | 0, i, w, hk, ha => by
  have hi : i = e := by omega
  subst hi
  have hlen := h.len
  rw [List.drop_eq_nil_of_le (show (s.take i).length ≤ i by rw [List.length_take]; omega), List.append_nil]
  rcases Nat.lt_or_ge i s.length with h1 | h1
  ·have hd : s.drop i = s[i] :: s.drop (i + 1) := List.drop_eq_getElem_cons h1
   have hg : goesOn s i = false := by
    rcases h.end_ with h2 | h2
    ·omega
    ·exact h2
   have hs : sndB s[i] = false := by rw [← sndAt_lt h1]; exact h.stop
   rw [hd, cutL_s, ← goesOn_eq h1, hg, cutL_n, hs]
   simp
  ·rw [List.drop_eq_nil_of_le h1, cutL_s0, cutL_n0]
 | k + 1, i, w, hk, ha => by
  have hlen := h.len
  have h1 : i < s.length := by omega
  have hd : s.drop i = s[i] :: s.drop (i + 1) := List.drop_eq_getElem_cons h1
  have hg := h.on i (by omega) (by omega)
  rw [hd, cutL_s, ← goesOn_eq h1, if_pos hg]
  have ih := cut_to h k (i + 1) (w ++ [s[i]]) (by omega) (by omega)
  rw [show i + 1 - 1 = i by omega, sndAt_lt h1] at ih
  rw [ih]
  have e1 : (s.take e).drop i = s[i] :: (s.take e).drop (i + 1) := by
   have h2 : i < (s.take e).length := by rw [List.length_take]; omega
   rw [List.drop_eq_getElem_cons h2, List.getElem_take]
  rw [e1]
  simp
structure RefAt (s : Bs) (at_ : Nat) (out : List Tok) : Prop where
 le : at_ ≤ s.length
 toks : toksOf s = out ++ cutL false none (s.drop at_)
 open_ : at_ = 0 ∨ sndAt s (at_ - 1) = false ∨ goesOn s at_ = false
 adv : advS s 0 out ≤ at_
 gap : ∀ i, advS s 0 out ≤ i → i < at_ → clsAt s i = 1 ∨ clsAt s i = 4
theorem RefAt.start (s : Bs) : RefAt s 0 [] := ⟨Nat.zero_le _, by rw [toksOf_cut]; rfl, .inl rfl, Nat.le_refl _, fun i _ h => absurd h (by omega)⟩
theorem RefAt.done {s : Bs} {out : List Tok} {at_ : Nat} (h : RefAt s at_ out) (he : s.length ≤ at_) : toksOf s = out := by
 have := h.toks
 rw [List.drop_eq_nil_of_le he, cutL_n0, List.append_nil] at this
 exact this
theorem skipS_exact {s : Bs} : ∀ {a k : Nat}, a ≤ k → k < s.length → (∀ i, a ≤ i → i < k → clsAt s i = 1 ∨ clsAt s i = 4) → clsAt s k ≠ 1 → clsAt s k ≠ 4 → skipS (s.drop a) = k - a := by
 intro a k hak hk hg h1 h4
 obtain ⟨n, hn⟩ : ∃ n, k - a = n := ⟨_, rfl⟩
 induction n generalizing a with
 | zero =>
  have : a = k := by omega
  subst this
  rw [List.drop_eq_getElem_cons hk, skipS, ← clsAt_lt hk, if_neg (by omega)]
  omega
 | succ n ih =>
  have ha : a < s.length := by omega
  rw [List.drop_eq_getElem_cons ha, skipS, ← clsAt_lt ha, if_pos (hg a (Nat.le_refl _) (by omega)), ih (a := a + 1) (by omega) (fun i h2 h3 => hg i (by omega) h3) (by omega)]
  omega
theorem adv_put {s : Bs} {at_ : Nat} {out : List Tok} {t : Tok} (h : RefAt s at_ out) (hk : at_ < s.length) (h1 : clsAt s at_ ≠ 1) (h4 : clsAt s at_ ≠ 4) : advS s 0 (out ++ [t]) = at_ + t.t.length := by
 rw [advS_app]
 simp only [advS]
 rw [skipS_exact h.adv hk h.gap h1 h4]
 have := h.adv
 omega
theorem RefAt.sep {s : Bs} {at_ : Nat} {out : List Tok} {t : Tok} (h : RefAt s at_ out) (hk : at_ < s.length) (ht : (clsAt s at_ = 5 ∧ t = tComma) ∨ (clsAt s at_ = 6 ∧ t = tHash)) : RefAt s (at_ + 1) (out ++ [t]) := by
 have hc : clsAt s at_ = clsB s[at_] := clsAt_lt hk
 have hs : sndB s[at_] = false := by
  unfold sndB
  rcases ht with ⟨e, _⟩ | ⟨e, _⟩ <;> rw [← hc, e] <;> rfl
 have hsep : sepT s[at_] = [t] := by
  unfold sepT
  rcases ht with ⟨e, rfl⟩ | ⟨e, rfl⟩ <;> rw [← hc, e] <;> rfl
 have hd : s.drop at_ = s[at_] :: s.drop (at_ + 1) := List.drop_eq_getElem_cons hk
 have htl : t.t.length = 1 := by rcases ht with ⟨_, rfl⟩ | ⟨_, rfl⟩ <;> rfl
 have ha := adv_put (t := t) h hk (by rcases ht with ⟨e, _⟩ | ⟨e, _⟩ <;> omega) (by rcases ht with ⟨e, _⟩ | ⟨e, _⟩ <;> omega)
 refine ⟨by omega, ?_, .inr (.inl ?_), by omega, fun i h1 h2 => absurd h2 (by omega)⟩
 ·rw [h.toks, hd, cutL_n, hs]
  simp [hsep]
 ·rw [show at_ + 1 - 1 = at_ by omega, sndAt_lt hk, hs]
theorem RefAt.word {s : Bs} {at_ e : Nat} {out : List Tok} (h : RefAt s at_ out) (hw : WordTo s at_ e) (hne : at_ < e) : RefAt s e (out ++ [wordT s at_ e]) ∧ sndAt s at_ = true := by
 have hlen := hw.len
 have hk : at_ < s.length := by omega
 have hg := hw.on at_ (Nat.le_refl _) hne
 have hs : sndAt s at_ = true := by
  cases hx : sndAt s at_ with
  | true => rfl
  | false =>
   unfold goesOn at hg
   rw [hx, Bool.false_or] at hg
   simp only [Bool.and_eq_true, beq_iff_eq] at hg
   rcases h.open_ with h1 | h1 | h1
   ·rw [h1] at hg hx; rw [hx] at hg; cases hg.1.2
   ·rw [h1] at hg; cases hg.1.2
   ·rw [goesOn, hx, hg.1.2, hg.2, hg.1.1] at h1; cases h1
 obtain ⟨c1, c4, _⟩ := snd_cls hs
 have hsB : sndB s[at_] = true := by rw [← sndAt_lt hk]; exact hs
 have hd : s.drop at_ = s[at_] :: s.drop (at_ + 1) := List.drop_eq_getElem_cons hk
 have hcut := cut_to hw (e - (at_ + 1)) (at_ + 1) [s[at_]] (by omega) (by omega)
 rw [show at_ + 1 - 1 = at_ by omega, hs] at hcut
 have hpart : [s[at_]] ++ (s.take e).drop (at_ + 1) = (s.take e).drop at_ := by
  have h2 : at_ < (s.take e).length := by rw [List.length_take]; omega
  rw [List.drop_eq_getElem_cons h2, List.getElem_take]
  rfl
 rw [hpart] at hcut
 have hwt : tokW ((s.take e).drop at_) = wordT s at_ e := rfl
 have ha := adv_put (t := wordT s at_ e) h hk c1 c4
 have hwl : (wordT s at_ e).t.length = e - at_ := partT_len hlen
 refine ⟨⟨hlen, ?_, ?_, by omega, fun i h1 h2 => absurd h2 (by omega)⟩, hs⟩
 ·rw [h.toks, hd, cutL_n, if_pos hsB, hcut, hwt]
  simp
 ·rcases hw.end_ with h1 | h1
  ·right; right
   unfold goesOn sndAt
   rw [clsAt_end (by omega)]
   rfl
  ·exact .inr (.inr h1)
theorem RefAt.skip {s : Bs} {at_ : Nat} {out : List Tok} (h : RefAt s at_ out) (hk : at_ < s.length) (hw : WordTo s at_ at_) (h0 : clsAt s at_ ≠ 0) (h5 : clsAt s at_ ≠ 5) (h6 : clsAt s at_ ≠ 6) : RefAt s (at_ + 1) out := by
 have hc : clsAt s at_ = clsB s[at_] := clsAt_lt hk
 have hs := hw.stop
 have hsB : sndB s[at_] = false := by rw [← sndAt_lt hk]; exact hs
 have hsep : sepT s[at_] = [] := by
  unfold sepT
  rw [if_neg (by omega), if_neg (by omega)]
 have hcl : clsAt s at_ = 1 ∨ clsAt s at_ = 4 := by
  have : clsB s[at_] ≤ 6 := by
   unfold clsB
   repeat' split
   all_goals omega
  have h23 : clsAt s at_ ≠ 2 ∧ clsAt s at_ ≠ 3 := by
   unfold sndAt at hs
   rw [Bool.or_eq_false_iff, beq_eq_false_iff_ne, beq_eq_false_iff_ne] at hs
   exact hs
  omega
 have hd : s.drop at_ = s[at_] :: s.drop (at_ + 1) := List.drop_eq_getElem_cons hk
 refine ⟨by omega, ?_, .inr (.inl ?_), by have := h.adv; omega, fun i h1 h2 => ?_⟩
 ·rw [h.toks, hd, cutL_n, hsB, hsep]
  simp
 ·rw [show at_ + 1 - 1 = at_ by omega]; exact hs
 ·rcases Nat.lt_or_ge i at_ with h3 | h3
  ·exact h.gap i h1 h3
  ·have : i = at_ := by omega
   rw [this]; exact hcl
theorem RefAt.full {s : Bs} {at_ e : Nat} {out : List Tok} {t : Tok} (h : RefAt s at_ out) (hk : at_ < s.length) (h1 : clsAt s at_ ≠ 1) (h4 : clsAt s at_ ≠ 4) (hn : RefAt s e (out ++ [t])) (h40 : out.length = 40) (h200 : s.length ≤ 200) (hb : badAt s = none) : tokensP s = ([], 8, (at_ : Int)) := by
 have hl : 40 < (toksOf s).length := by
  rw [hn.toks]
  simp only [List.length_append, List.length_singleton]
  omega
 have ht : (toksOf s).take 40 = out := by
  rw [hn.toks, List.append_assoc, ← h40, List.take_left]
 unfold tokensP
 rw [if_neg (by omega), hb]
 simp only
 rw [if_pos hl, beginS_adv s _ 40 0 (by omega), ht, skipS_exact h.adv hk h.gap h1 h4]
 have := h.adv
 rw [show advS s 0 out + (at_ - advS s 0 out) = at_ by omega]
theorem tokensP_few {s : Bs} (h200 : s.length ≤ 200) (hb : badAt s = none) (h40 : (toksOf s).length ≤ 40) : tokensP s = (toksOf s, 0, 0) := by
 unfold tokensP
 rw [if_neg (by omega), hb]
 simp only
 rw [if_neg (by omega)]
end Go.Proofs.YtjaponmpfdpemaaGreatDoor
set_option linter.unusedSimpArgs false
set_option linter.unusedVariables false
namespace Go.Proofs.YtjaponmpfdpemaaGreatDoor
open Go.RowKit
theorem clsB_2 (c : UInt8) : (clsB c == 2) = (decide (65 ≤ c.toNat ∧ c.toNat ≤ 90) || decide (97 ≤ c.toNat ∧ c.toNat ≤ 122)) := by
 unfold clsB
 by_cases h : (65 ≤ c.toNat ∧ c.toNat ≤ 90) ∨ (97 ≤ c.toNat ∧ c.toNat ≤ 122)
 ·rw [if_pos h]
  rcases h with h | h
  ·rw [decide_eq_true h]; rfl
  ·rw [decide_eq_true h, Bool.or_true]; rfl
 ·rw [if_neg h, decide_eq_false (fun h' => h (.inl h')), decide_eq_false (fun h' => h (.inr h'))]
  repeat' split
  all_goals rfl
theorem clsB_3 (c : UInt8) : (clsB c == 3) = decide (48 ≤ c.toNat ∧ c.toNat ≤ 57) := by
 unfold clsB
 by_cases h : 48 ≤ c.toNat ∧ c.toNat ≤ 57
 ·rw [if_neg (by omega), if_pos h, decide_eq_true h]; rfl
 ·rw [decide_eq_false h]
  repeat' split
  all_goals first | rfl | omega
theorem clsB_4 (c : UInt8) : (clsB c == 4) = decide (c.toNat = 45 ∨ c.toNat = 47 ∨ c.toNat = 39 ∨ c.toNat = 46) := by
 unfold clsB
 by_cases h : c.toNat = 45 ∨ c.toNat = 47 ∨ c.toNat = 39 ∨ c.toNat = 46
 ·rw [if_neg (by omega), if_neg (by omega), if_pos h, decide_eq_true h]; rfl
 ·rw [decide_eq_false h]
  repeat' split
  all_goals first | rfl | omega
theorem rletter_any (c : UInt8) (w : World) : Calls Tryz.prog 162 #[.int .u8 (c.toNat : Int)] w fun e w' => e = .returned (.bool (clsB c == 2)) ∧ w = w' := by
 rw [clsB_2]
 generalize c.toNat = n at *
 by_cases h1 : 65 ≤ n
 ·have d1 : decide ((65 : Int) ≤ (n : Int)) = true := decide_eq_true (by omega)
  by_cases h2 : n ≤ 90
  ·have d2 : decide ((n : Int) ≤ 90) = true := decide_eq_true (by omega)
   have hR := Lib.hid (show (decide (65 ≤ n ∧ n ≤ 90) || decide (97 ≤ n ∧ n ≤ 122)) = true by rw [decide_eq_true ⟨h1, h2⟩]; rfl)
   clear h1 h2
   go_enter Tryz.func162, Tryz.ntmps162
   go_wp2_with fail
   go_ret
   exact ⟨by rw [hR.out]; rfl, rfl⟩
  ·have d2 : decide ((n : Int) ≤ 90) = false := decide_eq_false (by omega)
   by_cases h3 : 97 ≤ n
   ·have d3 : decide ((97 : Int) ≤ (n : Int)) = true := decide_eq_true (by omega)
    by_cases h4 : n ≤ 122
    ·have d4 : decide ((n : Int) ≤ 122) = true := decide_eq_true (by omega)
     have hR := Lib.hid (show (decide (65 ≤ n ∧ n ≤ 90) || decide (97 ≤ n ∧ n ≤ 122)) = true by rw [decide_eq_true (show 97 ≤ n ∧ n ≤ 122 from ⟨h3, h4⟩), Bool.or_true])
     clear h1 h2 h3 h4
     go_enter Tryz.func162, Tryz.ntmps162
     go_wp2_with fail
     go_ret
     exact ⟨by rw [hR.out]; rfl, rfl⟩
    ·have d4 : decide ((n : Int) ≤ 122) = false := decide_eq_false (by omega)
     have hR := Lib.hid (show (decide (65 ≤ n ∧ n ≤ 90) || decide (97 ≤ n ∧ n ≤ 122)) = false by rw [decide_eq_false (show ¬ (65 ≤ n ∧ n ≤ 90) by omega), decide_eq_false (show ¬ (97 ≤ n ∧ n ≤ 122) by omega)]; rfl)
     clear h1 h2 h3 h4
     go_enter Tryz.func162, Tryz.ntmps162
     go_wp2_with fail
     go_ret
     exact ⟨by rw [hR.out, ← d4]; rfl, rfl⟩
   ·have d3 : decide ((97 : Int) ≤ (n : Int)) = false := decide_eq_false (by omega)
    have hR := Lib.hid (show (decide (65 ≤ n ∧ n ≤ 90) || decide (97 ≤ n ∧ n ≤ 122)) = false by rw [decide_eq_false (show ¬ (65 ≤ n ∧ n ≤ 90) by omega), decide_eq_false (show ¬ (97 ≤ n ∧ n ≤ 122) by omega)]; rfl)
    clear h1 h2 h3
    go_enter Tryz.func162, Tryz.ntmps162
    go_wp2_with fail
    go_ret
    exact ⟨by rw [hR.out]; rfl, rfl⟩
 ·have d1 : decide ((65 : Int) ≤ (n : Int)) = false := decide_eq_false (by omega)
  have d3 : decide ((97 : Int) ≤ (n : Int)) = false := decide_eq_false (by omega)
  have hR := Lib.hid (show (decide (65 ≤ n ∧ n ≤ 90) || decide (97 ≤ n ∧ n ≤ 122)) = false by rw [decide_eq_false (show ¬ (65 ≤ n ∧ n ≤ 90) by omega), decide_eq_false (show ¬ (97 ≤ n ∧ n ≤ 122) by omega)]; rfl)
  clear h1
  go_enter Tryz.func162, Tryz.ntmps162
  go_wp2_with fail
  go_ret
  exact ⟨by rw [hR.out]; rfl, rfl⟩
theorem rdigit_any (c : UInt8) (w : World) : Calls Tryz.prog 163 #[.int .u8 (c.toNat : Int)] w fun e w' => e = .returned (.bool (clsB c == 3)) ∧ w = w' := by
 rw [clsB_3]
 generalize c.toNat = n at *
 by_cases h1 : 48 ≤ n
 ·have d1 : decide ((48 : Int) ≤ (n : Int)) = true := decide_eq_true (by omega)
  by_cases h2 : n ≤ 57
  ·have d2 : decide ((n : Int) ≤ 57) = true := decide_eq_true (by omega)
   have hR := Lib.hid (show decide (48 ≤ n ∧ n ≤ 57) = true from decide_eq_true ⟨h1, h2⟩)
   clear h1 h2
   go_enter Tryz.func163, Tryz.ntmps163
   go_wp2_with fail
   go_ret
   exact ⟨by rw [hR.out]; rfl, rfl⟩
  ·have d2 : decide ((n : Int) ≤ 57) = false := decide_eq_false (by omega)
   have hR := Lib.hid (show decide (48 ≤ n ∧ n ≤ 57) = false from decide_eq_false (by omega))
   clear h1 h2
   go_enter Tryz.func163, Tryz.ntmps163
   go_wp2_with fail
   go_ret
   exact ⟨by rw [hR.out, ← d2]; rfl, rfl⟩
 ·have d1 : decide ((48 : Int) ≤ (n : Int)) = false := decide_eq_false (by omega)
  have hR := Lib.hid (show decide (48 ≤ n ∧ n ≤ 57) = false from decide_eq_false (by omega))
  clear h1
  go_enter Tryz.func163, Tryz.ntmps163
  go_wp2_with fail
  go_ret
  exact ⟨by rw [hR.out]; rfl, rfl⟩
theorem rsound_any (c : UInt8) (w : World) : Calls Tryz.prog 160 #[.int .u8 (c.toNat : Int)] w fun e w' => e = .returned (.bool (sndB c)) ∧ w = w' := by
 have H1 := Lib.hid (fun w => rletter_any c w)
 have H2 := Lib.hid (fun w => rdigit_any c w)
 unfold sndB
 generalize (clsB c == 3) = y at *
 generalize (clsB c == 2) = x at *
 generalize c.toNat = n at *
 go_enter Tryz.func160, Tryz.ntmps160
 go_wp2_with fail
 refine (H1.out _).mono ?_
 rintro e w1 ⟨rfl, rfl⟩
 cases x with
 | true =>
  go_wp2_with fail
  go_ret
  exact ⟨rfl, rfl⟩
 | false =>
  go_wp2_with fail
  refine (H2.out _).mono ?_
  rintro e w1 ⟨rfl, rfl⟩
  go_wp2_with fail
  go_ret
  exact ⟨rfl, rfl⟩
theorem rjoins_any (c : UInt8) (w : World) : Calls Tryz.prog 161 #[.int .u8 (c.toNat : Int)] w fun e w' => e = .returned (.bool (clsB c == 4)) ∧ w = w' := by
 rw [clsB_4]
 generalize c.toNat = n at *
 have q : ∀ k : Nat, ((n : Int) == (k : Int)) = decide (n = k) := fun k => by
  by_cases h : n = k
  ·rw [decide_eq_true h, beq_iff_eq]; omega
  ·rw [decide_eq_false h, beq_eq_false_iff_ne]; omega
 have q1 : ((n : Int) == 45) = decide (n = 45) := q 45
 have q2 : ((n : Int) == 47) = decide (n = 47) := q 47
 have q3 : ((n : Int) == 39) = decide (n = 39) := q 39
 have q4 : ((n : Int) == 46) = decide (n = 46) := q 46
 obtain ⟨b1, h1⟩ : ∃ b, decide (n = 45) = b := ⟨_, rfl⟩
 obtain ⟨b2, h2⟩ : ∃ b, decide (n = 47) = b := ⟨_, rfl⟩
 obtain ⟨b3, h3⟩ : ∃ b, decide (n = 39) = b := ⟨_, rfl⟩
 obtain ⟨b4, h4⟩ : ∃ b, decide (n = 46) = b := ⟨_, rfl⟩
 rw [h1] at q1
 rw [h2] at q2
 rw [h3] at q3
 rw [h4] at q4
 have hR := Lib.hid (show decide (n = 45 ∨ n = 47 ∨ n = 39 ∨ n = 46) = (b1 || (b2 || (b3 || b4))) by rw [← h1, ← h2, ← h3, ← h4]; simp [Bool.decide_or])
 generalize decide (n = 45 ∨ n = 47 ∨ n = 39 ∨ n = 46) = R at *
 clear q h1 h2 h3 h4
 cases b1 <;> cases b2 <;> cases b3 <;> cases b4
 all_goals
  go_enter Tryz.func161, Tryz.ntmps161
  go_wp2_with fail
  go_ret
  exact ⟨by rw [hR.out]; rfl, rfl⟩
end Go.Proofs.YtjaponmpfdpemaaGreatDoor
set_option linter.unusedSimpArgs false
set_option linter.unusedVariables false
namespace Go.Proofs.YtjaponmpfdpemaaGreatDoor
open Go.RowKit
set_option maxRecDepth 100000 in
theorem rword_any (s : Bs) (i : Nat) (hi : i < s.length) (hs : s.length ≤ 100000) (w : World) : Calls Tryz.prog 139 #[.string ⟨s.toArray⟩, .int .i64 (i : Int)] w fun e w' => e = .returned (.bool (goesOn s i)) ∧ w = w' := by
 have hb : ∀ h, ((⟨s.toArray⟩ : ByteArray)[i]'h).toNat = s[i].toNat := fun _ => rfl
 have kz : (0 : Int) ≤ (i : Int) := by omega
 have kl : (i : Int) < (s.length : Int) := by omega
 have H1 := Lib.hid (fun w => rsound_any s[i] w)
 have H2 := Lib.hid (fun w => rjoins_any s[i] w)
 have hG : goesOn s i = (sndB s[i] || ((clsB s[i] == 4) && sndAt s (i - 1) && sndAt s (i + 1))) := by
  unfold goesOn
  rw [sndAt_lt hi, clsAt_lt hi]
 obtain ⟨R, hR⟩ : ∃ R, goesOn s i = R := ⟨_, rfl⟩
 rw [hR] at hG ⊢
 replace hR := Lib.hid hR
 obtain ⟨x, hx⟩ : ∃ x, sndB s[i] = x := ⟨_, rfl⟩
 obtain ⟨y, hy⟩ : ∃ y, (clsB s[i] == 4) = y := ⟨_, rfl⟩
 rw [hx] at hG H1
 rw [hy] at hG H2
 replace hx := Lib.hid hx
 replace hy := Lib.hid hy
 obtain ⟨n, hn⟩ : ∃ n, s[i].toNat = n := ⟨_, rfl⟩
 rw [hn] at H1 H2
 simp only [hn] at hb
 cases x with
 | true =>
  replace hG := Lib.hid hG
  go_enter Tryz.func139, Tryz.ntmps139
  go_wp2_with fail
  refine (H1.out _).mono ?_
  rintro e w1 ⟨rfl, rfl⟩
  go_wp2_with fail
  go_ret
  exact ⟨by rw [hG.out]; rfl, rfl⟩
 | false =>
  cases y with
  | false =>
   replace hG := Lib.hid hG
   go_enter Tryz.func139, Tryz.ntmps139
   go_wp2_with fail
   refine (H1.out _).mono ?_
   rintro e w1 ⟨rfl, rfl⟩
   go_wp2_with fail
   refine (H2.out _).mono ?_
   rintro e w1 ⟨rfl, rfl⟩
   go_wp2_with fail
   go_ret
   exact ⟨by rw [hG.out]; rfl, rfl⟩
  | true =>
   by_cases h0 : 0 < i
   rotate_left
   ·have d0 : decide ((0 : Int) < (i : Int)) = false := decide_eq_false (by omega)
    have d0' : decide (0 < i) = false := decide_eq_false h0
    have hi0 : i - 1 = i := by omega
    have hGf := Lib.hid (show R = false by rw [hG, hi0, sndAt_lt hi, hx.out]; rfl)
    clear hG h0 hi0
    go_enter Tryz.func139, Tryz.ntmps139
    go_wp2_with fail
    refine (H1.out _).mono ?_
    rintro e w1 ⟨rfl, rfl⟩
    go_wp2_with fail
    refine (H2.out _).mono ?_
    rintro e w1 ⟨rfl, rfl⟩
    go_wp2_with fail
    go_ret
    exact ⟨by rw [hGf.out]; rfl, rfl⟩
   have d0 : decide ((0 : Int) < (i : Int)) = true := decide_eq_true (by omega)
   have d0' : decide (0 < i) = true := decide_eq_true h0
   obtain ⟨m, hm⟩ : ∃ m, i = m + 1 := ⟨i - 1, by omega⟩
   have ew1 : IntKind.i64.wrap ((i : Int) - 1) = (m : Int) := by rw [IntKind.wrap_i64]; omega
   have ew2 : IntKind.i64.wrap ((i : Int) + 1) = ((i + 1 : Nat) : Int) := by rw [IntKind.wrap_i64]; omega
   have hml : m < s.length := by omega
   by_cases h1 : i + 1 < s.length
   rotate_left
   ·have d1 : decide (((i + 1 : Nat) : Int) < (s.length : Int)) = false := decide_eq_false (by omega)
    have d1' : decide ((i : Int) + 1 < (s.length : Int)) = false := decide_eq_false (by omega)
    have hGf := Lib.hid (show R = false by rw [hG, sndAt_end (i := i + 1) (by omega), Bool.and_false]; rfl)
    clear hG h0 h1 hm
    go_enter Tryz.func139, Tryz.ntmps139
    go_wp2_with fail
    refine (H1.out _).mono ?_
    rintro e w1 ⟨rfl, rfl⟩
    go_wp2_with fail
    refine (H2.out _).mono ?_
    rintro e w1 ⟨rfl, rfl⟩
    go_wp2_with fail
    go_ret
    exact ⟨by rw [hGf.out]; rfl, rfl⟩
   have d1 : decide (((i + 1 : Nat) : Int) < (s.length : Int)) = true := decide_eq_true (by omega)
   have d1' : decide ((i : Int) + 1 < (s.length : Int)) = true := decide_eq_true (by omega)
   have hb1 : ∀ h, ((⟨s.toArray⟩ : ByteArray)[m]'h).toNat = s[m].toNat := fun _ => rfl
   have hb2 : ∀ h, ((⟨s.toArray⟩ : ByteArray)[i + 1]'h).toNat = s[i + 1].toNat := fun _ => rfl
   have H3 := Lib.hid (fun w => rsound_any s[m] w)
   have H4 := Lib.hid (fun w => rsound_any s[i + 1] w)
   have hm1 : i - 1 = m := by omega
   rw [hm1, sndAt_lt hml, sndAt_lt h1] at hG
   generalize sndB s[m] = a at *
   generalize sndB s[i + 1] = b at *
   obtain ⟨n1, hn1⟩ : ∃ n, s[m].toNat = n := ⟨_, rfl⟩
   obtain ⟨n2, hn2⟩ : ∃ n, s[i + 1].toNat = n := ⟨_, rfl⟩
   rw [hn1] at H3
   rw [hn2] at H4
   simp only [hn1] at hb1
   simp only [hn2] at hb2
   have mz : (0 : Int) ≤ (m : Int) := by omega
   have ml : (m : Int) < (s.length : Int) := by omega
   have iz : (0 : Int) ≤ ((i + 1 : Nat) : Int) := by omega
   have il : ((i + 1 : Nat) : Int) < (s.length : Int) := by omega
   replace hG := Lib.hid hG
   replace hm := Lib.hid hm
   clear h0 hm1
   go_enter Tryz.func139, Tryz.ntmps139
   go_wp2_with fail
   refine (H1.out _).mono ?_
   rintro e w1 ⟨rfl, rfl⟩
   go_wp2_with fail
   refine (H2.out _).mono ?_
   rintro e w1 ⟨rfl, rfl⟩
   go_wp2_with fail
   refine (H3.out _).mono ?_
   rintro e w1 ⟨rfl, rfl⟩
   cases a with
   | false =>
    go_wp2_with fail
    go_ret
    exact ⟨by rw [hG.out]; rfl, rfl⟩
   | true =>
    go_wp2_with fail
    refine (H4.out _).mono ?_
    rintro e w1 ⟨rfl, rfl⟩
    go_wp2_with fail
    go_ret
    exact ⟨by rw [hG.out]; cases b <;> rfl, rfl⟩
end Go.Proofs.YtjaponmpfdpemaaGreatDoor
