/-
  addr: Parse, of any text.
-/
import Derived.Test.YtjaponmpfdpemaaGreatDoorKb34
import Derived.Test.YtjaponmpfdpemaaGreatDoorKb37
import Derived.Test.YtjaponmpfdpemaaGreatDoorKb38
import Derived.Test.YtjaponmpfdpemaaGreatDoorKb05
import Derived.Test.YtjaponmpfdpemaaGreatDoorKb10
import Derived.Test.YtjaponmpfdpemaaGreatDoorKb13
import Derived.Test.YtjaponmpfdpemaaGreatDoorKb06
set_option linter.unusedVariables false
namespace Go.Proofs.YtjaponmpfdpemaaGreatDoor
open Go.RowKit

theorem parse_any (s : Bs) (hs : s.length ≤ 100000) (W : World) (hS : Std W) : Calls Tryz.prog 56 #[.string ⟨s.toArray⟩] W (PsR W (parseP s)) := by
  by_cases h0 : (tokensP s).2.1 = 0
  · by_cases hn : (partsP (tokensP s).1).length - 1 = 2 ∨ (partsP (tokensP s).1).length - 1 = 3
    · match hp : partsP (tokensP s).1 with
      | [] => rw [hp] at hn; simp at hn
      | [_] => rw [hp] at hn; simp at hn
      | [_, _] => rw [hp] at hn; simp at hn
      | [p0, p1, p2] => exact parse_2 s hs W hS h0 hp
      | [p0, p1, p2, p3] => exact parse_3 s hs W hS h0 hp
      | _ :: _ :: _ :: _ :: _ :: _ => rw [hp] at hn; simp at hn
    · exact parse_n s hs W hS h0 hn
  · exact parse_f s hs W hS h0
end Go.Proofs.YtjaponmpfdpemaaGreatDoor

set_option linter.unusedVariables false
namespace Go.Proofs.YtjaponmpfdpemaaGreatDoor
open Go.RowKit
theorem parsed_AdS {s : Bs} (h : (parseP s).2.1 = 0) : AdS (parseP s).1 1000 ∧ i64 (parseP s).1.n := by
  have hc := checkP_ok (parse_check h)
  have hB := txtB (parse_check h)
  have hl := hB.l
  rw [lineP_eq] at hl
  simp only [List.length_append] at hl
  have al : ∀ s : Bs, s.length ≤ (aheadP s).length := fun s => by
    unfold aheadP
    by_cases h : s = []
    · rw [if_pos h, h]; exact Nat.le_refl _
    · rw [if_neg h]; simp
  have a1 := al (parseP s).1.pre
  have a2 := al (parseP s).1.name
  have a3 := al (parseP s).1.suf
  have a4 := al (parseP s).1.post
  have b1 := hB.u
  have b2 := hB.c
  have b3 := hB.s
  have b4 := hB.z
  have b5 := hB.m
  have n1 := hc.n1
  have n2 := hc.n2
  exact ⟨⟨by omega, by omega, by omega, by omega, by omega, by omega, by omega, by omega, by omega⟩, by unfold i64; omega⟩
end Go.Proofs.YtjaponmpfdpemaaGreatDoor

set_option linter.unusedVariables false
namespace Go.Proofs.YtjaponmpfdpemaaGreatDoor
open Go.RowKit
end Go.Proofs.YtjaponmpfdpemaaGreatDoor

set_option linter.unusedVariables false
namespace Go.Proofs.YtjaponmpfdpemaaGreatDoor

/-- From at on a word, up to e. -/
structure WordTo (s : Bs) (at_ e : Nat) : Prop where
  le : at_ ≤ e
  len : e ≤ s.length
  on : ∀ i, at_ ≤ i → i < e → goesOn s i = true
  end_ : e = s.length ∨ goesOn s e = false
theorem goesOn_snd {s : Bs} {i : Nat} (h : sndAt s i = true) : goesOn s i = true := by unfold goesOn; rw [h]; rfl
theorem goesOn_eq {s : Bs} {n : Nat} (hn : n < s.length) : goesOn s n = (sndB s[n] || (clsB s[n] == 4 && sndAt s (n - 1) && nextSnd (s.drop (n + 1)))) := by
  unfold goesOn
  rw [sndAt_lt hn, clsAt_lt hn, nextSnd_drop]
/-- Behind the end of a word stands no sound. -/
theorem WordTo.stop {s : Bs} {a e : Nat} (h : WordTo s a e) : sndAt s e = false := by
  rcases h.end_ with h1 | h1
  · exact sndAt_end (by omega)
  · cases h2 : sndAt s e with
    | false => rfl
    | true => rw [goesOn_snd h2] at h1; cases h1
theorem cut_to {s : Bs} {a e : Nat} (h : WordTo s a e) : ∀ (k i : Nat) (w : Bs), e = i + k → a < i → cutL (sndAt s (i - 1)) (some w) (s.drop i) = tokW (w ++ (s.take e).drop i) :: cutL false none (s.drop e)
  | 0, i, w, hk, ha => by
    have hi : i = e := by omega
    subst hi
    have hlen := h.len
    rw [List.drop_eq_nil_of_le (show (s.take i).length ≤ i by rw [List.length_take]; omega), List.append_nil]
    rcases Nat.lt_or_ge i s.length with h1 | h1
    · have hd : s.drop i = s[i] :: s.drop (i + 1) := List.drop_eq_getElem_cons h1
      have hg : goesOn s i = false := by
        rcases h.end_ with h2 | h2
        · omega
        · exact h2
      have hs : sndB s[i] = false := by rw [← sndAt_lt h1]; exact h.stop
      rw [hd, cutL_s, ← goesOn_eq h1, hg, cutL_n, hs]
      simp
    · rw [List.drop_eq_nil_of_le h1, cutL_s0, cutL_n0]
  | k + 1, i, w, hk, ha => by
    have hlen := h.len
    have h1 : i < s.length := by omega
    have hd : s.drop i = s[i] :: s.drop (i + 1) := List.drop_eq_getElem_cons h1
    have hg := h.on i (by omega) (by omega)
    rw [hd, cutL_s, ← goesOn_eq h1, if_pos hg]
    have ih := cut_to h k (i + 1) (w ++ [s[i]]) (by omega) (by omega)
    rw [show i + 1 - 1 = i by omega, sndAt_lt h1] at ih
    rw [ih]
    have e1 : (s.take e).drop i = s[i] :: (s.take e).drop (i + 1) := by
      have h2 : i < (s.take e).length := by rw [List.length_take]; omega
      rw [List.drop_eq_getElem_cons h2, List.getElem_take]
    rw [e1]
    simp
/-- Where the reference stands: what was cut, what is left. -/
structure RefAt (s : Bs) (at_ : Nat) (out : List Tok) : Prop where
  le : at_ ≤ s.length
  toks : toksOf s = out ++ cutL false none (s.drop at_)
  open_ : at_ = 0 ∨ sndAt s (at_ - 1) = false ∨ goesOn s at_ = false
  adv : advS s 0 out ≤ at_
  gap : ∀ i, advS s 0 out ≤ i → i < at_ → clsAt s i = 1 ∨ clsAt s i = 4
theorem RefAt.start (s : Bs) : RefAt s 0 [] := ⟨Nat.zero_le _, by rw [toksOf_cut]; rfl, .inl rfl, Nat.le_refl _, fun i _ h => absurd h (by omega)⟩
theorem RefAt.done {s : Bs} {out : List Tok} {at_ : Nat} (h : RefAt s at_ out) (he : s.length ≤ at_) : toksOf s = out := by
  have := h.toks
  rw [List.drop_eq_nil_of_le he, cutL_n0, List.append_nil] at this
  exact this
theorem skipS_exact {s : Bs} : ∀ {a k : Nat}, a ≤ k → k < s.length → (∀ i, a ≤ i → i < k → clsAt s i = 1 ∨ clsAt s i = 4) → clsAt s k ≠ 1 → clsAt s k ≠ 4 → skipS (s.drop a) = k - a := by
  intro a k hak hk hg h1 h4
  obtain ⟨n, hn⟩ : ∃ n, k - a = n := ⟨_, rfl⟩
  induction n generalizing a with
  | zero =>
    have : a = k := by omega
    subst this
    rw [List.drop_eq_getElem_cons hk, skipS, ← clsAt_lt hk, if_neg (by omega)]
    omega
  | succ n ih =>
    have ha : a < s.length := by omega
    rw [List.drop_eq_getElem_cons ha, skipS, ← clsAt_lt ha, if_pos (hg a (Nat.le_refl _) (by omega)), ih (a := a + 1) (by omega) (fun i h2 h3 => hg i (by omega) h3) (by omega)]
    omega
theorem adv_put {s : Bs} {at_ : Nat} {out : List Tok} {t : Tok} (h : RefAt s at_ out) (hk : at_ < s.length) (h1 : clsAt s at_ ≠ 1) (h4 : clsAt s at_ ≠ 4) : advS s 0 (out ++ [t]) = at_ + t.t.length := by
  rw [advS_app]
  simp only [advS]
  rw [skipS_exact h.adv hk h.gap h1 h4]
  have := h.adv
  omega
/-- A comma, or a #. -/
theorem RefAt.sep {s : Bs} {at_ : Nat} {out : List Tok} {t : Tok} (h : RefAt s at_ out) (hk : at_ < s.length) (ht : (clsAt s at_ = 5 ∧ t = tComma) ∨ (clsAt s at_ = 6 ∧ t = tHash)) : RefAt s (at_ + 1) (out ++ [t]) := by
  have hc : clsAt s at_ = clsB s[at_] := clsAt_lt hk
  have hs : sndB s[at_] = false := by
    unfold sndB
    rcases ht with ⟨e, _⟩ | ⟨e, _⟩ <;> rw [← hc, e] <;> rfl
  have hsep : sepT s[at_] = [t] := by
    unfold sepT
    rcases ht with ⟨e, rfl⟩ | ⟨e, rfl⟩ <;> rw [← hc, e] <;> rfl
  have hd : s.drop at_ = s[at_] :: s.drop (at_ + 1) := List.drop_eq_getElem_cons hk
  have htl : t.t.length = 1 := by rcases ht with ⟨_, rfl⟩ | ⟨_, rfl⟩ <;> rfl
  have ha := adv_put (t := t) h hk (by rcases ht with ⟨e, _⟩ | ⟨e, _⟩ <;> omega) (by rcases ht with ⟨e, _⟩ | ⟨e, _⟩ <;> omega)
  refine ⟨by omega, ?_, .inr (.inl ?_), by omega, fun i h1 h2 => absurd h2 (by omega)⟩
  · rw [h.toks, hd, cutL_n, hs]
    simp [hsep]
  · rw [show at_ + 1 - 1 = at_ by omega, sndAt_lt hk, hs]
/-- A word. -/
theorem RefAt.word {s : Bs} {at_ e : Nat} {out : List Tok} (h : RefAt s at_ out) (hw : WordTo s at_ e) (hne : at_ < e) : RefAt s e (out ++ [wordT s at_ e]) ∧ sndAt s at_ = true := by
  have hlen := hw.len
  have hk : at_ < s.length := by omega
  have hg := hw.on at_ (Nat.le_refl _) hne
  have hs : sndAt s at_ = true := by
    cases hx : sndAt s at_ with
    | true => rfl
    | false =>
      unfold goesOn at hg
      rw [hx, Bool.false_or] at hg
      simp only [Bool.and_eq_true, beq_iff_eq] at hg
      rcases h.open_ with h1 | h1 | h1
      · rw [h1] at hg hx; rw [hx] at hg; cases hg.1.2
      · rw [h1] at hg; cases hg.1.2
      · rw [goesOn, hx, hg.1.2, hg.2, hg.1.1] at h1; cases h1
  obtain ⟨c1, c4, _⟩ := snd_cls hs
  have hsB : sndB s[at_] = true := by rw [← sndAt_lt hk]; exact hs
  have hd : s.drop at_ = s[at_] :: s.drop (at_ + 1) := List.drop_eq_getElem_cons hk
  have hcut := cut_to hw (e - (at_ + 1)) (at_ + 1) [s[at_]] (by omega) (by omega)
  rw [show at_ + 1 - 1 = at_ by omega, hs] at hcut
  have hpart : [s[at_]] ++ (s.take e).drop (at_ + 1) = (s.take e).drop at_ := by
    have h2 : at_ < (s.take e).length := by rw [List.length_take]; omega
    rw [List.drop_eq_getElem_cons h2, List.getElem_take]
    rfl
  rw [hpart] at hcut
  have hwt : tokW ((s.take e).drop at_) = wordT s at_ e := rfl
  have ha := adv_put (t := wordT s at_ e) h hk c1 c4
  have hwl : (wordT s at_ e).t.length = e - at_ := partT_len hlen
  refine ⟨⟨hlen, ?_, ?_, by omega, fun i h1 h2 => absurd h2 (by omega)⟩, hs⟩
  · rw [h.toks, hd, cutL_n, if_pos hsB, hcut, hwt]
    simp
  · rcases hw.end_ with h1 | h1
    · right; right
      unfold goesOn sndAt
      rw [clsAt_end (by omega)]
      rfl
    · exact .inr (.inr h1)
/-- Neither: a blank, or a joint that joins nothing. -/
theorem RefAt.skip {s : Bs} {at_ : Nat} {out : List Tok} (h : RefAt s at_ out) (hk : at_ < s.length) (hw : WordTo s at_ at_) (h0 : clsAt s at_ ≠ 0) (h5 : clsAt s at_ ≠ 5) (h6 : clsAt s at_ ≠ 6) : RefAt s (at_ + 1) out := by
  have hc : clsAt s at_ = clsB s[at_] := clsAt_lt hk
  have hs := hw.stop
  have hsB : sndB s[at_] = false := by rw [← sndAt_lt hk]; exact hs
  have hsep : sepT s[at_] = [] := by
    unfold sepT
    rw [if_neg (by omega), if_neg (by omega)]
  have hcl : clsAt s at_ = 1 ∨ clsAt s at_ = 4 := by
    have : clsB s[at_] ≤ 6 := by
      unfold clsB
      repeat' split
      all_goals omega
    have h23 : clsAt s at_ ≠ 2 ∧ clsAt s at_ ≠ 3 := by
      unfold sndAt at hs
      rw [Bool.or_eq_false_iff, beq_eq_false_iff_ne, beq_eq_false_iff_ne] at hs
      exact hs
    omega
  have hd : s.drop at_ = s[at_] :: s.drop (at_ + 1) := List.drop_eq_getElem_cons hk
  refine ⟨by omega, ?_, .inr (.inl ?_), by have := h.adv; omega, fun i h1 h2 => ?_⟩
  · rw [h.toks, hd, cutL_n, hsB, hsep]
    simp
  · rw [show at_ + 1 - 1 = at_ by omega]; exact hs
  · rcases Nat.lt_or_ge i at_ with h3 | h3
    · exact h.gap i h1 h3
    · have : i = at_ := by omega
      rw [this]; exact hcl
end Go.Proofs.YtjaponmpfdpemaaGreatDoor

set_option linter.unusedVariables false
namespace Go.Proofs.YtjaponmpfdpemaaGreatDoor
open Go.RowKit
end Go.Proofs.YtjaponmpfdpemaaGreatDoor

set_option linter.unusedVariables false
namespace Go.Proofs.YtjaponmpfdpemaaGreatDoor
open Go.RowKit
end Go.Proofs.YtjaponmpfdpemaaGreatDoor

set_option linter.unusedVariables false
namespace Go.Proofs.YtjaponmpfdpemaaGreatDoor
open Go.RowKit
end Go.Proofs.YtjaponmpfdpemaaGreatDoor

set_option linter.unusedVariables false
namespace Go.Proofs.YtjaponmpfdpemaaGreatDoor
open Go.RowKit
end Go.Proofs.YtjaponmpfdpemaaGreatDoor

set_option linter.unusedVariables false
namespace Go.Proofs.YtjaponmpfdpemaaGreatDoor
open Go.RowKit
end Go.Proofs.YtjaponmpfdpemaaGreatDoor

set_option linter.unusedVariables false
namespace Go.Proofs.YtjaponmpfdpemaaGreatDoor
open Go.RowKit
end Go.Proofs.YtjaponmpfdpemaaGreatDoor

set_option linter.unusedVariables false
namespace Go.Proofs.YtjaponmpfdpemaaGreatDoor
open Go.RowKit
end Go.Proofs.YtjaponmpfdpemaaGreatDoor

set_option linter.unusedVariables false
namespace Go.Proofs.YtjaponmpfdpemaaGreatDoor
open Go.RowKit
end Go.Proofs.YtjaponmpfdpemaaGreatDoor

set_option linter.unusedVariables false
namespace Go.Proofs.YtjaponmpfdpemaaGreatDoor
open Go.RowKit
end Go.Proofs.YtjaponmpfdpemaaGreatDoor

set_option linter.unusedVariables false
namespace Go.Proofs.YtjaponmpfdpemaaGreatDoor
open Go.RowKit
end Go.Proofs.YtjaponmpfdpemaaGreatDoor

set_option linter.unusedVariables false
namespace Go.Proofs.YtjaponmpfdpemaaGreatDoor
open Go.RowKit
end Go.Proofs.YtjaponmpfdpemaaGreatDoor

set_option linter.unusedVariables false
namespace Go.Proofs.YtjaponmpfdpemaaGreatDoor
open Go.RowKit
end Go.Proofs.YtjaponmpfdpemaaGreatDoor

set_option linter.unusedVariables false
namespace Go.Proofs.YtjaponmpfdpemaaGreatDoor
end Go.Proofs.YtjaponmpfdpemaaGreatDoor

set_option linter.unusedVariables false
namespace Go.Proofs.YtjaponmpfdpemaaGreatDoor
open Go.RowKit
end Go.Proofs.YtjaponmpfdpemaaGreatDoor

set_option linter.unusedVariables false
namespace Go.Proofs.YtjaponmpfdpemaaGreatDoor
open Go.RowKit
end Go.Proofs.YtjaponmpfdpemaaGreatDoor

set_option linter.unusedVariables false
namespace Go.Proofs.YtjaponmpfdpemaaGreatDoor
open Go.RowKit
end Go.Proofs.YtjaponmpfdpemaaGreatDoor

set_option linter.unusedVariables false
namespace Go.Proofs.YtjaponmpfdpemaaGreatDoor
open Go.RowKit
end Go.Proofs.YtjaponmpfdpemaaGreatDoor

set_option linter.unusedVariables false
namespace Go.Proofs.YtjaponmpfdpemaaGreatDoor
open Go.RowKit
end Go.Proofs.YtjaponmpfdpemaaGreatDoor

set_option linter.unusedVariables false
namespace Go.Proofs.YtjaponmpfdpemaaGreatDoor
end Go.Proofs.YtjaponmpfdpemaaGreatDoor

set_option linter.unusedVariables false
namespace Go.Proofs.YtjaponmpfdpemaaGreatDoor
end Go.Proofs.YtjaponmpfdpemaaGreatDoor

set_option linter.unusedVariables false
namespace Go.Proofs.YtjaponmpfdpemaaGreatDoor
open Go.RowKit

/-- Where the reference's street stands: the result's block, the address's, the tokens that are left. -/
structure RsAt (W w : World) (g4 g7 : Nat) (a : Ad) (A : Option Addr) (n cap : Nat) (l : List Tok) : Prop where
  ext : Ext W w
  r : Blk w g4 45 (adC Ad.zero)
  b : Blk w g7 45 (adC a)
  t : TokS w A n cap l
  lo : 0 < l.length → ∀ b o, A = some ⟨b, o, none⟩ → b < W.heap.size
  l4 : W.heap.size ≤ g4
  l7 : W.heap.size ≤ g7
  ne : g4 ≠ g7
theorem RsAt.to {W w w' : World} {g4 g7 n cap : Nat} {a : Ad} {A : Option Addr} {l : List Tok} (h : RsAt W w g4 g7 a A n cap l) (hx : Ext w w') : RsAt W w' g4 g7 a A n cap l :=
  ⟨h.ext.trans hx, h.r.ext hx, h.b.ext hx, h.t.ext hx, h.lo, h.l4, h.l7, h.ne⟩
theorem RsAt.put {W w : World} {g4 g7 n cap : Nat} {a b : Ad} {A : Option Addr} {l : List Tok} (h : RsAt W w g4 g7 a A n cap l) (i : Nat) (u : Value) (hu : (adC a).setIfInBounds i u = adC b) : RsAt W (w.setCell ⟨g7, i, none⟩ u) g4 g7 b A n cap l :=
  ⟨h.ext.set (p := ⟨g7, i, none⟩) h.l7 _, h.r.far (p := ⟨g7, i, none⟩) h.ne _, ad_put h.b i u b hu, h.t.set (p := ⟨g7, i, none⟩) h.lo h.l7 _, h.lo, h.l4, h.l7, h.ne⟩
theorem RsAt.keep {W w : World} {g4 g7 n cap n' cap' : Nat} {a : Ad} {A A' : Option Addr} {l l' : List Tok} (h : RsAt W w g4 g7 a A n cap l) (ht : TokS w A' n' cap' l') (hlo : 0 < l'.length → ∀ b o, A' = some ⟨b, o, none⟩ → b < W.heap.size) : RsAt W w g4 g7 a A' n' cap' l' :=
  ⟨h.ext, h.r, h.b, ht, hlo, h.l4, h.l7, h.ne⟩
theorem RsAt.take {W w : World} {g4 g7 n cap : Nat} {a : Ad} {A : Option Addr} {l : List Tok} (h : RsAt W w g4 g7 a A n cap l) {m : Nat} (hm : m ≤ n) : RsAt W w g4 g7 a A m cap (l.take m) :=
  h.keep (h.t.take hm) fun h0 b o e => h.lo (by rw [List.length_take] at h0; omega) b o e
theorem RsAt.drop {W w : World} {g4 g7 n cap b o : Nat} {a : Ad} {l : List Tok} (h : RsAt W w g4 g7 a (some ⟨b, o, none⟩) n cap l) {m : Nat} (hm : m ≤ n) : RsAt W w g4 g7 a (some ⟨b, o + m * 2, none⟩) (n - m) (cap - m) (l.drop m) :=
  h.keep (h.t.drop hm) fun h0 b' o' e => by
    injection e with e
    injection e with e1 _ _
    subst e1
    exact h.lo (by rw [List.length_drop] at h0; omega) b o rfl
end Go.Proofs.YtjaponmpfdpemaaGreatDoor
