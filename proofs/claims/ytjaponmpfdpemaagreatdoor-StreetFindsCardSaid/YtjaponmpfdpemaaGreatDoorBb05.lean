/-
  Plain: the text of an address that may be is parsed as it.
-/
import Derived.Test.YtjaponmpfdpemaaGreatDoorBb04
import Derived.Test.YtjaponmpfdpemaaGreatDoorBb03
import Derived.Shelf.LaysC
import Derived.Shelf.Strings.Builder1
import Derived.Shelf.Strconv.AtoiAll
import Derived.Test.YtjaponmpfdpemaaGreatDoorProg
import Derived.Shelf.Strings.SlTrimAscii
set_option linter.unusedSimpArgs false
set_option linter.unusedVariables false
namespace Go.Proofs.YtjaponmpfdpemaaGreatDoor
theorem digB_cls {c : UInt8} (h : digB c = true) : clsB c = 3 ∧ sndB c = true ∧ upB c = c := by
 have h1 : 48 ≤ c.toNat ∧ c.toNat ≤ 57 := by simpa [digB] using h
 have e : clsB c = 3 := by unfold clsB; rw [if_neg (by omega), if_pos h1]
 refine ⟨e, by unfold sndB; rw [e]; rfl, ?_⟩
 unfold upB
 rw [if_neg (by omega)]
theorem digs_all {x : Bs} (h : x.all digB = true) : x.all sndB = true ∧ upS x = x ∧ ∀ c ∈ x, clsB c ≠ 0 := by
 refine ⟨List.all_eq_true.2 fun c hc => (digB_cls (List.all_eq_true.1 h c hc)).2.1, ?_, fun c hc => by rw [(digB_cls (List.all_eq_true.1 h c hc)).1]; decide⟩
 unfold upS
 have : ∀ l : Bs, (∀ c ∈ l, upB c = c) → l.map upB = l := by
  intro l
  induction l with
  | nil => intro _; rfl
  | cons d l ih => intro hl; rw [List.map_cons, hl d (by simp), ih fun c hc => hl c (by simp [hc])]
 exact this x fun c hc => (digB_cls (List.all_eq_true.1 h c hc)).2.2
theorem dig_of {k : Nat} (h : k < 10) : digB (UInt8.ofNat (48 + k)) = true ∧ ((UInt8.ofNat (48 + k)).toNat : Int) - 48 = k := by
 have e : (UInt8.ofNat (48 + k)).toNat = 48 + k := by
  simp
  omega
 unfold digB
 rw [e]
 exact ⟨decide_eq_true (by omega), by omega⟩
theorem numP_snoc (x : Bs) (c : UInt8) : numP (x ++ [c]) = 10 * numP x + ((c.toNat : Int) - 48) := by simp [numP, List.foldl_append]
theorem decDigits_ok (u : Nat) : (Lib.decDigits u).all digB = true ∧ numP (Lib.decDigits u) = u := by
 induction u using Nat.strongRecOn with
 | _ u ih =>
  rw [Lib.decDigits]
  by_cases h : u < 10
  ·rw [dif_pos h]
   obtain ⟨a, b⟩ := dig_of h
   refine ⟨by rw [List.all_cons, a]; rfl, ?_⟩
   have := numP_snoc [] (UInt8.ofNat (48 + u))
   rw [List.nil_append] at this
   rw [this, b]
   simp [numP]
  ·rw [dif_neg h]
   obtain ⟨a, b⟩ := ih (u / 10) (by omega)
   obtain ⟨c, d⟩ := dig_of (k := u % 10) (by omega)
   refine ⟨by rw [List.all_append, a, List.all_cons, c]; rfl, ?_⟩
   rw [numP_snoc, b, d]
   omega
theorem nd_le : ∀ (k u : Nat), u < 10 ^ (k + 1) → Lib.nDigits u ≤ k + 1
 | 0, u, h => by rw [Lib.nDigits_small (by simpa using h)]; omega
 | k + 1, u, h => by
  by_cases h1 : u < 10
  ·rw [Lib.nDigits_small h1]; omega
  ·rw [Lib.nDigits_big h1]
   have := nd_le k (u / 10) (by rw [Nat.pow_succ] at h; omega)
   omega
theorem itoa_ok {n : Int} (h1 : 1 ≤ n) (h2 : n ≤ 999999) : digitsP (Lib.itoa n) 1 6 = true ∧ numP (Lib.itoa n) = n := by
 have e : Lib.itoa n = Lib.decDigits n.toNat := by unfold Lib.itoa; rw [if_neg (by omega)]
 rw [e]
 obtain ⟨a, b⟩ := decDigits_ok n.toNat
 have hl := Lib.decDigits_length n.toNat
 have hp := Lib.nDigits_pos n.toNat
 have hd := nd_le 5 n.toNat (by omega)
 refine ⟨?_, by rw [b]; omega⟩
 unfold digitsP
 rw [a, Bool.and_true]
 exact decide_eq_true (by omega)
theorem digitsP_all {x : Bs} {lo hi : Nat} (h : digitsP x lo hi = true) : lo ≤ x.length ∧ x.length ≤ hi ∧ x.all digB = true := by
 unfold digitsP at h
 rw [Bool.and_eq_true, decide_eq_true_eq] at h
 exact ⟨h.1.1, h.1.2, h.2⟩
def wordsWord (k : Int) : Bool := (wordsP k).all fun p => p.s.all sndB && kindT p.s == 1
theorem words_word : wordsWord 1 = true ∧ wordsWord 2 = true ∧ wordsWord 3 = true ∧ wordsWord 4 = true := by decide +kernel
theorem own_word {k : Int} {n : Nat} {x : Bs} (hf : wordsFine k n = true) (hw : wordsWord k = true) (ho : ownP k x = true) (h0 : x ≠ []) :
  toksOf x = [⟨1, x⟩] ∧ (∀ c ∈ x, clsB c ≠ 0) ∧ x.length ≤ n ∧ shortP k x = (x, true) := by
 unfold ownP at ho
 rw [beq_iff_eq] at ho
 have h2 : (shortP k x).2 = true := by
  cases he : (shortP k x).2 with
  | true => rfl
  | false => rw [shortP_none he] at ho; exact absurd ho.symm h0
 obtain ⟨p, hp, e⟩ := shortP_mem h2
 have h3 := List.all_eq_true.1 hf p hp
 have h4 := List.all_eq_true.1 hw p hp
 simp only [Bool.and_eq_true, beq_iff_eq, decide_eq_true_eq] at h3 h4
 have ex : x = p.s := by rw [← ho, e]
 rw [ex]
 refine ⟨?_, fun c hc => ?_, h3.1.1.2, h3.1.2⟩
 ·rw [toks_sound (by rw [← ex]; exact h0) h4.1]
  unfold tokW
  rw [h3.1.1.1, h4.2]
 ·have := List.all_eq_true.1 h4.1 c hc
  intro e0
  unfold sndB at this
  rw [e0] at this
  cases this
def okBs (x : Bs) : Prop := ∀ c ∈ x, clsB c ≠ 0
theorem okBs_bad {x : Bs} : badAt x = none ↔ okBs x := by
 unfold badAt okBs
 rw [List.findIdx?_eq_none_iff]
 simp
theorem tokensP_zero {s : Bs} (h : (tokensP s).2.1 = 0) : okBs s ∧ tokensP s = (toksOf s, 0, 0) ∧ s.length ≤ 200 := by
 unfold tokensP at h ⊢
 by_cases h1 : 200 < s.length
 ·rw [if_pos h1] at h; cases h
 ·rw [if_neg h1] at h ⊢
  cases hb : badAt s with
  | some i => rw [hb] at h; cases h
  | none =>
   rw [hb] at h
   simp only at h ⊢
   by_cases h2 : 40 < (toksOf s).length
   ·rw [if_pos h2] at h; cases h
   ·rw [if_neg h2]
    exact ⟨okBs_bad.1 hb, rfl, by omega⟩
theorem tokensP_of {s : Bs} (h1 : okBs s) (h2 : s.length ≤ 200) (h3 : (toksOf s).length ≤ 40) : tokensP s = (toksOf s, 0, 0) := by
 unfold tokensP
 rw [if_neg (by omega), okBs_bad.2 h1]
 simp only
 rw [if_neg (by omega)]
theorem okBs_app {x y : Bs} (hx : okBs x) (hy : okBs y) : okBs (x ++ y) := fun c hc => by
 rcases List.mem_append.1 hc with h | h
 ·exact hx c h
 ·exact hy c h
theorem toks_nil : toksOf [] = [] := by decide +kernel
theorem toks_ahead (x s : Bs) : toksOf (x ++ aheadP s) = toksOf x ++ toksOf s := by
 unfold aheadP
 by_cases h : s = []
 ·rw [if_pos h, h, toks_nil, List.append_nil, List.append_nil]
 ·rw [if_neg h, toks_sp]
def halfS (b : Bool) : Bs := if b then [32, 49, 47, 50] else []
theorem toks_half (x : Bs) (b : Bool) : toksOf (x ++ halfS b) = toksOf x ++ (if b then [halfT] else []) := by
 unfold halfS
 cases b with
 | false => simp
 | true =>
  simp only [if_true]
  rw [toks_sp, show toksOf [49, 47, 50] = [halfT] by decide +kernel]
theorem lineP_eq (a : Ad) : lineP a = halfS a.half ++ aheadP a.pre ++ aheadP a.name ++ aheadP a.suf ++ aheadP a.post := rfl
theorem toks_lineP (a : Ad) : toksOf (lineP a) = (if a.half then [halfT] else []) ++ toksOf a.pre ++ toksOf a.name ++ toksOf a.suf ++ toksOf a.post := by
 have h := lineP_eq a
 have h0 := toks_half [] a.half
 rw [toks_nil, List.nil_append, List.nil_append] at h0
 rw [h, toks_ahead, toks_ahead, toks_ahead, toks_ahead, h0]
end Go.Proofs.YtjaponmpfdpemaaGreatDoor
set_option linter.unusedSimpArgs false
set_option linter.unusedVariables false
namespace Go.Proofs.YtjaponmpfdpemaaGreatDoor
structure NamedOk (s : Bs) (ks : List Int) : Prop where
 ok : okBs s
 kinds : kindOf (toksOf s) ks = true
 texts : textsP (toksOf s) = s
 l0 : 0 < (toksOf s).length
 l8 : (toksOf s).length ≤ 8
 l40 : s.length ≤ 40
theorem named_ok {s : Bs} {ks : List Int} (h : namedP s ks = true) : NamedOk s ks := by
 unfold namedP at h
 dsimp only at h
 simp only [Bool.and_eq_true, beq_iff_eq, decide_eq_true_eq] at h
 obtain ⟨⟨⟨⟨⟨h1, h2⟩, h3⟩, h4⟩, h5⟩, h6⟩ := h
 obtain ⟨a, b, _⟩ := tokensP_zero h1
 rw [b] at h2 h3 h4 h5
 exact ⟨a, h4, h5, h2, h3, h6⟩
structure CheckOk (a : Ad) : Prop where
 n1 : 1 ≤ a.n
 n2 : a.n ≤ 999999
 name : NamedOk a.name [1, 2, 3]
 city : NamedOk a.city [1]
 pre : ownP 2 a.pre = true
 post : ownP 2 a.post = true
 suf : ownP 1 a.suf = true
 st0 : a.state ≠ []
 state : ownP 3 a.state = true
 unit : housedP a.unit = true
 zip : digitsP a.zip 5 5 = true
 more : a.more = [] ∨ digitsP a.more 4 4 = true
 line : okBs (lineP a)
 street : (streetP (toksOf (lineP a)) (a.unit == [])).1 = a.street
theorem checkP_ok {a : Ad} (h : checkP a = 0) : CheckOk a := by
 unfold checkP at h
 dsimp only at h
 by_cases h1 : (decide (1 ≤ a.n) && decide (a.n ≤ 999999) && namedP a.name [1, 2, 3] && namedP a.city [1] && ownP 2 a.pre && ownP 2 a.post && ownP 1 a.suf && a.state != [] && ownP 3 a.state && housedP a.unit && digitsP a.zip 5 5 && (a.more == [] || digitsP a.more 4 4)) = false
 ·rw [if_pos h1] at h; cases h
 rw [if_neg h1] at h
 rw [Bool.not_eq_false] at h1
 simp only [Bool.and_eq_true, Bool.or_eq_true, beq_iff_eq, bne_iff_ne, decide_eq_true_eq, ne_eq] at h1
 obtain ⟨⟨⟨⟨⟨⟨⟨⟨⟨⟨⟨b1, b2⟩, b3⟩, b4⟩, b5⟩, b6⟩, b7⟩, b8⟩, b9⟩, b10⟩, b11⟩, b12⟩ := h1
 by_cases h2 : (tokensP (lineP a)).2.1 ≠ 0 ∨ (streetP (tokensP (lineP a)).1 (a.unit == [])).1 ≠ a.street
 ·rw [if_pos h2] at h; cases h
 have h3 : (tokensP (lineP a)).2.1 = 0 := Classical.byContradiction fun e => h2 (.inl e)
 have h4 : (streetP (tokensP (lineP a)).1 (a.unit == [])).1 = a.street := Classical.byContradiction fun e => h2 (.inr e)
 obtain ⟨c1, c2, _⟩ := tokensP_zero h3
 rw [c2] at h4
 exact ⟨b1, b2, named_ok b3, named_ok b4, b5, b6, b7, b8, b9, b10, b11, b12, c1, h4⟩
theorem kindOf_ne {l : List Tok} {ks : List Int} (h : kindOf l ks = true) {k : Int} (hk : ks.contains k = false) : ∀ t ∈ l, t.k ≠ k := by
 intro t ht e
 have := List.all_eq_true.1 h t ht
 rw [e] at this
 rw [hk] at this
 cases this
theorem own_toks {k : Int} {n : Nat} {x : Bs} (hf : wordsFine k n = true) (hw : wordsWord k = true) (ho : ownP k x = true) : (∀ t ∈ toksOf x, t.k ≠ 4) ∧ (toksOf x).length ≤ 1 ∧ x.length ≤ n := by
 by_cases h0 : x = []
 ·rw [h0, toks_nil]; exact ⟨(fun t ht => by cases ht), by simp, by simp⟩
 ·obtain ⟨a, _, c, _⟩ := own_word hf hw ho h0
  rw [a]
  exact ⟨fun t ht => by rw [List.mem_singleton.1 ht]; show (1 : Int) ≠ 4; decide, by simp, c⟩
theorem housed_ok {u : Bs} (h : housedP u = true) (h0 : u ≠ []) : okBs u ∧ (unitP (toksOf u)).2 = true ∧ (unitP (toksOf u)).1 = u ∧ ((toksOf u).getD 1 ⟨0, []⟩).t.length ≤ 10 := by
 unfold housedP at h
 dsimp only at h
 simp only [Bool.or_eq_true, beq_iff_eq, Bool.and_eq_true, decide_eq_true_eq] at h
 rcases h with h | ⟨⟨h1, h2⟩, h3⟩
 ·exact absurd h h0
 have h4 : (tokensP u).2.1 = 0 := by
  have hz : (tokensP u).1 = [] ∨ (tokensP u).2.1 = 0 := by
   unfold tokensP
   split
   ·exact .inl rfl
   ·split
    ·exact .inl rfl
    ·split
     ·exact .inl rfl
     ·exact .inr rfl
  rcases hz with hz | hz
  ·rw [hz] at h1; cases h1
  ·exact hz
 obtain ⟨a, b, _⟩ := tokensP_zero h4
 rw [b] at h1 h2 h3
 exact ⟨a, h1, h2, h3⟩
theorem unitP_shape {l : List Tok} (h : (unitP l).2 = true) (hl : ∀ t ∈ l, TokIs t) : (∀ t ∈ l, t.k ≠ 4) ∧ l.length = 2 ∧ (unitP l).1 ≠ [] := by
 unfold unitP at h ⊢
 match l, h, hl with
 | [a, b], h, hl =>
  by_cases h1 : b.k = 5 ∨ b.k = 4
  ·simp only [if_pos h1] at h; cases h
  simp only [if_neg h1] at h ⊢
  by_cases h2 : a.k = 5
  ·simp only [if_pos h2]
   refine ⟨fun t ht => ?_, rfl, by simp⟩
   simp only [List.mem_cons, List.not_mem_nil, or_false] at ht
   rcases ht with rfl | rfl
   ·omega
   ·exact fun e => h1 (.inr e)
  ·simp only [if_neg h2] at h ⊢
   refine ⟨fun t ht => ?_, rfl, by simp⟩
   simp only [List.mem_cons, List.not_mem_nil, or_false] at ht
   rcases ht with rfl | rfl
   ·intro e
    rw [(hl _ (by simp)).comma e] at h
    exact absurd h (by decide +kernel)
   ·exact fun e => h1 (.inr e)
theorem ahead_len (s : Bs) : (aheadP s).length ≤ s.length + 1 := by unfold aheadP; split <;> simp
theorem line_len {a : Ad} (h : CheckOk a) : (lineP a).length ≤ 60 := by
 obtain ⟨_, _, p3⟩ := own_toks words_fine.2.1 words_word.2.1 h.pre
 obtain ⟨_, _, s3⟩ := own_toks words_fine.1 words_word.1 h.suf
 obtain ⟨_, _, q3⟩ := own_toks words_fine.2.1 words_word.2.1 h.post
 have n3 := h.name.l40
 rw [lineP_eq]
 simp only [List.length_append]
 have h1 : (halfS a.half).length ≤ 4 := by unfold halfS; split <;> simp
 have h2 := ahead_len a.pre
 have h3 := ahead_len a.name
 have h4 := ahead_len a.suf
 have h5 := ahead_len a.post
 omega
theorem unit_len {l : List Tok} (h : (unitP l).2 = true) (h10 : (l.getD 1 ⟨0, []⟩).t.length ≤ 10) : (unitP l).1.length ≤ 15 := by
 unfold unitP at h ⊢
 match l, h, h10 with
 | [a, b], h, h10 =>
  have hb10 : b.t.length ≤ 10 := h10
  by_cases h1 : b.k = 5 ∨ b.k = 4
  ·simp only [if_pos h1] at h; cases h
  simp only [if_neg h1]
  by_cases h2 : a.k = 5
  ·simp only [if_pos h2, List.length_cons]; omega
  ·simp only [if_neg h2, List.length_append, List.length_cons]
   have := (shortP_ok words_fine.2.2.2 short0.2.2.2 a.t).len
   unfold shortT
   omega
theorem itoa_toks {n : Int} (h1 : 1 ≤ n) (h2 : n ≤ 999999) : ∃ k, toksOf (Lib.itoa n) = [⟨k, Lib.itoa n⟩] ∧ k ≠ 4 ∧ okBs (Lib.itoa n) ∧ (Lib.itoa n).length ≤ 6 := by
 obtain ⟨l1, l2, hd⟩ := digitsP_all (itoa_ok h1 h2).1
 obtain ⟨a, b, c⟩ := digs_all hd
 refine ⟨kindT (Lib.itoa n), ?_, by have := kindT_bd (Lib.itoa n); omega, c, l2⟩
 rw [toks_sound (by intro e; rw [e] at l1; simp at l1) a]
 unfold tokW
 rw [b]
end Go.Proofs.YtjaponmpfdpemaaGreatDoor
set_option linter.unusedSimpArgs false
set_option linter.unusedVariables false
namespace Go.Proofs.YtjaponmpfdpemaaGreatDoor
theorem Sr.meet_iff {s t : Sr} (hs : s.Num) (ht : t.Num) : s.meet t = true ↔ ∃ n, s.hasR n = true ∧ t.hasR n = true := by
 unfold Sr.meet Sr.over
 simp only [Bool.or_eq_true, Bool.and_eq_true, decide_eq_true_eq]
 have go : ∀ p : Int, p = 0 ∨ p = 1 → s.isQ p = true → t.isQ p = true → s.low p ≤ t.high p → t.low p ≤ s.high p → ∃ n, s.hasR n = true ∧ t.hasR n = true := fun p hp q1 q2 o1 o2 => by
  have l1 := Sr.isQ_low q1
  have l2 := Sr.isQ_low q2
  have e1 := (s.low_eq hs p hp).2.2
  have e2 := (t.low_eq ht p hp).2.2
  rcases Int.le_total (s.low p) (t.low p) with h | h
  ·refine ⟨t.low p, ?_, ?_⟩
   ·rw [s.has_iff hs, e2]; exact ⟨q1, h, o2⟩
   ·rw [t.has_iff ht, e2]; exact ⟨q2, Int.le_refl _, l2⟩
  ·refine ⟨s.low p, ?_, ?_⟩
   ·rw [s.has_iff hs, e1]; exact ⟨q1, Int.le_refl _, l1⟩
   ·rw [t.has_iff ht, e1]; exact ⟨q2, h, o1⟩
 constructor
 ·rintro (⟨⟨q1, q2⟩, o1, o2⟩ | ⟨⟨q1, q2⟩, o1, o2⟩)
  ·exact go 0 (.inl rfl) q1 q2 o1 o2
  ·exact go 1 (.inr rfl) q1 q2 o1 o2
 ·rintro ⟨n, h1, h2⟩
  rw [s.has_iff hs] at h1
  rw [t.has_iff ht] at h2
  obtain ⟨q1, a1, b1⟩ := h1
  obtain ⟨q2, a2, b2⟩ := h2
  rcases (show n % 2 = 0 ∨ n % 2 = 1 by omega) with e | e <;> rw [e] at q1 a1 b1 q2 a2 b2
  ·exact .inl ⟨⟨q1, q2⟩, by omega, by omega⟩
  ·exact .inr ⟨⟨q1, q2⟩, by omega, by omega⟩
def maxI (a b : Int) : Int := if a ≤ b then b else a
def minI (a b : Int) : Int := if a ≤ b then a else b
def Sr.bothR (a b : Sr) : Bool :=
 let lo := maxI a.fr b.fr
 let hi := minI a.to_ b.to_
 (decide (lo ≤ hi) && (a.hasR lo && b.hasR lo)) || (decide (lo + 1 ≤ hi) && (a.hasR (lo + 1) && b.hasR (lo + 1)))
theorem Sr.both_iff {a b : Sr} (ha : a.Num) (hb : b.Num) : a.bothR b = a.meet b := by
 rw [Bool.eq_iff_iff, Sr.meet_iff ha hb]
 unfold Sr.bothR
 simp only [Bool.or_eq_true, Bool.and_eq_true, decide_eq_true_eq]
 constructor
 ·rintro (⟨_, h1, h2⟩ | ⟨_, h1, h2⟩)
  ·exact ⟨_, h1, h2⟩
  ·exact ⟨_, h1, h2⟩
 ·rintro ⟨n, h1, h2⟩
  rw [a.hasR_iff ha] at h1 ⊢
  rw [b.hasR_iff hb] at h2 ⊢
  rw [a.hasR_iff ha, b.hasR_iff hb]
  have em : maxI a.fr b.fr = a.fr ∧ b.fr ≤ a.fr ∨ maxI a.fr b.fr = b.fr ∧ a.fr ≤ b.fr := by
   unfold maxI; split <;> omega
  have en : minI a.to_ b.to_ = a.to_ ∧ a.to_ ≤ b.to_ ∨ minI a.to_ b.to_ = b.to_ ∧ b.to_ ≤ a.to_ := by
   unfold minI; split <;> omega
  generalize maxI a.fr b.fr = lo at *
  generalize minI a.to_ b.to_ = hi at *
  obtain ⟨a1, a2, a3⟩ := h1
  obtain ⟨b1, b2, b3⟩ := h2
  by_cases e : (n - lo) % 2 = 0
  ·refine .inl ⟨by omega, ⟨by omega, by omega, ?_⟩, ⟨by omega, by omega, ?_⟩⟩
   ·rcases a3 with h | ⟨h, h'⟩ | ⟨h, h'⟩
    ·exact .inl h
    ·exact .inr (.inl ⟨h, by omega⟩)
    ·exact .inr (.inr ⟨h, by omega⟩)
   ·rcases b3 with h | ⟨h, h'⟩ | ⟨h, h'⟩
    ·exact .inl h
    ·exact .inr (.inl ⟨h, by omega⟩)
    ·exact .inr (.inr ⟨h, by omega⟩)
  ·refine .inr ⟨by omega, ⟨by omega, by omega, ?_⟩, ⟨by omega, by omega, ?_⟩⟩
   ·rcases a3 with h | ⟨h, h'⟩ | ⟨h, h'⟩
    ·exact .inl h
    ·exact .inr (.inl ⟨h, by omega⟩)
    ·exact .inr (.inr ⟨h, by omega⟩)
   ·rcases b3 with h | ⟨h, h'⟩ | ⟨h, h'⟩
    ·exact .inl h
    ·exact .inr (.inl ⟨h, by omega⟩)
    ·exact .inr (.inr ⟨h, by omega⟩)
theorem Free_.one {l : List Sr} (hF : Free_ l) (hN : ∀ s ∈ l, s.Num) {s t : Sr} (hs : s ∈ l) (ht : t ∈ l) {n : Int} (hk : s.key = t.key) (h1 : s.hasR n = true) (h2 : t.hasR n = true) : s = t := by
 obtain ⟨i, hi, rfl⟩ := List.mem_iff_getElem.1 hs
 obtain ⟨j, hj, rfl⟩ := List.mem_iff_getElem.1 ht
 have hp := List.pairwise_iff_getElem.1 hF
 have hm := (Sr.meet_iff (hN _ hs) (hN _ ht)).2 ⟨n, h1, h2⟩
 rcases Nat.lt_trichotomy i j with h | h | h
 ·exact absurd ⟨hk, hm⟩ (hp i j hi hj h)
 ·subst h; rfl
 ·exact absurd (Sr.clash_comm ⟨hk, hm⟩) (hp j i hj hi h)
theorem findR_some {l : List Sr} (hF : Free_ l) (hN : ∀ s ∈ l, s.Num) {a : Ad} (hc : checkP a = 0) {s : Sr} (hs : s ∈ l) (hk : s.key = a.key) (hh : s.hasR a.n = true) : findR l a = ((s.at_ a.n).1, 0) := by
 unfold findR
 rw [if_neg (by simp [hc])]
 cases hf : l.find? (fun s => decide (s.key = a.key) && s.hasR a.n) with
 | none =>
  rw [List.find?_eq_none] at hf
  exact absurd (by simp [hk, hh]) (hf s hs)
 | some t =>
  have ht := List.mem_of_find?_eq_some hf
  have hp := List.find?_some hf
  simp only [Bool.and_eq_true, decide_eq_true_eq] at hp
  rw [hF.one hN hs ht (hk.trans hp.1.symm) hh hp.2]
theorem findR_none {l : List Sr} {a : Ad} (hc : checkP a = 0) (h : ∀ s ∈ l, s.key = a.key → s.hasR a.n = false) : findR l a = ((0, 0), 6) := by
 unfold findR
 rw [if_neg (by simp [hc])]
 cases hf : l.find? (fun s => decide (s.key = a.key) && s.hasR a.n) with
 | none => rfl
 | some t =>
  have ht := List.mem_of_find?_eq_some hf
  have hp := List.find?_some hf
  simp only [Bool.and_eq_true, decide_eq_true_eq] at hp
  rw [h t ht hp.1] at hp
  cases hp.2
theorem find_eq {l : List Sr} {T : STab} (hN : ∀ s ∈ l, s.Num) (hT : tabP l = some T) (a : Ad) : findP T a = findR l a := by
 by_cases hc : checkP a = 0
 ·have hn := (checkP_ok hc).n1
  have hl : tabP (l.take l.length) = some T := by rw [List.take_length]; exact hT
  have hF : Free_ l := by
   have := (tabP_free hN l.length (Nat.le_refl _)).1 ⟨T, hl⟩
   rwa [List.take_length] at this
  have hH : Holds_ l T := by
   have := tabP_holds hN l.length (Nat.le_refl _) T hl
   rwa [List.take_length] at this
  have hO := tabP_ok hN l.length (Nat.le_refl _) T hl
  have hp : a.n % 2 = 0 ∨ a.n % 2 = 1 := by omega
  have e2 : a.n.tmod 2 = a.n % 2 := tmod2 (by omega)
  have hR : Row (a.n % 2) (rowT_ (T a.key) (a.n % 2)) := by
   rcases hp with h | h <;> rw [h]
   ·exact hO.even _
   ·exact hO.odd _
  have hm : ∀ t, t ∈ rowT_ (T a.key) (a.n % 2) ↔ t ∈ l ∧ t.key = a.key ∧ t.isQ (a.n % 2) = true := fun t => by
   rcases hp with h | h <;> rw [h]
   ·exact (hH a.key t).1
   ·exact (hH a.key t).2
  unfold findP
  rw [if_neg (by simp [hc]), e2]
  generalize hr : rowT_ (T a.key) (a.n % 2) = r at *
  obtain ⟨hk, h1, h2⟩ := hR.at_ (n := a.n)
  dsimp only
  cases hg : r[plK r (a.n % 2) a.n]? with
  | none =>
   have hK := List.getElem?_eq_none_iff.1 hg
   symm
   refine findR_none hc fun s hs hk' => ?_
   cases hh : s.hasR a.n with
   | false => rfl
   | true =>
    rw [s.has_iff (hN _ hs)] at hh
    obtain ⟨q, b1, b2⟩ := hh
    obtain ⟨i, hi, rfl⟩ := List.mem_iff_getElem.1 ((hm s).2 ⟨hs, hk', q⟩)
    have := h1 i hi (by omega)
    omega
  | some s =>
   obtain ⟨hK, rfl⟩ := List.getElem?_eq_some_iff.1 hg
   have hh := h2 _ hK (Nat.le_refl _)
   obtain ⟨m1, m2, m3⟩ := (hm _).1 (List.getElem_mem hK)
   by_cases hlo : (r[plK r (a.n % 2) a.n]).low (a.n % 2) ≤ a.n
   ·dsimp only
    rw [if_pos hlo]
    exact (findR_some hF hN hc m1 m2 ((Sr.has_iff (hN _ m1) a.n).2 ⟨m3, hlo, hh⟩)).symm
   ·dsimp only
    rw [if_neg hlo]
    symm
    refine findR_none hc fun s hs hk' => ?_
    cases hh' : s.hasR a.n with
    | false => rfl
    | true =>
     rw [s.has_iff (hN _ hs)] at hh'
     obtain ⟨q, b1, b2⟩ := hh'
     obtain ⟨i, hi, rfl⟩ := List.mem_iff_getElem.1 ((hm s).2 ⟨hs, hk', q⟩)
     rcases Nat.lt_trichotomy i (plK r (a.n % 2) a.n) with h | h | h
     ·have := h1 i hi h
      omega
     ·subst h; omega
     ·have h3 := hR.lt h hi
      have h4 := (hR.mem _ (List.getElem_mem hK)).2
      omega
 ·unfold findP findR
  rw [if_pos hc, if_pos hc]
def newR (l : List Sr) : Int × Int := if 500 < l.length then (8, 0) else if 0 ≤ srBad l then (2, srBad l) else match (List.range l.length).find? (clashR l) with
 | some k => (7, (k : Int))
 | none => (0, 0)
theorem srBad_num {l : List Sr} (h : ¬ 0 ≤ srBad l) : ∀ s ∈ l, s.check = 0 := fun s hm => by
 by_cases hz : s.check = 0
 ·exact hz
 ·refine absurd ?_ h
  unfold srBad
  cases hf : l.findIdx? (fun s => decide (s.check ≠ 0)) with
  | some q => exact Int.natCast_nonneg q
  | none =>
   rw [List.findIdx?_eq_none_iff] at hf
   have := hf s hm
   simp [hz] at this
theorem new_eq (l : List Sr) : (newP l).2 = newR l ∧ ((newP l).1.isSome ↔ (newR l).1 = 0) := by
 unfold newP newR
 by_cases h5 : 500 < l.length
 ·rw [if_pos h5, if_pos h5]; simp
 ·rw [if_neg h5, if_neg h5]
  by_cases hb : 0 ≤ srBad l
  ·rw [if_pos hb, if_pos hb]; simp
  ·rw [if_neg hb, if_neg hb]
   have hN : ∀ s ∈ l, s.Num := fun s hs => (Sr.check_ok (srBad_num hb s hs)).num
   cases hf : (List.range l.length).find? (clashR l) with
   | none =>
    rw [List.find?_eq_none] at hf
    obtain ⟨T, hT⟩ := tabP_some hN (fun j hj => by simpa using hf j (List.mem_range.2 hj))
    rw [hT]; simp
   | some k =>
    rw [List.find?_range_eq_some] at hf
    obtain ⟨h1, h2, h3⟩ := hf
    obtain ⟨e1, e2⟩ := clashK_of hN (by simpa using h2) (fun j hj => by simpa using h3 j hj) h1
    rw [e1, e2]; simp
end Go.Proofs.YtjaponmpfdpemaaGreatDoor
set_option linter.unusedSimpArgs false
set_option linter.unusedVariables false
namespace Go.Proofs.YtjaponmpfdpemaaGreatDoor
def btw (n a b : Int) : Bool := decide (minI a b ≤ n) && decide (n ≤ maxI a b)
def Sr.back (s : Sr) : Sr := { s with ax := s.bx, ay := s.by_, bx := s.ax, by_ := s.ay }
structure BtwLaw (s : Sr) (n m : Int) : Prop where
 is : (s.at_ n).2 = (s.side == 3 || ((s.side == 1) == (n.tmod 2 == 1)))
 none : (s.at_ n).2 = false → (s.at_ n).1 = (0, 0)
 box : (s.at_ n).2 = true → btw (s.at_ n).1.1 s.ax s.bx = true ∧ btw (s.at_ n).1.2 s.ay s.by_ = true
 first : (s.at_ n).2 = true → n = s.fr → (s.at_ n).1 = (s.ax, s.ay)
 last : (s.at_ n).2 = true → n = s.to_ → s.fr < s.to_ → (s.at_ n).1 = (s.bx, s.by_)
 more : (s.at_ n).2 = true → (s.at_ m).2 = true → n ≤ m → btw (s.at_ n).1.1 s.ax (s.at_ m).1.1 = true ∧ btw (s.at_ n).1.2 s.ay (s.at_ m).1.2 = true
 was : (s.at_ n).2 = true → (s.back.at_ (s.fr + s.to_ - n)).2 = false → (s.fr + s.to_).tmod 2 = 1 ∧ s.side ≠ 3
 same : (s.at_ n).2 = true → (s.back.at_ (s.fr + s.to_ - n)).2 = true → s.fr ≠ s.to_ → (s.back.at_ (s.fr + s.to_ - n)).1 = (s.at_ n).1
theorem srBad_iff (l : List Sr) : 0 ≤ srBad l ↔ ∃ s ∈ l, s.check ≠ 0 := by
 constructor
 ·intro h
  refine Classical.byContradiction fun hc => ?_
  have : srBad l = -1 := srBad_none fun i hi => Classical.byContradiction fun e => hc ⟨l[i], List.getElem_mem hi, e⟩
  omega
 ·rintro ⟨s, hs, hc⟩
  refine Classical.byContradiction fun h => hc (srBad_num h s hs)
theorem newR_ok (l : List Sr) : (newR l).1 = 0 ↔ l.length ≤ 500 ∧ (∀ s ∈ l, s.check = 0) ∧ Free_ l := by
 unfold newR
 by_cases h5 : 500 < l.length
 ·rw [if_pos h5]
  simp only [Int.reduceEq, false_iff]
  omega
 ·rw [if_neg h5]
  by_cases hb : 0 ≤ srBad l
  ·rw [if_pos hb]
   obtain ⟨s, hs, hc⟩ := (srBad_iff l).1 hb
   simp only [Int.reduceEq, false_iff]
   exact fun h => hc (h.2.1 s hs)
  ·rw [if_neg hb]
   have hC := srBad_num hb
   have hN : ∀ s ∈ l, s.Num := fun s hs => (Sr.check_ok (hC s hs)).num
   have key : (∃ T, tabP l = some T) ↔ Free_ l := by
    have := tabP_free hN l.length (Nat.le_refl _)
    rwa [List.take_length] at this
   have hn := (new_eq l).2
   unfold newP newR at hn
   rw [if_neg h5, if_neg hb, if_neg h5, if_neg hb] at hn
   rw [← hn]
   constructor
   ·intro h
    refine ⟨by omega, hC, key.1 ?_⟩
    cases hT : tabP l with
    | some T => exact ⟨T, rfl⟩
    | none => rw [hT] at h; cases h
   ·rintro ⟨_, _, hF⟩
    obtain ⟨T, hT⟩ := key.2 hF
    rw [hT]; rfl
end Go.Proofs.YtjaponmpfdpemaaGreatDoor
namespace Go.Proofs
open Go.Shelf
def Tryz.lays166_ren : Go.Shelf.Ren := ⟨fun | 156 => 115 | 165 => 143 | 166 => 84 | 169 => 85 | 240 => 127 | 241 => 164 | 276 => 151 | 277 => 179 | n => n, fun | 31 => 82 | 9 => 9 | 3 => 3 | 4 => 4 | 0 => 0 | 20 => 20 | 72 => 131 | 76 => 134 | 70 => 128 | 37 => 129 | 75 => 133 | 127 => 182 | 164 => 203 | 5 => 5 | 80 => 115 | n => n, fun | n => n⟩
theorem Tryz.lays166 : Go.Proofs.Lays.n166 Tryz.prog Tryz.lays166_ren := {
 mixed := by kernel_rfl
 f166 := Tryz.func84.trans (congrArg some (by kernel_rfl))
 f240 := Tryz.func127.trans (congrArg some (by kernel_rfl))
 f276 := Tryz.func151.trans (congrArg some (by kernel_rfl))
 t0 := Tryz.underlying0
 a0 := Tryz.isAgg0
 z0 := Tryz.sizeOf0
 v0 := Tryz.zeroValue0
 t3 := Tryz.underlying3
 a3 := Tryz.isAgg3
 z3 := Tryz.sizeOf3
 v3 := Tryz.zeroValue3
 t4 := Tryz.underlying4
 a4 := Tryz.isAgg4
 z4 := Tryz.sizeOf4
 v4 := Tryz.zeroValue4
 t9 := Tryz.underlying9
 a9 := Tryz.isAgg9
 z9 := Tryz.sizeOf9
 v9 := Tryz.zeroValue9
 t20 := Tryz.underlying20
 a20 := Tryz.isAgg20
 z20 := Tryz.sizeOf20
 v20 := Tryz.zeroValue20
 t37 := Tryz.underlying129
 a37 := Tryz.isAgg129
 z37 := Tryz.sizeOf129
 v37 := Tryz.zeroValue129
 t70 := Tryz.underlying128
 a70 := Tryz.isAgg128
 z70 := Tryz.sizeOf128
 v70 := Tryz.zeroValue128
 t72 := Tryz.underlying131
 a72 := Tryz.isAgg131
 z72 := Tryz.sizeOf131
 v72 := Tryz.zeroValue131
 t75 := Tryz.underlying133
 a75 := Tryz.isAgg133
 z75 := Tryz.sizeOf133
 v75 := Tryz.zeroValue133
 t164 := Tryz.underlying203
 a164 := Tryz.isAgg203
 z164 := Tryz.sizeOf203
 v164 := Tryz.zeroValue203 }
theorem Tryz.Builder_Extra_166 : Builder.Extra Tryz.prog Tryz.lays166_ren := {
 sizeBuilder := by kernel_rfl
 liesBuilder := by kernel_rfl
 t5 := Tryz.underlying5
 a5 := Tryz.isAgg5
 z5 := Tryz.sizeOf5
 v5 := Tryz.zeroValue5
 infoByte := by kernel_rfl
 cellsByte := by kernel_rfl
 sizeByte := by kernel_rfl
 neB5 := by decide }
def Tryz.laysC172_ren : Go.Shelf.Ren := ⟨fun | 172 => 93 | 244 => 128 | 245 => 129 | 247 => 152 | 279 => 153 | 280 => 154 | 281 => 155 | 282 => 156 | 287 => 171 | 316 => 172 | 171 => 174 | 205 => 173 | 321 => 187 | 322 => 188 | 243 => 189 | 246 => 205 | 283 => 216 | 284 => 217 | 285 => 218 | 286 => 219 | 129 => 159 | 317 => 221 | 318 => 222 | 319 => 223 | 320 => 224 | 337 => 225 | 338 => 226 | n => n, fun | 9 => 9 | 3 => 3 | 75 => 133 | 76 => 134 | 4 => 4 | 5 => 5 | 167 => 205 | 37 => 129 | 0 => 0 | 85 => 206 | 2 => 2 | 168 => 208 | 53 => 96 | 175 => 216 | 46 => 165 | 210 => 219 | 127 => 182 | 145 => 234 | 143 => 232 | 21 => 21 | 171 => 270 | 173 => 272 | 212 => 280 | 51 => 235 | 20 => 20 | 213 => 281 | 232 => 282 | 233 => 283 | 80 => 115 | n => n, fun | 15 => 2 | 16 => 3 | 17 => 9 | 18 => 10 | 19 => 11 | n => n⟩
theorem Tryz.laysC172 : Go.Proofs.LaysC.n172 Tryz.prog Tryz.laysC172_ren := {
 mixed := by kernel_rfl
 f129 := Tryz.func159.trans (congrArg some (by kernel_rfl))
 f171 := Tryz.func174.trans (congrArg some (by kernel_rfl))
 f172 := Tryz.func93.trans (congrArg some (by kernel_rfl))
 f205 := Tryz.func173.trans (congrArg some (by kernel_rfl))
 f243 := Tryz.func189.trans (congrArg some (by kernel_rfl))
 f244 := Tryz.func128.trans (congrArg some (by kernel_rfl))
 f245 := Tryz.func129.trans (congrArg some (by kernel_rfl))
 f246 := Tryz.func205.trans (congrArg some (by kernel_rfl))
 f247 := Tryz.func152.trans (congrArg some (by kernel_rfl))
 f279 := Tryz.func153.trans (congrArg some (by kernel_rfl))
 f280 := Tryz.func154.trans (congrArg some (by kernel_rfl))
 f281 := Tryz.func155.trans (congrArg some (by kernel_rfl))
 f282 := Tryz.func156.trans (congrArg some (by kernel_rfl))
 f283 := Tryz.func216.trans (congrArg some (by kernel_rfl))
 f284 := Tryz.func217.trans (congrArg some (by kernel_rfl))
 f285 := Tryz.func218.trans (congrArg some (by kernel_rfl))
 f286 := Tryz.func219.trans (congrArg some (by kernel_rfl))
 f287 := Tryz.func171.trans (congrArg some (by kernel_rfl))
 f316 := Tryz.func172.trans (congrArg some (by kernel_rfl))
 f317 := Tryz.func221.trans (congrArg some (by kernel_rfl))
 f318 := Tryz.func222.trans (congrArg some (by kernel_rfl))
 f319 := Tryz.func223.trans (congrArg some (by kernel_rfl))
 f320 := Tryz.func224.trans (congrArg some (by kernel_rfl))
 f321 := Tryz.func187.trans (congrArg some (by kernel_rfl))
 f322 := Tryz.func188.trans (congrArg some (by kernel_rfl))
 f337 := Tryz.func225.trans (congrArg some (by kernel_rfl))
 f338 := Tryz.func226.trans (congrArg some (by kernel_rfl))
 t0 := Tryz.underlying0
 a0 := Tryz.isAgg0
 z0 := Tryz.sizeOf0
 v0 := Tryz.zeroValue0
 t2 := Tryz.underlying2
 a2 := Tryz.isAgg2
 z2 := Tryz.sizeOf2
 v2 := Tryz.zeroValue2
 t3 := Tryz.underlying3
 a3 := Tryz.isAgg3
 z3 := Tryz.sizeOf3
 v3 := Tryz.zeroValue3
 t4 := Tryz.underlying4
 a4 := Tryz.isAgg4
 z4 := Tryz.sizeOf4
 v4 := Tryz.zeroValue4
 t5 := Tryz.underlying5
 a5 := Tryz.isAgg5
 z5 := Tryz.sizeOf5
 v5 := Tryz.zeroValue5
 t9 := Tryz.underlying9
 a9 := Tryz.isAgg9
 z9 := Tryz.sizeOf9
 v9 := Tryz.zeroValue9
 t20 := Tryz.underlying20
 a20 := Tryz.isAgg20
 z20 := Tryz.sizeOf20
 v20 := Tryz.zeroValue20
 t21 := Tryz.underlying21
 a21 := Tryz.isAgg21
 z21 := Tryz.sizeOf21
 v21 := Tryz.zeroValue21
 t37 := Tryz.underlying129
 a37 := Tryz.isAgg129
 z37 := Tryz.sizeOf129
 v37 := Tryz.zeroValue129
 t46 := Tryz.underlying165
 a46 := Tryz.isAgg165
 z46 := Tryz.sizeOf165
 v46 := Tryz.zeroValue165
 t51 := Tryz.underlying235
 a51 := Tryz.isAgg235
 z51 := Tryz.sizeOf235
 v51 := Tryz.zeroValue235
 t53 := Tryz.underlying96
 a53 := Tryz.isAgg96
 z53 := Tryz.sizeOf96
 v53 := Tryz.zeroValue96
 t75 := Tryz.underlying133
 a75 := Tryz.isAgg133
 z75 := Tryz.sizeOf133
 v75 := Tryz.zeroValue133
 t76 := Tryz.underlying134
 a76 := Tryz.isAgg134
 z76 := Tryz.sizeOf134
 v76 := Tryz.zeroValue134
 t85 := Tryz.underlying206
 a85 := Tryz.isAgg206
 z85 := Tryz.sizeOf206
 v85 := Tryz.zeroValue206
 t127 := Tryz.underlying182
 a127 := Tryz.isAgg182
 z127 := Tryz.sizeOf182
 v127 := Tryz.zeroValue182
 t143 := Tryz.underlying232
 a143 := Tryz.isAgg232
 z143 := Tryz.sizeOf232
 v143 := Tryz.zeroValue232
 t145 := Tryz.underlying234
 a145 := Tryz.isAgg234
 z145 := Tryz.sizeOf234
 v145 := Tryz.zeroValue234
 t167 := Tryz.underlying205
 a167 := Tryz.isAgg205
 z167 := Tryz.sizeOf205
 v167 := Tryz.zeroValue205
 t168 := Tryz.underlying208
 a168 := Tryz.isAgg208
 z168 := Tryz.sizeOf208
 v168 := Tryz.zeroValue208
 t171 := Tryz.underlying270
 a171 := Tryz.isAgg270
 z171 := Tryz.sizeOf270
 v171 := Tryz.zeroValue270
 t173 := Tryz.underlying272
 a173 := Tryz.isAgg272
 z173 := Tryz.sizeOf272
 v173 := Tryz.zeroValue272
 t175 := Tryz.underlying216
 a175 := Tryz.isAgg216
 z175 := Tryz.sizeOf216
 v175 := Tryz.zeroValue216
 t210 := Tryz.underlying219
 a210 := Tryz.isAgg219
 z210 := Tryz.sizeOf219
 v210 := Tryz.zeroValue219
 t212 := Tryz.underlying280
 a212 := Tryz.isAgg280
 z212 := Tryz.sizeOf280
 v212 := Tryz.zeroValue280
 t213 := Tryz.underlying281
 a213 := Tryz.isAgg281
 z213 := Tryz.sizeOf281
 t232 := Tryz.underlying282
 a232 := Tryz.isAgg282
 z232 := Tryz.sizeOf282
 v232 := Tryz.zeroValue282
 t233 := Tryz.underlying283
 a233 := Tryz.isAgg283
 z233 := Tryz.sizeOf283
 v233 := Tryz.zeroValue283
 g15 := by kernel_rfl
 g16 := by kernel_rfl
 g17 := by kernel_rfl
 g18 := by kernel_rfl
 g19 := by kernel_rfl
 t80 := Tryz.underlying115
 a80 := Tryz.isAgg115
 z80 := Tryz.sizeOf115
 v80 := Tryz.zeroValue115
 i0 := by kernel_rfl
 i2 := by kernel_rfl
 i3 := by kernel_rfl
 i4 := by kernel_rfl
 i5 := by kernel_rfl
 i9 := by kernel_rfl
 i20 := by kernel_rfl
 i21 := by kernel_rfl
 i37 := by kernel_rfl
 i46 := by kernel_rfl
 i51 := by kernel_rfl
 i53 := by kernel_rfl
 i75 := by kernel_rfl
 i76 := by kernel_rfl
 i80 := by kernel_rfl
 i85 := by kernel_rfl
 i127 := by kernel_rfl
 i143 := by kernel_rfl
 i145 := by kernel_rfl
 i167 := by kernel_rfl
 i168 := by kernel_rfl
 i171 := by kernel_rfl
 i173 := by kernel_rfl
 i175 := by kernel_rfl
 i210 := by kernel_rfl
 i212 := by kernel_rfl
 i232 := by kernel_rfl
 i233 := by kernel_rfl
 m15 := by kernel_rfl
 m16 := by kernel_rfl
 m17 := by kernel_rfl
 m18 := by kernel_rfl
 m19 := by kernel_rfl
 c0 := by kernel_rfl
 c2 := by kernel_rfl
 c3 := by kernel_rfl
 c4 := by kernel_rfl
 c5 := by kernel_rfl
 c9 := by kernel_rfl
 c20 := by kernel_rfl
 c21 := by kernel_rfl
 c37 := by kernel_rfl
 c46 := by kernel_rfl
 c51 := by kernel_rfl
 c53 := by kernel_rfl
 c75 := by kernel_rfl
 c76 := by kernel_rfl
 c80 := by kernel_rfl
 c85 := by kernel_rfl
 c127 := by kernel_rfl
 c143 := by kernel_rfl
 c145 := by kernel_rfl
 c167 := by kernel_rfl
 c168 := by kernel_rfl
 c171 := by kernel_rfl
 c173 := by kernel_rfl
 c175 := by kernel_rfl
 c210 := by kernel_rfl
 c212 := by kernel_rfl
 c213 := by kernel_rfl
 c232 := by kernel_rfl
 c233 := by kernel_rfl }
end Go.Proofs
namespace Go.Proofs
open Go.Shelf
def Tryz.lays160_ren : Go.Shelf.Ren := ⟨fun | 160 => 80 | 232 => 119 | 231 => 118 | 227 => 120 | 234 => 122 | 233 => 121 | 236 => 124 | 235 => 123 | 228 => 145 | 271 => 148 | 151 => 147 | 197 => 146 | 120 => 170 | 152 => 169 | 260 => 168 | 137 => 185 | 119 => 186 | 224 => 177 | 225 => 176 | 217 => 175 | 266 => 190 | n => n, fun | 9 => 9 | 4 => 4 | 3 => 3 | 5 => 5 | 117 => 177 | 116 => 176 | 0 => 0 | 124 => 180 | 21 => 21 | 105 => 200 | 46 => 165 | 119 => 121 | 139 => 230 | 138 => 229 | n => n, fun | 3 => 6 | 4 => 7 | n => n⟩
theorem Tryz.lays160 : Go.Proofs.Lays.n160 Tryz.prog Tryz.lays160_ren := {
 mixed := by kernel_rfl
 f119 := Tryz.func186.trans (congrArg some (by kernel_rfl))
 f120 := Tryz.func170.trans (congrArg some (by kernel_rfl))
 f137 := Tryz.func185.trans (congrArg some (by kernel_rfl))
 f151 := Tryz.func147.trans (congrArg some (by kernel_rfl))
 f152 := Tryz.func169.trans (congrArg some (by kernel_rfl))
 f160 := Tryz.func80.trans (congrArg some (by kernel_rfl))
 f197 := Tryz.func146.trans (congrArg some (by kernel_rfl))
 f217 := Tryz.func175.trans (congrArg some (by kernel_rfl))
 f224 := Tryz.func177.trans (congrArg some (by kernel_rfl))
 f225 := Tryz.func176.trans (congrArg some (by kernel_rfl))
 f227 := Tryz.func120.trans (congrArg some (by kernel_rfl))
 f228 := Tryz.func145.trans (congrArg some (by kernel_rfl))
 f231 := Tryz.func118.trans (congrArg some (by kernel_rfl))
 f232 := Tryz.func119.trans (congrArg some (by kernel_rfl))
 f233 := Tryz.func121.trans (congrArg some (by kernel_rfl))
 f234 := Tryz.func122.trans (congrArg some (by kernel_rfl))
 f235 := Tryz.func123.trans (congrArg some (by kernel_rfl))
 f236 := Tryz.func124.trans (congrArg some (by kernel_rfl))
 f260 := Tryz.func168.trans (congrArg some (by kernel_rfl))
 f266 := Tryz.func190.trans (congrArg some (by kernel_rfl))
 f271 := Tryz.func148.trans (congrArg some (by kernel_rfl))
 t0 := Tryz.underlying0
 a0 := Tryz.isAgg0
 z0 := Tryz.sizeOf0
 v0 := Tryz.zeroValue0
 t3 := Tryz.underlying3
 a3 := Tryz.isAgg3
 z3 := Tryz.sizeOf3
 v3 := Tryz.zeroValue3
 t4 := Tryz.underlying4
 a4 := Tryz.isAgg4
 z4 := Tryz.sizeOf4
 v4 := Tryz.zeroValue4
 t5 := Tryz.underlying5
 a5 := Tryz.isAgg5
 z5 := Tryz.sizeOf5
 v5 := Tryz.zeroValue5
 t9 := Tryz.underlying9
 a9 := Tryz.isAgg9
 z9 := Tryz.sizeOf9
 v9 := Tryz.zeroValue9
 t21 := Tryz.underlying21
 a21 := Tryz.isAgg21
 z21 := Tryz.sizeOf21
 v21 := Tryz.zeroValue21
 t46 := Tryz.underlying165
 a46 := Tryz.isAgg165
 z46 := Tryz.sizeOf165
 v46 := Tryz.zeroValue165
 t105 := Tryz.underlying200
 a105 := Tryz.isAgg200
 z105 := Tryz.sizeOf200
 v105 := Tryz.zeroValue200
 t116 := Tryz.underlying176
 a116 := Tryz.isAgg176
 z116 := Tryz.sizeOf176
 t117 := Tryz.underlying177
 a117 := Tryz.isAgg177
 z117 := Tryz.sizeOf177
 v117 := Tryz.zeroValue177
 t119 := Tryz.underlying121
 a119 := Tryz.isAgg121
 z119 := Tryz.sizeOf121
 t124 := Tryz.underlying180
 a124 := Tryz.isAgg180
 z124 := Tryz.sizeOf180
 v124 := Tryz.zeroValue180
 t138 := Tryz.underlying229
 a138 := Tryz.isAgg229
 z138 := Tryz.sizeOf229
 v138 := Tryz.zeroValue229
 t139 := Tryz.underlying230
 a139 := Tryz.isAgg230
 z139 := Tryz.sizeOf230
 v139 := Tryz.zeroValue230
 g3 := by kernel_rfl
 g4 := by kernel_rfl }
end Go.Proofs
