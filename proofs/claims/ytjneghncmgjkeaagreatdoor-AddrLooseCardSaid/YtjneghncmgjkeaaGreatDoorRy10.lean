/-
  Plain: the text of an address that may be is parsed as it.
-/
import Derived.Test.YtjneghncmgjkeaaGreatDoorRy08
import Derived.Test.YtjneghncmgjkeaaGreatDoorRy09
set_option linter.unusedVariables false
namespace Go.Proofs.YtjneghncmgjkeaaGreatDoor

/-! ### Numerals -/
theorem digB_cls {c : UInt8} (h : digB c = true) : clsB c = 3 ∧ sndB c = true ∧ upB c = c := by
  have h1 : 48 ≤ c.toNat ∧ c.toNat ≤ 57 := by simpa [digB] using h
  have e : clsB c = 3 := by unfold clsB; rw [if_neg (by omega), if_pos h1]
  refine ⟨e, by unfold sndB; rw [e]; rfl, ?_⟩
  unfold upB
  rw [if_neg (by omega)]
theorem digs_all {x : Bs} (h : x.all digB = true) : x.all sndB = true ∧ upS x = x ∧ ∀ c ∈ x, clsB c ≠ 0 := by
  refine ⟨List.all_eq_true.2 fun c hc => (digB_cls (List.all_eq_true.1 h c hc)).2.1, ?_, fun c hc => by rw [(digB_cls (List.all_eq_true.1 h c hc)).1]; decide⟩
  unfold upS
  have : ∀ l : Bs, (∀ c ∈ l, upB c = c) → l.map upB = l := by
    intro l
    induction l with
    | nil => intro _; rfl
    | cons d l ih => intro hl; rw [List.map_cons, hl d (by simp), ih fun c hc => hl c (by simp [hc])]
  exact this x fun c hc => (digB_cls (List.all_eq_true.1 h c hc)).2.2
theorem dig_of {k : Nat} (h : k < 10) : digB (UInt8.ofNat (48 + k)) = true ∧ ((UInt8.ofNat (48 + k)).toNat : Int) - 48 = k := by
  have e : (UInt8.ofNat (48 + k)).toNat = 48 + k := by
    simp
    omega
  unfold digB
  rw [e]
  exact ⟨decide_eq_true (by omega), by omega⟩
theorem numP_snoc (x : Bs) (c : UInt8) : numP (x ++ [c]) = 10 * numP x + ((c.toNat : Int) - 48) := by simp [numP, List.foldl_append]
theorem decDigits_ok (u : Nat) : (Lib.decDigits u).all digB = true ∧ numP (Lib.decDigits u) = u := by
  induction u using Nat.strongRecOn with
  | _ u ih =>
    rw [Lib.decDigits]
    by_cases h : u < 10
    · rw [dif_pos h]
      obtain ⟨a, b⟩ := dig_of h
      refine ⟨by rw [List.all_cons, a]; rfl, ?_⟩
      have := numP_snoc [] (UInt8.ofNat (48 + u))
      rw [List.nil_append] at this
      rw [this, b]
      simp [numP]
    · rw [dif_neg h]
      obtain ⟨a, b⟩ := ih (u / 10) (by omega)
      obtain ⟨c, d⟩ := dig_of (k := u % 10) (by omega)
      refine ⟨by rw [List.all_append, a, List.all_cons, c]; rfl, ?_⟩
      rw [numP_snoc, b, d]
      omega
theorem nd_le : ∀ (k u : Nat), u < 10 ^ (k + 1) → Lib.nDigits u ≤ k + 1
  | 0, u, h => by rw [Lib.nDigits_small (by simpa using h)]; omega
  | k + 1, u, h => by
    by_cases h1 : u < 10
    · rw [Lib.nDigits_small h1]; omega
    · rw [Lib.nDigits_big h1]
      have := nd_le k (u / 10) (by rw [Nat.pow_succ] at h; omega)
      omega
theorem itoa_ok {n : Int} (h1 : 1 ≤ n) (h2 : n ≤ 999999) : digitsP (Lib.itoa n) 1 6 = true ∧ numP (Lib.itoa n) = n := by
  have e : Lib.itoa n = Lib.decDigits n.toNat := by unfold Lib.itoa; rw [if_neg (by omega)]
  rw [e]
  obtain ⟨a, b⟩ := decDigits_ok n.toNat
  have hl := Lib.decDigits_length n.toNat
  have hp := Lib.nDigits_pos n.toNat
  have hd := nd_le 5 n.toNat (by omega)
  refine ⟨?_, by rw [b]; omega⟩
  unfold digitsP
  rw [a, Bool.and_true]
  exact decide_eq_true (by omega)
theorem digitsP_all {x : Bs} {lo hi : Nat} (h : digitsP x lo hi = true) : lo ≤ x.length ∧ x.length ≤ hi ∧ x.all digB = true := by
  unfold digitsP at h
  rw [Bool.and_eq_true, decide_eq_true_eq] at h
  exact ⟨h.1.1, h.1.2, h.2⟩
/-! ### Short forms -/
def wordsWord (k : Int) : Bool := (wordsP k).all fun p => p.s.all sndB && kindT p.s == 1
theorem words_word : wordsWord 1 = true ∧ wordsWord 2 = true ∧ wordsWord 3 = true ∧ wordsWord 4 = true := by decide +kernel
theorem own_word {k : Int} {n : Nat} {x : Bs} (hf : wordsFine k n = true) (hw : wordsWord k = true) (ho : ownP k x = true) (h0 : x ≠ []) :
    toksOf x = [⟨1, x⟩] ∧ (∀ c ∈ x, clsB c ≠ 0) ∧ x.length ≤ n ∧ shortP k x = (x, true) := by
  unfold ownP at ho
  rw [beq_iff_eq] at ho
  have h2 : (shortP k x).2 = true := by
    cases he : (shortP k x).2 with
    | true => rfl
    | false => rw [shortP_none he] at ho; exact absurd ho.symm h0
  obtain ⟨p, hp, e⟩ := shortP_mem h2
  have h3 := List.all_eq_true.1 hf p hp
  have h4 := List.all_eq_true.1 hw p hp
  simp only [Bool.and_eq_true, beq_iff_eq, decide_eq_true_eq] at h3 h4
  have ex : x = p.s := by rw [← ho, e]
  rw [ex]
  refine ⟨?_, fun c hc => ?_, h3.1.1.2, h3.1.2⟩
  · rw [toks_sound (by rw [← ex]; exact h0) h4.1]
    unfold tokW
    rw [h3.1.1.1, h4.2]
  · have := List.all_eq_true.1 h4.1 c hc
    intro e0
    unfold sndB at this
    rw [e0] at this
    cases this
/-! ### What may stand in a line -/
def okBs (x : Bs) : Prop := ∀ c ∈ x, clsB c ≠ 0
theorem okBs_bad {x : Bs} : badAt x = none ↔ okBs x := by
  unfold badAt okBs
  rw [List.findIdx?_eq_none_iff]
  simp
theorem tokensP_zero {s : Bs} (h : (tokensP s).2.1 = 0) : okBs s ∧ tokensP s = (toksOf s, 0, 0) ∧ s.length ≤ 200 := by
  unfold tokensP at h ⊢
  by_cases h1 : 200 < s.length
  · rw [if_pos h1] at h; cases h
  · rw [if_neg h1] at h ⊢
    cases hb : badAt s with
    | some i => rw [hb] at h; cases h
    | none =>
      rw [hb] at h
      simp only at h ⊢
      by_cases h2 : 40 < (toksOf s).length
      · rw [if_pos h2] at h; cases h
      · rw [if_neg h2]
        exact ⟨okBs_bad.1 hb, rfl, by omega⟩
theorem tokensP_of {s : Bs} (h1 : okBs s) (h2 : s.length ≤ 200) (h3 : (toksOf s).length ≤ 40) : tokensP s = (toksOf s, 0, 0) := by
  unfold tokensP
  rw [if_neg (by omega), okBs_bad.2 h1]
  simp only
  rw [if_neg (by omega)]
theorem okBs_app {x y : Bs} (hx : okBs x) (hy : okBs y) : okBs (x ++ y) := fun c hc => by
  rcases List.mem_append.1 hc with h | h
  · exact hx c h
  · exact hy c h
theorem toks_nil : toksOf [] = [] := by decide +kernel
theorem toks_sp1 (y : Bs) : toksOf (32 :: y) = toksOf y := by
  have := toks_sp [] y
  rw [toks_nil] at this
  exact this
theorem toks_ahead (x s : Bs) : toksOf (x ++ aheadP s) = toksOf x ++ toksOf s := by
  unfold aheadP
  by_cases h : s = []
  · rw [if_pos h, h, toks_nil, List.append_nil, List.append_nil]
  · rw [if_neg h, toks_sp]
def halfS (b : Bool) : Bs := if b then [32, 49, 47, 50] else []
theorem toks_half (x : Bs) (b : Bool) : toksOf (x ++ halfS b) = toksOf x ++ (if b then [halfT] else []) := by
  unfold halfS
  cases b with
  | false => simp
  | true =>
    simp only [if_true]
    rw [toks_sp, show toksOf [49, 47, 50] = [halfT] by decide +kernel]
theorem lineP_eq (a : Ad) : lineP a = halfS a.half ++ aheadP a.pre ++ aheadP a.name ++ aheadP a.suf ++ aheadP a.post := rfl
theorem toks_line (x : Bs) (a : Ad) : toksOf (x ++ lineP a) = toksOf x ++ toksOf (lineP a) := by
  have key : ∀ y : Bs, toksOf (y ++ lineP a) = toksOf y ++ ((if a.half then [halfT] else []) ++ toksOf a.pre ++ toksOf a.name ++ toksOf a.suf ++ toksOf a.post) := fun y => by
    rw [lineP_eq]
    simp only [← List.append_assoc]
    rw [toks_ahead, toks_ahead, toks_ahead, toks_ahead, toks_half]
  have h1 := key x
  have h2 := key []
  rw [toks_nil, List.nil_append, List.nil_append] at h2
  rw [h1, h2]
theorem toks_lineP (a : Ad) : toksOf (lineP a) = (if a.half then [halfT] else []) ++ toksOf a.pre ++ toksOf a.name ++ toksOf a.suf ++ toksOf a.post := by
  have h := lineP_eq a
  have h0 := toks_half [] a.half
  rw [toks_nil, List.nil_append, List.nil_append] at h0
  rw [h, toks_ahead, toks_ahead, toks_ahead, toks_ahead, h0]
theorem partsP_one : ∀ {l : List Tok}, (∀ t ∈ l, t.k ≠ 4) → partsP l = [l]
  | [], _ => rfl
  | t :: l, h => by
    unfold partsP
    rw [if_neg (h t (by simp)), partsP_one fun x hx => h x (by simp [hx])]
theorem partsP_cut {m : List Tok} : ∀ {l : List Tok}, (∀ t ∈ l, t.k ≠ 4) → partsP (l ++ tComma :: m) = l :: partsP m
  | [], _ => by
    show partsP (tComma :: m) = _
    rw [partsP, if_pos (show tComma.k = 4 from rfl)]
  | t :: l, h => by
    rw [List.cons_append, partsP, if_neg (h t (by simp)), partsP_cut fun x hx => h x (by simp [hx])]
theorem cutDash_dig : ∀ {x : Bs}, x.all digB = true → cutDash x = (x, [], false)
  | [], _ => rfl
  | c :: x, h => by
    simp only [List.all_cons, Bool.and_eq_true] at h
    have hc : ¬ c = 45 := by
      rintro rfl
      exact absurd h.1 (by decide)
    rw [cutDash, if_neg hc, cutDash_dig h.2]
theorem cutDash_two {y : Bs} : ∀ {x : Bs}, x.all digB = true → cutDash (x ++ 45 :: y) = (x, y, true)
  | [], _ => by rw [List.nil_append, cutDash, if_pos rfl]
  | c :: x, h => by
    simp only [List.all_cons, Bool.and_eq_true] at h
    have hc : ¬ c = 45 := by
      rintro rfl
      exact absurd h.1 (by decide)
    rw [List.cons_append, cutDash, if_neg hc, cutDash_two h.2]
theorem wordB_all : ∀ (x : Bs) (p : Bool), x.all sndB = true → (x ≠ [] ∨ p = true) → wordB p x = true
  | [], p, _, h => by
    rcases h with h | h
    · exact absurd rfl h
    · exact h
  | c :: x, p, h, _ => by
    simp only [List.all_cons, Bool.and_eq_true] at h
    rw [wordB, if_pos h.1]
    exact wordB_all x true h.2 (.inr rfl)
theorem wordB_dash {y : Bs} (hy : y.all sndB = true) (hy0 : y ≠ []) : ∀ (x : Bs) (p : Bool), x.all sndB = true → (x ≠ [] ∨ p = true) → wordB p (x ++ 45 :: y) = true
  | [], p, _, h => by
    have hp : p = true := by
      rcases h with h | h
      · exact absurd rfl h
      · exact h
    subst hp
    have hn : nextSnd y = true := by
      cases y with
      | nil => exact absurd rfl hy0
      | cons d y => simp only [List.all_cons, Bool.and_eq_true] at hy; exact hy.1
    rw [List.nil_append, wordB, if_neg (by decide), hn, wordB_all y false hy (.inl hy0)]
    decide
  | c :: x, p, h, _ => by
    simp only [List.all_cons, Bool.and_eq_true] at h
    rw [List.cons_append, wordB, if_pos h.1]
    exact wordB_dash hy hy0 x true h.2 (.inr rfl)
/-- The ZIP, and four digits more. -/
def zipS (a : Ad) : Bs := a.zip ++ (if a.more = [] then [] else 45 :: a.more)
theorem zip_ok {a : Ad} (h1 : digitsP a.zip 5 5 = true) (h2 : a.more = [] ∨ digitsP a.more 4 4 = true) :
    (∃ k, toksOf (zipS a) = [⟨k, zipS a⟩] ∧ k ≠ 4) ∧ cutDash (zipS a) = (a.zip, a.more, decide (a.more ≠ [])) ∧ okBs (zipS a) ∧ (zipS a).length ≤ 10 := by
  obtain ⟨l1, l2, hz⟩ := digitsP_all h1
  obtain ⟨z1, z2, z3⟩ := digs_all hz
  have hz0 : a.zip ≠ [] := by intro e; rw [e] at l1; simp at l1
  unfold zipS
  by_cases hm : a.more = []
  · rw [if_pos hm, List.append_nil, cutDash_dig hz, hm]
    refine ⟨⟨kindT a.zip, ?_, by have := kindT_bd a.zip; omega⟩, by simp, z3, by omega⟩
    rw [toks_sound hz0 z1]
    unfold tokW
    rw [z2]
  · rw [if_neg hm]
    rcases h2 with h2 | h2
    · exact absurd h2 hm
    obtain ⟨m1, m2, hmm⟩ := digitsP_all h2
    obtain ⟨y1, y2, y3⟩ := digs_all hmm
    have hup : upS (a.zip ++ 45 :: a.more) = a.zip ++ 45 :: a.more := by
      unfold upS at z2 y2 ⊢
      rw [List.map_append, List.map_cons, z2, y2]
      rfl
    refine ⟨⟨kindT (a.zip ++ 45 :: a.more), ?_, by have := kindT_bd (a.zip ++ 45 :: a.more); omega⟩, ?_, ?_, ?_⟩
    · rw [toks_word (wordB_dash y1 hm _ _ z1 (.inl hz0))]
      unfold tokW
      rw [hup]
    · rw [cutDash_two hz]; simp [hm]
    · refine okBs_app z3 fun c hc => ?_
      rcases List.mem_cons.1 hc with rfl | hc
      · decide
      · exact y3 c hc
    · simp only [List.length_append, List.length_cons]; omega
end Go.Proofs.YtjneghncmgjkeaaGreatDoor
