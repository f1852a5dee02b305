/-
  Plain: all parts put into the table in turn.
-/
import Derived.Test.YtjaponmpfdpemaaGreatDoorBb02
set_option linter.unusedSimpArgs false
set_option linter.unusedVariables false
namespace Go.Proofs.YtjaponmpfdpemaaGreatDoor
abbrev STab := List Bs → List Sr × List Sr
def STab.z : STab := fun _ => ([], [])
def stepT (T : STab) (s : Sr) : Option STab := match sideP (T s.key).1 s 0 with
 | none => none
 | some a => match sideP (T s.key).2 s 1 with
  | none => none
  | some b => some (setT T s.key (a, b))
def nextT (o : Option STab) (s : Sr) : Option STab := match o with
 | none => none
 | some T => stepT T s
def tabP (l : List Sr) : Option STab := l.foldl nextT (some STab.z)
theorem tabP_snoc (l : List Sr) (s : Sr) : tabP (l ++ [s]) = nextT (tabP l) s := by simp [tabP, List.foldl_append]
theorem tabP_take {l : List Sr} {k : Nat} (hk : k < l.length) : tabP (l.take (k + 1)) = nextT (tabP (l.take k)) l[k] := by
 rw [← tabP_snoc, List.take_append_getElem hk]
structure STabOk (n : Nat) (T : STab) : Prop where
 even : ∀ k, Row 0 (T k).1
 odd : ∀ k, Row 1 (T k).2
 le0 : ∀ k, (T k).1.length ≤ n
 le1 : ∀ k, (T k).2.length ≤ n
theorem sideP_len {l m : List Sr} {s : Sr} {p : Int} (h : sideP l s p = some m) : m.length ≤ l.length + 1 := by
 unfold sideP at h
 split at h
 ·injection h with h; subst h; omega
 ·split at h
  ·cases h
  ·injection h with h; subst h
   rw [List.length_append, List.length_cons, List.length_take, List.length_drop]
   omega
theorem STabOk.z : STabOk 0 STab.z := ⟨fun _ => Row.nil 0, fun _ => Row.nil 1, fun _ => Nat.le_refl _, fun _ => Nat.le_refl _⟩
theorem STabOk.step {n : Nat} {T T' : STab} {s : Sr} (h : STabOk n T) (hs : s.Num) (e : stepT T s = some T') : STabOk (n + 1) T' := by
 unfold stepT at e
 split at e
 ·cases e
 ·rename_i a ha
  split at e
  ·cases e
  ·rename_i b hb
   injection e with e; subst e
   have q0 := (h.even s.key).ins hs ha
   have q1 := (h.odd s.key).ins hs hb
   have a0 := sideP_len ha
   have a1 := sideP_len hb
   have b0 := h.le0 s.key
   have b1 := h.le1 s.key
   refine ⟨fun k => ?_, fun k => ?_, fun k => ?_, fun k => ?_⟩ <;> unfold setT <;> by_cases hk : k = s.key
   ·rw [if_pos hk]; exact q0
   ·rw [if_neg hk]; exact h.even k
   ·rw [if_pos hk]; exact q1
   ·rw [if_neg hk]; exact h.odd k
   ·rw [if_pos hk]; show a.length ≤ _; omega
   ·rw [if_neg hk]; have := h.le0 k; omega
   ·rw [if_pos hk]; show b.length ≤ _; omega
   ·rw [if_neg hk]; have := h.le1 k; omega
theorem tabP_ok {l : List Sr} (hN : ∀ s ∈ l, s.Num) : ∀ k, k ≤ l.length → ∀ T, tabP (l.take k) = some T → STabOk k T
 | 0, _, T, h => by
  simp only [List.take_zero] at h
  injection h with h; subst h
  exact STabOk.z
 | k + 1, hk, T, h => by
  rw [tabP_take (by omega)] at h
  cases hp : tabP (l.take k) with
  | none => rw [hp] at h; cases h
  | some T0 =>
   rw [hp] at h
   exact (tabP_ok hN k (by omega) T0 hp).step (hN _ (List.getElem_mem _)) h
def clashK (l : List Sr) : Nat := (List.range l.length).findIdx (fun k => (tabP (l.take (k + 1))).isNone)
def newP (l : List Sr) : Option STab × Int × Int :=
 if 500 < l.length then (none, 8, 0) else if 0 ≤ srBad l then (none, 2, srBad l) else match tabP l with
  | some T => (some T, 0, 0)
  | none => (none, 7, clashK l)
theorem tabP_none {l : List Sr} {k : Nat} (h : tabP (l.take k) = none) : ∀ j, k ≤ j → j ≤ l.length → tabP (l.take j) = none := by
 intro j hj hl
 induction j with
 | zero => have : k = 0 := by omega
           subst this; exact h
 | succ j ih =>
  by_cases e : k = j + 1
  ·subst e; exact h
  ·rw [tabP_take (by omega), ih (by omega) (by omega)]; rfl
theorem clashK_is {l : List Sr} {k : Nat} {T : STab} (hk : k < l.length) (h1 : tabP (l.take k) = some T) (h2 : tabP (l.take (k + 1)) = none) : tabP l = none ∧ clashK l = k := by
 refine ⟨?_, ?_⟩
 ·have := tabP_none h2 l.length (by omega) (Nat.le_refl _)
  simpa using this
 ·unfold clashK
  rw [List.findIdx_eq (by simpa using hk)]
  refine ⟨by simp [h2], fun j hj => ?_⟩
  simp only [List.getElem_range]
  cases h3 : tabP (l.take (j + 1)) with
  | some _ => rfl
  | none =>
   have := tabP_none h3 k (by omega) (by omega)
   rw [h1] at this; cases this
end Go.Proofs.YtjaponmpfdpemaaGreatDoor
set_option linter.unusedSimpArgs false
set_option linter.unusedVariables false
namespace Go.Proofs.YtjaponmpfdpemaaGreatDoor
def Sr.meet (s t : Sr) : Bool := (s.isQ 0 && t.isQ 0 && s.over t 0) || (s.isQ 1 && t.isQ 1 && s.over t 1)
def Sr.clash (s t : Sr) : Prop := s.key = t.key ∧ s.meet t = true
theorem Sr.over_comm (s t : Sr) (p : Int) : s.over t p = t.over s p := by
 unfold Sr.over
 rw [Bool.and_comm]
theorem Sr.meet_comm (s t : Sr) : s.meet t = t.meet s := by
 unfold Sr.meet
 rw [s.over_comm t 0, s.over_comm t 1, Bool.and_comm (s.isQ 0), Bool.and_comm (s.isQ 1)]
theorem Sr.clash_comm {s t : Sr} (h : s.clash t) : t.clash s := ⟨h.1.symm, by rw [Sr.meet_comm]; exact h.2⟩
def rowT_ (r : List Sr × List Sr) (p : Int) : List Sr := if p = 0 then r.1 else r.2
theorem sideP_mem {l m : List Sr} {s : Sr} {p : Int} (h : sideP l s p = some m) (t : Sr) : t ∈ m ↔ t ∈ l ∨ (t = s ∧ s.isQ p = true) := by
 unfold sideP at h
 by_cases hq : s.isQ p = false
 ·rw [if_pos hq] at h
  injection h with h; subst h
  simp [hq]
 ·rw [if_neg hq] at h
  have hq : s.isQ p = true := by simpa using hq
  split at h
  ·cases h
  ·injection h with h; subst h
   have e : ∀ k, (t ∈ l.take k ∨ t ∈ l.drop k) ↔ t ∈ l := fun k => by rw [← List.mem_append, List.take_append_drop]
   rw [List.mem_append, List.mem_cons, ← e (plK l p (s.low p))]
   simp only [hq, and_true]
   constructor
   ·rintro (a | a | a)
    ·exact .inl (.inl a)
    ·exact .inr a
    ·exact .inl (.inr a)
   ·rintro ((a | a) | a)
    ·exact .inl a
    ·exact .inr (.inr a)
    ·exact .inr (.inl a)
theorem sideP_none {l : List Sr} {s : Sr} {p : Int} (hl : Row p l) : sideP l s p = none ↔ s.isQ p = true ∧ ∃ t ∈ l, s.over t p = true := by
 unfold sideP
 by_cases hq : s.isQ p = false
 ·rw [if_pos hq]
  simp [hq]
 ·rw [if_neg hq]
  have hq : s.isQ p = true := by simpa using hq
  rw [hl.clash s (Sr.isQ_low hq)]
  by_cases hc : l.any (fun t => s.over t p) = true
  ·rw [if_pos hc]
   simp only [hq, true_and, true_iff]
   exact List.any_eq_true.1 hc
  ·rw [if_neg hc]
   simp only [hq, true_and, reduceCtorEq, false_iff]
   exact fun h => hc (List.any_eq_true.2 h)
def Holds_ (l : List Sr) (T : STab) : Prop := ∀ k t, (t ∈ (T k).1 ↔ t ∈ l ∧ t.key = k ∧ t.isQ 0 = true) ∧ (t ∈ (T k).2 ↔ t ∈ l ∧ t.key = k ∧ t.isQ 1 = true)
theorem Holds_.step {l : List Sr} {T T' : STab} {s : Sr} (h : Holds_ l T) (e : stepT T s = some T') : Holds_ (l ++ [s]) T' := by
 unfold stepT at e
 split at e
 ·cases e
 ·rename_i a ha
  split at e
  ·cases e
  ·rename_i b hb
   injection e with e; subst e
   intro k t
   unfold setT
   by_cases hk : k = s.key
   ·subst hk
    rw [if_pos rfl]
    refine ⟨?_, ?_⟩
    ·rw [sideP_mem ha, (h s.key t).1, List.mem_append, List.mem_singleton]
     constructor
     ·rintro (⟨a, b, c⟩ | ⟨rfl, c⟩)
      ·exact ⟨.inl a, b, c⟩
      ·exact ⟨.inr rfl, rfl, c⟩
     ·rintro ⟨a | rfl, b, c⟩
      ·exact .inl ⟨a, b, c⟩
      ·exact .inr ⟨rfl, c⟩
    ·rw [sideP_mem hb, (h s.key t).2, List.mem_append, List.mem_singleton]
     constructor
     ·rintro (⟨a, b, c⟩ | ⟨rfl, c⟩)
      ·exact ⟨.inl a, b, c⟩
      ·exact ⟨.inr rfl, rfl, c⟩
     ·rintro ⟨a | rfl, b, c⟩
      ·exact .inl ⟨a, b, c⟩
      ·exact .inr ⟨rfl, c⟩
   ·rw [if_neg hk]
    have hno : ∀ q, (t ∈ l ++ [s] ∧ t.key = k ∧ q) ↔ (t ∈ l ∧ t.key = k ∧ q) := fun q => by
     rw [List.mem_append, List.mem_singleton]
     constructor
     ·rintro ⟨a | rfl, b, c⟩
      ·exact ⟨a, b, c⟩
      ·exact absurd b.symm hk
     ·rintro ⟨a, b, c⟩
      exact ⟨.inl a, b, c⟩
    rw [hno, hno]
    exact h k t
theorem stepT_clash {l : List Sr} {T : STab} {s : Sr} {n : Nat} (hO : STabOk n T) (h : Holds_ l T) : stepT T s = none ↔ ∃ t ∈ l, s.clash t := by
 have h0 := sideP_none (s := s) (hO.even s.key)
 have h1 := sideP_none (s := s) (hO.odd s.key)
 have key : stepT T s = none ↔ (sideP (T s.key).1 s 0 = none ∨ sideP (T s.key).2 s 1 = none) := by
  unfold stepT
  cases sideP (T s.key).1 s 0 with
  | none => simp
  | some a => cases sideP (T s.key).2 s 1 <;> simp
 rw [key, h0, h1]
 unfold Sr.clash Sr.meet
 constructor
 ·rintro (⟨q, t, ht, ho⟩ | ⟨q, t, ht, ho⟩)
  ·obtain ⟨a, b, c⟩ := (h s.key t).1.1 ht
   exact ⟨t, a, b.symm, by simp [q, c, ho]⟩
  ·obtain ⟨a, b, c⟩ := (h s.key t).2.1 ht
   exact ⟨t, a, b.symm, by simp [q, c, ho]⟩
 ·rintro ⟨t, a, b, c⟩
  simp only [Bool.or_eq_true, Bool.and_eq_true] at c
  rcases c with ⟨⟨q, c⟩, o⟩ | ⟨⟨q, c⟩, o⟩
  ·exact .inl ⟨q, t, (h s.key t).1.2 ⟨a, b.symm, c⟩, o⟩
  ·exact .inr ⟨q, t, (h s.key t).2.2 ⟨a, b.symm, c⟩, o⟩
theorem tabP_holds {l : List Sr} (hN : ∀ s ∈ l, s.Num) : ∀ k, k ≤ l.length → ∀ T, tabP (l.take k) = some T → Holds_ (l.take k) T
 | 0, _, T, h => by
  simp only [List.take_zero] at h
  injection h with h; subst h
  intro k t
  simp [STab.z]
 | k + 1, hk, T, h => by
  rw [tabP_take (by omega)] at h
  cases hp : tabP (l.take k) with
  | none => rw [hp] at h; cases h
  | some T0 =>
   rw [hp] at h
   have := (tabP_holds hN k (by omega) T0 hp).step h
   rwa [List.take_append_getElem (by omega)] at this
def Free_ (l : List Sr) : Prop := l.Pairwise (fun a b => ¬ a.clash b)
theorem tabP_free {l : List Sr} (hN : ∀ s ∈ l, s.Num) : ∀ k, k ≤ l.length → ((∃ T, tabP (l.take k) = some T) ↔ Free_ (l.take k))
 | 0, _ => by
  simp only [List.take_zero]
  exact ⟨fun _ => .nil, fun _ => ⟨_, rfl⟩⟩
 | k + 1, hk => by
  have ih := tabP_free hN k (by omega)
  rw [tabP_take (by omega), ← List.take_append_getElem (show k < l.length by omega)]
  unfold Free_ at ih ⊢
  rw [List.pairwise_append]
  constructor
  ·rintro ⟨T', h⟩
   cases hp : tabP (l.take k) with
   | none => rw [hp] at h; cases h
   | some T =>
    rw [hp] at h
    refine ⟨ih.1 ⟨T, hp⟩, by simp, fun a ha b hb hc => ?_⟩
    rw [List.mem_singleton] at hb
    subst hb
    have := (stepT_clash (s := l[k]) (tabP_ok hN k (by omega) T hp) (tabP_holds hN k (by omega) T hp)).2 ⟨a, ha, Sr.clash_comm hc⟩
    have h : stepT T l[k] = some T' := h
    rw [this] at h
    cases h
  ·rintro ⟨h1, _, h2⟩
   obtain ⟨T, hT⟩ := ih.2 h1
   rw [hT]
   show ∃ T', stepT T l[k] = some T'
   cases hs : stepT T l[k] with
   | some T' => exact ⟨T', rfl⟩
   | none =>
    obtain ⟨t, ht, hc⟩ := (stepT_clash (s := l[k]) (tabP_ok hN k (by omega) T hT) (tabP_holds hN k (by omega) T hT)).1 hs
    exact absurd (Sr.clash_comm hc) (h2 t ht _ (by simp))
def clashR (l : List Sr) (k : Nat) : Bool := (l.take k).any (fun t => (match l[k]? with | some s => decide (s.key = t.key) && s.meet t | none => false))
theorem clashR_iff {l : List Sr} {k : Nat} (hk : k < l.length) : clashR l k = true ↔ ∃ t ∈ l.take k, l[k].clash t := by
 unfold clashR Sr.clash
 rw [List.any_eq_true, List.getElem?_eq_getElem hk]
 simp
theorem clashK_of {l : List Sr} (hN : ∀ s ∈ l, s.Num) {k : Nat} (hk : k < l.length) (h0 : ∀ j, j < k → clashR l j = false) (h1 : clashR l k = true) : tabP l = none ∧ clashK l = k := by
 have hT : ∃ T, tabP (l.take k) = some T := by
  rw [tabP_free hN k (by omega)]
  refine List.pairwise_iff_getElem.2 fun i j hi hj hij hc => ?_
  rw [List.length_take] at hi hj
  rw [List.getElem_take, List.getElem_take] at hc
  have := h0 j (by omega)
  have h2 := (clashR_iff (l := l) (k := j) (by omega)).2 ⟨l[i], by
   rw [List.mem_take_iff_getElem]
   exact ⟨i, by omega, rfl⟩, Sr.clash_comm hc⟩
  rw [this] at h2; cases h2
 obtain ⟨T, hT⟩ := hT
 refine clashK_is hk hT ?_
 rw [tabP_take hk, hT]
 exact (stepT_clash (tabP_ok hN k (by omega) T hT) (tabP_holds hN k (by omega) T hT)).2 ((clashR_iff hk).1 h1)
theorem tabP_some {l : List Sr} (hN : ∀ s ∈ l, s.Num) (h0 : ∀ j, j < l.length → clashR l j = false) : ∃ T, tabP l = some T := by
 have := (tabP_free hN l.length (Nat.le_refl _)).2 (by
  refine List.pairwise_iff_getElem.2 fun i j hi hj hij hc => ?_
  rw [List.length_take] at hi hj
  rw [List.getElem_take, List.getElem_take] at hc
  have := h0 j (by omega)
  have h2 := (clashR_iff (l := l) (k := j) (by omega)).2 ⟨l[i], by
   rw [List.mem_take_iff_getElem]
   exact ⟨i, by omega, rfl⟩, Sr.clash_comm hc⟩
  rw [this] at h2; cases h2)
 simpa using this
def findP (T : STab) (a : Ad) : (Int × Int) × Int :=
 if checkP a ≠ 0 then ((0, 0), 2) else
 let r := rowT_ (T a.key) (a.n.tmod 2)
 match r[plK r (a.n.tmod 2) a.n]? with
  | some s => if s.low (a.n.tmod 2) ≤ a.n then ((s.at_ a.n).1, 0) else ((0, 0), 6)
  | none => ((0, 0), 6)
def findR (l : List Sr) (a : Ad) : (Int × Int) × Int :=
 if checkP a ≠ 0 then ((0, 0), 2) else match l.find? (fun s => decide (s.key = a.key) && s.hasR a.n) with
  | some s => ((s.at_ a.n).1, 0)
  | none => ((0, 0), 6)
end Go.Proofs.YtjaponmpfdpemaaGreatDoor
set_option linter.unusedSimpArgs false
set_option linter.unusedVariables false
namespace Go.Proofs.YtjaponmpfdpemaaGreatDoor
theorem beginS_le {s : Bs} {n : Nat} (h : n < (toksOf s).length) : beginS s 0 (toksOf s) n ≤ s.length := by
 obtain ⟨_, ha, hn⟩ := toksOf_ok s
 rw [beginS_adv s _ n 0 (by omega)]
 have e : (toksOf s).take (n + 1) = (toksOf s).take n ++ [(toksOf s)[n]] := List.take_succ_eq_append_getElem h
 have h2 : advS s 0 ((toksOf s).take (n + 1)) ≤ advS s 0 (toksOf s) := by
  have := advS_app s ((toksOf s).take (n + 1)) ((toksOf s).drop (n + 1)) 0
  rw [List.take_append_drop] at this
  rw [this]
  exact advS_mono s _ _
 rw [e, advS_app] at h2
 simp only [advS] at h2
 have h3 : 1 ≤ ((toksOf s)[n]).t.length := by
  have := (hn _ (List.getElem_mem h)).1
  cases ht : ((toksOf s)[n]).t with
  | nil => exact absurd ht this
  | cons c r => simp
 omega
structure TokensOk (s : Bs) (r : List Tok × Int × Int) : Prop where
 up : ∀ t ∈ r.1, t.t ≠ [] ∧ upS t.t = t.t
 len : r.1.length ≤ s.length
 at0 : 0 ≤ r.2.2
 at1 : r.2.2 ≤ s.length
 l40 : r.1.length ≤ 40
theorem tokensP_ok (s : Bs) : TokensOk s (tokensP s) := by
 unfold tokensP
 split
 ·exact ⟨by simp, by simp, by simp, by simp, by simp⟩
 ·split
  ·rename_i i hb
   refine ⟨by simp, by simp, by simp, ?_, by simp⟩
   unfold badAt at hb
   have := (List.findIdx?_eq_some_iff_getElem.1 hb).1
   show (i : Int) ≤ _
   omega
  ·split
   ·rename_i h
    refine ⟨by simp, by simp, by simp, ?_, by simp⟩
    have := beginS_le h
    show (beginS s 0 (toksOf s) 40 : Int) ≤ _
    omega
   ·rename_i h
    obtain ⟨a, _, c⟩ := toksOf_ok s
    exact ⟨c, a, by simp, by simp, by show (toksOf s).length ≤ 40; omega⟩
def wordsFine (k : Int) (n : Nat) : Bool := (wordsP k).all fun p => upS p.s == p.s && decide (p.s.length ≤ n) && shortP k p.s == (p.s, true) && p.s != []
theorem words_fine : wordsFine 1 4 = true ∧ wordsFine 2 2 = true ∧ wordsFine 3 2 = true ∧ wordsFine 4 4 = true := by decide +kernel
theorem states_two : (wordsP 3).all (fun p => decide (p.s.length = 2)) = true := by decide +kernel
theorem shortP_mem {k : Int} {w : Bs} (h : (shortP k w).2 = true) : ∃ p ∈ wordsP k, (shortP k w).1 = p.s := by
 unfold shortP at h ⊢
 cases hf : (wordsP k).reverse.find? fun p => p.l == w || p.s == w with
 | none => rw [hf] at h; cases h
 | some p => exact ⟨p, by simpa using List.mem_of_find?_eq_some hf, rfl⟩
theorem shortP_none {k : Int} {w : Bs} (h : (shortP k w).2 = false) : (shortP k w).1 = [] := by
 unfold shortP at h ⊢
 cases hf : (wordsP k).reverse.find? fun p => p.l == w || p.s == w with
 | none => rfl
 | some p => rw [hf] at h; cases h
structure ShortOk (k : Int) (n : Nat) (x : Bs) : Prop where
 up : upS x = x
 len : x.length ≤ n
 own : (shortP k x).1 = x
theorem shortP_ok {k : Int} {n : Nat} (hf : wordsFine k n = true) (h0 : (shortP k []).1 = []) (w : Bs) : ShortOk k n (shortP k w).1 := by
 cases h : (shortP k w).2 with
 | false => rw [shortP_none h]; exact ⟨rfl, by simp, h0⟩
 | true =>
  obtain ⟨p, hp, e⟩ := shortP_mem h
  have := List.all_eq_true.1 hf p hp
  simp only [Bool.and_eq_true, beq_iff_eq, decide_eq_true_eq] at this
  rw [e]
  exact ⟨this.1.1.1, this.1.1.2, by rw [this.1.2]⟩
theorem short0 : (shortP 1 []).1 = [] ∧ (shortP 2 []).1 = [] ∧ (shortP 3 []).1 = [] ∧ (shortP 4 []).1 = [] := by decide +kernel
theorem textsP_up : ∀ {l : List Tok}, (∀ t ∈ l, upS t.t = t.t) → upS (textsP l) = textsP l
 | [], _ => rfl
 | [t], h => h t (by simp)
 | t :: u :: l, h => by
  have ih := textsP_up (l := u :: l) fun x hx => h x (by simp [hx])
  have ht := h t (by simp)
  unfold upS at *
  simp only [textsP, List.map_append, List.map_cons]
  rw [ih, ht]
  rfl
theorem partsP_mem : ∀ {l : List Tok} {p : List Tok} {t : Tok}, p ∈ partsP l → t ∈ p → t ∈ l ∧ t.k ≠ 4
 | [], p, t, hp, ht => by
  simp [partsP] at hp
  subst hp
  cases ht
 | x :: l, p, t, hp, ht => by
  unfold partsP at hp
  by_cases hx : x.k = 4
  ·rw [if_pos hx] at hp
   rcases List.mem_cons.1 hp with rfl | hp
   ·cases ht
   ·have := partsP_mem hp ht
    exact ⟨List.mem_cons_of_mem _ this.1, this.2⟩
  ·rw [if_neg hx] at hp
   cases hq : partsP l with
   | nil =>
    rw [hq] at hp
    simp at hp
    subst hp
    rcases List.mem_singleton.1 ht with rfl
    exact ⟨by simp, hx⟩
   | cons q r =>
    rw [hq] at hp
    simp only at hp
    rcases List.mem_cons.1 hp with rfl | hp
    ·rcases List.mem_cons.1 ht with rfl | ht
     ·exact ⟨by simp, hx⟩
     ·have := partsP_mem (l := l) (p := q) (by rw [hq]; simp) ht
      exact ⟨List.mem_cons_of_mem _ this.1, this.2⟩
    ·have := partsP_mem (l := l) (p := p) (by rw [hq]; simp [hp]) ht
     exact ⟨List.mem_cons_of_mem _ this.1, this.2⟩
theorem numP_bd : ∀ (s : Bs) (n : Int), s.all digB = true → 0 ≤ n → 0 ≤ s.foldl (fun n c => 10 * n + (c.toNat - 48 : Int)) n ∧ s.foldl (fun n c => 10 * n + (c.toNat - 48 : Int)) n ≤ (n + 1) * 10 ^ s.length - 1
 | [], n, _, h => by simp; omega
 | c :: s, n, hd, h => by
  simp only [List.all_cons, Bool.and_eq_true] at hd
  have hc : 48 ≤ c.toNat ∧ c.toNat ≤ 57 := by simpa [digB] using hd.1
  obtain ⟨a, b⟩ := numP_bd s (10 * n + (c.toNat - 48 : Int)) hd.2 (by omega)
  rw [List.foldl_cons, List.length_cons]
  refine ⟨a, Int.le_trans b ?_⟩
  have hp : (0 : Int) ≤ 10 ^ s.length := Int.pow_nonneg (by decide)
  have h1 : (10 * n + (c.toNat - 48 : Int) + 1) * 10 ^ s.length ≤ (10 * (n + 1)) * 10 ^ s.length := Int.mul_le_mul_of_nonneg_right (by omega) hp
  have h2 : (10 * (n + 1)) * (10 : Int) ^ s.length = (n + 1) * 10 ^ (s.length + 1) := by
   rw [Int.pow_succ, Int.mul_comm 10 (n + 1), Int.mul_assoc, Int.mul_comm 10]
  omega
theorem numP_le {s : Bs} (h : digitsP s 1 6 = true) : 0 ≤ numP s ∧ numP s ≤ 999999 := by
 unfold digitsP at h
 rw [Bool.and_eq_true, decide_eq_true_eq] at h
 obtain ⟨a, b⟩ := numP_bd s 0 h.2 (by omega)
 refine ⟨a, Int.le_trans b ?_⟩
 have : (10 : Int) ^ s.length ≤ 10 ^ 6 := by
  rcases (show s.length = 1 ∨ s.length = 2 ∨ s.length = 3 ∨ s.length = 4 ∨ s.length = 5 ∨ s.length = 6 by omega) with e | e | e | e | e | e <;> rw [e] <;> decide
 omega
end Go.Proofs.YtjaponmpfdpemaaGreatDoor
set_option linter.unusedSimpArgs false
set_option linter.unusedVariables false
namespace Go.Proofs.YtjaponmpfdpemaaGreatDoor
def sndB (c : UInt8) : Bool := clsB c == 2 || clsB c == 3
def nextSnd (s : Bs) : Bool := (s.head?.map sndB).getD false
def tokW (w : Bs) : Tok := ⟨kindT (upS w), upS w⟩
def sepT (c : UInt8) : List Tok := if clsB c = 5 then [tComma] else if clsB c = 6 then [tHash] else []
def cutL : Bool → Option Bs → Bs → List Tok
 | _, none, [] => []
 | _, some w, [] => [tokW w]
 | _, none, c :: s => if sndB c then cutL true (some [c]) s else sepT c ++ cutL false none s
 | p, some w, c :: s =>
  if sndB c || (clsB c == 4 && p && nextSnd s) then cutL (sndB c) (some (w ++ [c])) s
  else tokW w :: (if sndB c then cutL true (some [c]) s else sepT c ++ cutL false none s)
theorem cutL_n (p : Bool) (c : UInt8) (s : Bs) : cutL p none (c :: s) = if sndB c then cutL true (some [c]) s else sepT c ++ cutL false none s := by rw [cutL]
theorem cutL_s (p : Bool) (w : Bs) (c : UInt8) (s : Bs) : cutL p (some w) (c :: s) = if sndB c || (clsB c == 4 && p && nextSnd s) then cutL (sndB c) (some (w ++ [c])) s else tokW w :: (if sndB c then cutL true (some [c]) s else sepT c ++ cutL false none s) := by rw [cutL]
theorem cutL_n0 (p : Bool) : cutL p none [] = [] := by rw [cutL]
theorem cutL_s0 (p : Bool) (w : Bs) : cutL p (some w) [] = [tokW w] := by rw [cutL]
theorem sndAt_lt {s : Bs} {i : Nat} (h : i < s.length) : sndAt s i = sndB s[i] := by
 unfold sndAt sndB
 rw [clsAt_lt h]
theorem sndAt_end {s : Bs} {i : Nat} (h : s.length ≤ i) : sndAt s i = false := by
 unfold sndAt
 rw [clsAt_end h]
 rfl
theorem nextSnd_drop (s : Bs) (n : Nat) : nextSnd (s.drop n) = sndAt s n := by
 unfold nextSnd
 rw [List.head?_drop]
 rcases Nat.lt_or_ge n s.length with h | h
 ·rw [List.getElem?_eq_getElem h, sndAt_lt h]; rfl
 ·rw [List.getElem?_eq_none h, sndAt_end h]; rfl
def openP (s : Bs) (st : CutSt) (n : Nat) : Option Bs := if st.inn then some ((s.take n).drop st.at_) else none
theorem part_snoc {s : Bs} {a n : Nat} (ha : a ≤ n) (hn : n < s.length) : (s.take (n + 1)).drop a = (s.take n).drop a ++ [s[n]] := by
 rw [List.take_succ_eq_append_getElem hn, List.drop_append_of_le_length (by rw [List.length_take]; omega)]
theorem part_one {s : Bs} {n : Nat} (hn : n < s.length) : (s.take (n + 1)).drop n = [s[n]] := by
 rw [part_snoc (Nat.le_refl _) hn, List.drop_eq_nil_of_le (by rw [List.length_take]; omega)]
 rfl
theorem stepA_cut {s : Bs} {n : Nat} {out : List Tok} (hn : n < s.length) :
  (stepA s out n).out ++ cutL (sndAt s n) (openP s (stepA s out n) (n + 1)) (s.drop (n + 1)) = out ++ (if sndB s[n] then cutL true (some [s[n]]) (s.drop (n + 1)) else sepT s[n] ++ cutL false none (s.drop (n + 1))) := by
 have hs := sndAt_lt hn
 unfold stepA
 rw [clsAt_lt hn]
 by_cases h : clsB s[n] = 2 ∨ clsB s[n] = 3
 ·have hb : sndB s[n] = true := by unfold sndB; rw [Bool.or_eq_true, beq_iff_eq, beq_iff_eq]; exact h
  rw [if_pos h, if_pos hb, hs, hb]
  unfold openP
  simp only [if_true]
  rw [part_one hn]
 ·have hb : sndB s[n] = false := by
   cases he : sndB s[n] with
   | false => rfl
   | true => unfold sndB at he; rw [Bool.or_eq_true, beq_iff_eq, beq_iff_eq] at he; exact absurd he h
  rw [if_neg h, hs, hb]
  simp only [Bool.false_eq_true, if_false]
  unfold sepT
  by_cases h5 : clsB s[n] = 5
  ·rw [if_pos h5, if_pos h5]
   unfold openP
   simp
  ·rw [if_neg h5, if_neg h5]
   by_cases h6 : clsB s[n] = 6
   ·rw [if_pos h6, if_pos h6]
    unfold openP
    simp
   ·rw [if_neg h6, if_neg h6]
    unfold openP
    simp
theorem run_cut (s : Bs) : ∀ k n, n + k = s.length → toksOf s = (runS s n).out ++ cutL (decide (0 < n) && sndAt s (n - 1)) (openP s (runS s n) n) (s.drop n)
 | 0, n, h => by
  have hn : n = s.length := by omega
  subst hn
  rw [List.drop_length]
  have h0 : clsAt s s.length = 0 := clsAt_end (Nat.le_refl _)
  have hA : ∀ out, (stepA s out s.length).out = out := fun out => by unfold stepA; rw [h0]; simp
  unfold toksOf openP
  rw [runS_succ]
  unfold stepS
  by_cases hi : (runS s s.length).inn = true
  ·rw [if_pos hi, if_pos hi, if_neg (by unfold goesOn sndAt; rw [h0]; simp), hA]
   rfl
  ·rw [if_neg hi, if_neg hi, hA]
   simp [cutL]
 | k + 1, n, h => by
  have hn : n < s.length := by omega
  rw [run_cut s k (n + 1) (by omega), show n + 1 - 1 = n by omega, runS_succ, show decide (0 < n + 1) = true from decide_eq_true (by omega), Bool.true_and]
  have hd : s.drop n = s[n] :: s.drop (n + 1) := List.drop_eq_getElem_cons hn
  rw [hd]
  have hok := runS_ok s n (by omega)
  unfold stepS
  by_cases hi : (runS s n).inn = true
  ·obtain ⟨l1, l2, l3⟩ := hok.lt hi
   have e0 : decide (0 < n) = true := decide_eq_true (by omega)
   have eo : openP s (runS s n) n = some ((s.take n).drop (runS s n).at_) := by unfold openP; rw [if_pos hi]
   have eg : goesOn s n = (sndB s[n] || (clsB s[n] == 4 && sndAt s (n - 1) && nextSnd (s.drop (n + 1)))) := by
    unfold goesOn
    rw [sndAt_lt hn, clsAt_lt hn, nextSnd_drop]
   rw [if_pos hi, eo, e0, Bool.true_and, cutL_s, ← eg]
   by_cases hg : goesOn s n = true
   ·rw [if_pos hg, if_pos hg]
    unfold openP
    rw [if_pos hi, part_snoc (by omega) hn, sndAt_lt hn]
   ·rw [if_neg hg, if_neg hg, stepA_cut hn]
    simp [wordT, partT, tokW]
  ·have eo : openP s (runS s n) n = none := by unfold openP; rw [if_neg hi]
   rw [if_neg hi, eo, cutL_n]
   exact stepA_cut hn
theorem toksOf_cut (s : Bs) : toksOf s = cutL false none s := by
 have := run_cut s s.length 0 (by omega)
 simpa [runS, openP] using this
def parts1 (c : UInt8) : Prop := clsB c = 1 ∨ clsB c = 5 ∨ clsB c = 6
theorem parts1_snd {c : UInt8} (h : parts1 c) : sndB c = false ∧ (clsB c == 4) = false := by
 unfold parts1 at h
 unfold sndB
 rcases h with h | h | h <;> rw [h] <;> exact ⟨rfl, rfl⟩
theorem cutL_app {c : UInt8} (hc : parts1 c) (y : Bs) : ∀ (x : Bs) (p : Bool) (cur : Option Bs), cutL p cur (x ++ c :: y) = cutL p cur x ++ (sepT c ++ cutL false none y)
 | [], p, none => by
  rw [cutL_n0, List.nil_append, cutL_n, (parts1_snd hc).1]
  simp
 | [], p, some w => by
  rw [cutL_s0, List.nil_append, cutL_s, (parts1_snd hc).1, (parts1_snd hc).2]
  simp
 | d :: x, p, none => by
  rw [List.cons_append, cutL_n, cutL_n]
  split
  ·exact cutL_app hc y x true (some [d])
  ·rw [cutL_app hc y x false none, List.append_assoc]
 | d :: x, p, some w => by
  have en : nextSnd (x ++ c :: y) = nextSnd x := by
   cases x with
   | nil => unfold nextSnd; simp [(parts1_snd hc).1]
   | cons z x => rfl
  rw [List.cons_append, cutL_s, cutL_s, en]
  split
  ·exact cutL_app hc y x _ _
  ·split
   ·rw [cutL_app hc y x true (some [d])]; rfl
   ·rw [cutL_app hc y x false none]; simp
theorem toks_app {c : UInt8} (hc : parts1 c) (x y : Bs) : toksOf (x ++ c :: y) = toksOf x ++ (sepT c ++ toksOf y) := by
 rw [toksOf_cut, toksOf_cut, toksOf_cut, cutL_app hc]
theorem cutL_sound : ∀ (x : Bs) (p : Bool) (w : Bs), x.all sndB = true → cutL p (some w) x = [tokW (w ++ x)]
 | [], p, w, _ => by simp [cutL]
 | c :: x, p, w, h => by
  simp only [List.all_cons, Bool.and_eq_true] at h
  rw [cutL_s, if_pos (by rw [h.1]; rfl), cutL_sound x _ _ h.2]
  simp
theorem toks_sound {x : Bs} (h0 : x ≠ []) (h : x.all sndB = true) : toksOf x = [tokW x] := by
 rw [toksOf_cut]
 cases x with
 | nil => exact absurd rfl h0
 | cons c x =>
  simp only [List.all_cons, Bool.and_eq_true] at h
  rw [cutL_n, if_pos h.1, cutL_sound x _ _ h.2]
  rfl
end Go.Proofs.YtjaponmpfdpemaaGreatDoor
