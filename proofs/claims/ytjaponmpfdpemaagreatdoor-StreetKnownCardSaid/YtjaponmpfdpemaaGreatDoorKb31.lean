/-
  Plain: which parts a table holds; when parts are a table; where a table finds an address.
-/
import Derived.Test.YtjaponmpfdpemaaGreatDoorKb30
set_option linter.unusedVariables false
namespace Go.Proofs.YtjaponmpfdpemaaGreatDoor

/-- Two parts have a number in common. -/
def Sr.meet (s t : Sr) : Bool := (s.isQ 0 && t.isQ 0 && s.over t 0) || (s.isQ 1 && t.isQ 1 && s.over t 1)
/-- Two parts that no table has both. -/
def Sr.clash (s t : Sr) : Prop := s.key = t.key ∧ s.meet t = true
theorem Sr.over_comm (s t : Sr) (p : Int) : s.over t p = t.over s p := by
  unfold Sr.over
  rw [Bool.and_comm]
theorem Sr.meet_comm (s t : Sr) : s.meet t = t.meet s := by
  unfold Sr.meet
  rw [s.over_comm t 0, s.over_comm t 1, Bool.and_comm (s.isQ 0), Bool.and_comm (s.isQ 1)]
theorem Sr.clash_comm {s t : Sr} (h : s.clash t) : t.clash s := ⟨h.1.symm, by rw [Sr.meet_comm]; exact h.2⟩
/-- The row of a parity. -/
def rowT_ (r : List Sr × List Sr) (p : Int) : List Sr := if p = 0 then r.1 else r.2
theorem sideP_mem {l m : List Sr} {s : Sr} {p : Int} (h : sideP l s p = some m) (t : Sr) : t ∈ m ↔ t ∈ l ∨ (t = s ∧ s.isQ p = true) := by
  unfold sideP at h
  by_cases hq : s.isQ p = false
  · rw [if_pos hq] at h
    injection h with h; subst h
    simp [hq]
  · rw [if_neg hq] at h
    have hq : s.isQ p = true := by simpa using hq
    split at h
    · cases h
    · injection h with h; subst h
      have e : ∀ k, (t ∈ l.take k ∨ t ∈ l.drop k) ↔ t ∈ l := fun k => by rw [← List.mem_append, List.take_append_drop]
      rw [List.mem_append, List.mem_cons, ← e (plK l p (s.low p))]
      simp only [hq, and_true]
      constructor
      · rintro (a | a | a)
        · exact .inl (.inl a)
        · exact .inr a
        · exact .inl (.inr a)
      · rintro ((a | a) | a)
        · exact .inl a
        · exact .inr (.inr a)
        · exact .inr (.inl a)
theorem sideP_none {l : List Sr} {s : Sr} {p : Int} (hl : Row p l) : sideP l s p = none ↔ s.isQ p = true ∧ ∃ t ∈ l, s.over t p = true := by
  unfold sideP
  by_cases hq : s.isQ p = false
  · rw [if_pos hq]
    simp [hq]
  · rw [if_neg hq]
    have hq : s.isQ p = true := by simpa using hq
    rw [hl.clash s (Sr.isQ_low hq)]
    by_cases hc : l.any (fun t => s.over t p) = true
    · rw [if_pos hc]
      simp only [hq, true_and, true_iff]
      exact List.any_eq_true.1 hc
    · rw [if_neg hc]
      simp only [hq, true_and, reduceCtorEq, false_iff]
      exact fun h => hc (List.any_eq_true.2 h)
/-- The table holds just the parts that went in, each behind its key and in the rows of its parities. -/
def Holds_ (l : List Sr) (T : STab) : Prop := ∀ k t, (t ∈ (T k).1 ↔ t ∈ l ∧ t.key = k ∧ t.isQ 0 = true) ∧ (t ∈ (T k).2 ↔ t ∈ l ∧ t.key = k ∧ t.isQ 1 = true)
theorem Holds_.step {l : List Sr} {T T' : STab} {s : Sr} (h : Holds_ l T) (e : stepT T s = some T') : Holds_ (l ++ [s]) T' := by
  unfold stepT at e
  split at e
  · cases e
  · rename_i a ha
    split at e
    · cases e
    · rename_i b hb
      injection e with e; subst e
      intro k t
      unfold setT
      by_cases hk : k = s.key
      · subst hk
        rw [if_pos rfl]
        refine ⟨?_, ?_⟩
        · rw [sideP_mem ha, (h s.key t).1, List.mem_append, List.mem_singleton]
          constructor
          · rintro (⟨a, b, c⟩ | ⟨rfl, c⟩)
            · exact ⟨.inl a, b, c⟩
            · exact ⟨.inr rfl, rfl, c⟩
          · rintro ⟨a | rfl, b, c⟩
            · exact .inl ⟨a, b, c⟩
            · exact .inr ⟨rfl, c⟩
        · rw [sideP_mem hb, (h s.key t).2, List.mem_append, List.mem_singleton]
          constructor
          · rintro (⟨a, b, c⟩ | ⟨rfl, c⟩)
            · exact ⟨.inl a, b, c⟩
            · exact ⟨.inr rfl, rfl, c⟩
          · rintro ⟨a | rfl, b, c⟩
            · exact .inl ⟨a, b, c⟩
            · exact .inr ⟨rfl, c⟩
      · rw [if_neg hk]
        have hno : ∀ q, (t ∈ l ++ [s] ∧ t.key = k ∧ q) ↔ (t ∈ l ∧ t.key = k ∧ q) := fun q => by
          rw [List.mem_append, List.mem_singleton]
          constructor
          · rintro ⟨a | rfl, b, c⟩
            · exact ⟨a, b, c⟩
            · exact absurd b.symm hk
          · rintro ⟨a, b, c⟩
            exact ⟨.inl a, b, c⟩
        rw [hno, hno]
        exact h k t
theorem stepT_clash {l : List Sr} {T : STab} {s : Sr} {n : Nat} (hO : STabOk n T) (h : Holds_ l T) : stepT T s = none ↔ ∃ t ∈ l, s.clash t := by
  have h0 := sideP_none (s := s) (hO.even s.key)
  have h1 := sideP_none (s := s) (hO.odd s.key)
  have key : stepT T s = none ↔ (sideP (T s.key).1 s 0 = none ∨ sideP (T s.key).2 s 1 = none) := by
    unfold stepT
    cases sideP (T s.key).1 s 0 with
    | none => simp
    | some a => cases sideP (T s.key).2 s 1 <;> simp
  rw [key, h0, h1]
  unfold Sr.clash Sr.meet
  constructor
  · rintro (⟨q, t, ht, ho⟩ | ⟨q, t, ht, ho⟩)
    · obtain ⟨a, b, c⟩ := (h s.key t).1.1 ht
      exact ⟨t, a, b.symm, by simp [q, c, ho]⟩
    · obtain ⟨a, b, c⟩ := (h s.key t).2.1 ht
      exact ⟨t, a, b.symm, by simp [q, c, ho]⟩
  · rintro ⟨t, a, b, c⟩
    simp only [Bool.or_eq_true, Bool.and_eq_true] at c
    rcases c with ⟨⟨q, c⟩, o⟩ | ⟨⟨q, c⟩, o⟩
    · exact .inl ⟨q, t, (h s.key t).1.2 ⟨a, b.symm, c⟩, o⟩
    · exact .inr ⟨q, t, (h s.key t).2.2 ⟨a, b.symm, c⟩, o⟩
theorem tabP_holds {l : List Sr} (hN : ∀ s ∈ l, s.Num) : ∀ k, k ≤ l.length → ∀ T, tabP (l.take k) = some T → Holds_ (l.take k) T
  | 0, _, T, h => by
    simp only [List.take_zero] at h
    injection h with h; subst h
    intro k t
    simp [STab.z]
  | k + 1, hk, T, h => by
    rw [tabP_take (by omega)] at h
    cases hp : tabP (l.take k) with
    | none => rw [hp] at h; cases h
    | some T0 =>
      rw [hp] at h
      have := (tabP_holds hN k (by omega) T0 hp).step h
      rwa [List.take_append_getElem (by omega)] at this
/-- No two of the first k parts clash. -/
def Free_ (l : List Sr) : Prop := l.Pairwise (fun a b => ¬ a.clash b)
theorem tabP_free {l : List Sr} (hN : ∀ s ∈ l, s.Num) : ∀ k, k ≤ l.length → ((∃ T, tabP (l.take k) = some T) ↔ Free_ (l.take k))
  | 0, _ => by
    simp only [List.take_zero]
    exact ⟨fun _ => .nil, fun _ => ⟨_, rfl⟩⟩
  | k + 1, hk => by
    have ih := tabP_free hN k (by omega)
    rw [tabP_take (by omega), ← List.take_append_getElem (show k < l.length by omega)]
    unfold Free_ at ih ⊢
    rw [List.pairwise_append]
    constructor
    · rintro ⟨T', h⟩
      cases hp : tabP (l.take k) with
      | none => rw [hp] at h; cases h
      | some T =>
        rw [hp] at h
        refine ⟨ih.1 ⟨T, hp⟩, by simp, fun a ha b hb hc => ?_⟩
        rw [List.mem_singleton] at hb
        subst hb
        have := (stepT_clash (s := l[k]) (tabP_ok hN k (by omega) T hp) (tabP_holds hN k (by omega) T hp)).2 ⟨a, ha, Sr.clash_comm hc⟩
        have h : stepT T l[k] = some T' := h
        rw [this] at h
        cases h
    · rintro ⟨h1, _, h2⟩
      obtain ⟨T, hT⟩ := ih.2 h1
      rw [hT]
      show ∃ T', stepT T l[k] = some T'
      cases hs : stepT T l[k] with
      | some T' => exact ⟨T', rfl⟩
      | none =>
        obtain ⟨t, ht, hc⟩ := (stepT_clash (s := l[k]) (tabP_ok hN k (by omega) T hT) (tabP_holds hN k (by omega) T hT)).1 hs
        exact absurd (Sr.clash_comm hc) (h2 t ht _ (by simp))
/-- The reference's: the first part that clashes with one ahead of it. -/
def clashR (l : List Sr) (k : Nat) : Bool := (l.take k).any (fun t => (match l[k]? with | some s => decide (s.key = t.key) && s.meet t | none => false))
theorem clashR_iff {l : List Sr} {k : Nat} (hk : k < l.length) : clashR l k = true ↔ ∃ t ∈ l.take k, l[k].clash t := by
  unfold clashR Sr.clash
  rw [List.any_eq_true, List.getElem?_eq_getElem hk]
  simp
theorem clashK_of {l : List Sr} (hN : ∀ s ∈ l, s.Num) {k : Nat} (hk : k < l.length) (h0 : ∀ j, j < k → clashR l j = false) (h1 : clashR l k = true) : tabP l = none ∧ clashK l = k := by
  have hT : ∃ T, tabP (l.take k) = some T := by
    rw [tabP_free hN k (by omega)]
    refine List.pairwise_iff_getElem.2 fun i j hi hj hij hc => ?_
    rw [List.length_take] at hi hj
    rw [List.getElem_take, List.getElem_take] at hc
    have := h0 j (by omega)
    have h2 := (clashR_iff (l := l) (k := j) (by omega)).2 ⟨l[i], by
      rw [List.mem_take_iff_getElem]
      exact ⟨i, by omega, rfl⟩, Sr.clash_comm hc⟩
    rw [this] at h2; cases h2
  obtain ⟨T, hT⟩ := hT
  refine clashK_is hk hT ?_
  rw [tabP_take hk, hT]
  exact (stepT_clash (tabP_ok hN k (by omega) T hT) (tabP_holds hN k (by omega) T hT)).2 ((clashR_iff hk).1 h1)
theorem tabP_some {l : List Sr} (hN : ∀ s ∈ l, s.Num) (h0 : ∀ j, j < l.length → clashR l j = false) : ∃ T, tabP l = some T := by
  have := (tabP_free hN l.length (Nat.le_refl _)).2 (by
    refine List.pairwise_iff_getElem.2 fun i j hi hj hij hc => ?_
    rw [List.length_take] at hi hj
    rw [List.getElem_take, List.getElem_take] at hc
    have := h0 j (by omega)
    have h2 := (clashR_iff (l := l) (k := j) (by omega)).2 ⟨l[i], by
      rw [List.mem_take_iff_getElem]
      exact ⟨i, by omega, rfl⟩, Sr.clash_comm hc⟩
    rw [this] at h2; cases h2)
  simpa using this
/-- Where a table finds an address: the part's point; what is told. -/
def findP (T : STab) (a : Ad) : (Int × Int) × Int :=
  if checkP a ≠ 0 then ((0, 0), 2) else
  let r := rowT_ (T a.key) (a.n.tmod 2)
  match r[plK r (a.n.tmod 2) a.n]? with
    | some s => if s.low (a.n.tmod 2) ≤ a.n then ((s.at_ a.n).1, 0) else ((0, 0), 6)
    | none => ((0, 0), 6)
def findR (l : List Sr) (a : Ad) : (Int × Int) × Int :=
  if checkP a ≠ 0 then ((0, 0), 2) else match l.find? (fun s => decide (s.key = a.key) && s.hasR a.n) with
    | some s => ((s.at_ a.n).1, 0)
    | none => ((0, 0), 6)
end Go.Proofs.YtjaponmpfdpemaaGreatDoor
