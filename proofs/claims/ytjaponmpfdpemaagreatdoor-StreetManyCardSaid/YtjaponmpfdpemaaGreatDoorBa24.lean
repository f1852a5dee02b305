/-
  Plain: which parts a table holds; when parts are a table; where a table finds an address.
-/
import Derived.Test.YtjaponmpfdpemaaGreatDoorBa23
import Derived.Test.YtjaponmpfdpemaaGreatDoorBa16
set_option linter.unusedVariables false
namespace Go.Proofs.YtjaponmpfdpemaaGreatDoor

/-- Two parts have a number in common. -/
def Sr.meet (s t : Sr) : Bool := (s.isQ 0 && t.isQ 0 && s.over t 0) || (s.isQ 1 && t.isQ 1 && s.over t 1)
/-- Two parts that no table has both. -/
def Sr.clash (s t : Sr) : Prop := s.key = t.key ∧ s.meet t = true
theorem Sr.over_comm (s t : Sr) (p : Int) : s.over t p = t.over s p := by
  unfold Sr.over
  rw [Bool.and_comm]
theorem Sr.meet_comm (s t : Sr) : s.meet t = t.meet s := by
  unfold Sr.meet
  rw [s.over_comm t 0, s.over_comm t 1, Bool.and_comm (s.isQ 0), Bool.and_comm (s.isQ 1)]
theorem Sr.clash_comm {s t : Sr} (h : s.clash t) : t.clash s := ⟨h.1.symm, by rw [Sr.meet_comm]; exact h.2⟩
/-- The row of a parity. -/
def rowT_ (r : List Sr × List Sr) (p : Int) : List Sr := if p = 0 then r.1 else r.2
theorem sideP_mem {l m : List Sr} {s : Sr} {p : Int} (h : sideP l s p = some m) (t : Sr) : t ∈ m ↔ t ∈ l ∨ (t = s ∧ s.isQ p = true) := by
  unfold sideP at h
  by_cases hq : s.isQ p = false
  · rw [if_pos hq] at h
    injection h with h; subst h
    simp [hq]
  · rw [if_neg hq] at h
    have hq : s.isQ p = true := by simpa using hq
    split at h
    · cases h
    · injection h with h; subst h
      have e : ∀ k, (t ∈ l.take k ∨ t ∈ l.drop k) ↔ t ∈ l := fun k => by rw [← List.mem_append, List.take_append_drop]
      rw [List.mem_append, List.mem_cons, ← e (plK l p (s.low p))]
      simp only [hq, and_true]
      constructor
      · rintro (a | a | a)
        · exact .inl (.inl a)
        · exact .inr a
        · exact .inl (.inr a)
      · rintro ((a | a) | a)
        · exact .inl a
        · exact .inr (.inr a)
        · exact .inr (.inl a)
theorem sideP_none {l : List Sr} {s : Sr} {p : Int} (hl : Row p l) : sideP l s p = none ↔ s.isQ p = true ∧ ∃ t ∈ l, s.over t p = true := by
  unfold sideP
  by_cases hq : s.isQ p = false
  · rw [if_pos hq]
    simp [hq]
  · rw [if_neg hq]
    have hq : s.isQ p = true := by simpa using hq
    rw [hl.clash s (Sr.isQ_low hq)]
    by_cases hc : l.any (fun t => s.over t p) = true
    · rw [if_pos hc]
      simp only [hq, true_and, true_iff]
      exact List.any_eq_true.1 hc
    · rw [if_neg hc]
      simp only [hq, true_and, reduceCtorEq, false_iff]
      exact fun h => hc (List.any_eq_true.2 h)
/-- The table holds just the parts that went in, each behind its key and in the rows of its parities. -/
def Holds_ (l : List Sr) (T : STab) : Prop := ∀ k t, (t ∈ (T k).1 ↔ t ∈ l ∧ t.key = k ∧ t.isQ 0 = true) ∧ (t ∈ (T k).2 ↔ t ∈ l ∧ t.key = k ∧ t.isQ 1 = true)
theorem Holds_.step {l : List Sr} {T T' : STab} {s : Sr} (h : Holds_ l T) (e : stepT T s = some T') : Holds_ (l ++ [s]) T' := by
  unfold stepT at e
  split at e
  · cases e
  · rename_i a ha
    split at e
    · cases e
    · rename_i b hb
      injection e with e; subst e
      intro k t
      unfold setT
      by_cases hk : k = s.key
      · subst hk
        rw [if_pos rfl]
        refine ⟨?_, ?_⟩
        · rw [sideP_mem ha, (h s.key t).1, List.mem_append, List.mem_singleton]
          constructor
          · rintro (⟨a, b, c⟩ | ⟨rfl, c⟩)
            · exact ⟨.inl a, b, c⟩
            · exact ⟨.inr rfl, rfl, c⟩
          · rintro ⟨a | rfl, b, c⟩
            · exact .inl ⟨a, b, c⟩
            · exact .inr ⟨rfl, c⟩
        · rw [sideP_mem hb, (h s.key t).2, List.mem_append, List.mem_singleton]
          constructor
          · rintro (⟨a, b, c⟩ | ⟨rfl, c⟩)
            · exact ⟨.inl a, b, c⟩
            · exact ⟨.inr rfl, rfl, c⟩
          · rintro ⟨a | rfl, b, c⟩
            · exact .inl ⟨a, b, c⟩
            · exact .inr ⟨rfl, c⟩
      · rw [if_neg hk]
        have hno : ∀ q, (t ∈ l ++ [s] ∧ t.key = k ∧ q) ↔ (t ∈ l ∧ t.key = k ∧ q) := fun q => by
          rw [List.mem_append, List.mem_singleton]
          constructor
          · rintro ⟨a | rfl, b, c⟩
            · exact ⟨a, b, c⟩
            · exact absurd b.symm hk
          · rintro ⟨a, b, c⟩
            exact ⟨.inl a, b, c⟩
        rw [hno, hno]
        exact h k t
theorem stepT_clash {l : List Sr} {T : STab} {s : Sr} {n : Nat} (hO : STabOk n T) (h : Holds_ l T) : stepT T s = none ↔ ∃ t ∈ l, s.clash t := by
  have h0 := sideP_none (s := s) (hO.even s.key)
  have h1 := sideP_none (s := s) (hO.odd s.key)
  have key : stepT T s = none ↔ (sideP (T s.key).1 s 0 = none ∨ sideP (T s.key).2 s 1 = none) := by
    unfold stepT
    cases sideP (T s.key).1 s 0 with
    | none => simp
    | some a => cases sideP (T s.key).2 s 1 <;> simp
  rw [key, h0, h1]
  unfold Sr.clash Sr.meet
  constructor
  · rintro (⟨q, t, ht, ho⟩ | ⟨q, t, ht, ho⟩)
    · obtain ⟨a, b, c⟩ := (h s.key t).1.1 ht
      exact ⟨t, a, b.symm, by simp [q, c, ho]⟩
    · obtain ⟨a, b, c⟩ := (h s.key t).2.1 ht
      exact ⟨t, a, b.symm, by simp [q, c, ho]⟩
  · rintro ⟨t, a, b, c⟩
    simp only [Bool.or_eq_true, Bool.and_eq_true] at c
    rcases c with ⟨⟨q, c⟩, o⟩ | ⟨⟨q, c⟩, o⟩
    · exact .inl ⟨q, t, (h s.key t).1.2 ⟨a, b.symm, c⟩, o⟩
    · exact .inr ⟨q, t, (h s.key t).2.2 ⟨a, b.symm, c⟩, o⟩
theorem tabP_holds {l : List Sr} (hN : ∀ s ∈ l, s.Num) : ∀ k, k ≤ l.length → ∀ T, tabP (l.take k) = some T → Holds_ (l.take k) T
  | 0, _, T, h => by
    simp only [List.take_zero] at h
    injection h with h; subst h
    intro k t
    simp [STab.z]
  | k + 1, hk, T, h => by
    rw [tabP_take (by omega)] at h
    cases hp : tabP (l.take k) with
    | none => rw [hp] at h; cases h
    | some T0 =>
      rw [hp] at h
      have := (tabP_holds hN k (by omega) T0 hp).step h
      rwa [List.take_append_getElem (by omega)] at this
/-- No two of the first k parts clash. -/
def Free_ (l : List Sr) : Prop := l.Pairwise (fun a b => ¬ a.clash b)
theorem tabP_free {l : List Sr} (hN : ∀ s ∈ l, s.Num) : ∀ k, k ≤ l.length → ((∃ T, tabP (l.take k) = some T) ↔ Free_ (l.take k))
  | 0, _ => by
    simp only [List.take_zero]
    exact ⟨fun _ => .nil, fun _ => ⟨_, rfl⟩⟩
  | k + 1, hk => by
    have ih := tabP_free hN k (by omega)
    rw [tabP_take (by omega), ← List.take_append_getElem (show k < l.length by omega)]
    unfold Free_ at ih ⊢
    rw [List.pairwise_append]
    constructor
    · rintro ⟨T', h⟩
      cases hp : tabP (l.take k) with
      | none => rw [hp] at h; cases h
      | some T =>
        rw [hp] at h
        refine ⟨ih.1 ⟨T, hp⟩, by simp, fun a ha b hb hc => ?_⟩
        rw [List.mem_singleton] at hb
        subst hb
        have := (stepT_clash (s := l[k]) (tabP_ok hN k (by omega) T hp) (tabP_holds hN k (by omega) T hp)).2 ⟨a, ha, Sr.clash_comm hc⟩
        have h : stepT T l[k] = some T' := h
        rw [this] at h
        cases h
    · rintro ⟨h1, _, h2⟩
      obtain ⟨T, hT⟩ := ih.2 h1
      rw [hT]
      show ∃ T', stepT T l[k] = some T'
      cases hs : stepT T l[k] with
      | some T' => exact ⟨T', rfl⟩
      | none =>
        obtain ⟨t, ht, hc⟩ := (stepT_clash (s := l[k]) (tabP_ok hN k (by omega) T hT) (tabP_holds hN k (by omega) T hT)).1 hs
        exact absurd (Sr.clash_comm hc) (h2 t ht _ (by simp))
/-- The reference's: the first part that clashes with one ahead of it. -/
def clashR (l : List Sr) (k : Nat) : Bool := (l.take k).any (fun t => (match l[k]? with | some s => decide (s.key = t.key) && s.meet t | none => false))
theorem clashR_iff {l : List Sr} {k : Nat} (hk : k < l.length) : clashR l k = true ↔ ∃ t ∈ l.take k, l[k].clash t := by
  unfold clashR Sr.clash
  rw [List.any_eq_true, List.getElem?_eq_getElem hk]
  simp
theorem clashK_of {l : List Sr} (hN : ∀ s ∈ l, s.Num) {k : Nat} (hk : k < l.length) (h0 : ∀ j, j < k → clashR l j = false) (h1 : clashR l k = true) : tabP l = none ∧ clashK l = k := by
  have hT : ∃ T, tabP (l.take k) = some T := by
    rw [tabP_free hN k (by omega)]
    refine List.pairwise_iff_getElem.2 fun i j hi hj hij hc => ?_
    rw [List.length_take] at hi hj
    rw [List.getElem_take, List.getElem_take] at hc
    have := h0 j (by omega)
    have h2 := (clashR_iff (l := l) (k := j) (by omega)).2 ⟨l[i], by
      rw [List.mem_take_iff_getElem]
      exact ⟨i, by omega, rfl⟩, Sr.clash_comm hc⟩
    rw [this] at h2; cases h2
  obtain ⟨T, hT⟩ := hT
  refine clashK_is hk hT ?_
  rw [tabP_take hk, hT]
  exact (stepT_clash (tabP_ok hN k (by omega) T hT) (tabP_holds hN k (by omega) T hT)).2 ((clashR_iff hk).1 h1)
theorem tabP_some {l : List Sr} (hN : ∀ s ∈ l, s.Num) (h0 : ∀ j, j < l.length → clashR l j = false) : ∃ T, tabP l = some T := by
  have := (tabP_free hN l.length (Nat.le_refl _)).2 (by
    refine List.pairwise_iff_getElem.2 fun i j hi hj hij hc => ?_
    rw [List.length_take] at hi hj
    rw [List.getElem_take, List.getElem_take] at hc
    have := h0 j (by omega)
    have h2 := (clashR_iff (l := l) (k := j) (by omega)).2 ⟨l[i], by
      rw [List.mem_take_iff_getElem]
      exact ⟨i, by omega, rfl⟩, Sr.clash_comm hc⟩
    rw [this] at h2; cases h2)
  simpa using this
/-- Where a table finds an address: the part's point; what is told. -/
def findP (T : STab) (a : Ad) : (Int × Int) × Int :=
  if checkP a ≠ 0 then ((0, 0), 2) else
  let r := rowT_ (T a.key) (a.n.tmod 2)
  match r[plK r (a.n.tmod 2) a.n]? with
    | some s => if s.low (a.n.tmod 2) ≤ a.n then ((s.at_ a.n).1, 0) else ((0, 0), 6)
    | none => ((0, 0), 6)
def findR (l : List Sr) (a : Ad) : (Int × Int) × Int :=
  if checkP a ≠ 0 then ((0, 0), 2) else match l.find? (fun s => decide (s.key = a.key) && s.hasR a.n) with
    | some s => ((s.at_ a.n).1, 0)
    | none => ((0, 0), 6)
end Go.Proofs.YtjaponmpfdpemaaGreatDoor

set_option linter.unusedVariables false
namespace Go.Proofs.YtjaponmpfdpemaaGreatDoor

theorem Sr.meet_iff {s t : Sr} (hs : s.Num) (ht : t.Num) : s.meet t = true ↔ ∃ n, s.hasR n = true ∧ t.hasR n = true := by
  unfold Sr.meet Sr.over
  simp only [Bool.or_eq_true, Bool.and_eq_true, decide_eq_true_eq]
  have go : ∀ p : Int, p = 0 ∨ p = 1 → s.isQ p = true → t.isQ p = true → s.low p ≤ t.high p → t.low p ≤ s.high p → ∃ n, s.hasR n = true ∧ t.hasR n = true := fun p hp q1 q2 o1 o2 => by
    have l1 := Sr.isQ_low q1
    have l2 := Sr.isQ_low q2
    have e1 := (s.low_eq hs p hp).2.2
    have e2 := (t.low_eq ht p hp).2.2
    rcases Int.le_total (s.low p) (t.low p) with h | h
    · refine ⟨t.low p, ?_, ?_⟩
      · rw [s.has_iff hs, e2]; exact ⟨q1, h, o2⟩
      · rw [t.has_iff ht, e2]; exact ⟨q2, Int.le_refl _, l2⟩
    · refine ⟨s.low p, ?_, ?_⟩
      · rw [s.has_iff hs, e1]; exact ⟨q1, Int.le_refl _, l1⟩
      · rw [t.has_iff ht, e1]; exact ⟨q2, h, o1⟩
  constructor
  · rintro (⟨⟨q1, q2⟩, o1, o2⟩ | ⟨⟨q1, q2⟩, o1, o2⟩)
    · exact go 0 (.inl rfl) q1 q2 o1 o2
    · exact go 1 (.inr rfl) q1 q2 o1 o2
  · rintro ⟨n, h1, h2⟩
    rw [s.has_iff hs] at h1
    rw [t.has_iff ht] at h2
    obtain ⟨q1, a1, b1⟩ := h1
    obtain ⟨q2, a2, b2⟩ := h2
    rcases (show n % 2 = 0 ∨ n % 2 = 1 by omega) with e | e <;> rw [e] at q1 a1 b1 q2 a2 b2
    · exact .inl ⟨⟨q1, q2⟩, by omega, by omega⟩
    · exact .inr ⟨⟨q1, q2⟩, by omega, by omega⟩
def maxI (a b : Int) : Int := if a ≤ b then b else a
def minI (a b : Int) : Int := if a ≤ b then a else b
/-- The reference's: it tries two numbers. -/
def Sr.bothR (a b : Sr) : Bool :=
  let lo := maxI a.fr b.fr
  let hi := minI a.to_ b.to_
  (decide (lo ≤ hi) && (a.hasR lo && b.hasR lo)) || (decide (lo + 1 ≤ hi) && (a.hasR (lo + 1) && b.hasR (lo + 1)))
theorem Sr.both_iff {a b : Sr} (ha : a.Num) (hb : b.Num) : a.bothR b = a.meet b := by
  rw [Bool.eq_iff_iff, Sr.meet_iff ha hb]
  unfold Sr.bothR
  simp only [Bool.or_eq_true, Bool.and_eq_true, decide_eq_true_eq]
  constructor
  · rintro (⟨_, h1, h2⟩ | ⟨_, h1, h2⟩)
    · exact ⟨_, h1, h2⟩
    · exact ⟨_, h1, h2⟩
  · rintro ⟨n, h1, h2⟩
    rw [a.hasR_iff ha] at h1 ⊢
    rw [b.hasR_iff hb] at h2 ⊢
    rw [a.hasR_iff ha, b.hasR_iff hb]
    have em : maxI a.fr b.fr = a.fr ∧ b.fr ≤ a.fr ∨ maxI a.fr b.fr = b.fr ∧ a.fr ≤ b.fr := by
      unfold maxI; split <;> omega
    have en : minI a.to_ b.to_ = a.to_ ∧ a.to_ ≤ b.to_ ∨ minI a.to_ b.to_ = b.to_ ∧ b.to_ ≤ a.to_ := by
      unfold minI; split <;> omega
    generalize maxI a.fr b.fr = lo at *
    generalize minI a.to_ b.to_ = hi at *
    obtain ⟨a1, a2, a3⟩ := h1
    obtain ⟨b1, b2, b3⟩ := h2
    by_cases e : (n - lo) % 2 = 0
    · refine .inl ⟨by omega, ⟨by omega, by omega, ?_⟩, ⟨by omega, by omega, ?_⟩⟩
      · rcases a3 with h | ⟨h, h'⟩ | ⟨h, h'⟩
        · exact .inl h
        · exact .inr (.inl ⟨h, by omega⟩)
        · exact .inr (.inr ⟨h, by omega⟩)
      · rcases b3 with h | ⟨h, h'⟩ | ⟨h, h'⟩
        · exact .inl h
        · exact .inr (.inl ⟨h, by omega⟩)
        · exact .inr (.inr ⟨h, by omega⟩)
    · refine .inr ⟨by omega, ⟨by omega, by omega, ?_⟩, ⟨by omega, by omega, ?_⟩⟩
      · rcases a3 with h | ⟨h, h'⟩ | ⟨h, h'⟩
        · exact .inl h
        · exact .inr (.inl ⟨h, by omega⟩)
        · exact .inr (.inr ⟨h, by omega⟩)
      · rcases b3 with h | ⟨h, h'⟩ | ⟨h, h'⟩
        · exact .inl h
        · exact .inr (.inl ⟨h, by omega⟩)
        · exact .inr (.inr ⟨h, by omega⟩)
/-- A part of a number and a key: at most one of those that do not clash. -/
theorem Free_.one {l : List Sr} (hF : Free_ l) (hN : ∀ s ∈ l, s.Num) {s t : Sr} (hs : s ∈ l) (ht : t ∈ l) {n : Int} (hk : s.key = t.key) (h1 : s.hasR n = true) (h2 : t.hasR n = true) : s = t := by
  obtain ⟨i, hi, rfl⟩ := List.mem_iff_getElem.1 hs
  obtain ⟨j, hj, rfl⟩ := List.mem_iff_getElem.1 ht
  have hp := List.pairwise_iff_getElem.1 hF
  have hm := (Sr.meet_iff (hN _ hs) (hN _ ht)).2 ⟨n, h1, h2⟩
  rcases Nat.lt_trichotomy i j with h | h | h
  · exact absurd ⟨hk, hm⟩ (hp i j hi hj h)
  · subst h; rfl
  · exact absurd (Sr.clash_comm ⟨hk, hm⟩) (hp j i hj hi h)
theorem findR_some {l : List Sr} (hF : Free_ l) (hN : ∀ s ∈ l, s.Num) {a : Ad} (hc : checkP a = 0) {s : Sr} (hs : s ∈ l) (hk : s.key = a.key) (hh : s.hasR a.n = true) : findR l a = ((s.at_ a.n).1, 0) := by
  unfold findR
  rw [if_neg (by simp [hc])]
  cases hf : l.find? (fun s => decide (s.key = a.key) && s.hasR a.n) with
  | none =>
    rw [List.find?_eq_none] at hf
    exact absurd (by simp [hk, hh]) (hf s hs)
  | some t =>
    have ht := List.mem_of_find?_eq_some hf
    have hp := List.find?_some hf
    simp only [Bool.and_eq_true, decide_eq_true_eq] at hp
    rw [hF.one hN hs ht (hk.trans hp.1.symm) hh hp.2]
theorem findR_none {l : List Sr} {a : Ad} (hc : checkP a = 0) (h : ∀ s ∈ l, s.key = a.key → s.hasR a.n = false) : findR l a = ((0, 0), 6) := by
  unfold findR
  rw [if_neg (by simp [hc])]
  cases hf : l.find? (fun s => decide (s.key = a.key) && s.hasR a.n) with
  | none => rfl
  | some t =>
    have ht := List.mem_of_find?_eq_some hf
    have hp := List.find?_some hf
    simp only [Bool.and_eq_true, decide_eq_true_eq] at hp
    rw [h t ht hp.1] at hp
    cases hp.2
theorem find_eq {l : List Sr} {T : STab} (hN : ∀ s ∈ l, s.Num) (hT : tabP l = some T) (a : Ad) : findP T a = findR l a := by
  by_cases hc : checkP a = 0
  · have hn := (checkP_ok hc).n1
    have hl : tabP (l.take l.length) = some T := by rw [List.take_length]; exact hT
    have hF : Free_ l := by
      have := (tabP_free hN l.length (Nat.le_refl _)).1 ⟨T, hl⟩
      rwa [List.take_length] at this
    have hH : Holds_ l T := by
      have := tabP_holds hN l.length (Nat.le_refl _) T hl
      rwa [List.take_length] at this
    have hO := tabP_ok hN l.length (Nat.le_refl _) T hl
    have hp : a.n % 2 = 0 ∨ a.n % 2 = 1 := by omega
    have e2 : a.n.tmod 2 = a.n % 2 := tmod2 (by omega)
    have hR : Row (a.n % 2) (rowT_ (T a.key) (a.n % 2)) := by
      rcases hp with h | h <;> rw [h]
      · exact hO.even _
      · exact hO.odd _
    have hm : ∀ t, t ∈ rowT_ (T a.key) (a.n % 2) ↔ t ∈ l ∧ t.key = a.key ∧ t.isQ (a.n % 2) = true := fun t => by
      rcases hp with h | h <;> rw [h]
      · exact (hH a.key t).1
      · exact (hH a.key t).2
    unfold findP
    rw [if_neg (by simp [hc]), e2]
    generalize hr : rowT_ (T a.key) (a.n % 2) = r at *
    obtain ⟨hk, h1, h2⟩ := hR.at_ (n := a.n)
    dsimp only
    cases hg : r[plK r (a.n % 2) a.n]? with
    | none =>
      have hK := List.getElem?_eq_none_iff.1 hg
      symm
      refine findR_none hc fun s hs hk' => ?_
      cases hh : s.hasR a.n with
      | false => rfl
      | true =>
        rw [s.has_iff (hN _ hs)] at hh
        obtain ⟨q, b1, b2⟩ := hh
        obtain ⟨i, hi, rfl⟩ := List.mem_iff_getElem.1 ((hm s).2 ⟨hs, hk', q⟩)
        have := h1 i hi (by omega)
        omega
    | some s =>
      obtain ⟨hK, rfl⟩ := List.getElem?_eq_some_iff.1 hg
      have hh := h2 _ hK (Nat.le_refl _)
      obtain ⟨m1, m2, m3⟩ := (hm _).1 (List.getElem_mem hK)
      by_cases hlo : (r[plK r (a.n % 2) a.n]).low (a.n % 2) ≤ a.n
      · dsimp only
        rw [if_pos hlo]
        exact (findR_some hF hN hc m1 m2 ((Sr.has_iff (hN _ m1) a.n).2 ⟨m3, hlo, hh⟩)).symm
      · dsimp only
        rw [if_neg hlo]
        symm
        refine findR_none hc fun s hs hk' => ?_
        cases hh' : s.hasR a.n with
        | false => rfl
        | true =>
          rw [s.has_iff (hN _ hs)] at hh'
          obtain ⟨q, b1, b2⟩ := hh'
          obtain ⟨i, hi, rfl⟩ := List.mem_iff_getElem.1 ((hm s).2 ⟨hs, hk', q⟩)
          rcases Nat.lt_trichotomy i (plK r (a.n % 2) a.n) with h | h | h
          · have := h1 i hi h
            omega
          · subst h; omega
          · have h3 := hR.lt h hi
            have h4 := (hR.mem _ (List.getElem_mem hK)).2
            omega
  · unfold findP findR
    rw [if_pos hc, if_pos hc]
/-- The document's New. -/
def newR (l : List Sr) : Int × Int := if 500 < l.length then (8, 0) else if 0 ≤ srBad l then (2, srBad l) else match (List.range l.length).find? (clashR l) with
  | some k => (7, (k : Int))
  | none => (0, 0)
theorem srBad_num {l : List Sr} (h : ¬ 0 ≤ srBad l) : ∀ s ∈ l, s.check = 0 := fun s hm => by
  by_cases hz : s.check = 0
  · exact hz
  · refine absurd ?_ h
    unfold srBad
    cases hf : l.findIdx? (fun s => decide (s.check ≠ 0)) with
    | some q => exact Int.natCast_nonneg q
    | none =>
      rw [List.findIdx?_eq_none_iff] at hf
      have := hf s hm
      simp [hz] at this
theorem new_eq (l : List Sr) : (newP l).2 = newR l ∧ ((newP l).1.isSome ↔ (newR l).1 = 0) := by
  unfold newP newR
  by_cases h5 : 500 < l.length
  · rw [if_pos h5, if_pos h5]; simp
  · rw [if_neg h5, if_neg h5]
    by_cases hb : 0 ≤ srBad l
    · rw [if_pos hb, if_pos hb]; simp
    · rw [if_neg hb, if_neg hb]
      have hN : ∀ s ∈ l, s.Num := fun s hs => (Sr.check_ok (srBad_num hb s hs)).num
      cases hf : (List.range l.length).find? (clashR l) with
      | none =>
        rw [List.find?_eq_none] at hf
        obtain ⟨T, hT⟩ := tabP_some hN (fun j hj => by simpa using hf j (List.mem_range.2 hj))
        rw [hT]; simp
      | some k =>
        rw [List.find?_range_eq_some] at hf
        obtain ⟨h1, h2, h3⟩ := hf
        obtain ⟨e1, e2⟩ := clashK_of hN (by simpa using h2) (fun j hj => by simpa using h3 j hj) h1
        rw [e1, e2]; simp
end Go.Proofs.YtjaponmpfdpemaaGreatDoor

set_option linter.unusedVariables false
namespace Go.Proofs.YtjaponmpfdpemaaGreatDoor

/-- A number from the lesser of two to the greater. -/
def btw (n a b : Int) : Bool := decide (minI a b ≤ n) && decide (n ≤ maxI a b)
theorem btw_iff {n a b : Int} : btw n a b = true ↔ (a ≤ n ∧ n ≤ b) ∨ (b ≤ n ∧ n ≤ a) := by
  unfold btw minI maxI
  rw [Bool.and_eq_true, decide_eq_true_eq, decide_eq_true_eq]
  by_cases h : a ≤ b
  · rw [if_pos h, if_pos h]; omega
  · rw [if_neg h, if_neg h]; omega
/-- A share of a way, from its start on. -/
def way (a b t T : Int) : Int := a + (b - a) * t / T
theorem way_zero (a b T : Int) : way a b 0 T = a := by simp [way]
theorem way_all (a b : Int) {T : Int} (hT : 0 < T) : way a b T T = b := by
  unfold way
  rw [Int.mul_ediv_cancel _ (by omega)]; omega
theorem way_mono (a b : Int) {t u T : Int} (hT : 0 < T) (h0 : 0 ≤ t) (h : t ≤ u) : btw (way a b t T) a (way a b u T) = true := by
  rw [btw_iff]
  unfold way
  rcases Int.le_total a b with hab | hab
  · left
    have h1 : 0 ≤ (b - a) * t := Int.mul_nonneg (by omega) h0
    have h2 : (b - a) * t ≤ (b - a) * u := Int.mul_le_mul_of_nonneg_left h (by omega)
    have h3 := Int.ediv_nonneg h1 (Int.le_of_lt hT)
    have h4 := Int.ediv_le_ediv hT h2
    omega
  · right
    have h1 : (b - a) * t ≤ 0 := by
      have : 0 ≤ (a - b) * t := Int.mul_nonneg (by omega) h0
      have e : (b - a) * t = -((a - b) * t) := by rw [← Int.neg_mul]; congr 1; omega
      omega
    have h2 : (b - a) * u ≤ (b - a) * t := by
      have : (a - b) * t ≤ (a - b) * u := Int.mul_le_mul_of_nonneg_left h (by omega)
      have e : (b - a) * t = -((a - b) * t) := by rw [← Int.neg_mul]; congr 1; omega
      have e' : (b - a) * u = -((a - b) * u) := by rw [← Int.neg_mul]; congr 1; omega
      omega
    have h3 : (b - a) * t / T ≤ 0 := by
      have := Int.ediv_le_ediv hT h1
      simpa using this
    have h4 := Int.ediv_le_ediv hT h2
    omega
theorem way_box (a b : Int) {t T : Int} (hT : 0 < T) (h0 : 0 ≤ t) (h : t ≤ T) : btw (way a b t T) a b = true := by
  have := way_mono a b hT h0 h
  rwa [way_all a b hT] at this
theorem way_back (a b : Int) {t T : Int} (hT : 0 < T) : way b a (T - t) T = way a b t T := by
  unfold way
  have e : (a - b) * (T - t) = (b - a) * t + (a - b) * T := by
    rw [Int.mul_sub, show (b - a) = -(a - b) by omega, Int.neg_mul]; omega
  rw [e, Int.add_mul_ediv_right _ _ (by omega)]; omega
theorem Sr.place_way {s : Sr} (n : Int) (h : s.fr ≠ s.to_) : s.place n = (way s.ax s.bx (n - s.fr) (s.to_ - s.fr), way s.ay s.by_ (n - s.fr) (s.to_ - s.fr)) := by
  unfold Sr.place
  rw [if_neg h]; rfl
def Sr.back (s : Sr) : Sr := { s with ax := s.bx, ay := s.by_, bx := s.ax, by_ := s.ay }
theorem Sr.back_check {s : Sr} (h : s.check = 0) : s.back.check = 0 := by
  obtain ⟨hn, ha, h1, h2, hq⟩ := Sr.check_ok h
  unfold Sr.check at h ⊢
  have ef : s.back.fine = s.fine := rfl
  have e1 : s.back.isQ 1 = s.isQ 1 := rfl
  have e0 : s.back.isQ 0 = s.isQ 0 := rfl
  have ea : ptP s.back.ax s.back.ay = ptP s.bx s.by_ := rfl
  have eb : ptP s.back.bx s.back.by_ = ptP s.ax s.ay := rfl
  rw [ef, e1, e0, ea, eb, h1, h2]
  rw [h1, h2] at h
  exact h
/-- What the between-law says of a number, plain. -/
structure BtwLaw (s : Sr) (n m : Int) : Prop where
  is : (s.at_ n).2 = (s.side == 3 || ((s.side == 1) == (n.tmod 2 == 1)))
  none : (s.at_ n).2 = false → (s.at_ n).1 = (0, 0)
  box : (s.at_ n).2 = true → btw (s.at_ n).1.1 s.ax s.bx = true ∧ btw (s.at_ n).1.2 s.ay s.by_ = true
  first : (s.at_ n).2 = true → n = s.fr → (s.at_ n).1 = (s.ax, s.ay)
  last : (s.at_ n).2 = true → n = s.to_ → s.fr < s.to_ → (s.at_ n).1 = (s.bx, s.by_)
  more : (s.at_ n).2 = true → (s.at_ m).2 = true → n ≤ m → btw (s.at_ n).1.1 s.ax (s.at_ m).1.1 = true ∧ btw (s.at_ n).1.2 s.ay (s.at_ m).1.2 = true
  was : (s.at_ n).2 = true → (s.back.at_ (s.fr + s.to_ - n)).2 = false → (s.fr + s.to_).tmod 2 = 1 ∧ s.side ≠ 3
  same : (s.at_ n).2 = true → (s.back.at_ (s.fr + s.to_ - n)).2 = true → s.fr ≠ s.to_ → (s.back.at_ (s.fr + s.to_ - n)).1 = (s.at_ n).1
theorem between_law {s : Sr} (h : s.check = 0) {n m : Int} (hn : s.fr ≤ n ∧ n ≤ s.to_) (hm : s.fr ≤ m ∧ m ≤ s.to_) : BtwLaw s n m := by
  have hN := (Sr.check_ok h).num
  have f1 := hN.f1
  have ft := hN.ft
  have e2 : ∀ k, (s.at_ k).2 = true → s.at_ k = (s.place k, true) ∧ s.hasR k = true := fun k hk => by
    unfold Sr.at_ at hk ⊢
    by_cases hc : s.check = 0 ∧ s.hasR k = true
    · rw [if_pos hc]; exact ⟨rfl, hc.2⟩
    · rw [if_neg hc] at hk; cases hk
  have eB : ∀ k, (s.back.at_ k) = if s.hasR k = true then (s.back.place k, true) else ((0, 0), false) := fun k => by
    unfold Sr.at_
    have e : s.back.hasR k = s.hasR k := rfl
    rw [e]
    by_cases hc : s.hasR k = true
    · rw [if_pos ⟨Sr.back_check h, hc⟩, if_pos hc]
    · rw [if_neg (fun x => hc x.2), if_neg hc]
  have pN : ∀ k, s.fr ≤ k → k ≤ s.to_ → btw (s.place k).1 s.ax s.bx = true ∧ btw (s.place k).2 s.ay s.by_ = true := fun k h1 h2 => by
    by_cases hft : s.fr = s.to_
    · unfold Sr.place
      rw [if_pos hft]
      refine ⟨btw_iff.2 ?_, btw_iff.2 ?_⟩ <;> dsimp only <;> omega
    · rw [s.place_way k hft]
      exact ⟨way_box _ _ (by omega) (by omega) (by omega), way_box _ _ (by omega) (by omega) (by omega)⟩
  refine ⟨?_, fun hf => ?_, fun ht => ?_, fun ht he => ?_, fun ht he hlt => ?_, fun ht hm' hle => ?_, fun ht hw => ?_, fun ht hw hne => ?_⟩
  · have := Sr.at_prog h n hn.1 hn.2
    unfold Sr.at_
    by_cases hc : s.hasR n = true
    · rw [if_pos ⟨h, hc⟩]
      rw [hc] at this
      exact this
    · rw [if_neg (fun x => hc x.2)]
      have hc : s.hasR n = false := by simpa using hc
      rw [hc] at this
      exact this
  · unfold Sr.at_ at hf ⊢
    by_cases hc : s.check = 0 ∧ s.hasR n = true
    · rw [if_pos hc] at hf; cases hf
    · rw [if_neg hc]
  · rw [(e2 n ht).1]
    exact pN n hn.1 hn.2
  · rw [(e2 n ht).1]
    subst he
    dsimp only
    unfold Sr.place
    split
    · rfl
    · simp
  · rw [(e2 n ht).1]
    subst he
    dsimp only
    rw [s.place_way _ (by omega), way_all _ _ (by omega), way_all _ _ (by omega)]
  · rw [(e2 n ht).1, (e2 m hm').1]
    dsimp only
    by_cases hft : s.fr = s.to_
    · unfold Sr.place
      rw [if_pos hft, if_pos hft]
      refine ⟨btw_iff.2 ?_, btw_iff.2 ?_⟩ <;> dsimp only <;> omega
    · rw [s.place_way n hft, s.place_way m hft]
      exact ⟨way_mono _ _ (by omega) (by omega) (by omega), way_mono _ _ (by omega) (by omega) (by omega)⟩
  · rw [eB] at hw
    have hh := (e2 n ht).2
    by_cases hc : s.hasR (s.fr + s.to_ - n) = true
    · rw [if_pos hc] at hw; cases hw
    · rw [s.hasR_iff hN] at hh hc
      rw [tmod2 (by omega)]
      obtain ⟨a1, a2, a3⟩ := hh
      have hc : ¬ (s.side = 3 ∨ s.side = 1 ∧ (s.fr + s.to_ - n) % 2 = 1 ∨ s.side = 2 ∧ (s.fr + s.to_ - n) % 2 = 0) := fun x => hc ⟨by omega, by omega, x⟩
      have h3 : s.side ≠ 3 := fun x => hc (.inl x)
      refine ⟨?_, h3⟩
      rcases a3 with e | ⟨e, e'⟩ | ⟨e, e'⟩
      · exact absurd e h3
      · have : ¬ (s.fr + s.to_ - n) % 2 = 1 := fun x => hc (.inr (.inl ⟨e, x⟩))
        omega
      · have : ¬ (s.fr + s.to_ - n) % 2 = 0 := fun x => hc (.inr (.inr ⟨e, x⟩))
        omega
  · rw [eB] at hw ⊢
    by_cases hc : s.hasR (s.fr + s.to_ - n) = true
    · rw [if_pos hc, (e2 n ht).1]
      dsimp only
      rw [s.place_way n hne, Sr.place_way (s := s.back) _ hne]
      have e1 : s.fr + s.to_ - n - s.back.fr = (s.to_ - s.fr) - (n - s.fr) := by show s.fr + s.to_ - n - s.fr = _; omega
      have e3 : s.back.to_ - s.back.fr = s.to_ - s.fr := rfl
      rw [e1, e3]
      show (way s.bx s.ax _ _, way s.by_ s.ay _ _) = _
      rw [way_back _ _ (by omega), way_back _ _ (by omega)]
    · rw [if_neg hc] at hw; cases hw
/-- Parts in another order. -/
theorem Free_.perm {l m : List Sr} (h : l.Perm m) : Free_ l ↔ Free_ m :=
  h.pairwise_iff (fun hab hba => hab (Sr.clash_comm hba))
theorem srBad_iff (l : List Sr) : 0 ≤ srBad l ↔ ∃ s ∈ l, s.check ≠ 0 := by
  constructor
  · intro h
    refine Classical.byContradiction fun hc => ?_
    have : srBad l = -1 := srBad_none fun i hi => Classical.byContradiction fun e => hc ⟨l[i], List.getElem_mem hi, e⟩
    omega
  · rintro ⟨s, hs, hc⟩
    refine Classical.byContradiction fun h => hc (srBad_num h s hs)
theorem newR_ok (l : List Sr) : (newR l).1 = 0 ↔ l.length ≤ 500 ∧ (∀ s ∈ l, s.check = 0) ∧ Free_ l := by
  unfold newR
  by_cases h5 : 500 < l.length
  · rw [if_pos h5]
    simp only [Int.reduceEq, false_iff]
    omega
  · rw [if_neg h5]
    by_cases hb : 0 ≤ srBad l
    · rw [if_pos hb]
      obtain ⟨s, hs, hc⟩ := (srBad_iff l).1 hb
      simp only [Int.reduceEq, false_iff]
      exact fun h => hc (h.2.1 s hs)
    · rw [if_neg hb]
      have hC := srBad_num hb
      have hN : ∀ s ∈ l, s.Num := fun s hs => (Sr.check_ok (hC s hs)).num
      have key : (∃ T, tabP l = some T) ↔ Free_ l := by
        have := tabP_free hN l.length (Nat.le_refl _)
        rwa [List.take_length] at this
      have hn := (new_eq l).2
      unfold newP newR at hn
      rw [if_neg h5, if_neg hb, if_neg h5, if_neg hb] at hn
      rw [← hn]
      constructor
      · intro h
        refine ⟨by omega, hC, key.1 ?_⟩
        cases hT : tabP l with
        | some T => exact ⟨T, rfl⟩
        | none => rw [hT] at h; cases h
      · rintro ⟨_, _, hF⟩
        obtain ⟨T, hT⟩ := key.2 hF
        rw [hT]; rfl
theorem newR_perm {l m : List Sr} (h : l.Perm m) : (newR l).1 = 0 ↔ (newR m).1 = 0 := by
  rw [newR_ok, newR_ok, h.length_eq, Free_.perm h]
  constructor
  · rintro ⟨a, b, c⟩; exact ⟨a, fun s hs => b s (h.mem_iff.2 hs), c⟩
  · rintro ⟨a, b, c⟩; exact ⟨a, fun s hs => b s (h.mem_iff.1 hs), c⟩
theorem findR_perm {l m : List Sr} (h : l.Perm m) (hl : (newR l).1 = 0) (a : Ad) : findR l a = findR m a := by
  obtain ⟨_, hC, hF⟩ := (newR_ok l).1 hl
  have hFm := (Free_.perm h).1 hF
  have hN : ∀ s ∈ l, s.Num := fun s hs => (Sr.check_ok (hC s hs)).num
  have hNm : ∀ s ∈ m, s.Num := fun s hs => hN s (h.mem_iff.2 hs)
  by_cases hc : checkP a = 0
  · by_cases hx : ∃ s ∈ l, s.key = a.key ∧ s.hasR a.n = true
    · obtain ⟨s, hs, hk, hh⟩ := hx
      rw [findR_some hF hN hc hs hk hh, findR_some hFm hNm hc (h.mem_iff.1 hs) hk hh]
    · have hno : ∀ s ∈ l, s.key = a.key → s.hasR a.n = false := fun s hs hk => by
        cases e : s.hasR a.n with
        | false => rfl
        | true => exact absurd ⟨s, hs, hk, e⟩ hx
      rw [findR_none hc hno, findR_none hc (fun s hs => hno s (h.mem_iff.2 hs))]
  · unfold findR
    rw [if_pos hc, if_pos hc]
theorem findR_plain {l : List Sr} {a b : Ad} (hk : a.key = b.key) (hn : a.n = b.n) (ha : checkP a = 0) (hb : checkP b = 0) : findR l a = findR l b := by
  unfold findR
  rw [if_neg (by simp [ha]), if_neg (by simp [hb]), hk, hn]
/-- Turned about. -/
def turnS (l : List Sr) (b : Nat) : List Sr := (l.take (b + 1)).reverse ++ (l.drop (b + 1)).reverse
theorem turnS_perm (l : List Sr) (b : Nat) : l.Perm (turnS l b) := by
  have h : (l.take (b + 1) ++ l.drop (b + 1)).Perm (turnS l b) := (List.reverse_perm _).symm.append (List.reverse_perm _).symm
  rwa [List.take_append_drop] at h
theorem turnS_len (l : List Sr) (b : Nat) : (turnS l b).length = l.length := (turnS_perm l b).length_eq.symm
theorem turnS_at {l : List Sr} {b i : Nat} (hb : b < l.length) (hi : i < l.length) : (turnS l b)[i]'(by rw [turnS_len]; exact hi) = l[(b + l.length - i) % l.length]'(Nat.mod_lt _ (by omega)) := by
  unfold turnS
  have ht : (l.take (b + 1)).reverse.length = b + 1 := by rw [List.length_reverse, List.length_take]; omega
  by_cases h : i < b + 1
  · rw [List.getElem_append_left (by omega), List.getElem_reverse, List.getElem_take]
    congr 1
    rw [List.length_take, show b + l.length - i = (b - i) + l.length by omega, Nat.add_mod_right, Nat.mod_eq_of_lt (by omega)]
    omega
  · rw [List.getElem_append_right (by omega), List.getElem_reverse, List.getElem_drop]
    congr 1
    rw [List.length_drop, ht, Nat.mod_eq_of_lt (by omega)]
    omega
end Go.Proofs.YtjaponmpfdpemaaGreatDoor

set_option linter.unusedVariables false
namespace Go.Proofs.YtjaponmpfdpemaaGreatDoor
open Go.RowKit Go.Maps

theorem srOk_fine {s : Sr} (h : s.check = 0) : s.fine = true := by
  unfold Sr.check at h
  cases hf : s.fine with
  | true => rfl
  | false => rw [hf] at h; simp at h
theorem TabAt.set {w0 W : World} {ml n : Nat} {T : List Bs → List Sr × List Sr} (h : TabAt w0 W ml n T) {f : Nat} {t : TypeId} {cs : Array Value} (hf : Blk W f t cs) (ht : 25 ≠ t) (o : Nat) (u : Value) : TabAt w0 (W.setCell ⟨f, o, none⟩ u) ml n T := by
  obtain ⟨D, hm, hk⟩ := h.ex
  refine ⟨D, hm.setCell (fun e => ?_) u, fun k hk' => ?_⟩
  · have e : ml = f := e
    subst e
    obtain ⟨es, clock, hb, _⟩ := hm
    unfold Blk at hf
    rw [hb] at hf
    cases hf
  · obtain ⟨v0, v1, x, y, h1, h2, h3, h4, h5⟩ := hk k hk'
    exact ⟨v0, v1, x, y, h1, h2, h3, own_set h4 (own_blk_ne h4 hf ht) u, own_set h5 (own_blk_ne h5 hf ht) u⟩
theorem TabAt.lookE {w0 W : World} {ml n : Nat} {T : List Bs → List Sr × List Sr} (h : TabAt w0 W ml n T) (k : List Bs) (hk : OkK k) : ∃ v0 v1, (∀ W', Ext W W' → (Instr.lookup 59 (.map (some ml)) (keyV k) false).run Tryz.prog W' = .ok (.agg #[v0, v1]) W') ∧
    W.ownsRow w0.heap.size 25 13 v0 (T k).1.length (srCells (T k).1) ∧ W.ownsRow w0.heap.size 25 13 v1 (T k).2.length (srCells (T k).2) := by
  obtain ⟨D, hm, hK⟩ := h.ex
  obtain ⟨v0, v1, x, y, h1, h2, h3, h4, h5⟩ := hK k hk
  refine ⟨v0, v1, fun W' hx => ?_, h4, h5⟩
  have hm' : W'.ownsMap Tryz.prog 74 twoR ml n D := by
    obtain ⟨es', clock, hb, r⟩ := hm
    exact ⟨es', clock, (hx.block ml (Array.getElem?_eq_some_iff.1 hb).1).trans hb, r⟩
  obtain ⟨v, ps, hrun, hv⟩ := hm'.lookup lawStr Tryz.underlying59 (zeroT W') (zd := .agg [.nil, .nil]) (zp := []) rfl (keyStr k hk)
  rw [h3] at hv
  rw [twoR_inv h1 h2 hv] at hrun
  exact hrun
theorem SrS.okK {s : Sr} (h : SrS s 1000) : OkK s.key := ⟨rfl, fun b hb => by
  simp only [Sr.key, List.mem_cons, List.not_mem_nil, or_false] at hb
  rcases hb with rfl | rfl | rfl | rfl | rfl | rfl
  · have := h.state; omega
  · have := h.city; omega
  · have := h.pre; omega
  · have := h.name; omega
  · have := h.suf; omega
  · have := h.post; omega⟩
abbrev KeyRun (W : World) (ml : Nat) (x : Sr) (v0 v1 : Value) : Prop := (Instr.lookup 59 (.map (some ml)) (.agg #[.string ⟨x.state.toArray⟩, .string ⟨x.city.toArray⟩, .string ⟨x.pre.toArray⟩, .string ⟨x.name.toArray⟩, .string ⟨x.suf.toArray⟩, .string ⟨x.post.toArray⟩]) false).run Tryz.prog W = .ok (.agg #[v0, v1]) W
/-- How far New has come. -/
def NwRel (w : World) (l : List Sr) (f tb ml : Nat) (i : Value) (wr : World) : Prop := ∃ (k : Nat) (T : STab) (c : Nat), k ≤ l.length ∧ i = .int .i64 (k : Int) ∧ tabP (l.take k) = some T ∧ Blk wr f 36 #[.int .i64 0, .int .i64 0] ∧
  Blk wr tb 61 #[.map (some ml), .int .i64 (l.length : Int), .bool true] ∧ c ≤ k ∧ TabAt w wr ml c T ∧ Ext w wr
/-- How far New has come with the two rows of one part's street. -/
def SdRel (w wa : World) (r0 r1 : List Sr) (x : Sr) (g8 : Nat) (i : Value) (wr : World) : Prop := ∃ (j : Nat) (a b : List Sr) (v0 v1 : Value), j ≤ 2 ∧ i = .int .i64 (j : Int) ∧ Blk wr g8 72 #[v0, v1] ∧
  wr.ownsRow w.heap.size 25 13 v0 a.length (srCells a) ∧ wr.ownsRow w.heap.size 25 13 v1 b.length (srCells b) ∧ (j = 0 → a = r0) ∧ (j ≤ 1 → b = r1) ∧ (1 ≤ j → sideP r0 x 0 = some a) ∧ (2 ≤ j → sideP r1 x 1 = some b) ∧ Ext wa wr
theorem SdRel.next {w wa W : World} {r0 r1 : List Sr} {x : Sr} {g8 j : Nat} (h : SdRel w wa r0 r1 x g8 (.int .i64 (j : Int)) W) (hj : j < 2) : ∃ (r : List Sr) (v : Value), W.cell? ⟨g8, j, none⟩ = some v ∧ g8 < W.heap.size ∧ W.ownsRow w.heap.size 25 13 v r.length (srCells r) ∧ (r = if j = 0 then r0 else r1) ∧
    (∃ cs, Blk W g8 72 cs) ∧ Ext wa W ∧
    (∀ W' v' r', Ext wa W' → (∀ cs, Blk W g8 72 cs → Blk W' g8 72 (cs.setIfInBounds j v')) → (∀ v n xs, W.ownsRow w.heap.size 25 13 v n xs → W'.ownsRow w.heap.size 25 13 v n xs) →
      W'.ownsRow w.heap.size 25 13 v' r'.length (srCells r') → sideP r x (j : Int) = some r' → SdRel w wa r0 r1 x g8 (.int .i64 ((j + 1 : Nat) : Int)) W') ∧
    (∀ W', Ext W W' → x.isQ (j : Int) = false → SdRel w wa r0 r1 x g8 (.int .i64 ((j + 1 : Nat) : Int)) W') := by
  obtain ⟨j', a, b, v0, v1, _, hjj, B8, ha, hb, e0, e1, e2, e3, X8⟩ := h
  have : j = j' := by
    have := Value.int.inj hjj
    omega
  subst this
  have hskip : ∀ l, x.isQ (j : Int) = false → sideP l x (j : Int) = some l := fun l hq => by unfold sideP; rw [if_pos hq]
  obtain rfl | rfl : j = 0 ∨ j = 1 := by omega
  · have h0 := e0 rfl
    have h1 := e1 (by omega)
    subst h0 h1
    refine ⟨a, v0, B8.cell 0, B8.lt, ha, by simp, ⟨_, B8⟩, X8, fun W' v' r' hx hB hk ho hs => ?_, fun W' hx hq => ?_⟩
    · exact ⟨1, r', b, v', v1, by omega, rfl, by simpa using hB _ B8, ho, hk _ _ _ hb, fun h => absurd h (by omega), fun _ => rfl, fun _ => hs, fun h => absurd h (by omega), hx⟩
    · exact ⟨1, a, b, v0, v1, by omega, rfl, B8.ext hx, own_ext ha hx, own_ext hb hx, fun h => absurd h (by omega), fun _ => rfl, fun _ => hskip _ hq, fun h => absurd h (by omega), X8.trans hx⟩
  · have h1 := e1 (by omega)
    subst h1
    have h2 := e2 (by omega)
    refine ⟨b, v1, B8.cell 1, B8.lt, hb, by simp, ⟨_, B8⟩, X8, fun W' v' r' hx hB hk ho hs => ?_, fun W' hx hq => ?_⟩
    · exact ⟨2, a, r', v0, v', by omega, rfl, by simpa using hB _ B8, hk _ _ _ ha, ho, fun h => absurd h (by omega), fun h => absurd h (by omega), fun _ => h2, fun _ => hs, hx⟩
    · exact ⟨2, a, b, v0, v1, by omega, rfl, B8.ext hx, own_ext ha hx, own_ext hb hx, fun h => absurd h (by omega), fun h => absurd h (by omega), fun _ => h2, fun _ => hskip _ hq, X8.trans hx⟩
theorem stepT_none {T : STab} {x : Sr} {j : Nat} (hj : j < 2) (h : sideP (if j = 0 then (T x.key).1 else (T x.key).2) x (j : Int) = none) : stepT T x = none := by
  unfold stepT
  obtain rfl | rfl : j = 0 ∨ j = 1 := by omega
  · have h : sideP (T x.key).1 x 0 = none := h
    rw [h]
  · have h : sideP (T x.key).2 x 1 = none := h
    rw [h]
    cases sideP (T x.key).1 x 0 <;> rfl
theorem newP_clash {l : List Sr} {k : Nat} {T : STab} (h5 : ¬ 500 < l.length) (hb : ¬ 0 ≤ srBad l) (hk : k < l.length) (hT : tabP (l.take k) = some T) (hs : stepT T l[k] = none) : newP l = (none, 7, (k : Int)) := by
  have h2 : tabP (l.take (k + 1)) = none := by rw [tabP_take hk, hT]; exact hs
  obtain ⟨a, b⟩ := clashK_is hk hT h2
  unfold newP
  rw [if_neg h5, if_neg hb, a]
  simp only [b]
/-- A table as New makes it. -/
structure StrAt (w0 W : World) (tb n : Nat) (T : STab) : Prop where
  ex : ∃ ml c, c ≤ n ∧ Blk W tb 61 #[.map (some ml), .int .i64 (n : Int), .bool true] ∧ TabAt w0 W ml c T ∧ w0.heap.size ≤ tb ∧ w0.heap.size ≤ ml
theorem own_ne_new {w : World} {base n : Nat} {e : TypeId} {size : Nat} {v : Value} {xs : List Value} (h : w.ownsRow base e size v n xs) : v.ownBlock ≠ some w.heap.size := by
  intro he
  rcases h.2 with ⟨rfl, _⟩ | ⟨g, cap, cur, rfl, _, hg, _⟩
  · cases he
  · have : g = w.heap.size := Option.some.inj he
    have := (Array.getElem?_eq_some_iff.1 hg).1
    omega
theorem own_ne_old {w : World} {base n g : Nat} {e : TypeId} {size : Nat} {v : Value} {xs : List Value} (h : w.ownsRow base e size v n xs) (hb : g < base) : v.ownBlock ≠ some g := by
  intro he
  rcases h.2 with ⟨rfl, _⟩ | ⟨g', cap, cur, rfl, h1, hg, _⟩
  · cases he
  · have : g' = g := Option.some.inj he
    omega
theorem Blk.sr {w : World} {g : Nat} {x : Sr} (h : Blk w g 25 #[.string ⟨x.state.toArray⟩, .string ⟨x.city.toArray⟩, .string ⟨x.pre.toArray⟩, .string ⟨x.name.toArray⟩, .string ⟨x.suf.toArray⟩, .string ⟨x.post.toArray⟩, .int .i64 x.fr, .int .i64 x.to_, .int .i64 x.side, .int .i64 x.ax, .int .i64 x.ay, .int .i64 x.bx, .int .i64 x.by_]) : w.heap[g]? = some (.cells (srC x) 25 (0, 0)) := h
/-- The last statement of a sequence, with what follows a variable: so go_cut may be set round it. -/
theorem wp_last {P : Program} {c : Code} {Q : Exit → Act → World → Prop} {a : Act} {w : World} (h : ∀ K : Act → World → Prop, (∀ a w, Q .normal a w → K a w) → c.wp P (Exit.then K Q) a w) : c.wp P Q a w :=
  Code.wp_mono (Q := Exit.then (fun a w => Q .normal a w) Q) (fun e a w h => by cases e <;> exact h) (h _ (fun _ _ h => h))
end Go.Proofs.YtjaponmpfdpemaaGreatDoor
