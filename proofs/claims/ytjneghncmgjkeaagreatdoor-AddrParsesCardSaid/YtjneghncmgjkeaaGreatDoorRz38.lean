/-
  Plain: the reference's Parse tells what the program's does.
-/
import Derived.Test.YtjneghncmgjkeaaGreatDoorRz35
import Derived.Test.YtjneghncmgjkeaaGreatDoorRz37
set_option linter.unusedVariables false
namespace Go.Proofs.YtjneghncmgjkeaaGreatDoor

/-- The reference's Parse, from the parts on. -/
def rparsePts (p : List (List Tok)) (last : Nat) : Ad × Int × Int :=
  if emptyP p = true then errA 270 0 else
  let p0 := p.getD 0 []
  let n := wholeP (p0.headD ⟨0, []⟩).t
  if n = 0 then errA 271 0 else
  let st := streetP p0.tail (decide (last = 2))
  let inT := if last = 3 then some (p.getD 1 []) else st.2.2
  if inT.any (fun l => !(unitP l).2 || decide (10 < ((l.getD 1 ⟨0, []⟩).t).length)) = true then errA 272 (last - 2) else
  let name := st.2.1
  if name.length = 0 ∨ name.any (fun t => t.k == 5) = true ∨ 8 < name.length ∨ 40 < st.1.name.length then errA 273 0 else
  let city := p.getD (last - 1) []
  if city.all (fun t => t.k == 1) = false ∨ 8 < city.length ∨ 40 < (textsP city).length then errA 274 (last - 1) else
  let place := p.getD last []
  let z := (place.getLastD ⟨0, []⟩).t
  if zipR z = false then errA 276 last else
  let sh := shortP 3 (textsP place.dropLast)
  if sh.2 = false then errA 275 last else
  (⟨n, st.1.half, st.1.pre, st.1.name, st.1.suf, st.1.post, (match inT with | some u => (unitP u).1 | none => []), textsP city, sh.1, z.take 5, z.drop 6⟩, 0, 0)
theorem empty_iff {p : List (List Tok)} {last : Nat} (hl : last = p.length - 1) : emptyP p = true ↔ (¬ (last = 2 ∨ last = 3) ∨ p.any (fun x => x.isEmpty) = true) := by
  unfold emptyP
  rw [Bool.or_eq_true, Bool.or_eq_true, decide_eq_true_eq, decide_eq_true_eq]
  constructor
  · rintro ((h | h) | h)
    · exact .inr h
    · exact .inl (by omega)
    · exact .inl (by omega)
  · rintro (h | h)
    · by_cases h3 : p.length < 3
      · exact .inl (.inr h3)
      · exact .inr (by omega)
    · exact .inl (.inl h)
theorem whole_iff (s : Bs) : wholeP s = 0 ↔ ¬ (digitsP s 1 6 = true ∧ 0 < numP s) := by
  unfold wholeP
  by_cases h : digitsP s 1 6 = true
  · rw [if_pos h]
    have := (numP_le h).1
    constructor
    · rintro h1 ⟨_, h2⟩; omega
    · intro h1
      by_cases h2 : 0 < numP s
      · exact absurd ⟨h, h2⟩ h1
      · omega
  · rw [if_neg h]
    exact ⟨fun _ h1 => h h1.1, fun _ => rfl⟩
theorem kind_one (l : List Tok) : l.all (fun t => t.k == 1) = kindOf l [1] := by
  unfold kindOf
  congr 1
  funext t
  by_cases h : t.k = 1
  · rw [h]; rfl
  · rw [beq_eq_false_iff_ne.2 h]
    simp [h]
theorem kind_odd {l : List Tok} (h : ∀ t ∈ l, TokIs t ∧ t.k ≠ 4) : l.any (fun t => t.k == 5) = !(kindOf l [1, 2, 3]) := by
  induction l with
  | nil => rfl
  | cons t l ih =>
    have ih := ih fun x hx => h x (by simp [hx])
    obtain ⟨h1, h4⟩ := h t (by simp)
    unfold kindOf at ih ⊢
    rw [List.any_cons, List.all_cons, ih]
    by_cases h5 : t.k = 5
    · rw [h5]; simp
    · rw [beq_eq_false_iff_ne.2 h5, tokIs_in h1 h4 h5]; simp
theorem streetP_mem {l : List Tok} {inner : Bool} {t : Tok} (h : t ∈ (streetP l inner).2.1) : t ∈ l := by
  unfold streetP at h
  dsimp only at h
  have hb : ∀ (m : List Tok) (k : Int), ∀ x ∈ (backP m k).1, x ∈ m := by
    intro m k x hx
    unfold backP at hx
    split at hx
    · exact List.dropLast_subset m hx
    · exact hx
  have hf : ∀ (m : List Tok) (k : Int), ∀ x ∈ (frontP m k).1, x ∈ m := by
    intro m k x hx
    unfold frontP at hx
    split at hx
    · exact List.mem_of_mem_tail hx
    · exact hx
  have h2 : ∀ x ∈ (if (l.head? == some halfT) = true then l.tail else l), x ∈ l := by
    intro x hx
    split at hx
    · exact List.mem_of_mem_tail hx
    · exact hx
  generalize (if (l.head? == some halfT) = true then l.tail else l) = m at h h2
  have h1 := hb _ _ _ (hb _ _ _ (hf _ _ _ h))
  refine h2 _ ?_
  split at h1
  · exact List.mem_of_mem_take h1
  · exact h1
theorem streetP_unit (l : List Tok) (inner : Bool) : ((streetP l inner).2.2 = none ∧ (streetP l inner).1.unit = []) ∨ ∃ u, (streetP l inner).2.2 = some u ∧ (unitP u).2 = true ∧ (streetP l inner).1.unit = (unitP u).1 := by
  unfold streetP
  dsimp only
  generalize (if (l.head? == some halfT) = true then l.tail else l) = m
  by_cases h : (inner && decide (2 < m.length) && (unitP (m.drop (m.length - 2))).2) = true
  · rw [if_pos h, if_pos h]
    exact .inr ⟨_, rfl, by rw [Bool.and_eq_true] at h; exact h.2, rfl⟩
  · rw [if_neg h, if_neg h]
    exact .inl ⟨rfl, rfl⟩
theorem rparse_eq {p : List (List Tok)} {last : Nat} (hl : last = p.length - 1) (hk : ∀ x ∈ p, ∀ t ∈ x, TokIs t ∧ t.k ≠ 4) : rparsePts p last = parsePts p last := by
  unfold rparsePts parsePts
  dsimp only
  have hgd : ∀ i, ∀ t ∈ p.getD i [], TokIs t ∧ t.k ≠ 4 := by
    intro i t ht
    rw [List.getD_eq_getElem?_getD] at ht
    by_cases hi : i < p.length
    · rw [List.getElem?_eq_getElem hi] at ht
      exact hk _ (List.getElem_mem hi) t ht
    · rw [List.getElem?_eq_none (by omega)] at ht
      cases ht
  by_cases h1 : emptyP p = true
  · rw [if_pos h1, if_pos ((empty_iff hl).1 h1)]
  rw [if_neg h1, if_neg (fun h => h1 ((empty_iff hl).2 h))]
  have hlast : last = 2 ∨ last = 3 := by
    by_cases h : last = 2 ∨ last = 3
    · exact h
    · exact absurd ((empty_iff hl).2 (.inl h)) h1
  by_cases h2 : wholeP ((p.getD 0 []).headD ⟨0, []⟩).t = 0
  · rw [if_pos h2, if_pos ((whole_iff _).1 h2)]
  rw [if_neg h2, if_neg (fun h => h2 ((whole_iff _).2 h))]
  have hn : wholeP ((p.getD 0 []).headD ⟨0, []⟩).t = numP ((p.getD 0 []).headD ⟨0, []⟩).t := by
    unfold wholeP at h2 ⊢
    by_cases h : digitsP ((p.getD 0 []).headD ⟨0, []⟩).t 1 6 = true
    · rw [if_pos h]
    · rw [if_neg h] at h2; exact absurd rfl h2
  have hnm := kind_odd (l := (streetP (p.getD 0 []).tail (decide (last = 2))).2.1) fun t ht => hgd 0 t (List.mem_of_mem_tail (streetP_mem ht))
  have hsu := streetP_unit (p.getD 0 []).tail (decide (last = 2))
  generalize streetP (p.getD 0 []).tail (decide (last = 2)) = st at *
  have hname : (st.2.1.length = 0 ∨ st.2.1.any (fun t => t.k == 5) = true ∨ 8 < st.2.1.length ∨ 40 < st.1.name.length) ↔ ¬ (0 < st.2.1.length ∧ st.2.1.length ≤ 8 ∧ kindOf st.2.1 [1, 2, 3] = true ∧ st.1.name.length ≤ 40) := by
    rw [hnm]
    generalize st.2.1.length = q
    generalize st.1.name.length = r
    cases kindOf st.2.1 [1, 2, 3] <;> simp <;> omega
  have hcity : ∀ c : List Tok, (c.all (fun t => t.k == 1) = false ∨ 8 < c.length ∨ 40 < (textsP c).length) ↔ ¬ (kindOf c [1] = true ∧ c.length ≤ 8 ∧ (textsP c).length ≤ 40) := by
    intro c
    rw [kind_one]
    generalize (textsP c).length = r
    generalize c.length = q
    cases kindOf c [1] <;> simp <;> omega
  have hzip : ∀ z : Bs, zipR z = false ↔ ¬ (digitsP (cutDash z).1 5 5 = true ∧ ((cutDash z).2.2 = false ∨ digitsP (cutDash z).2.1 4 4 = true)) := by
    intro z
    rw [zip_iff]
    cases zipR z <;> simp
  have hU : ∀ u : Bs, (if (st.2.1.length = 0 ∨ st.2.1.any (fun t => t.k == 5) = true ∨ 8 < st.2.1.length ∨ 40 < st.1.name.length) then errA 273 0 else
      if ((p.getD (last - 1) []).all (fun t => t.k == 1) = false ∨ 8 < (p.getD (last - 1) []).length ∨ 40 < (textsP (p.getD (last - 1) [])).length) then errA 274 (last - 1) else
      if zipR ((p.getD last []).getLastD ⟨0, []⟩).t = false then errA 276 last else
      if (shortP 3 (textsP (p.getD last []).dropLast)).2 = false then errA 275 last else
      ((⟨wholeP ((p.getD 0 []).headD ⟨0, []⟩).t, st.1.half, st.1.pre, st.1.name, st.1.suf, st.1.post, u, textsP (p.getD (last - 1) []), (shortP 3 (textsP (p.getD last []).dropLast)).1, ((p.getD last []).getLastD ⟨0, []⟩).t.take 5, ((p.getD last []).getLastD ⟨0, []⟩).t.drop 6⟩ : Ad), (0 : Int), (0 : Int))) =
      (if ¬ (0 < st.2.1.length ∧ st.2.1.length ≤ 8 ∧ kindOf st.2.1 [1, 2, 3] = true ∧ st.1.name.length ≤ 40) then errA 273 0 else
      if ¬ (kindOf (p.getD (last - 1) []) [1] = true ∧ (p.getD (last - 1) []).length ≤ 8 ∧ (textsP (p.getD (last - 1) [])).length ≤ 40) then errA 274 (last - 1) else
      if ¬ (digitsP (cutDash ((p.getD last []).getLastD ⟨0, []⟩).t).1 5 5 = true ∧ ((cutDash ((p.getD last []).getLastD ⟨0, []⟩).t).2.2 = false ∨ digitsP (cutDash ((p.getD last []).getLastD ⟨0, []⟩).t).2.1 4 4 = true)) then errA 276 last else
      if (shortP 3 (textsP (p.getD last []).dropLast)).2 = false then errA 275 last else
      ((⟨numP ((p.getD 0 []).headD ⟨0, []⟩).t, st.1.half, st.1.pre, st.1.name, st.1.suf, st.1.post, u, textsP (p.getD (last - 1) []), (shortP 3 (textsP (p.getD last []).dropLast)).1, (cutDash ((p.getD last []).getLastD ⟨0, []⟩).t).1, (cutDash ((p.getD last []).getLastD ⟨0, []⟩).t).2.1⟩ : Ad), (0 : Int), (0 : Int))) := by
    intro u
    by_cases a1 : (st.2.1.length = 0 ∨ st.2.1.any (fun t => t.k == 5) = true ∨ 8 < st.2.1.length ∨ 40 < st.1.name.length)
    · rw [if_pos a1, if_pos (hname.1 a1)]
    rw [if_neg a1, if_neg (fun h => a1 (hname.2 h))]
    by_cases a2 : ((p.getD (last - 1) []).all (fun t => t.k == 1) = false ∨ 8 < (p.getD (last - 1) []).length ∨ 40 < (textsP (p.getD (last - 1) [])).length)
    · rw [if_pos a2, if_pos ((hcity _).1 a2)]
    rw [if_neg a2, if_neg (fun h => a2 ((hcity _).2 h))]
    by_cases a3 : zipR ((p.getD last []).getLastD ⟨0, []⟩).t = false
    · rw [if_pos a3, if_pos ((hzip _).1 a3)]
    rw [if_neg a3, if_neg (fun h => a3 ((hzip _).2 h))]
    obtain ⟨hz, _⟩ := zip_parts (by simpa using a3 : zipR ((p.getD last []).getLastD ⟨0, []⟩).t = true)
    rw [hz, hn]
  rcases hlast with h3 | h3
  · have h33 : ¬ last = 3 := by omega
    rw [if_neg h33, if_neg (show ¬ (last = 3 ∧ (unitP (p.getD 1 [])).2 = false) from fun h => h33 h.1), if_neg h33]
    rcases hsu with ⟨e1, e2⟩ | ⟨u, e1, e2, e3⟩
    · rw [e1, e2]
      simp only [Option.any_none, Bool.false_eq_true, if_false]
      exact hU []
    · rw [e1, e3]
      simp only [Option.any_some, e2, Bool.not_true, Bool.false_or]
      by_cases h10 : (decide (10 < ((u.getD 1 ⟨0, []⟩).t).length)) = true
      · rw [if_pos h10, if_pos h10]
      · rw [if_neg h10, if_neg h10]
        exact hU _
  · rw [if_pos h3, if_pos h3]
    simp only [Option.any_some]
    cases hu : (unitP (p.getD 1 [])).2 with
    | false =>
      rw [if_pos (by rfl), if_pos ⟨h3, rfl⟩, h3]
      rfl
    | true =>
      rw [if_neg (show ¬ (last = 3 ∧ true = false) from fun h => by cases h.2)]
      simp only [Bool.not_true, Bool.false_or]
      by_cases h10 : (decide (10 < (((p.getD 1 []).getD 1 ⟨0, []⟩).t).length)) = true
      · rw [if_pos h10, if_pos h10]
      · rw [if_neg h10, if_neg h10]
        exact hU _
end Go.Proofs.YtjneghncmgjkeaaGreatDoor

set_option linter.unusedVariables false
namespace Go.Proofs.YtjneghncmgjkeaaGreatDoor

/-- The reference's Check. -/
def rcheckP (a : Ad) : Int :=
  if (decide (a.n < 1) || decide (999999 < a.n) || !namedP a.name [1, 2, 3] || !namedP a.city [1, 2, 3] || !((if namedP a.city [1, 2, 3] then (tokensP a.city).1 else []).all (fun t => t.k == 1)) || !ownP 2 a.pre || !ownP 2 a.post || !ownP 1 a.suf) = true then 2 else
  if (a.state == [] || !ownP 3 a.state || !digitsP a.zip 5 5 || (a.more != [] && !digitsP a.more 4 4)) = true then 2 else
  if (a.unit != [] && (!(unitP (tokensP a.unit).1).2 || (unitP (tokensP a.unit).1).1 != a.unit || decide (10 < (((tokensP a.unit).1.getD 1 ⟨0, []⟩).t).length))) = true then 2 else
  let r := tokensP (lineP a)
  let b := (streetP r.1 (a.unit == [])).1
  if (r.2.1 != 0 || !(a.pre == b.pre && a.name == b.name && a.suf == b.suf && a.post == b.post && a.half == b.half && b.unit == [])) = true then 2 else 0
theorem kindOf_mono {l : List Tok} (h : kindOf l [1] = true) : kindOf l [1, 2, 3] = true := by
  unfold kindOf at *
  rw [List.all_eq_true] at *
  intro t ht
  have := h t ht
  simp at this
  simp [this]
theorem named_one (s : Bs) : (namedP s [1, 2, 3] && (if namedP s [1, 2, 3] then (tokensP s).1 else []).all (fun t => t.k == 1)) = namedP s [1] := by
  have h1 : namedP s [1, 2, 3] = ((tokensP s).2.1 == 0 && decide (0 < (tokensP s).1.length) && decide ((tokensP s).1.length ≤ 8) && kindOf (tokensP s).1 [1, 2, 3] && textsP (tokensP s).1 == s && decide (s.length ≤ 40)) := rfl
  have h2 : namedP s [1] = ((tokensP s).2.1 == 0 && decide (0 < (tokensP s).1.length) && decide ((tokensP s).1.length ≤ 8) && kindOf (tokensP s).1 [1] && textsP (tokensP s).1 == s && decide (s.length ≤ 40)) := rfl
  cases hn : namedP s [1, 2, 3] with
  | true =>
    rw [if_pos rfl, Bool.true_and, kind_one]
    rw [hn] at h1
    have h1 := h1.symm
    simp only [Bool.and_eq_true] at h1
    obtain ⟨⟨⟨⟨⟨a1, a2⟩, a3⟩, a4⟩, a5⟩, a6⟩ := h1
    rw [h2, a1, a2, a3, a5, a6]
    simp
  | false =>
    rw [Bool.false_and]
    cases hk : namedP s [1] with
    | false => rfl
    | true =>
      rw [hk] at h2
      have h2 := h2.symm
      simp only [Bool.and_eq_true] at h2
      obtain ⟨⟨⟨⟨⟨a1, a2⟩, a3⟩, a4⟩, a5⟩, a6⟩ := h2
      rw [h1, a1, a2, a3, kindOf_mono a4, a5, a6] at hn
      cases hn
theorem street_same (a : Ad) (l : List Tok) (inner : Bool) : (streetP l inner).1 = a.street ↔ (a.pre == (streetP l inner).1.pre && a.name == (streetP l inner).1.name && a.suf == (streetP l inner).1.suf && a.post == (streetP l inner).1.post && a.half == (streetP l inner).1.half && (streetP l inner).1.unit == []) = true := by
  have h0 : (streetP l inner).1 = ⟨0, (streetP l inner).1.half, (streetP l inner).1.pre, (streetP l inner).1.name, (streetP l inner).1.suf, (streetP l inner).1.post, (streetP l inner).1.unit, [], [], [], []⟩ := rfl
  generalize (streetP l inner).1 = b at *
  simp only [Bool.and_eq_true, beq_iff_eq]
  constructor
  · intro h
    rw [h]
    exact ⟨⟨⟨⟨⟨rfl, rfl⟩, rfl⟩, rfl⟩, rfl⟩, rfl⟩
  · rintro ⟨⟨⟨⟨⟨e1, e2⟩, e3⟩, e4⟩, e5⟩, e6⟩
    rw [h0]
    unfold Ad.street
    rw [e1, e2, e3, e4, e5, e6]
theorem rcheck_eq (a : Ad) : rcheckP a = checkP a := by
  have hs := street_same a (tokensP (lineP a)).1 (a.unit == [])
  have hc := named_one a.city
  have hh : housedP a.unit = (a.unit == [] || ((unitP (tokensP a.unit).1).2 && (unitP (tokensP a.unit).1).1 == a.unit && decide (((tokensP a.unit).1.getD 1 ⟨0, []⟩).t.length ≤ 10))) := rfl
  unfold rcheckP checkP
  dsimp only
  rw [← hc, hh]
  generalize streetP (tokensP (lineP a)).1 (a.unit == []) = st at *
  generalize tokensP (lineP a) = r at *
  generalize (if namedP a.city [1, 2, 3] = true then (tokensP a.city).1 else []).all (fun t => t.k == 1) = L at *
  generalize namedP a.city [1, 2, 3] = C at *
  have e1 : decide (a.n < 1) = !decide (1 ≤ a.n) := by by_cases h : a.n < 1 <;> simp [h] <;> omega
  have e2 : decide (999999 < a.n) = !decide (a.n ≤ 999999) := by by_cases h : 999999 < a.n <;> simp [h] <;> omega
  have e3 : decide (10 < ((tokensP a.unit).1.getD 1 ⟨0, []⟩).t.length) = !decide (((tokensP a.unit).1.getD 1 ⟨0, []⟩).t.length ≤ 10) := by
    generalize ((tokensP a.unit).1.getD 1 ⟨0, []⟩).t.length = q
    by_cases h : 10 < q <;> simp [h] <;> omega
  rw [e1, e2, e3]
  rw [show (a.state != []) = !(a.state == []) from rfl, show (a.more != []) = !(a.more == []) from rfl, show (a.unit != []) = !(a.unit == []) from rfl, show ((unitP (tokensP a.unit).1).1 != a.unit) = !((unitP (tokensP a.unit).1).1 == a.unit) from rfl, show (r.2.1 != 0) = !(r.2.1 == 0) from rfl]
  generalize decide (1 ≤ a.n) = b1
  generalize decide (a.n ≤ 999999) = b2
  generalize namedP a.name [1, 2, 3] = b3
  generalize ownP 2 a.pre = b4
  generalize ownP 2 a.post = b5
  generalize ownP 1 a.suf = b6
  generalize (a.state == []) = b7
  generalize ownP 3 a.state = b8
  generalize digitsP a.zip 5 5 = b9
  generalize (a.more == []) = b10
  generalize digitsP a.more 4 4 = b11
  generalize (a.unit == []) = b12
  generalize (unitP (tokensP a.unit).1).2 = b13
  generalize ((unitP (tokensP a.unit).1).1 == a.unit) = b14
  generalize decide (((tokensP a.unit).1.getD 1 ⟨0, []⟩).t.length ≤ 10) = b15
  have hl : (if (!(r.2.1 == 0) || !(a.pre == st.1.pre && a.name == st.1.name && a.suf == st.1.suf && a.post == st.1.post && a.half == st.1.half && st.1.unit == [])) = true then (2 : Int) else 0) = if r.2.1 ≠ 0 ∨ st.1 ≠ a.street then 2 else 0 := by
    by_cases h : st.1 = a.street
    · rw [hs.1 h]
      by_cases h0 : r.2.1 = 0
      · rw [h0, if_neg (by decide), if_neg (by intro h'; rcases h' with h' | h'; exact h' rfl; exact h' h)]
      · rw [if_pos (by simp [h0]), if_pos (.inl h0)]
    · have hx : (a.pre == st.1.pre && a.name == st.1.name && a.suf == st.1.suf && a.post == st.1.post && a.half == st.1.half && st.1.unit == []) = false := by
        rw [← Bool.not_eq_true]
        exact fun h' => h (hs.2 h')
      rw [hx, if_pos (by simp), if_pos (.inr h)]
  rw [hl]
  generalize (if r.2.1 ≠ 0 ∨ st.1 ≠ a.street then (2 : Int) else 0) = R
  by_cases g1 : (b1 && b2 && b3 && C && L && b4 && b5 && b6) = true
  · simp only [Bool.and_eq_true] at g1
    obtain ⟨⟨⟨⟨⟨⟨⟨rfl, rfl⟩, rfl⟩, rfl⟩, rfl⟩, rfl⟩, rfl⟩, rfl⟩ := g1
    rw [if_neg (by decide)]
    cases b7
    · cases b8
      · simp
      · cases b9
        · simp
        · cases b10 <;> cases b11 <;> cases b12 <;> cases b13 <;> cases b14 <;> cases b15 <;> rfl
    · simp
  · have g2 : (!b1 || !b2 || !b3 || !C || !L || !b4 || !b5 || !b6) = true := by
      rw [Bool.not_eq_true] at g1
      rw [← Bool.not_and, ← Bool.not_and, ← Bool.not_and, ← Bool.not_and, ← Bool.not_and, ← Bool.not_and, ← Bool.not_and, g1]
      rfl
    rw [if_pos g2]
    have g3 : (b1 && b2 && b3 && (C && L) && b4 && b5 && b6) = false := by
      rw [← Bool.not_eq_true]
      intro h
      apply g1
      simp only [Bool.and_eq_true] at h ⊢
      obtain ⟨⟨⟨⟨⟨⟨x1, x2⟩, x3⟩, x4, x5⟩, x6⟩, x7⟩, x8⟩ := h
      exact ⟨⟨⟨⟨⟨⟨⟨x1, x2⟩, x3⟩, x4⟩, x5⟩, x6⟩, x7⟩, x8⟩
    rw [g3]
    simp
end Go.Proofs.YtjneghncmgjkeaaGreatDoor

set_option linter.unusedVariables false
namespace Go.Proofs.YtjneghncmgjkeaaGreatDoor
open Go.RowKit

/-- Where the reference's street stands: the result's block, the address's, the tokens that are left. -/
structure RsAt (W w : World) (g4 g7 : Nat) (a : Ad) (A : Option Addr) (n cap : Nat) (l : List Tok) : Prop where
  ext : Ext W w
  r : Blk w g4 23 (adC Ad.zero)
  b : Blk w g7 23 (adC a)
  t : TokS w A n cap l
  lo : 0 < l.length → ∀ b o, A = some ⟨b, o, none⟩ → b < W.heap.size
  l4 : W.heap.size ≤ g4
  l7 : W.heap.size ≤ g7
  ne : g4 ≠ g7
theorem RsAt.to {W w w' : World} {g4 g7 n cap : Nat} {a : Ad} {A : Option Addr} {l : List Tok} (h : RsAt W w g4 g7 a A n cap l) (hx : Ext w w') : RsAt W w' g4 g7 a A n cap l :=
  ⟨h.ext.trans hx, h.r.ext hx, h.b.ext hx, h.t.ext hx, h.lo, h.l4, h.l7, h.ne⟩
theorem RsAt.put {W w : World} {g4 g7 n cap : Nat} {a b : Ad} {A : Option Addr} {l : List Tok} (h : RsAt W w g4 g7 a A n cap l) (i : Nat) (u : Value) (hu : (adC a).setIfInBounds i u = adC b) : RsAt W (w.setCell ⟨g7, i, none⟩ u) g4 g7 b A n cap l :=
  ⟨h.ext.set (p := ⟨g7, i, none⟩) h.l7 _, h.r.far (p := ⟨g7, i, none⟩) h.ne _, ad_put h.b i u b hu, h.t.set (p := ⟨g7, i, none⟩) h.lo h.l7 _, h.lo, h.l4, h.l7, h.ne⟩
theorem RsAt.keep {W w : World} {g4 g7 n cap n' cap' : Nat} {a : Ad} {A A' : Option Addr} {l l' : List Tok} (h : RsAt W w g4 g7 a A n cap l) (ht : TokS w A' n' cap' l') (hlo : 0 < l'.length → ∀ b o, A' = some ⟨b, o, none⟩ → b < W.heap.size) : RsAt W w g4 g7 a A' n' cap' l' :=
  ⟨h.ext, h.r, h.b, ht, hlo, h.l4, h.l7, h.ne⟩
theorem RsAt.take {W w : World} {g4 g7 n cap : Nat} {a : Ad} {A : Option Addr} {l : List Tok} (h : RsAt W w g4 g7 a A n cap l) {m : Nat} (hm : m ≤ n) : RsAt W w g4 g7 a A m cap (l.take m) :=
  h.keep (h.t.take hm) fun h0 b o e => h.lo (by rw [List.length_take] at h0; omega) b o e
theorem RsAt.drop {W w : World} {g4 g7 n cap b o : Nat} {a : Ad} {l : List Tok} (h : RsAt W w g4 g7 a (some ⟨b, o, none⟩) n cap l) {m : Nat} (hm : m ≤ n) : RsAt W w g4 g7 a (some ⟨b, o + m * 2, none⟩) (n - m) (cap - m) (l.drop m) :=
  h.keep (h.t.drop hm) fun h0 b' o' e => by
    injection e with e
    injection e with e1 _ _
    subst e1
    exact h.lo (by rw [List.length_drop] at h0; omega) b o rfl
end Go.Proofs.YtjneghncmgjkeaaGreatDoor
