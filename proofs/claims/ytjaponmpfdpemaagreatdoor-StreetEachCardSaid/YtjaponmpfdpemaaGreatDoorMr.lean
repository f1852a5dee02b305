/-
  Plain: StreetOrder, StreetEach: what New and Find come to.
-/
import Derived.Test.YtjaponmpfdpemaaGreatDoorBa24
import Derived.Test.YtjaponmpfdpemaaGreatDoorBa16
set_option linter.unusedSimpArgs false
set_option linter.unusedVariables false
namespace Go.Proofs.YtjaponmpfdpemaaGreatDoor

theorem newR_zero {l : List Sr} (h : (newR l).1 = 0) : newR l = (0, 0) := by
  unfold newR at h ⊢
  by_cases h5 : 500 < l.length
  · rw [if_pos h5] at h; cases h
  · rw [if_neg h5] at h ⊢
    by_cases hb : 0 ≤ srBad l
    · rw [if_pos hb] at h; cases h
    · rw [if_neg hb] at h ⊢
      cases hf : (List.range l.length).find? (clashR l) with
      | none => rfl
      | some k => rw [hf] at h; cases h
theorem newR_err {l : List Sr} (hl : l.length ≤ 500) : (newR l).1 = 0 ∨ (newR l).1 = 2 ∨ (newR l).1 = 7 := by
  unfold newR
  rw [if_neg (by omega)]
  by_cases hb : 0 ≤ srBad l
  · rw [if_pos hb]; exact .inr (.inl rfl)
  · rw [if_neg hb]
    cases (List.range l.length).find? (clashR l) with
    | none => exact .inl rfl
    | some k => exact .inr (.inr rfl)
/-- An address on a part's street. -/
def eachA (s : Sr) (n : Int) : Ad := ⟨n, false, s.pre, s.name, s.suf, s.post, [], s.city, s.state, [49, 48, 48, 48, 49], []⟩
theorem eachA_key (s : Sr) (n : Int) : (eachA s n).key = s.key := rfl
theorem eachA_check {s : Sr} (h : s.check = 0) {n : Int} (h1 : 1 ≤ n) (h2 : n ≤ 999999) : checkP (eachA s n) = 0 := by
  have ha := (Sr.check_ok h).ad
  have z1 : digitsP (eachA s n).zip 5 5 = digitsP s.ad.zip 5 5 := by
    show digitsP [49, 48, 48, 48, 49] 5 5 = digitsP [48, 48, 48, 48, 48] 5 5
    decide
  have n1 : decide (1 ≤ (eachA s n).n) = decide (1 ≤ s.ad.n) := by
    show decide (1 ≤ n) = decide ((1 : Int) ≤ 1)
    rw [decide_eq_true h1]; rfl
  have n2 : decide ((eachA s n).n ≤ 999999) = decide (s.ad.n ≤ 999999) := by
    show decide (n ≤ 999999) = decide ((1 : Int) ≤ 999999)
    rw [decide_eq_true h2]; rfl
  unfold checkP at ha ⊢
  rw [z1, n1, n2]
  exact ha
/-- How many parts of a street have a number. -/
def eachF (s : Sr) (n : Int) (x : Sr) : Bool := decide (x.key = s.key) && (x.at_ n).2
theorem countP_one {α : Type} {l : List α} {p : α → Bool} (h : l.Pairwise (fun a b => ¬ (p a = true ∧ p b = true))) : l.countP p ≤ 1 := by
  induction l with
  | nil => simp
  | cons a l ih =>
    rw [List.pairwise_cons] at h
    by_cases ha : p a = true
    · rw [List.countP_cons_of_pos ha, List.countP_eq_zero.2 (fun b hb hp => h.1 b hb ⟨ha, hp⟩)]
      omega
    · rw [List.countP_cons_of_neg ha]
      exact ih h.2
structure EachLaw (l : List Sr) (s : Sr) (n : Int) (r : (Int × Int) × Int) : Prop where
  found : ∀ x ∈ l, x.key = s.key → (x.at_ n).2 = true → r = ((x.at_ n).1, 0)
  le : ∀ k, (l.take k).countP (eachF s n) ≤ 1
  told : (l.countP (eachF s n) = 1 ∧ r.2 = 0) ∨ (l.countP (eachF s n) = 0 ∧ r.2 = 6)
theorem each_law {l : List Sr} (h : (newR l).1 = 0) {s : Sr} (hs : s ∈ l) {n : Int} (h1 : 1 ≤ n) (h2 : n ≤ 999999) : EachLaw l s n (findR l (eachA s n)) := by
  obtain ⟨_, hC, hF⟩ := (newR_ok l).1 h
  have hN : ∀ s ∈ l, s.Num := fun s hm => (Sr.check_ok (hC s hm)).num
  have hc := eachA_check (hC s hs) h1 h2
  have hat : ∀ x ∈ l, ((x.at_ n).2 = true ↔ x.hasR n = true) := fun x hx => by
    unfold Sr.at_
    by_cases hh : x.hasR n = true
    · rw [if_pos ⟨hC x hx, hh⟩]; simp [hh]
    · rw [if_neg (fun q => hh q.2)]; simp [hh]
  have hone : l.countP (eachF s n) ≤ 1 := by
    refine countP_one ?_
    refine List.pairwise_iff_getElem.2 fun i j hi hj hij hp => ?_
    unfold eachF at hp
    simp only [Bool.and_eq_true, decide_eq_true_eq] at hp
    have m1 := List.getElem_mem hi
    have m2 := List.getElem_mem hj
    refine List.pairwise_iff_getElem.1 hF i j hi hj hij ⟨hp.1.1.trans hp.2.1.symm, ?_⟩
    exact (Sr.meet_iff (hN _ m1) (hN _ m2)).2 ⟨n, (hat _ m1).1 hp.1.2, (hat _ m2).1 hp.2.2⟩
  have hfound : ∀ x ∈ l, x.key = s.key → (x.at_ n).2 = true → findR l (eachA s n) = ((x.at_ n).1, 0) := fun x hx hk hb =>
    findR_some hF hN hc hx hk ((hat x hx).1 hb)
  refine ⟨hfound, fun k => Nat.le_trans ((List.take_sublist k l).countP_le) hone, ?_⟩
  by_cases hz : l.countP (eachF s n) = 0
  · right
    refine ⟨hz, ?_⟩
    rw [findR_none hc]
    intro x hx hk
    have := List.countP_eq_zero.1 hz x hx
    unfold eachF at this
    simp only [Bool.and_eq_true, decide_eq_true_eq, not_and] at this
    have hb := this hk
    rw [hat x hx] at hb
    show x.hasR n = false
    simpa using hb
  · left
    refine ⟨by omega, ?_⟩
    obtain ⟨x, hx, hp⟩ := List.countP_pos_iff.1 (Nat.pos_of_ne_zero hz)
    unfold eachF at hp
    simp only [Bool.and_eq_true, decide_eq_true_eq] at hp
    rw [hfound x hx hp.1 hp.2]
/-- An address without what does not matter. -/
def plainA (a : Ad) : Ad := { a with half := false, unit := [], zip := [49, 50, 51, 52, 53], more := [] }
theorem findR_two {l : List Sr} {a : Ad} : (findR l a).2 = 2 ↔ checkP a ≠ 0 := by
  unfold findR
  by_cases hc : checkP a ≠ 0
  · rw [if_pos hc]; simp [hc]
  · rw [if_neg hc]
    cases l.find? (fun s => decide (s.key = a.key) && s.hasR a.n) with
    | none => simp [hc]
    | some s => simp [hc]
theorem findR_plainA {l : List Sr} {a : Ad} (h : (findR l a).2 ≠ 2) (hp : checkP (plainA a) = 0) : findR l (plainA a) = findR l a := by
  have hc : checkP a = 0 := Classical.byContradiction fun e => h (findR_two.2 e)
  exact findR_plain (a := plainA a) (b := a) rfl rfl hp hc
end Go.Proofs.YtjaponmpfdpemaaGreatDoor
