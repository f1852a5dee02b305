/-
  The library at this program: strings.Trim at the digits.
-/
import Derived.Test.YtjneghncmgjkeaaGreatDoorRy01
import Derived.Shelf.Strings.SlTrimAscii
import Derived.Test.YtjneghncmgjkeaaGreatDoorRy06
set_option linter.unusedVariables false
namespace Go.Proofs.YtjneghncmgjkeaaGreatDoor
open Go.RowKit

def digsL : Bs := [48, 49, 50, 51, 52, 53, 54, 55, 56, 57]
theorem digs_mem (c : UInt8) : digsL.contains c = digB c := by
  unfold digB digsL
  rw [Bool.eq_iff_iff, List.contains_iff_mem, decide_eq_true_eq]
  constructor
  · intro h
    simp only [List.mem_cons, List.not_mem_nil, or_false] at h
    rcases h with rfl | rfl | rfl | rfl | rfl | rfl | rfl | rfl | rfl | rfl <;> decide
  · intro ⟨h1, h2⟩
    have e : c = UInt8.ofNat c.toNat := by simp
    rw [e]
    have : c.toNat = 48 ∨ c.toNat = 49 ∨ c.toNat = 50 ∨ c.toNat = 51 ∨ c.toNat = 52 ∨ c.toNat = 53 ∨ c.toNat = 54 ∨ c.toNat = 55 ∨ c.toNat = 56 ∨ c.toNat = 57 := by omega
    rcases this with h | h | h | h | h | h | h | h | h | h <;> rw [h] <;> decide
theorem dropW_nil {p : UInt8 → Bool} : ∀ {l : Bs}, l.dropWhile p = [] ↔ l.all p = true
  | [] => by simp
  | c :: l => by
    rw [List.dropWhile_cons, List.all_cons]
    cases h : p c with
    | true => simp only [if_true, Bool.true_and]; exact dropW_nil
    | false => simp
theorem trimS_nil (s : Bs) : Lib.trimS s digsL = [] ↔ s.all digB = true := by
  have hp : (fun c => digsL.contains c) = digB := funext digs_mem
  unfold Lib.trimS Lib.trimLeftS Lib.trimRightS
  rw [hp, dropW_nil, List.all_reverse]
  constructor
  · intro h
    -- what is left behind the trailing digits are digits: all are
    have key : ∀ l : Bs, (l.dropWhile digB).all digB = true → l.all digB = true := by
      intro l
      induction l with
      | nil => intro _; rfl
      | cons c l ih =>
        intro h
        rw [List.dropWhile_cons] at h
        cases hc : digB c with
        | true => rw [hc] at h; simp only [if_true] at h; rw [List.all_cons, hc, ih h]; rfl
        | false => rw [hc] at h; simp [hc] at h
    have := key s.reverse h
    rwa [List.all_reverse] at this
  · intro h
    have : s.reverse.all digB = true := by rw [List.all_reverse]; exact h
    rw [dropW_nil.2 this]
    rfl
theorem trim_any (s : Bs) (W : World) (hs : s.length ≤ 100000) :
    Calls Tryz.prog 69 #[.string ⟨s.toArray⟩, .string ⟨#[48, 49, 50, 51, 52, 53, 54, 55, 56, 57]⟩] W fun e w' => (∃ r : Bs, e = .returned (.string ⟨r.toArray⟩) ∧ (r = [] ↔ s.all digB = true)) ∧ Ext W w' := by
  refine (Any.strings_Trim_laid Tryz.lays160 (by kernel_rfl) ⟨s.toArray⟩ ⟨#[48, 49, 50, 51, 52, 53, 54, 55, 56, 57]⟩ W (by show s.toArray.size ≤ _; simp; omega) (by decide) (ascii_of_all (by decide))).mono ?_
  rintro e w' ⟨rfl, hx⟩
  refine ⟨⟨_, rfl, ?_⟩, hx⟩
  exact trimS_nil s
end Go.Proofs.YtjneghncmgjkeaaGreatDoor

set_option linter.unusedVariables false
namespace Go.Proofs.YtjneghncmgjkeaaGreatDoor

theorem beginS_le {s : Bs} {n : Nat} (h : n < (toksOf s).length) : beginS s 0 (toksOf s) n ≤ s.length := by
  obtain ⟨_, ha, hn⟩ := toksOf_ok s
  rw [beginS_adv s _ n 0 (by omega)]
  have e : (toksOf s).take (n + 1) = (toksOf s).take n ++ [(toksOf s)[n]] := List.take_succ_eq_append_getElem h
  have h2 : advS s 0 ((toksOf s).take (n + 1)) ≤ advS s 0 (toksOf s) := by
    have := advS_app s ((toksOf s).take (n + 1)) ((toksOf s).drop (n + 1)) 0
    rw [List.take_append_drop] at this
    rw [this]
    exact advS_mono s _ _
  rw [e, advS_app] at h2
  simp only [advS] at h2
  have h3 : 1 ≤ ((toksOf s)[n]).t.length := by
    have := (hn _ (List.getElem_mem h)).1
    cases ht : ((toksOf s)[n]).t with
    | nil => exact absurd ht this
    | cons c r => simp
  omega
/-- What is known of tokens that were read. -/
structure TokensOk (s : Bs) (r : List Tok × Int × Int) : Prop where
  up : ∀ t ∈ r.1, t.t ≠ [] ∧ upS t.t = t.t
  len : r.1.length ≤ s.length
  at0 : 0 ≤ r.2.2
  at1 : r.2.2 ≤ s.length
  l40 : r.1.length ≤ 40
theorem tokensP_ok (s : Bs) : TokensOk s (tokensP s) := by
  unfold tokensP
  split
  · exact ⟨by simp, by simp, by simp, by simp, by simp⟩
  · split
    · rename_i i hb
      refine ⟨by simp, by simp, by simp, ?_, by simp⟩
      unfold badAt at hb
      have := (List.findIdx?_eq_some_iff_getElem.1 hb).1
      show (i : Int) ≤ _
      omega
    · split
      · rename_i h
        refine ⟨by simp, by simp, by simp, ?_, by simp⟩
        have := beginS_le h
        show (beginS s 0 (toksOf s) 40 : Int) ≤ _
        omega
      · rename_i h
        obtain ⟨a, _, c⟩ := toksOf_ok s
        exact ⟨c, a, by simp, by simp, by show (toksOf s).length ≤ 40; omega⟩
/-- The words of a kind: their short forms are short, in capitals, and short forms of themselves. -/
def wordsFine (k : Int) (n : Nat) : Bool := (wordsP k).all fun p => upS p.s == p.s && decide (p.s.length ≤ n) && shortP k p.s == (p.s, true) && p.s != []
theorem words_fine : wordsFine 1 4 = true ∧ wordsFine 2 2 = true ∧ wordsFine 3 2 = true ∧ wordsFine 4 4 = true := by decide +kernel
theorem states_two : (wordsP 3).all (fun p => decide (p.s.length = 2)) = true := by decide +kernel
theorem shortP_mem {k : Int} {w : Bs} (h : (shortP k w).2 = true) : ∃ p ∈ wordsP k, (shortP k w).1 = p.s := by
  unfold shortP at h ⊢
  cases hf : (wordsP k).reverse.find? fun p => p.l == w || p.s == w with
  | none => rw [hf] at h; cases h
  | some p => exact ⟨p, by simpa using List.mem_of_find?_eq_some hf, rfl⟩
theorem shortP_none {k : Int} {w : Bs} (h : (shortP k w).2 = false) : (shortP k w).1 = [] := by
  unfold shortP at h ⊢
  cases hf : (wordsP k).reverse.find? fun p => p.l == w || p.s == w with
  | none => rfl
  | some p => rw [hf] at h; cases h
/-- A short form, or none. -/
structure ShortOk (k : Int) (n : Nat) (x : Bs) : Prop where
  up : upS x = x
  len : x.length ≤ n
  own : (shortP k x).1 = x
theorem shortP_ok {k : Int} {n : Nat} (hf : wordsFine k n = true) (h0 : (shortP k []).1 = []) (w : Bs) : ShortOk k n (shortP k w).1 := by
  cases h : (shortP k w).2 with
  | false => rw [shortP_none h]; exact ⟨rfl, by simp, h0⟩
  | true =>
    obtain ⟨p, hp, e⟩ := shortP_mem h
    have := List.all_eq_true.1 hf p hp
    simp only [Bool.and_eq_true, beq_iff_eq, decide_eq_true_eq] at this
    rw [e]
    exact ⟨this.1.1.1, this.1.1.2, by rw [this.1.2]⟩
theorem short0 : (shortP 1 []).1 = [] ∧ (shortP 2 []).1 = [] ∧ (shortP 3 []).1 = [] ∧ (shortP 4 []).1 = [] := by decide +kernel
theorem textsP_up : ∀ {l : List Tok}, (∀ t ∈ l, upS t.t = t.t) → upS (textsP l) = textsP l
  | [], _ => rfl
  | [t], h => h t (by simp)
  | t :: u :: l, h => by
    have ih := textsP_up (l := u :: l) fun x hx => h x (by simp [hx])
    have ht := h t (by simp)
    unfold upS at *
    simp only [textsP, List.map_append, List.map_cons]
    rw [ih, ht]
    rfl
theorem partsP_mem : ∀ {l : List Tok} {p : List Tok} {t : Tok}, p ∈ partsP l → t ∈ p → t ∈ l ∧ t.k ≠ 4
  | [], p, t, hp, ht => by
    simp [partsP] at hp
    subst hp
    cases ht
  | x :: l, p, t, hp, ht => by
    unfold partsP at hp
    by_cases hx : x.k = 4
    · rw [if_pos hx] at hp
      rcases List.mem_cons.1 hp with rfl | hp
      · cases ht
      · have := partsP_mem hp ht
        exact ⟨List.mem_cons_of_mem _ this.1, this.2⟩
    · rw [if_neg hx] at hp
      cases hq : partsP l with
      | nil =>
        rw [hq] at hp
        simp at hp
        subst hp
        rcases List.mem_singleton.1 ht with rfl
        exact ⟨by simp, hx⟩
      | cons q r =>
        rw [hq] at hp
        simp only at hp
        rcases List.mem_cons.1 hp with rfl | hp
        · rcases List.mem_cons.1 ht with rfl | ht
          · exact ⟨by simp, hx⟩
          · have := partsP_mem (l := l) (p := q) (by rw [hq]; simp) ht
            exact ⟨List.mem_cons_of_mem _ this.1, this.2⟩
        · have := partsP_mem (l := l) (p := p) (by rw [hq]; simp [hp]) ht
          exact ⟨List.mem_cons_of_mem _ this.1, this.2⟩
theorem numP_bd : ∀ (s : Bs) (n : Int), s.all digB = true → 0 ≤ n → 0 ≤ s.foldl (fun n c => 10 * n + (c.toNat - 48 : Int)) n ∧ s.foldl (fun n c => 10 * n + (c.toNat - 48 : Int)) n ≤ (n + 1) * 10 ^ s.length - 1
  | [], n, _, h => by simp; omega
  | c :: s, n, hd, h => by
    simp only [List.all_cons, Bool.and_eq_true] at hd
    have hc : 48 ≤ c.toNat ∧ c.toNat ≤ 57 := by simpa [digB] using hd.1
    obtain ⟨a, b⟩ := numP_bd s (10 * n + (c.toNat - 48 : Int)) hd.2 (by omega)
    rw [List.foldl_cons, List.length_cons]
    refine ⟨a, Int.le_trans b ?_⟩
    have hp : (0 : Int) ≤ 10 ^ s.length := Int.pow_nonneg (by decide)
    have h1 : (10 * n + (c.toNat - 48 : Int) + 1) * 10 ^ s.length ≤ (10 * (n + 1)) * 10 ^ s.length := Int.mul_le_mul_of_nonneg_right (by omega) hp
    have h2 : (10 * (n + 1)) * (10 : Int) ^ s.length = (n + 1) * 10 ^ (s.length + 1) := by
      rw [Int.pow_succ, Int.mul_comm 10 (n + 1), Int.mul_assoc, Int.mul_comm 10]
    omega
theorem numP_le {s : Bs} (h : digitsP s 1 6 = true) : 0 ≤ numP s ∧ numP s ≤ 999999 := by
  unfold digitsP at h
  rw [Bool.and_eq_true, decide_eq_true_eq] at h
  obtain ⟨a, b⟩ := numP_bd s 0 h.2 (by omega)
  refine ⟨a, Int.le_trans b ?_⟩
  have : (10 : Int) ^ s.length ≤ 10 ^ 6 := by
    rcases (show s.length = 1 ∨ s.length = 2 ∨ s.length = 3 ∨ s.length = 4 ∨ s.length = 5 ∨ s.length = 6 by omega) with e | e | e | e | e | e <;> rw [e] <;> decide
  omega
end Go.Proofs.YtjneghncmgjkeaaGreatDoor
