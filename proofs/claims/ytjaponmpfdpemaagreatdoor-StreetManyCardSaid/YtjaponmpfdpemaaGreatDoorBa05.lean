/-
  The library at this program: strings.Trim at the digits.
-/
import Derived.Test.YtjaponmpfdpemaaGreatDoorBa03
import Derived.Shelf.Strings.SlTrimAscii
import Derived.Test.YtjaponmpfdpemaaGreatDoorBa02
set_option linter.unusedVariables false
namespace Go.Proofs.YtjaponmpfdpemaaGreatDoor
open Go.RowKit

def digsL : Bs := [48, 49, 50, 51, 52, 53, 54, 55, 56, 57]
theorem digs_mem (c : UInt8) : digsL.contains c = digB c := by
  unfold digB digsL
  rw [Bool.eq_iff_iff, List.contains_iff_mem, decide_eq_true_eq]
  constructor
  · intro h
    simp only [List.mem_cons, List.not_mem_nil, or_false] at h
    rcases h with rfl | rfl | rfl | rfl | rfl | rfl | rfl | rfl | rfl | rfl <;> decide
  · intro ⟨h1, h2⟩
    have e : c = UInt8.ofNat c.toNat := by simp
    rw [e]
    have : c.toNat = 48 ∨ c.toNat = 49 ∨ c.toNat = 50 ∨ c.toNat = 51 ∨ c.toNat = 52 ∨ c.toNat = 53 ∨ c.toNat = 54 ∨ c.toNat = 55 ∨ c.toNat = 56 ∨ c.toNat = 57 := by omega
    rcases this with h | h | h | h | h | h | h | h | h | h <;> rw [h] <;> decide
theorem dropW_nil {p : UInt8 → Bool} : ∀ {l : Bs}, l.dropWhile p = [] ↔ l.all p = true
  | [] => by simp
  | c :: l => by
    rw [List.dropWhile_cons, List.all_cons]
    cases h : p c with
    | true => simp only [if_true, Bool.true_and]; exact dropW_nil
    | false => simp
theorem trimS_nil (s : Bs) : Lib.trimS s digsL = [] ↔ s.all digB = true := by
  have hp : (fun c => digsL.contains c) = digB := funext digs_mem
  unfold Lib.trimS Lib.trimLeftS Lib.trimRightS
  rw [hp, dropW_nil, List.all_reverse]
  constructor
  · intro h
    -- what is left behind the trailing digits are digits: all are
    have key : ∀ l : Bs, (l.dropWhile digB).all digB = true → l.all digB = true := by
      intro l
      induction l with
      | nil => intro _; rfl
      | cons c l ih =>
        intro h
        rw [List.dropWhile_cons] at h
        cases hc : digB c with
        | true => rw [hc] at h; simp only [if_true] at h; rw [List.all_cons, hc, ih h]; rfl
        | false => rw [hc] at h; simp [hc] at h
    have := key s.reverse h
    rwa [List.all_reverse] at this
  · intro h
    have : s.reverse.all digB = true := by rw [List.all_reverse]; exact h
    rw [dropW_nil.2 this]
    rfl
theorem trim_any (s : Bs) (W : World) (hs : s.length ≤ 100000) :
    Calls Tryz.prog 80 #[.string ⟨s.toArray⟩, .string ⟨#[48, 49, 50, 51, 52, 53, 54, 55, 56, 57]⟩] W fun e w' => (∃ r : Bs, e = .returned (.string ⟨r.toArray⟩) ∧ (r = [] ↔ s.all digB = true)) ∧ Ext W w' := by
  refine (Any.strings_Trim_laid Tryz.lays160 (by kernel_rfl) ⟨s.toArray⟩ ⟨#[48, 49, 50, 51, 52, 53, 54, 55, 56, 57]⟩ W (by show s.toArray.size ≤ _; simp; omega) (by decide) (ascii_of_all (by decide))).mono ?_
  rintro e w' ⟨rfl, hx⟩
  refine ⟨⟨_, rfl, ?_⟩, hx⟩
  exact trimS_nil s
end Go.Proofs.YtjaponmpfdpemaaGreatDoor

set_option linter.unusedVariables false
namespace Go.Proofs.YtjaponmpfdpemaaGreatDoor

theorem beginS_le {s : Bs} {n : Nat} (h : n < (toksOf s).length) : beginS s 0 (toksOf s) n ≤ s.length := by
  obtain ⟨_, ha, hn⟩ := toksOf_ok s
  rw [beginS_adv s _ n 0 (by omega)]
  have e : (toksOf s).take (n + 1) = (toksOf s).take n ++ [(toksOf s)[n]] := List.take_succ_eq_append_getElem h
  have h2 : advS s 0 ((toksOf s).take (n + 1)) ≤ advS s 0 (toksOf s) := by
    have := advS_app s ((toksOf s).take (n + 1)) ((toksOf s).drop (n + 1)) 0
    rw [List.take_append_drop] at this
    rw [this]
    exact advS_mono s _ _
  rw [e, advS_app] at h2
  simp only [advS] at h2
  have h3 : 1 ≤ ((toksOf s)[n]).t.length := by
    have := (hn _ (List.getElem_mem h)).1
    cases ht : ((toksOf s)[n]).t with
    | nil => exact absurd ht this
    | cons c r => simp
  omega
/-- What is known of tokens that were read. -/
structure TokensOk (s : Bs) (r : List Tok × Int × Int) : Prop where
  up : ∀ t ∈ r.1, t.t ≠ [] ∧ upS t.t = t.t
  len : r.1.length ≤ s.length
  at0 : 0 ≤ r.2.2
  at1 : r.2.2 ≤ s.length
  l40 : r.1.length ≤ 40
theorem tokensP_ok (s : Bs) : TokensOk s (tokensP s) := by
  unfold tokensP
  split
  · exact ⟨by simp, by simp, by simp, by simp, by simp⟩
  · split
    · rename_i i hb
      refine ⟨by simp, by simp, by simp, ?_, by simp⟩
      unfold badAt at hb
      have := (List.findIdx?_eq_some_iff_getElem.1 hb).1
      show (i : Int) ≤ _
      omega
    · split
      · rename_i h
        refine ⟨by simp, by simp, by simp, ?_, by simp⟩
        have := beginS_le h
        show (beginS s 0 (toksOf s) 40 : Int) ≤ _
        omega
      · rename_i h
        obtain ⟨a, _, c⟩ := toksOf_ok s
        exact ⟨c, a, by simp, by simp, by show (toksOf s).length ≤ 40; omega⟩
/-- The words of a kind: their short forms are short, in capitals, and short forms of themselves. -/
def wordsFine (k : Int) (n : Nat) : Bool := (wordsP k).all fun p => upS p.s == p.s && decide (p.s.length ≤ n) && shortP k p.s == (p.s, true) && p.s != []
theorem words_fine : wordsFine 1 4 = true ∧ wordsFine 2 2 = true ∧ wordsFine 3 2 = true ∧ wordsFine 4 4 = true := by decide +kernel
theorem states_two : (wordsP 3).all (fun p => decide (p.s.length = 2)) = true := by decide +kernel
theorem shortP_mem {k : Int} {w : Bs} (h : (shortP k w).2 = true) : ∃ p ∈ wordsP k, (shortP k w).1 = p.s := by
  unfold shortP at h ⊢
  cases hf : (wordsP k).reverse.find? fun p => p.l == w || p.s == w with
  | none => rw [hf] at h; cases h
  | some p => exact ⟨p, by simpa using List.mem_of_find?_eq_some hf, rfl⟩
theorem shortP_none {k : Int} {w : Bs} (h : (shortP k w).2 = false) : (shortP k w).1 = [] := by
  unfold shortP at h ⊢
  cases hf : (wordsP k).reverse.find? fun p => p.l == w || p.s == w with
  | none => rfl
  | some p => rw [hf] at h; cases h
/-- A short form, or none. -/
structure ShortOk (k : Int) (n : Nat) (x : Bs) : Prop where
  up : upS x = x
  len : x.length ≤ n
  own : (shortP k x).1 = x
theorem shortP_ok {k : Int} {n : Nat} (hf : wordsFine k n = true) (h0 : (shortP k []).1 = []) (w : Bs) : ShortOk k n (shortP k w).1 := by
  cases h : (shortP k w).2 with
  | false => rw [shortP_none h]; exact ⟨rfl, by simp, h0⟩
  | true =>
    obtain ⟨p, hp, e⟩ := shortP_mem h
    have := List.all_eq_true.1 hf p hp
    simp only [Bool.and_eq_true, beq_iff_eq, decide_eq_true_eq] at this
    rw [e]
    exact ⟨this.1.1.1, this.1.1.2, by rw [this.1.2]⟩
theorem short0 : (shortP 1 []).1 = [] ∧ (shortP 2 []).1 = [] ∧ (shortP 3 []).1 = [] ∧ (shortP 4 []).1 = [] := by decide +kernel
theorem textsP_up : ∀ {l : List Tok}, (∀ t ∈ l, upS t.t = t.t) → upS (textsP l) = textsP l
  | [], _ => rfl
  | [t], h => h t (by simp)
  | t :: u :: l, h => by
    have ih := textsP_up (l := u :: l) fun x hx => h x (by simp [hx])
    have ht := h t (by simp)
    unfold upS at *
    simp only [textsP, List.map_append, List.map_cons]
    rw [ih, ht]
    rfl
theorem partsP_mem : ∀ {l : List Tok} {p : List Tok} {t : Tok}, p ∈ partsP l → t ∈ p → t ∈ l ∧ t.k ≠ 4
  | [], p, t, hp, ht => by
    simp [partsP] at hp
    subst hp
    cases ht
  | x :: l, p, t, hp, ht => by
    unfold partsP at hp
    by_cases hx : x.k = 4
    · rw [if_pos hx] at hp
      rcases List.mem_cons.1 hp with rfl | hp
      · cases ht
      · have := partsP_mem hp ht
        exact ⟨List.mem_cons_of_mem _ this.1, this.2⟩
    · rw [if_neg hx] at hp
      cases hq : partsP l with
      | nil =>
        rw [hq] at hp
        simp at hp
        subst hp
        rcases List.mem_singleton.1 ht with rfl
        exact ⟨by simp, hx⟩
      | cons q r =>
        rw [hq] at hp
        simp only at hp
        rcases List.mem_cons.1 hp with rfl | hp
        · rcases List.mem_cons.1 ht with rfl | ht
          · exact ⟨by simp, hx⟩
          · have := partsP_mem (l := l) (p := q) (by rw [hq]; simp) ht
            exact ⟨List.mem_cons_of_mem _ this.1, this.2⟩
        · have := partsP_mem (l := l) (p := p) (by rw [hq]; simp [hp]) ht
          exact ⟨List.mem_cons_of_mem _ this.1, this.2⟩
theorem numP_bd : ∀ (s : Bs) (n : Int), s.all digB = true → 0 ≤ n → 0 ≤ s.foldl (fun n c => 10 * n + (c.toNat - 48 : Int)) n ∧ s.foldl (fun n c => 10 * n + (c.toNat - 48 : Int)) n ≤ (n + 1) * 10 ^ s.length - 1
  | [], n, _, h => by simp; omega
  | c :: s, n, hd, h => by
    simp only [List.all_cons, Bool.and_eq_true] at hd
    have hc : 48 ≤ c.toNat ∧ c.toNat ≤ 57 := by simpa [digB] using hd.1
    obtain ⟨a, b⟩ := numP_bd s (10 * n + (c.toNat - 48 : Int)) hd.2 (by omega)
    rw [List.foldl_cons, List.length_cons]
    refine ⟨a, Int.le_trans b ?_⟩
    have hp : (0 : Int) ≤ 10 ^ s.length := Int.pow_nonneg (by decide)
    have h1 : (10 * n + (c.toNat - 48 : Int) + 1) * 10 ^ s.length ≤ (10 * (n + 1)) * 10 ^ s.length := Int.mul_le_mul_of_nonneg_right (by omega) hp
    have h2 : (10 * (n + 1)) * (10 : Int) ^ s.length = (n + 1) * 10 ^ (s.length + 1) := by
      rw [Int.pow_succ, Int.mul_comm 10 (n + 1), Int.mul_assoc, Int.mul_comm 10]
    omega
theorem numP_le {s : Bs} (h : digitsP s 1 6 = true) : 0 ≤ numP s ∧ numP s ≤ 999999 := by
  unfold digitsP at h
  rw [Bool.and_eq_true, decide_eq_true_eq] at h
  obtain ⟨a, b⟩ := numP_bd s 0 h.2 (by omega)
  refine ⟨a, Int.le_trans b ?_⟩
  have : (10 : Int) ^ s.length ≤ 10 ^ 6 := by
    rcases (show s.length = 1 ∨ s.length = 2 ∨ s.length = 3 ∨ s.length = 4 ∨ s.length = 5 ∨ s.length = 6 by omega) with e | e | e | e | e | e <;> rw [e] <;> decide
  omega
end Go.Proofs.YtjaponmpfdpemaaGreatDoor

set_option linter.unusedVariables false
namespace Go.Proofs.YtjaponmpfdpemaaGreatDoor

def sndB (c : UInt8) : Bool := clsB c == 2 || clsB c == 3
def nextSnd (s : Bs) : Bool := (s.head?.map sndB).getD false
def tokW (w : Bs) : Tok := ⟨kindT (upS w), upS w⟩
def sepT (c : UInt8) : List Tok := if clsB c = 5 then [tComma] else if clsB c = 6 then [tHash] else []
/-- The tokens from here on: was the last byte sound; the part that is open. -/
def cutL : Bool → Option Bs → Bs → List Tok
  | _, none, [] => []
  | _, some w, [] => [tokW w]
  | _, none, c :: s => if sndB c then cutL true (some [c]) s else sepT c ++ cutL false none s
  | p, some w, c :: s =>
    if sndB c || (clsB c == 4 && p && nextSnd s) then cutL (sndB c) (some (w ++ [c])) s
    else tokW w :: (if sndB c then cutL true (some [c]) s else sepT c ++ cutL false none s)
theorem cutL_n (p : Bool) (c : UInt8) (s : Bs) : cutL p none (c :: s) = if sndB c then cutL true (some [c]) s else sepT c ++ cutL false none s := by rw [cutL]
theorem cutL_s (p : Bool) (w : Bs) (c : UInt8) (s : Bs) : cutL p (some w) (c :: s) = if sndB c || (clsB c == 4 && p && nextSnd s) then cutL (sndB c) (some (w ++ [c])) s else tokW w :: (if sndB c then cutL true (some [c]) s else sepT c ++ cutL false none s) := by rw [cutL]
theorem cutL_n0 (p : Bool) : cutL p none [] = [] := by rw [cutL]
theorem cutL_s0 (p : Bool) (w : Bs) : cutL p (some w) [] = [tokW w] := by rw [cutL]
theorem sndAt_lt {s : Bs} {i : Nat} (h : i < s.length) : sndAt s i = sndB s[i] := by
  unfold sndAt sndB
  rw [clsAt_lt h]
theorem sndAt_end {s : Bs} {i : Nat} (h : s.length ≤ i) : sndAt s i = false := by
  unfold sndAt
  rw [clsAt_end h]
  rfl
theorem nextSnd_drop (s : Bs) (n : Nat) : nextSnd (s.drop n) = sndAt s n := by
  unfold nextSnd
  rw [List.head?_drop]
  rcases Nat.lt_or_ge n s.length with h | h
  · rw [List.getElem?_eq_getElem h, sndAt_lt h]; rfl
  · rw [List.getElem?_eq_none h, sndAt_end h]; rfl
/-- The part that is open. -/
def openP (s : Bs) (st : CutSt) (n : Nat) : Option Bs := if st.inn then some ((s.take n).drop st.at_) else none
theorem part_snoc {s : Bs} {a n : Nat} (ha : a ≤ n) (hn : n < s.length) : (s.take (n + 1)).drop a = (s.take n).drop a ++ [s[n]] := by
  rw [List.take_succ_eq_append_getElem hn, List.drop_append_of_le_length (by rw [List.length_take]; omega)]
theorem part_one {s : Bs} {n : Nat} (hn : n < s.length) : (s.take (n + 1)).drop n = [s[n]] := by
  rw [part_snoc (Nat.le_refl _) hn, List.drop_eq_nil_of_le (by rw [List.length_take]; omega)]
  rfl
theorem stepA_cut {s : Bs} {n : Nat} {out : List Tok} (hn : n < s.length) :
    (stepA s out n).out ++ cutL (sndAt s n) (openP s (stepA s out n) (n + 1)) (s.drop (n + 1)) = out ++ (if sndB s[n] then cutL true (some [s[n]]) (s.drop (n + 1)) else sepT s[n] ++ cutL false none (s.drop (n + 1))) := by
  have hs := sndAt_lt hn
  unfold stepA
  rw [clsAt_lt hn]
  by_cases h : clsB s[n] = 2 ∨ clsB s[n] = 3
  · have hb : sndB s[n] = true := by unfold sndB; rw [Bool.or_eq_true, beq_iff_eq, beq_iff_eq]; exact h
    rw [if_pos h, if_pos hb, hs, hb]
    unfold openP
    simp only [if_true]
    rw [part_one hn]
  · have hb : sndB s[n] = false := by
      cases he : sndB s[n] with
      | false => rfl
      | true => unfold sndB at he; rw [Bool.or_eq_true, beq_iff_eq, beq_iff_eq] at he; exact absurd he h
    rw [if_neg h, hs, hb]
    simp only [Bool.false_eq_true, if_false]
    unfold sepT
    by_cases h5 : clsB s[n] = 5
    · rw [if_pos h5, if_pos h5]
      unfold openP
      simp
    · rw [if_neg h5, if_neg h5]
      by_cases h6 : clsB s[n] = 6
      · rw [if_pos h6, if_pos h6]
        unfold openP
        simp
      · rw [if_neg h6, if_neg h6]
        unfold openP
        simp
theorem run_cut (s : Bs) : ∀ k n, n + k = s.length → toksOf s = (runS s n).out ++ cutL (decide (0 < n) && sndAt s (n - 1)) (openP s (runS s n) n) (s.drop n)
  | 0, n, h => by
    have hn : n = s.length := by omega
    subst hn
    rw [List.drop_length]
    have h0 : clsAt s s.length = 0 := clsAt_end (Nat.le_refl _)
    have hA : ∀ out, (stepA s out s.length).out = out := fun out => by unfold stepA; rw [h0]; simp
    unfold toksOf openP
    rw [runS_succ]
    unfold stepS
    by_cases hi : (runS s s.length).inn = true
    · rw [if_pos hi, if_pos hi, if_neg (by unfold goesOn sndAt; rw [h0]; simp), hA]
      rfl
    · rw [if_neg hi, if_neg hi, hA]
      simp [cutL]
  | k + 1, n, h => by
    have hn : n < s.length := by omega
    rw [run_cut s k (n + 1) (by omega), show n + 1 - 1 = n by omega, runS_succ, show decide (0 < n + 1) = true from decide_eq_true (by omega), Bool.true_and]
    have hd : s.drop n = s[n] :: s.drop (n + 1) := List.drop_eq_getElem_cons hn
    rw [hd]
    have hok := runS_ok s n (by omega)
    unfold stepS
    by_cases hi : (runS s n).inn = true
    · obtain ⟨l1, l2, l3⟩ := hok.lt hi
      have e0 : decide (0 < n) = true := decide_eq_true (by omega)
      have eo : openP s (runS s n) n = some ((s.take n).drop (runS s n).at_) := by unfold openP; rw [if_pos hi]
      have eg : goesOn s n = (sndB s[n] || (clsB s[n] == 4 && sndAt s (n - 1) && nextSnd (s.drop (n + 1)))) := by
        unfold goesOn
        rw [sndAt_lt hn, clsAt_lt hn, nextSnd_drop]
      rw [if_pos hi, eo, e0, Bool.true_and, cutL_s, ← eg]
      by_cases hg : goesOn s n = true
      · rw [if_pos hg, if_pos hg]
        unfold openP
        rw [if_pos hi, part_snoc (by omega) hn, sndAt_lt hn]
      · rw [if_neg hg, if_neg hg, stepA_cut hn]
        simp [wordT, partT, tokW]
    · have eo : openP s (runS s n) n = none := by unfold openP; rw [if_neg hi]
      rw [if_neg hi, eo, cutL_n]
      exact stepA_cut hn
theorem toksOf_cut (s : Bs) : toksOf s = cutL false none s := by
  have := run_cut s s.length 0 (by omega)
  simpa [runS, openP] using this
/-- A byte that parts: a blank, a comma, a #. -/
def parts1 (c : UInt8) : Prop := clsB c = 1 ∨ clsB c = 5 ∨ clsB c = 6
theorem parts1_snd {c : UInt8} (h : parts1 c) : sndB c = false ∧ (clsB c == 4) = false := by
  unfold parts1 at h
  unfold sndB
  rcases h with h | h | h <;> rw [h] <;> exact ⟨rfl, rfl⟩
theorem cutL_app {c : UInt8} (hc : parts1 c) (y : Bs) : ∀ (x : Bs) (p : Bool) (cur : Option Bs), cutL p cur (x ++ c :: y) = cutL p cur x ++ (sepT c ++ cutL false none y)
  | [], p, none => by
    rw [cutL_n0, List.nil_append, cutL_n, (parts1_snd hc).1]
    simp
  | [], p, some w => by
    rw [cutL_s0, List.nil_append, cutL_s, (parts1_snd hc).1, (parts1_snd hc).2]
    simp
  | d :: x, p, none => by
    rw [List.cons_append, cutL_n, cutL_n]
    split
    · exact cutL_app hc y x true (some [d])
    · rw [cutL_app hc y x false none, List.append_assoc]
  | d :: x, p, some w => by
    have en : nextSnd (x ++ c :: y) = nextSnd x := by
      cases x with
      | nil => unfold nextSnd; simp [(parts1_snd hc).1]
      | cons z x => rfl
    rw [List.cons_append, cutL_s, cutL_s, en]
    split
    · exact cutL_app hc y x _ _
    · split
      · rw [cutL_app hc y x true (some [d])]; rfl
      · rw [cutL_app hc y x false none]; simp
/-- The tokens of two lines with a blank, a comma or a # between. -/
theorem toks_app {c : UInt8} (hc : parts1 c) (x y : Bs) : toksOf (x ++ c :: y) = toksOf x ++ (sepT c ++ toksOf y) := by
  rw [toksOf_cut, toksOf_cut, toksOf_cut, cutL_app hc]
theorem cutL_sound : ∀ (x : Bs) (p : Bool) (w : Bs), x.all sndB = true → cutL p (some w) x = [tokW (w ++ x)]
  | [], p, w, _ => by simp [cutL]
  | c :: x, p, w, h => by
    simp only [List.all_cons, Bool.and_eq_true] at h
    rw [cutL_s, if_pos (by rw [h.1]; rfl), cutL_sound x _ _ h.2]
    simp
/-- A word of letters and digits is one token. -/
theorem toks_sound {x : Bs} (h0 : x ≠ []) (h : x.all sndB = true) : toksOf x = [tokW x] := by
  rw [toksOf_cut]
  cases x with
  | nil => exact absurd rfl h0
  | cons c x =>
    simp only [List.all_cons, Bool.and_eq_true] at h
    rw [cutL_n, if_pos h.1, cutL_sound x _ _ h.2]
    rfl
end Go.Proofs.YtjaponmpfdpemaaGreatDoor

set_option linter.unusedVariables false
namespace Go.Proofs.YtjaponmpfdpemaaGreatDoor

/-- A word: sound at both ends, each joint between sounds. -/
def wordB : Bool → Bs → Bool
  | p, [] => p
  | p, c :: s => if sndB c then wordB true s else clsB c == 4 && p && nextSnd s && wordB false s
theorem cutL_word : ∀ (x : Bs) (p : Bool) (w : Bs), wordB p x = true → cutL p (some w) x = [tokW (w ++ x)]
  | [], p, w, _ => by rw [cutL_s0, List.append_nil]
  | c :: x, p, w, h => by
    rw [wordB] at h
    rw [cutL_s]
    by_cases hc : sndB c = true
    · rw [if_pos hc] at h
      rw [if_pos (by rw [hc]; rfl), hc, cutL_word x _ _ h]
      simp
    · rw [if_neg hc] at h
      rw [Bool.and_eq_true] at h
      have hc' : sndB c = false := by simpa using hc
      rw [if_pos (by rw [h.1, Bool.or_true]), hc', cutL_word x _ _ h.2]
      simp
theorem toks_word {x : Bs} (h : wordB false x = true) : toksOf x = [tokW x] := by
  rw [toksOf_cut]
  cases x with
  | nil => rw [wordB] at h; cases h
  | cons c x =>
    rw [wordB] at h
    by_cases hc : sndB c = true
    · rw [if_pos hc] at h
      rw [cutL_n, if_pos hc, cutL_word x _ _ h]
      rfl
    · rw [if_neg hc] at h
      simp at h
theorem nextSnd_app {v y : Bs} (h : nextSnd v = true) : nextSnd (v ++ y) = true := by
  cases v with
  | nil => unfold nextSnd at h; simp at h
  | cons d v => exact h
theorem wordB_snd {c : UInt8} (hc : sndB c = true) : ∀ (v : Bs) (q : Bool), wordB q v = true → wordB q (v ++ [c]) = true
  | [], q, _ => by simp [wordB, hc]
  | d :: v, q, h => by
    rw [List.cons_append, wordB]
    rw [wordB] at h
    by_cases hd : sndB d = true
    · rw [if_pos hd] at h ⊢
      exact wordB_snd hc v true h
    · rw [if_neg hd] at h ⊢
      simp only [Bool.and_eq_true] at h ⊢
      exact ⟨⟨h.1.1, nextSnd_app h.1.2⟩, wordB_snd hc v false h.2⟩
theorem wordB_joint {j c : UInt8} (hj : clsB j = 4) (hc : sndB c = true) : ∀ (v : Bs) (q : Bool), wordB q v = true → wordB q (v ++ [j, c]) = true
  | [], q, h => by
    have hj' : sndB j = false := by unfold sndB; rw [hj]; rfl
    rw [wordB] at h
    subst h
    simp [wordB, hj', hj, nextSnd, hc]
  | d :: v, q, h => by
    rw [List.cons_append, wordB]
    rw [wordB] at h
    by_cases hd : sndB d = true
    · rw [if_pos hd] at h ⊢
      exact wordB_joint hj hc v true h
    · rw [if_neg hd] at h ⊢
      simp only [Bool.and_eq_true] at h ⊢
      exact ⟨⟨h.1.1, nextSnd_app h.1.2⟩, wordB_joint hj hc v false h.2⟩
/-- A token that a line may have. -/
def TokIs (t : Tok) : Prop := t = tComma ∨ t = tHash ∨ ∃ w, wordB false w = true ∧ t = tokW w
def OpenOk (p : Bool) (s : Bs) (w : Bs) : Prop := (p = true → wordB false w = true) ∧ (p = false → ∃ v j, w = v ++ [j] ∧ wordB false v = true ∧ clsB j = 4 ∧ nextSnd s = true)
theorem sepT_is {c : UInt8} : ∀ t ∈ sepT c, TokIs t := by
  intro t ht
  unfold sepT at ht
  split at ht
  · exact .inl (List.mem_singleton.1 ht)
  · split at ht
    · exact .inr (.inl (List.mem_singleton.1 ht))
    · cases ht
theorem word_one {c : UInt8} (hc : sndB c = true) : wordB false [c] = true := by simp [wordB, hc]
theorem cutL_is : ∀ (s : Bs) (p : Bool) (cur : Option Bs), (∀ w, cur = some w → OpenOk p s w) → ∀ t ∈ cutL p cur s, TokIs t
  | [], p, none, _, t, ht => by rw [cutL_n0] at ht; cases ht
  | [], p, some w, h, t, ht => by
    rw [cutL_s0] at ht
    rw [List.mem_singleton.1 ht]
    obtain ⟨a, b⟩ := h w rfl
    cases p with
    | true => exact .inr (.inr ⟨w, a rfl, rfl⟩)
    | false =>
      obtain ⟨_, _, _, _, _, hn⟩ := b rfl
      unfold nextSnd at hn
      simp at hn
  | c :: s, p, none, h, t, ht => by
    rw [cutL_n] at ht
    by_cases hc : sndB c = true
    · rw [if_pos hc] at ht
      exact cutL_is s true (some [c]) (fun w hw => by injection hw with hw; subst hw; exact ⟨fun _ => word_one hc, fun e => by cases e⟩) t ht
    · rw [if_neg hc] at ht
      rcases List.mem_append.1 ht with ht | ht
      · exact sepT_is t ht
      · exact cutL_is s false none (fun w hw => by cases hw) t ht
  | c :: s, p, some w, h, t, ht => by
    rw [cutL_s] at ht
    obtain ⟨a, b⟩ := h w rfl
    by_cases hg : (sndB c || clsB c == 4 && p && nextSnd s) = true
    · rw [if_pos hg] at ht
      refine cutL_is s (sndB c) (some (w ++ [c])) (fun w' hw => ?_) t ht
      injection hw with hw
      subst hw
      by_cases hc : sndB c = true
      · rw [hc]
        refine ⟨fun _ => ?_, fun e => by cases e⟩
        cases p with
        | true => exact wordB_snd hc w false (a rfl)
        | false =>
          obtain ⟨v, j, rfl, hv, hj, _⟩ := b rfl
          rw [List.append_assoc]
          exact wordB_joint hj hc v false hv
      · have hc' : sndB c = false := by simpa using hc
        rw [hc', Bool.false_or] at hg
        simp only [Bool.and_eq_true, beq_iff_eq] at hg
        rw [hc']
        exact ⟨(fun e => by cases e), fun _ => ⟨w, c, rfl, a hg.1.2, hg.1.1, hg.2⟩⟩
    · rw [if_neg hg] at ht
      have hp : p = true := by
        cases p with
        | true => rfl
        | false =>
          obtain ⟨_, _, _, _, _, hn⟩ := b rfl
          have : sndB c = true := hn
          rw [this] at hg
          exact absurd rfl hg
      rcases List.mem_cons.1 ht with rfl | ht
      · exact .inr (.inr ⟨w, a hp, rfl⟩)
      · by_cases hc : sndB c = true
        · rw [if_pos hc] at ht
          exact cutL_is s true (some [c]) (fun w hw => by injection hw with hw; subst hw; exact ⟨fun _ => word_one hc, fun e => by cases e⟩) t ht
        · rw [if_neg hc] at ht
          rcases List.mem_append.1 ht with ht | ht
          · exact sepT_is t ht
          · exact cutL_is s false none (fun w hw => by cases hw) t ht
theorem toksOf_is {s : Bs} : ∀ t ∈ toksOf s, TokIs t := by
  rw [toksOf_cut]
  exact cutL_is s false none fun w hw => by cases hw
theorem clsB_up (c : UInt8) : clsB (upB c) = clsB c := by
  unfold upB
  by_cases h : 97 ≤ c.toNat ∧ c.toNat ≤ 122
  · have e : (c - 32).toNat = c.toNat - 32 := by
      rw [UInt8.toNat_sub_of_le]
      · rfl
      · rw [UInt8.le_iff_toNat_le]
        show 32 ≤ c.toNat
        omega
    rw [if_pos h]
    unfold clsB
    rw [e, if_pos (by omega), if_pos (by omega)]
  · rw [if_neg h]
theorem sndB_up (c : UInt8) : sndB (upB c) = sndB c := by unfold sndB; rw [clsB_up]
theorem nextSnd_up (s : Bs) : nextSnd (upS s) = nextSnd s := by
  cases s with
  | nil => rfl
  | cons c s => exact sndB_up c
theorem wordB_up : ∀ (s : Bs) (p : Bool), wordB p (upS s) = wordB p s
  | [], p => rfl
  | c :: s, p => by
    show wordB p (upB c :: upS s) = _
    rw [wordB, wordB, sndB_up, clsB_up, nextSnd_up, wordB_up s true, wordB_up s false]
theorem tokW_up (w : Bs) : tokW (upS w) = tokW w := by unfold tokW; rw [upS_idem]
/-- A token's text has just this token. -/
theorem toks_self {t : Tok} (h : TokIs t) : toksOf t.t = [t] := by
  rcases h with rfl | rfl | ⟨w, hw, rfl⟩
  · decide +kernel
  · decide +kernel
  · show toksOf (upS w) = [tokW w]
    rw [toks_word (by rw [wordB_up]; exact hw), tokW_up]
theorem kindT_bd (t : Bs) : kindT t = 1 ∨ kindT t = 2 ∨ kindT t = 3 := by
  unfold kindT
  split
  · exact .inl rfl
  · split
    · exact .inr (.inl rfl)
    · exact .inr (.inr rfl)
theorem TokIs.comma {t : Tok} (h : TokIs t) (hk : t.k = 4) : t = tComma := by
  rcases h with rfl | rfl | ⟨w, _, rfl⟩
  · rfl
  · cases hk
  · have := kindT_bd (upS w)
    have e : (tokW w).k = kindT (upS w) := rfl
    omega
theorem TokIs.hash {t : Tok} (h : TokIs t) (hk : t.k = 5) : t = tHash := by
  rcases h with rfl | rfl | ⟨w, _, rfl⟩
  · cases hk
  · rfl
  · have := kindT_bd (upS w)
    have e : (tokW w).k = kindT (upS w) := rfl
    omega
theorem parts_sp : parts1 32 := .inl (by decide)
theorem toks_sp (x y : Bs) : toksOf (x ++ 32 :: y) = toksOf x ++ toksOf y := by
  rw [toks_app parts_sp, show sepT 32 = [] by decide, List.nil_append]
/-- The texts of tokens with a blank between each two have just these tokens. -/
theorem toks_texts : ∀ {l : List Tok}, (∀ t ∈ l, TokIs t) → toksOf (textsP l) = l
  | [], _ => by decide +kernel
  | [t], h => toks_self (h t (by simp))
  | t :: u :: l, h => by
    have e : textsP (t :: u :: l) = t.t ++ 32 :: textsP (u :: l) := rfl
    rw [e, toks_sp, toks_self (h t (by simp)), toks_texts fun x hx => h x (by simp [hx])]
    rfl
end Go.Proofs.YtjaponmpfdpemaaGreatDoor
