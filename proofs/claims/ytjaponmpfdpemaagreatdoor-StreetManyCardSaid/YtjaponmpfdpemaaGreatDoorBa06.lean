/-
  Plain: AddrFields: the fields of a parsed address; where a fault is.
-/
import Derived.Test.YtjaponmpfdpemaaGreatDoorBa05
import Derived.Test.YtjaponmpfdpemaaGreatDoorBa01
import Derived.Test.YtjaponmpfdpemaaGreatDoorBa04
import Derived.Test.YtjaponmpfdpemaaGreatDoorBa03
import Derived.Lib.AtoiTie
import Derived.Lib.AppendIntMem
import Derived.Lib.AtoiErrMem
set_option linter.unusedVariables false
namespace Go.Proofs.YtjaponmpfdpemaaGreatDoor

theorem partsP_len : ∀ l : List Tok, 1 ≤ (partsP l).length ∧ (partsP l).length ≤ l.length + 1
  | [] => ⟨by simp [partsP], by simp [partsP]⟩
  | t :: l => by
    have ih := partsP_len l
    unfold partsP
    split
    · simp only [List.length_cons]; omega
    · cases hp : partsP l with
      | nil => rw [hp] at ih; simp at ih
      | cons p r => rw [hp] at ih; simp only [List.length_cons] at ih ⊢; omega
/-- A text of the parsed address: in capitals, and short. -/
structure FieldOk (x : Bs) : Prop where
  up : upS x = x
  len : x.length ≤ 40
theorem ShortOk.field {k : Int} {n : Nat} {x : Bs} (h : ShortOk k n x) (hn : n ≤ 40) : FieldOk x := ⟨h.up, by have := h.len; omega⟩
theorem backP_mem {l : List Tok} {k : Int} : ∀ t ∈ (backP l k).1, t ∈ l := by
  unfold backP
  split
  · intro t ht; exact List.dropLast_subset l ht
  · intro t ht; exact ht
theorem frontP_mem {l : List Tok} {k : Int} : ∀ t ∈ (frontP l k).1, t ∈ l := by
  unfold frontP
  split
  · intro t ht; exact List.mem_of_mem_tail ht
  · intro t ht; exact ht
theorem backP_ok {l : List Tok} {k : Int} {n : Nat} (hf : wordsFine k n = true) (h0 : (shortP k []).1 = []) : ShortOk k n (backP l k).2 := by
  unfold backP
  split
  · exact shortP_ok hf h0 _
  · exact ⟨rfl, by simp, h0⟩
theorem frontP_ok {l : List Tok} {k : Int} {n : Nat} (hf : wordsFine k n = true) (h0 : (shortP k []).1 = []) : ShortOk k n (frontP l k).2 := by
  unfold frontP
  split
  · exact shortP_ok hf h0 _
  · exact ⟨rfl, by simp, h0⟩
/-- A unit's text, its second token being short. -/
theorem unitP_ok {l : List Tok} (hu : (unitP l).2 = true) (hl : ∀ t ∈ l, upS t.t = t.t) (h10 : (l.getD 1 ⟨0, []⟩).t.length ≤ 10) : FieldOk (unitP l).1 := by
  unfold unitP at hu ⊢
  match l, hu, hl, h10 with
  | [a, b], hu, hl, h10 =>
    have hb : upS b.t = b.t := hl b (by simp)
    have hb10 : b.t.length ≤ 10 := h10
    by_cases h1 : b.k = 5 ∨ b.k = 4
    · simp only [if_pos h1] at hu; cases hu
    · simp only [if_neg h1] at hu ⊢
      by_cases h2 : a.k = 5
      · simp only [if_pos h2]
        refine ⟨?_, by simp only [List.length_cons]; omega⟩
        unfold upS at hb ⊢
        rw [List.map_cons, hb]
        rfl
      · simp only [if_neg h2]
        have hs := shortP_ok words_fine.2.2.2 short0.2.2.2 a.t
        refine ⟨?_, ?_⟩
        · have h3 := hs.up
          unfold upS at hb h3 ⊢
          unfold shortT
          rw [List.map_append, List.map_cons, hb, h3]
          rfl
        · have := hs.len
          unfold shortT
          simp only [List.length_append, List.length_cons]
          omega
structure StreetOk (l : List Tok) (r : Ad × List Tok × Option (List Tok)) : Prop where
  pre : ShortOk 2 2 r.1.pre
  suf : ShortOk 1 4 r.1.suf
  post : ShortOk 2 2 r.1.post
  name : r.1.name = textsP r.2.1
  mem : ∀ t ∈ r.2.1, t ∈ l
  unit : ∀ u, r.2.2 = some u → (unitP u).2 = true ∧ r.1.unit = (unitP u).1 ∧ ∀ t ∈ u, t ∈ l
  none : r.2.2 = none → r.1.unit = []
theorem streetP_ok (l : List Tok) (inner : Bool) : StreetOk l (streetP l inner) := by
  unfold streetP
  dsimp only
  have h1 : ∀ t, t ∈ (if (l.head? == some halfT) = true then l.tail else l) → t ∈ l := by
    intro t ht
    split at ht
    · exact List.mem_of_mem_tail ht
    · exact ht
  generalize (if (l.head? == some halfT) = true then l.tail else l) = l1 at *
  obtain ⟨b, hb⟩ : ∃ b, (inner && decide (2 < l1.length) && (unitP (l1.drop (l1.length - 2))).2) = b := ⟨_, rfl⟩
  rw [hb]
  have h2 : ∀ t, t ∈ (if b = true then l1.take (l1.length - 2) else l1) → t ∈ l := by
    intro t ht
    split at ht
    · exact h1 t (List.mem_of_mem_take ht)
    · exact h1 t ht
  generalize (if b = true then l1.take (l1.length - 2) else l1) = l2 at *
  refine ⟨frontP_ok words_fine.2.1 short0.2.1, backP_ok words_fine.1 short0.1, backP_ok words_fine.2.1 short0.2.1, rfl, fun t ht => h2 t (backP_mem t (backP_mem t (frontP_mem t ht))), fun u hu => ?_, fun hn => ?_⟩
  · cases b with
    | false => cases hu
    | true =>
      injection hu with hu
      subst hu
      rw [Bool.and_eq_true] at hb
      exact ⟨hb.2, rfl, fun t ht => h1 t (List.mem_of_mem_drop ht)⟩
  · cases b with
    | false => rfl
    | true => cases hn
/-- What is claimed of a parsed address. -/
structure FieldsOk (a : Ad) : Prop where
  n : 1 ≤ a.n ∧ a.n ≤ 999999
  name : a.name ≠ []
  city : a.city ≠ []
  state : a.state.length = 2
  zip : a.zip.length = 5
  more : a.more.length = 0 ∨ a.more.length = 4
  all : ∀ x ∈ [a.pre, a.name, a.suf, a.post, a.unit, a.city, a.state], FieldOk x
  own : (shortP 2 a.pre).1 = a.pre ∧ (shortP 2 a.post).1 = a.post ∧ (shortP 1 a.suf).1 = a.suf ∧ (shortP 3 a.state).1 = a.state
theorem textsP_ne {l : List Tok} (h : 0 < l.length) (hn : ∀ t ∈ l, t.t ≠ []) : textsP l ≠ [] := by
  match l, h, hn with
  | [t], _, hn => exact hn t (by simp)
  | t :: u :: l, _, _ =>
    intro e
    have := congrArg List.length e
    simp [textsP] at this
theorem cutDash_no : ∀ {s : Bs}, (cutDash s).2.2 = false → (cutDash s).2.1 = []
  | [], _ => rfl
  | c :: s, h => by
    unfold cutDash at h ⊢
    split at h
    · cases h
    · rename_i hc
      rw [if_neg hc]
      exact cutDash_no (s := s) h
theorem partsP_at {l : List Tok} {k : Nat} {t : Tok} (h : t ∈ (partsP l).getD k []) : t ∈ l ∧ t.k ≠ 4 := by
  rcases Nat.lt_or_ge k (partsP l).length with h1 | h1
  · rw [List.getD_eq_getElem?_getD, List.getElem?_eq_getElem h1] at h
    exact partsP_mem (List.getElem_mem h1) h
  · rw [List.getD_eq_getElem?_getD, List.getElem?_eq_none h1] at h
    cases h
theorem parseP_fields (s : Bs) (h : (parseP s).2.1 = 0) : FieldsOk (parseP s).1 := by
  have hT := tokensP_ok s
  unfold parseP at h ⊢
  dsimp only at h ⊢
  generalize tokensP s = r at *
  have hup : ∀ t ∈ r.1, upS t.t = t.t := fun t ht => (hT.up t ht).2
  have hne : ∀ t ∈ r.1, t.t ≠ [] := fun t ht => (hT.up t ht).1
  by_cases h1 : r.2.1 ≠ 0
  · rw [if_pos h1] at h; exact absurd h h1
  rw [if_neg h1] at h ⊢
  unfold parsePts at h ⊢
  dsimp only at h ⊢
  by_cases h2 : ¬((partsP r.1).length - 1 = 2 ∨ (partsP r.1).length - 1 = 3) ∨ ((partsP r.1).any fun x => x.isEmpty) = true
  · rw [if_pos h2] at h; exact absurd h (fun e => by cases e)
  rw [if_neg h2] at h ⊢
  have hmem : ∀ k t, t ∈ (partsP r.1).getD k [] → t ∈ r.1 := fun k t ht => (partsP_at ht).1
  have hemp : ∀ k, k < (partsP r.1).length → 0 < ((partsP r.1).getD k []).length := fun k hk => by
    rw [List.getD_eq_getElem?_getD, List.getElem?_eq_getElem hk]
    simp only [Option.getD_some]
    have h3 : ((partsP r.1).any fun x => x.isEmpty) = false := by
      cases he : ((partsP r.1).any fun x => x.isEmpty) with
      | false => rfl
      | true => exact absurd (.inr he) h2
    rw [List.any_eq_false] at h3
    have := h3 _ (List.getElem_mem hk)
    cases hl : (partsP r.1)[k] with
    | nil => rw [hl] at this; simp at this
    | cons x y => simp
  have hlast : (partsP r.1).length - 1 = 2 ∨ (partsP r.1).length - 1 = 3 := by
    by_cases h3 : (partsP r.1).length - 1 = 2 ∨ (partsP r.1).length - 1 = 3
    · exact h3
    · exact absurd (.inl h3) h2
  clear h2
  generalize hp : partsP r.1 = p at *
  by_cases h3 : ¬(digitsP ((p.getD 0 []).headD ⟨0, []⟩).t 1 6 = true ∧ 0 < numP ((p.getD 0 []).headD ⟨0, []⟩).t)
  · rw [if_pos h3] at h; exact absurd h (fun e => by cases e)
  rw [if_neg h3] at h ⊢
  have hnum := Classical.not_not.1 h3
  clear h3
  have hS := streetP_ok (p.getD 0 []).tail (decide (p.length - 1 = 2))
  have hSm : ∀ t ∈ (streetP (p.getD 0 []).tail (decide (p.length - 1 = 2))).2.1, t ∈ r.1 := fun t ht => hmem 0 t (List.mem_of_mem_tail (hS.mem t ht))
  have hSu : ∀ u, (streetP (p.getD 0 []).tail (decide (p.length - 1 = 2))).2.2 = some u → ∀ t ∈ u, t ∈ r.1 := fun u hu t ht => hmem 0 t (List.mem_of_mem_tail ((hS.unit u hu).2.2 t ht))
  generalize streetP (p.getD 0 []).tail (decide (p.length - 1 = 2)) = st at *
  by_cases h4 : p.length - 1 = 3 ∧ (unitP (p.getD 1 [])).2 = false
  · rw [if_pos h4] at h; exact absurd h (fun e => by cases e)
  rw [if_neg h4] at h ⊢
  by_cases h5 : ((if p.length - 1 = 3 then some (p.getD 1 []) else st.2.2).any fun l => decide (10 < ((l.getD 1 ⟨0, []⟩).t).length)) = true
  · rw [if_pos h5] at h; exact absurd h (fun e => by cases e)
  rw [if_neg h5] at h ⊢
  by_cases h6 : ¬(0 < st.2.1.length ∧ st.2.1.length ≤ 8 ∧ kindOf st.2.1 [1, 2, 3] = true ∧ st.1.name.length ≤ 40)
  · rw [if_pos h6] at h; exact absurd h (fun e => by cases e)
  rw [if_neg h6] at h ⊢
  have hnm := Classical.not_not.1 h6
  by_cases h7 : ¬(kindOf (p.getD (p.length - 1 - 1) []) [1] = true ∧ (p.getD (p.length - 1 - 1) []).length ≤ 8 ∧ (textsP (p.getD (p.length - 1 - 1) [])).length ≤ 40)
  · rw [if_pos h7] at h; exact absurd h (fun e => by cases e)
  rw [if_neg h7] at h ⊢
  have hct := Classical.not_not.1 h7
  by_cases h8 : ¬(digitsP (cutDash ((p.getD (p.length - 1) []).getLastD ⟨0, []⟩).t).1 5 5 = true ∧ ((cutDash ((p.getD (p.length - 1) []).getLastD ⟨0, []⟩).t).2.2 = false ∨ digitsP (cutDash ((p.getD (p.length - 1) []).getLastD ⟨0, []⟩).t).2.1 4 4 = true))
  · rw [if_pos h8] at h; exact absurd h (fun e => by cases e)
  rw [if_neg h8] at h ⊢
  have hz := Classical.not_not.1 h8
  by_cases h9 : (shortP 3 (textsP (p.getD (p.length - 1) []).dropLast)).2 = false
  · rw [if_pos h9] at h; exact absurd h (fun e => by cases e)
  rw [if_neg h9]
  have hst : (shortP 3 (textsP (p.getD (p.length - 1) []).dropLast)).2 = true := by
    cases he : (shortP 3 (textsP (p.getD (p.length - 1) []).dropLast)).2 with
    | true => rfl
    | false => exact absurd he h9
  obtain ⟨q, hq, hqs⟩ := shortP_mem hst
  have hsO := shortP_ok words_fine.2.2.1 short0.2.2.1 (textsP (p.getD (p.length - 1) []).dropLast)
  obtain ⟨n1, n2⟩ := numP_le hnum.1
  have hU : FieldOk (if p.length - 1 = 3 then (unitP (p.getD 1 [])).1 else st.1.unit) := by
    by_cases hl : p.length - 1 = 3
    · rw [if_pos hl]
      rw [if_pos hl] at h5
      have hu : (unitP (p.getD 1 [])).2 = true := by
        cases he : (unitP (p.getD 1 [])).2 with
        | true => rfl
        | false => exact absurd ⟨hl, he⟩ h4
      refine unitP_ok hu (fun t ht => hup t (hmem 1 t ht)) ?_
      simpa using h5
    · rw [if_neg hl]
      rw [if_neg hl] at h5
      cases hu : st.2.2 with
      | none => rw [hS.none hu]; exact ⟨rfl, by simp⟩
      | some u =>
        obtain ⟨a, b, c⟩ := hS.unit u hu
        rw [b]
        refine unitP_ok a (fun t ht => hup t (hSu u hu t ht)) ?_
        rw [hu] at h5
        simpa using h5
  have hz5 : (cutDash ((p.getD (p.length - 1) []).getLastD ⟨0, []⟩).t).1.length = 5 := by
    have := hz.1
    unfold digitsP at this
    rw [Bool.and_eq_true, decide_eq_true_eq] at this
    omega
  have hz4 : (cutDash ((p.getD (p.length - 1) []).getLastD ⟨0, []⟩).t).2.1.length = 0 ∨ (cutDash ((p.getD (p.length - 1) []).getLastD ⟨0, []⟩).t).2.1.length = 4 := by
    rcases hz.2 with h | h
    · left; rw [cutDash_no h]; rfl
    · right
      unfold digitsP at h
      rw [Bool.and_eq_true, decide_eq_true_eq] at h
      omega
  have hc0 := hemp (p.length - 1 - 1) (by omega)
  refine ⟨⟨by have := hnum.2; show 1 ≤ numP _; omega, n2⟩, ?_, ?_, ?_, hz5, hz4, ?_, ⟨hS.pre.own, hS.post.own, hS.suf.own, hsO.own⟩⟩
  · show st.1.name ≠ []
    rw [hS.name]
    exact textsP_ne hnm.1 fun t ht => hne t (hSm t ht)
  · exact textsP_ne hc0 fun t ht => hne t (hmem _ t ht)
  · show (shortP 3 _).1.length = 2
    rw [hqs]
    simpa using List.all_eq_true.1 states_two q hq
  · intro x hx
    simp only [List.mem_cons, List.not_mem_nil, or_false] at hx
    rcases hx with rfl | rfl | rfl | rfl | rfl | rfl | rfl
    · exact hS.pre.field (by decide)
    · refine ⟨?_, hnm.2.2.2⟩
      rw [hS.name]
      exact textsP_up fun t ht => hup t (hSm t ht)
    · exact hS.suf.field (by decide)
    · exact hS.post.field (by decide)
    · exact hU
    · exact ⟨textsP_up fun t ht => hup t (hmem _ t ht), hct.2.2⟩
    · exact hsO.field (by decide)
end Go.Proofs.YtjaponmpfdpemaaGreatDoor

set_option linter.unusedVariables false
namespace Go.Proofs.YtjaponmpfdpemaaGreatDoor

/-! ### Numerals -/
theorem digB_cls {c : UInt8} (h : digB c = true) : clsB c = 3 ∧ sndB c = true ∧ upB c = c := by
  have h1 : 48 ≤ c.toNat ∧ c.toNat ≤ 57 := by simpa [digB] using h
  have e : clsB c = 3 := by unfold clsB; rw [if_neg (by omega), if_pos h1]
  refine ⟨e, by unfold sndB; rw [e]; rfl, ?_⟩
  unfold upB
  rw [if_neg (by omega)]
theorem digs_all {x : Bs} (h : x.all digB = true) : x.all sndB = true ∧ upS x = x ∧ ∀ c ∈ x, clsB c ≠ 0 := by
  refine ⟨List.all_eq_true.2 fun c hc => (digB_cls (List.all_eq_true.1 h c hc)).2.1, ?_, fun c hc => by rw [(digB_cls (List.all_eq_true.1 h c hc)).1]; decide⟩
  unfold upS
  have : ∀ l : Bs, (∀ c ∈ l, upB c = c) → l.map upB = l := by
    intro l
    induction l with
    | nil => intro _; rfl
    | cons d l ih => intro hl; rw [List.map_cons, hl d (by simp), ih fun c hc => hl c (by simp [hc])]
  exact this x fun c hc => (digB_cls (List.all_eq_true.1 h c hc)).2.2
theorem dig_of {k : Nat} (h : k < 10) : digB (UInt8.ofNat (48 + k)) = true ∧ ((UInt8.ofNat (48 + k)).toNat : Int) - 48 = k := by
  have e : (UInt8.ofNat (48 + k)).toNat = 48 + k := by
    simp
    omega
  unfold digB
  rw [e]
  exact ⟨decide_eq_true (by omega), by omega⟩
theorem numP_snoc (x : Bs) (c : UInt8) : numP (x ++ [c]) = 10 * numP x + ((c.toNat : Int) - 48) := by simp [numP, List.foldl_append]
theorem decDigits_ok (u : Nat) : (Lib.decDigits u).all digB = true ∧ numP (Lib.decDigits u) = u := by
  induction u using Nat.strongRecOn with
  | _ u ih =>
    rw [Lib.decDigits]
    by_cases h : u < 10
    · rw [dif_pos h]
      obtain ⟨a, b⟩ := dig_of h
      refine ⟨by rw [List.all_cons, a]; rfl, ?_⟩
      have := numP_snoc [] (UInt8.ofNat (48 + u))
      rw [List.nil_append] at this
      rw [this, b]
      simp [numP]
    · rw [dif_neg h]
      obtain ⟨a, b⟩ := ih (u / 10) (by omega)
      obtain ⟨c, d⟩ := dig_of (k := u % 10) (by omega)
      refine ⟨by rw [List.all_append, a, List.all_cons, c]; rfl, ?_⟩
      rw [numP_snoc, b, d]
      omega
theorem nd_le : ∀ (k u : Nat), u < 10 ^ (k + 1) → Lib.nDigits u ≤ k + 1
  | 0, u, h => by rw [Lib.nDigits_small (by simpa using h)]; omega
  | k + 1, u, h => by
    by_cases h1 : u < 10
    · rw [Lib.nDigits_small h1]; omega
    · rw [Lib.nDigits_big h1]
      have := nd_le k (u / 10) (by rw [Nat.pow_succ] at h; omega)
      omega
theorem itoa_ok {n : Int} (h1 : 1 ≤ n) (h2 : n ≤ 999999) : digitsP (Lib.itoa n) 1 6 = true ∧ numP (Lib.itoa n) = n := by
  have e : Lib.itoa n = Lib.decDigits n.toNat := by unfold Lib.itoa; rw [if_neg (by omega)]
  rw [e]
  obtain ⟨a, b⟩ := decDigits_ok n.toNat
  have hl := Lib.decDigits_length n.toNat
  have hp := Lib.nDigits_pos n.toNat
  have hd := nd_le 5 n.toNat (by omega)
  refine ⟨?_, by rw [b]; omega⟩
  unfold digitsP
  rw [a, Bool.and_true]
  exact decide_eq_true (by omega)
theorem digitsP_all {x : Bs} {lo hi : Nat} (h : digitsP x lo hi = true) : lo ≤ x.length ∧ x.length ≤ hi ∧ x.all digB = true := by
  unfold digitsP at h
  rw [Bool.and_eq_true, decide_eq_true_eq] at h
  exact ⟨h.1.1, h.1.2, h.2⟩
/-! ### Short forms -/
def wordsWord (k : Int) : Bool := (wordsP k).all fun p => p.s.all sndB && kindT p.s == 1
theorem words_word : wordsWord 1 = true ∧ wordsWord 2 = true ∧ wordsWord 3 = true ∧ wordsWord 4 = true := by decide +kernel
theorem own_word {k : Int} {n : Nat} {x : Bs} (hf : wordsFine k n = true) (hw : wordsWord k = true) (ho : ownP k x = true) (h0 : x ≠ []) :
    toksOf x = [⟨1, x⟩] ∧ (∀ c ∈ x, clsB c ≠ 0) ∧ x.length ≤ n ∧ shortP k x = (x, true) := by
  unfold ownP at ho
  rw [beq_iff_eq] at ho
  have h2 : (shortP k x).2 = true := by
    cases he : (shortP k x).2 with
    | true => rfl
    | false => rw [shortP_none he] at ho; exact absurd ho.symm h0
  obtain ⟨p, hp, e⟩ := shortP_mem h2
  have h3 := List.all_eq_true.1 hf p hp
  have h4 := List.all_eq_true.1 hw p hp
  simp only [Bool.and_eq_true, beq_iff_eq, decide_eq_true_eq] at h3 h4
  have ex : x = p.s := by rw [← ho, e]
  rw [ex]
  refine ⟨?_, fun c hc => ?_, h3.1.1.2, h3.1.2⟩
  · rw [toks_sound (by rw [← ex]; exact h0) h4.1]
    unfold tokW
    rw [h3.1.1.1, h4.2]
  · have := List.all_eq_true.1 h4.1 c hc
    intro e0
    unfold sndB at this
    rw [e0] at this
    cases this
/-! ### What may stand in a line -/
def okBs (x : Bs) : Prop := ∀ c ∈ x, clsB c ≠ 0
theorem okBs_bad {x : Bs} : badAt x = none ↔ okBs x := by
  unfold badAt okBs
  rw [List.findIdx?_eq_none_iff]
  simp
theorem tokensP_zero {s : Bs} (h : (tokensP s).2.1 = 0) : okBs s ∧ tokensP s = (toksOf s, 0, 0) ∧ s.length ≤ 200 := by
  unfold tokensP at h ⊢
  by_cases h1 : 200 < s.length
  · rw [if_pos h1] at h; cases h
  · rw [if_neg h1] at h ⊢
    cases hb : badAt s with
    | some i => rw [hb] at h; cases h
    | none =>
      rw [hb] at h
      simp only at h ⊢
      by_cases h2 : 40 < (toksOf s).length
      · rw [if_pos h2] at h; cases h
      · rw [if_neg h2]
        exact ⟨okBs_bad.1 hb, rfl, by omega⟩
theorem tokensP_of {s : Bs} (h1 : okBs s) (h2 : s.length ≤ 200) (h3 : (toksOf s).length ≤ 40) : tokensP s = (toksOf s, 0, 0) := by
  unfold tokensP
  rw [if_neg (by omega), okBs_bad.2 h1]
  simp only
  rw [if_neg (by omega)]
theorem okBs_app {x y : Bs} (hx : okBs x) (hy : okBs y) : okBs (x ++ y) := fun c hc => by
  rcases List.mem_append.1 hc with h | h
  · exact hx c h
  · exact hy c h
theorem toks_nil : toksOf [] = [] := by decide +kernel
theorem toks_ahead (x s : Bs) : toksOf (x ++ aheadP s) = toksOf x ++ toksOf s := by
  unfold aheadP
  by_cases h : s = []
  · rw [if_pos h, h, toks_nil, List.append_nil, List.append_nil]
  · rw [if_neg h, toks_sp]
def halfS (b : Bool) : Bs := if b then [32, 49, 47, 50] else []
theorem toks_half (x : Bs) (b : Bool) : toksOf (x ++ halfS b) = toksOf x ++ (if b then [halfT] else []) := by
  unfold halfS
  cases b with
  | false => simp
  | true =>
    simp only [if_true]
    rw [toks_sp, show toksOf [49, 47, 50] = [halfT] by decide +kernel]
theorem lineP_eq (a : Ad) : lineP a = halfS a.half ++ aheadP a.pre ++ aheadP a.name ++ aheadP a.suf ++ aheadP a.post := rfl
theorem toks_lineP (a : Ad) : toksOf (lineP a) = (if a.half then [halfT] else []) ++ toksOf a.pre ++ toksOf a.name ++ toksOf a.suf ++ toksOf a.post := by
  have h := lineP_eq a
  have h0 := toks_half [] a.half
  rw [toks_nil, List.nil_append, List.nil_append] at h0
  rw [h, toks_ahead, toks_ahead, toks_ahead, toks_ahead, h0]
end Go.Proofs.YtjaponmpfdpemaaGreatDoor

set_option linter.unusedVariables false
namespace Go.Proofs.YtjaponmpfdpemaaGreatDoor

/-- The rank of a number: 0, -1, 1, -2, .. -/
def zig (n : Int) : Nat := if 0 ≤ n then (2 * n).toNat else (-2 * n - 1).toNat
def lebF : Nat → Nat → List UInt8
  | 0, _ => []
  | f + 1, r => if r < 128 then [UInt8.ofNat r] else UInt8.ofNat (r % 128 + 128) :: lebF f (r / 128)
/-- P5.1. -/
def putL (n : Int) : List UInt8 := lebF 10 (zig n)
theorem lebF_small (f r : Nat) (h : r < 128) : lebF (f + 1) r = [UInt8.ofNat r] := by simp [lebF, h]
theorem lebF_big (f r : Nat) (h : 128 ≤ r) : lebF (f + 1) r = UInt8.ofNat (r % 128 + 128) :: lebF f (r / 128) := by
  simp [lebF]; omega

/-- Bytes as cells. -/
def bV (l : List UInt8) : List Value := l.map fun b => .int .u8 (b.toNat : Int)
theorem bV_app (a b : List UInt8) : bV (a ++ b) = bV a ++ bV b := by simp [bV]
def u8P (u : Value) : Prop := ∃ n : Int, u = .int .u8 n
def putsL (l : List Int) : List UInt8 := l.flatMap putL
theorem putsL_snoc (l : List Int) (k : Nat) (h : k < l.length) : putsL (l.take (k + 1)) = putsL (l.take k) ++ putL l[k] := by
  rw [List.take_succ_eq_append_getElem h]; unfold putsL; rw [List.flatMap_append, List.flatMap_cons, List.flatMap_nil, List.append_nil]
def i64 (n : Int) : Prop := -9223372036854775808 ≤ n ∧ n ≤ 9223372036854775807
end Go.Proofs.YtjaponmpfdpemaaGreatDoor

set_option linter.unusedVariables false
namespace Go.Proofs.YtjaponmpfdpemaaGreatDoor
open Go.RowKit

/-- What the library's functions ask of a world: their package's variables. -/
structure Std (w : World) : Prop where
  t10 : Lib.TabIs Tryz.prog w "internal/strconv.uint64pow10" .u64 Lib.pow10Tab
  sp : Lib.TabIs Tryz.prog w "strings.asciiSpace" .u8 Lib.asciiSpaceTab
  mx : ∃ m, w.cell? ⟨4, 0, none⟩ = some (.int .i64 m)
  e0 : ∃ v, w.cell? ⟨2, 0, none⟩ = some v ∧ (v = .nilIface ∨ ∃ te pe, v = .iface te pe)
  e1 : ∃ v, w.cell? ⟨3, 0, none⟩ = some v ∧ (v = .nilIface ∨ ∃ te pe, v = .iface te pe)
theorem cell_ext {w w' : World} (hx : Ext w w') {b o : Nat} {v : Value} (h : w.cell? ⟨b, o, none⟩ = some v) : w'.cell? ⟨b, o, none⟩ = some v :=
  (hx.cell b o none (World.block_lt_of_cell? w _ h)).trans h
theorem Std.ext {w w' : World} (h : Std w) (hx : Ext w w') : Std w' :=
  ⟨Lib.tabBelow_of_tabIs h.t10 w' hx, Lib.tabBelow_of_tabIs h.sp w' hx, h.mx.imp fun _ e => cell_ext hx e, h.e0.imp fun _ e => ⟨cell_ext hx e.1, e.2⟩, h.e1.imp fun _ e => ⟨cell_ext hx e.1, e.2⟩⟩
theorem decFrom_digs : ∀ (s : Bs) (acc : Nat), s.all digB = true → Lib.decFrom acc s = some (s.foldl (fun n c => 10 * n + (c.toNat - 48)) acc) ∧ ((s.foldl (fun n c => 10 * n + (c.toNat - 48)) acc : Nat) : Int) = s.foldl (fun n c => 10 * n + (c.toNat - 48 : Int)) (acc : Int)
  | [], acc, _ => ⟨rfl, rfl⟩
  | c :: s, acc, h => by
    simp only [List.all_cons, Bool.and_eq_true] at h
    have hc : 48 ≤ c.toNat ∧ c.toNat ≤ 57 := by simpa [digB] using h.1
    have ih := decFrom_digs s (10 * acc + (c.toNat - 48)) h.2
    have e : (((10 * acc + (c.toNat - 48) : Nat)) : Int) = 10 * (acc : Int) + ((c.toNat : Int) - 48) := by omega
    rw [e] at ih
    refine ⟨?_, ih.2⟩
    rw [Lib.decFrom]
    unfold Lib.digitVal
    rw [if_pos hc]
    simp only [List.foldl_cons]
    rw [Nat.mul_comm acc 10]
    exact ih.1
theorem atoi_digs {s : Bs} (h : digitsP s 1 6 = true) : Lib.atoiAll s = .ok (numP s) := by
  obtain ⟨l1, l2, hd⟩ := digitsP_all h
  rw [Lib.atoiAll_short s (by omega)]
  have hds := decFrom_digs s 0 hd
  cases s with
  | nil => simp at l1
  | cons c r =>
    simp only [List.all_cons, Bool.and_eq_true] at hd
    have hc : 48 ≤ c.toNat ∧ c.toNat ≤ 57 := by simpa [digB] using hd.1
    have h45 : (c == 45) = false := by
      rw [beq_eq_false_iff_ne]
      rintro rfl
      exact absurd hc.1 (by decide)
    have h43 : (c == 43) = false := by
      rw [beq_eq_false_iff_ne]
      rintro rfl
      exact absurd hc.1 (by decide)
    unfold Lib.atoi
    simp only [h45, h43, Bool.false_eq_true, if_false]
    unfold Lib.decNat
    rw [List.isEmpty_cons]
    simp only [Bool.false_eq_true, if_false]
    rw [hds.1]
    exact congrArg Lib.NumEnd.ok hds.2
theorem atoiS_any (s : Bs) (hs : s.length ≤ 1000) (w : World) (ht : Std w) : Calls Tryz.prog 93 #[.string ⟨s.toArray⟩] w fun e w' => ∃ n er, e = .returned (.tuple #[.int .i64 n, er]) ∧ (digitsP s 1 6 = true → n = numP s) ∧ Ext w w' := by
  obtain ⟨v0, c0, h0⟩ := ht.e0
  obtain ⟨v1, c1, h1⟩ := ht.e1
  have hsz : (⟨s.toArray⟩ : ByteArray).size = s.length := by show s.toArray.size = _; simp
  have hdt : (⟨s.toArray⟩ : ByteArray).data.toList = s := by simp
  cases he : Lib.atoiAll s with
  | ok n =>
    refine (Any.strconv_Atoi_ok Tryz.laysC172 ⟨s.toArray⟩ (by omega) n (by rw [hdt]; exact he) w).mono ?_
    rintro e w' ⟨rfl, hw⟩
    refine ⟨n, _, rfl, fun hd => ?_, ?_⟩
    · rw [atoi_digs hd] at he
      injection he with he
      exact he.symm
    · rcases hw with rfl | ⟨t, rfl⟩
      · exact Ext.refl _
      · exact Lib.bytesWorld_below w _ t
  | «syntax» =>
    refine (Any.strconv_Atoi_syntax Tryz.laysC172 ⟨s.toArray⟩ (by omega) (by rw [hdt]; exact he) v0 w c0 h0).mono ?_
    rintro e w' ⟨N, rfl, _, _, hx⟩
    refine ⟨_, _, rfl, fun hd => ?_, hx⟩
    rw [atoi_digs hd] at he
    cases he
  | range =>
    refine (Any.strconv_Atoi_range Tryz.laysC172 ⟨s.toArray⟩ (by omega) (by rw [hdt]; exact he) v1 w c1 h1).mono ?_
    rintro e w' ⟨N, rfl, _, _, hx⟩
    refine ⟨_, _, rfl, fun hd => ?_, hx⟩
    rw [atoi_digs hd] at he
    cases he
theorem cutS_any (s sep : Bs) (hs : s.length ≤ 10000) (w : World) (ht : Std w) : Calls Tryz.prog 94 #[.string ⟨s.toArray⟩, .string ⟨sep.toArray⟩] w fun e w' => e = .returned (.tuple #[.string ⟨(Lib.cut s sep).1.toArray⟩, .string ⟨(Lib.cut s sep).2.1.toArray⟩, .bool (Lib.cut s sep).2.2]) ∧ Ext w w' := by
  obtain ⟨m, hm⟩ := ht.mx
  have hsz : (⟨s.toArray⟩ : ByteArray).size = s.length := by show s.toArray.size = _; simp
  have := Tryz.strings_Cut ⟨s.toArray⟩ ⟨sep.toArray⟩ m w (by omega) hm
  simp only at this
  refine this.mono ?_
  rintro e w' ⟨rfl, n, rfl⟩
  exact ⟨rfl, (Ext.refl w).drewN n⟩
theorem fieldsS_any (s : Bs) (hs : s.length ≤ 10000) (ha : s.all (fun b => decide (b.toNat < 128)) = true) (w : World) (ht : Std w) : Calls Tryz.prog 165 #[.string ⟨s.toArray⟩] w fun e w' =>
    e = .returned (.slice (some ⟨w.heap.size, 0, none⟩) (Lib.fields s).length (Lib.fields s).length) ∧ w' = w.alloc (.cells ((Lib.fields s).map fun l => Value.string ⟨l.toArray⟩).toArray 9) := by
  have hsz : (⟨s.toArray⟩ : ByteArray).size = s.length := by show s.toArray.size = _; simp
  have := Tryz.strings_Fields ⟨s.toArray⟩ w (by omega) (ascii_of_all ha) ht.sp
  simp only at this
  exact this
theorem replS_any (s : Bs) (hs : s.length ≤ 10000) (hc : Lib.countB ⟨s.toArray⟩ ⟨#[95]⟩ ≤ 1000) (w : World) (ht : Std w) : Calls Tryz.prog 166 #[.string ⟨s.toArray⟩, .string ⟨#[95]⟩, .string ⟨#[32]⟩] w fun e w' =>
    e = .returned (.string ⟨(Lib.replaceAll s [95] [32]).toArray⟩) ∧ Ext w w' := by
  obtain ⟨m, hm⟩ := ht.mx
  have hsz : (⟨s.toArray⟩ : ByteArray).size = s.length := by show s.toArray.size = _; simp
  have := Tryz.strings_ReplaceAll ⟨s.toArray⟩ ⟨#[95]⟩ ⟨#[32]⟩ m w (by omega) hm (by decide) (by rw [hsz, show (⟨#[32]⟩ : ByteArray).size = 1 from rfl]; omega)
  simp only at this
  exact this
end Go.Proofs.YtjaponmpfdpemaaGreatDoor
