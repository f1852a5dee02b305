/-
  book.New; (*book.Book).Add.
-/
import Derived.Test.YtokakpbpenndlaaGreatDoorRs15
set_option linter.unusedVariables false
namespace Go.Proofs.YtokakpbpenndlaaGreatDoor
open Go.RowKit Go.Maps

theorem BookAt.empty {w0 W : World} {bb mb : Nat} (hb : Blk W bb 66 #[.slice none 0 0, .map (some mb)]) (hm : W.ownsMap Tryz.prog 3 ptrR mb 0 (.map [])) (h1 : w0.heap.size ≤ bb) (h2 : w0.heap.size ≤ mb) : BookAt w0 W bb mb (.slice none 0 0) [] := by
  refine ⟨hb, hm, World.ownsRow_nil _ _ _ _, ?_, ?_, ?_, ?_, ?_, h1, h2⟩
  · intro p hp; cases hp
  · simp [BkM.b, Bk.ids]
  · simp
  · simp [BkM.rows]
  · intro p hp; cases hp
set_option maxRecDepth 100000 in
theorem newBook_any (w : World) : Calls Tryz.prog 25 #[] w fun r w' => r = .returned (.pointer (some ⟨w.heap.size + 1, 0, none⟩)) ∧ BookAt w w' (w.heap.size + 1) w.heap.size (.slice none 0 0) [] ∧ Ext w w' := by
  have hmm := @run_makeMap Tryz.prog
  go_enter Tryz.func25, Tryz.ntmps25
  go_wp2_with fail
  go_ret
  refine ⟨rfl, BookAt.empty ?_ ?_ (by omega) (by omega), ((Ext.refl w).alloc _).alloc _⟩
  · have := Blk.new (w.alloc (.map #[] 0)) 66 #[.slice none 0 0, .map (some w.heap.size)]
    simpa using this
  · exact (World.ownsMap_made _ _ _ _).alloc _

/-- What an entry of a book may be, and what is told of it, in memory. -/
structure AddOut (w0 W W' : World) (bb mb : Nat) (vids : Value) (M : BkM) (vids' : Value) (M' : BkM) (B1 : Nat) : Prop where
  at_ : BookAt w0 W' bb mb vids' M'
  chg : Chg (foot bb mb vids M) W W'
  foot : ∀ g ∈ foot bb mb vids' M', g ∈ foot bb mb vids M ∨ (W.heap.size ≤ g ∧ g < B1)
  le : W.heap.size ≤ B1
theorem overB_le : ∀ {n a b : List Int}, overB n a b = false → ∀ i (h1 : i < n.length) (h2 : i < a.length) (h3 : i < b.length), n[i] ≤ a[i] - b[i]
  | [], _, _, _, i, h1, _, _ => by simp at h1
  | _ :: _, [], _, _, i, _, h2, _ => by simp at h2
  | _ :: _, _ :: _, [], _, i, _, _, h3 => by simp at h3
  | n :: r, a :: ra, b :: rb, h, 0, _, _, _ => by
    simp only [overB, Bool.or_eq_false_iff, decide_eq_false_iff_not] at h
    simp only [List.getElem_cons_zero]
    omega
  | n :: r, a :: ra, b :: rb, h, i + 1, h1, h2, h3 => by
    simp only [overB, Bool.or_eq_false_iff] at h
    simp only [List.getElem_cons_succ]
    exact overB_le h.2 i (by simpa using h1) (by simpa using h2) (by simpa using h3)
theorem addL_at : ∀ (a b : List Int) (k : Nat) (ha : k < a.length) (hb : k < b.length), (addL a b)[k]? = some (a[k] + b[k])
  | x :: r, y :: s, 0, _, _ => by simp [addL]
  | x :: r, y :: s, k + 1, ha, hb => by simpa [addL] using addL_at r s k (by simpa using ha) (by simpa using hb)
theorem Ent.am_bd {e : Ent} (h : e.check = 0) (i : Nat) (hi : i < e.am.length) : 0 ≤ e.am[i] ∧ e.am[i] ≤ 4611686018427387904 := by
  have := (Ent.check_ok h).2.1
  unfold Ent.ams at this
  exact win_bd (List.all_eq_true.1 this _ (List.getElem_mem hi))
/-- What the sale is of which something comes back. -/
structure RefMay (s : Kp) (e : Ent) : Prop where
  v : s.voided = false
  len : e.am.length = s.e.am.length
  over : overB e.am s.e.am s.back = false
theorem may_ref {B : Bk} {e : Ent} (hm : B.may e = 0) (hc : e.check = 0) (hk : e.k = 2) : ∃ s, B.sale e.of_ = some s ∧ RefMay s e := by
  unfold Bk.may at hm
  rw [if_neg (by simpa using hc)] at hm
  by_cases h1 : (B.find e.id).isSome
  · rw [if_pos h1] at hm; cases hm
  rw [if_neg h1, if_pos hk] at hm
  cases hs : B.sale e.of_ with
  | none => rw [hs] at hm; cases hm
  | some s =>
    rw [hs] at hm
    simp only at hm
    unfold Kp.refMay at hm
    by_cases h2 : s.voided = true
    · rw [if_pos h2] at hm; cases hm
    rw [if_neg h2] at hm
    by_cases h3 : e.am.length ≠ s.e.am.length ∨ e.day < s.e.day
    · rw [if_pos h3] at hm; cases hm
    rw [if_neg h3] at hm
    by_cases h4 : overB e.am s.e.am s.back = true
    · rw [if_pos h4] at hm; cases hm
    exact ⟨s, rfl, ⟨by simpa using h2, Classical.not_not.1 (not_or.1 h3).1, by simpa using h4⟩⟩
theorem may_void {B : Bk} {e : Ent} (hm : B.may e = 0) (hc : e.check = 0) (hk : e.k = 3) : ∃ s, B.sale e.of_ = some s := by
  unfold Bk.may at hm
  rw [if_neg (by simpa using hc)] at hm
  by_cases h1 : (B.find e.id).isSome
  · rw [if_pos h1] at hm; cases hm
  rw [if_neg h1, if_neg (by omega), if_pos hk] at hm
  cases hs : B.sale e.of_ with
  | none => rw [hs] at hm; cases hm
  | some s => exact ⟨s, rfl⟩
theorem may_new {B : Bk} {e : Ent} (hm : B.may e = 0) (hc : e.check = 0) : e.id ∉ B.ids := by
  unfold Bk.may at hm
  rw [if_neg (by simpa using hc)] at hm
  by_cases h1 : (B.find e.id).isSome
  · rw [if_pos h1] at hm; cases hm
  intro hi
  simp only [Bk.ids, List.mem_map] at hi
  obtain ⟨x, hx, he⟩ := hi
  refine h1 ?_
  unfold Bk.find
  rw [List.find?_isSome]
  exact ⟨x, hx, by simpa using he⟩
theorem Kp.ok_back {s : Kp} (h : s.ok) (hk : s.e.k = 1) {e : Ent} (hc : e.check = 0) (hr : RefMay s e) : ({ s with back := addL s.back e.am } : Kp).ok := by
  refine ⟨h.chk, h.lns, fun _ => by simpa [addL_len] using h.bln hk, fun _ i hi => ?_, fun h2 => absurd hk h2⟩
  simp only at hi ⊢
  have h1 := h.bbd hk i hi
  have hb : i < s.back.length := by have := h.bln hk; omega
  have he : i < e.am.length := by have := hr.len; omega
  have h2 := overB_le hr.over i he hi hb
  have h3 := Ent.am_bd hc i he
  have g1 : s.back.getD i 0 = s.back[i] := by simp [List.getD, hb]
  have g2 : s.e.am.getD i 0 = s.e.am[i] := by simp [List.getD, hi]
  have g3 : (addL s.back e.am).getD i 0 = s.back[i] + e.am[i] := by simp [List.getD, addL_at _ _ _ hb he]
  rw [g1, g2] at h1
  rw [g2, g3]
  omega
theorem Kp.ok_void {s : Kp} (h : s.ok) (hk : s.e.k = 1) : ({ s with voided := true } : Kp).ok := ⟨h.chk, h.lns, h.bln, h.bbd, fun h2 => absurd hk h2⟩
theorem Kp.ok_sale {e : Ent} (hc : e.check = 0) (hk : e.k = 1) : (⟨e, e.tax, List.replicate e.am.length 0, false⟩ : Kp).ok := by
  refine ⟨hc, fun _ => rfl, fun _ => by simp, fun _ i hi => ?_, fun _ => ?_⟩
  · have h := Ent.am_bd hc i hi
    have g2 : e.am.getD i 0 = e.am[i] := by simp [List.getD, hi]
    have g3 : (List.replicate e.am.length (0 : Int)).getD i 0 = 0 := by simp [List.getD, hi]
    simp only
    rw [g2, g3]
    omega
  · rename_i h1; exact absurd hk h1
theorem Kp.ok_other {e : Ent} (hc : e.check = 0) (hk : e.k ≠ 1) (l : List Tx) : (⟨e, l, [], false⟩ : Kp).ok := ⟨hc, fun h => absurd h hk, fun h => absurd h hk, fun h => absurd h hk, fun _ => ⟨rfl, rfl⟩⟩

end Go.Proofs.YtokakpbpenndlaaGreatDoor
