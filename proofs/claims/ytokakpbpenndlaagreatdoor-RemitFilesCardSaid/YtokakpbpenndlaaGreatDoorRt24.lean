/-
  Plain: the reference's book, which is its entries alone.
-/
import Derived.Test.YtokakpbpenndlaaGreatDoorRt20
import Derived.Test.YtokakpbpenndlaaGreatDoorRt19
set_option linter.unusedVariables false
namespace Go.Proofs.YtokakpbpenndlaaGreatDoor

/-- What came back of a line of a sale by entries. -/
def backR (id : Int) (line : Nat) : List Ent → Int
  | [] => 0
  | r :: l => (if r.k = 2 ∧ r.of_ = id then r.am.getD line 0 else 0) + backR id line l
theorem backR_app (id : Int) (line : Nat) : ∀ a b : List Ent, backR id line (a ++ b) = backR id line a + backR id line b
  | [], b => by simp [backR]
  | y :: a, b => by rw [List.cons_append, backR, backR, backR_app id line a b]; omega
theorem backR_none {id : Int} {line : Nat} : ∀ {l : List Ent}, (∀ r ∈ l, r.k = 2 → r.of_ ≠ id) → backR id line l = 0
  | [], _ => rfl
  | y :: l, h => by
    rw [backR, backR_none (fun r hr => h r (by simp [hr])), if_neg (fun hh => h y (by simp) hh.1 hh.2)]
    rfl
/-- A tax line of a refund, as the reference tells it. -/
def retL (b : Nat → Int) (am : List Int) (x : Tx) : List Tx := if am.getD x.l.toNat 0 = 0 then [] else [(x.ret (b x.l.toNat) (b x.l.toNat + am.getD x.l.toNat 0)).1]
theorem retL_same {b c : Nat → Int} {am : List Int} {n : Nat} : ∀ {l : List Tx}, (∀ y ∈ l, y.l.toNat < n) → (∀ i, i < n → b i = c i) → l.flatMap (retL b am) = l.flatMap (retL c am)
  | [], _, _ => rfl
  | y :: l, h, hb => by
    rw [List.flatMap_cons, List.flatMap_cons, retL_same (l := l) (fun z hz => h z (by simp [hz])) hb]
    unfold retL
    rw [hb _ (h y (by simp))]
/-- What of a book is told by its entries alone. -/
structure Bk.ri (B : Bk) : Prop where
  void : ∀ s ∈ B, s.e.k = 1 → (s.voided = true ↔ ∃ r ∈ B.map Kp.e, r.k = 3 ∧ r.of_ = s.e.id)
  vref : ∀ r ∈ B.map Kp.e, r.k = 3 → ∃ s ∈ B.map Kp.e, s.k = 1 ∧ s.id = r.of_
  rref : ∀ r ∈ B.map Kp.e, r.k = 2 → ∃ s ∈ B.map Kp.e, s.k = 1 ∧ s.id = r.of_ ∧ r.am.length = s.am.length
  back : ∀ s ∈ B, s.e.k = 1 → ∀ i, i < s.e.am.length → s.back.getD i 0 = backR s.e.id i (B.map Kp.e)
  ord : ∀ (k : Nat) (x : Kp), B[k]? = some x → x.e.k = 2 → ∀ s ∈ B.map Kp.e, s.k = 1 → s.id = x.e.of_ → x.lines = s.tax.flatMap (retL (fun i => backR s.id i ((B.map Kp.e).take k)) x.e.am)
  oth : ∀ (k : Nat) (x : Kp), B[k]? = some x → x.e.k ≠ 2 → x.lines = x.e.tax
theorem Bk.ri_nil : Bk.ri [] := ⟨by simp, by simp, by simp, by simp, by simp, by simp⟩
theorem ri_snoc {B B' : Bk} {x : Kp} (h : B.ri) (hE : B'.map Kp.e = B.map Kp.e) (hL : B'.map Kp.lines = B.map Kp.lines) (hnew : x.e.id ∉ B.ids)
    (hv : ∀ s ∈ B', s.e.k = 1 → (s.voided = true ↔ ∃ r ∈ B.map Kp.e ++ [x.e], r.k = 3 ∧ r.of_ = s.e.id))
    (hb : ∀ s ∈ B', s.e.k = 1 → ∀ i, i < s.e.am.length → s.back.getD i 0 = backR s.e.id i (B.map Kp.e ++ [x.e]))
    (x1 : x.e.k = 1 → x.voided = false ∧ ∀ i, i < x.e.am.length → x.back.getD i 0 = 0)
    (x2 : x.e.k = 3 → ∃ s ∈ B.map Kp.e, s.k = 1 ∧ s.id = x.e.of_)
    (x3 : x.e.k = 2 → (∃ s ∈ B.map Kp.e, s.k = 1 ∧ s.id = x.e.of_ ∧ x.e.am.length = s.am.length) ∧ ∀ s ∈ B.map Kp.e, s.k = 1 → s.id = x.e.of_ → x.lines = s.tax.flatMap (retL (fun i => backR s.id i (B.map Kp.e)) x.e.am))
    (x4 : x.e.k ≠ 2 → x.lines = x.e.tax) : Bk.ri (B' ++ [x]) := by
  have hfresh : ∀ s ∈ B.map Kp.e, s.id ≠ x.e.id := fun s hs e => by
    obtain ⟨y, hy, rfl⟩ := List.mem_map.1 hs
    exact hnew (by rw [← e]; exact mem_ids hy)
  have hE' : (B' ++ [x]).map Kp.e = B.map Kp.e ++ [x.e] := by simp [hE]
  have hlen : B'.length = B.length := by
    have := congrArg List.length hE
    simpa using this
  have hat : ∀ (k : Nat) (y : Kp), B'[k]? = some y → ∃ z : Kp, B[k]? = some z ∧ z.e = y.e ∧ z.lines = y.lines := by
    intro k y hy
    have h1 : (B'.map Kp.e)[k]? = some y.e := by simp [hy]
    have h2 : (B'.map Kp.lines)[k]? = some y.lines := by simp [hy]
    rw [hE] at h1
    rw [hL] at h2
    simp only [List.getElem?_map, Option.map_eq_some_iff] at h1 h2
    obtain ⟨z, hz, e1⟩ := h1
    obtain ⟨z', hz', e2⟩ := h2
    rw [hz] at hz'
    cases hz'
    exact ⟨z, hz, e1, e2⟩
  refine ⟨?_, ?_, ?_, ?_, ?_, ?_⟩
  · intro s hs h1
    rw [hE']
    rcases List.mem_append.1 hs with hs | hs
    · exact hv s hs h1
    · obtain rfl := List.mem_singleton.1 hs
      rw [(x1 h1).1]
      refine ⟨fun e => (by cases e), fun ⟨r, hr, h3, ho⟩ => ?_⟩
      rcases List.mem_append.1 hr with hr | hr
      · obtain ⟨s', hs', _, e⟩ := h.vref r hr h3
        exact absurd (e.trans ho) (hfresh s' hs')
      · rw [List.mem_singleton.1 hr] at h3; omega
  · intro r hr h3
    rw [hE'] at hr ⊢
    rcases List.mem_append.1 hr with hr | hr
    · obtain ⟨s, hs, r⟩ := h.vref r hr h3
      exact ⟨s, List.mem_append_left _ hs, r⟩
    · rw [List.mem_singleton.1 hr] at h3 ⊢
      obtain ⟨s, hs, r⟩ := x2 h3
      exact ⟨s, List.mem_append_left _ hs, r⟩
  · intro r hr h2
    rw [hE'] at hr ⊢
    rcases List.mem_append.1 hr with hr | hr
    · obtain ⟨s, hs, r⟩ := h.rref r hr h2
      exact ⟨s, List.mem_append_left _ hs, r⟩
    · rw [List.mem_singleton.1 hr] at h2 ⊢
      obtain ⟨s, hs, r⟩ := (x3 h2).1
      exact ⟨s, List.mem_append_left _ hs, r⟩
  · intro s hs h1 i hi
    rw [hE']
    rcases List.mem_append.1 hs with hs | hs
    · exact hb s hs h1 i hi
    · obtain rfl := List.mem_singleton.1 hs
      rw [(x1 h1).2 i hi, backR_none]
      intro r hr h2 ho
      rcases List.mem_append.1 hr with hr | hr
      · obtain ⟨s', hs', _, e, _⟩ := h.rref r hr h2
        exact hfresh s' hs' (e.trans ho)
      · rw [List.mem_singleton.1 hr] at h2; omega
  · intro k y hy h2 s hs s1 so
    rw [hE'] at hs ⊢
    by_cases hk : k < B'.length
    · rw [List.getElem?_append_left hk] at hy
      obtain ⟨z, hz, e1, e2⟩ := hat k y hy
      rw [List.take_append_of_le_length (by simp; omega)]
      rw [← e2]
      rw [← e1] at h2 so ⊢
      rcases List.mem_append.1 hs with hs | hs
      · exact h.ord k z hz h2 s hs s1 so
      · exfalso
        obtain ⟨s', hs', _, e, _⟩ := h.rref z.e (List.mem_map.2 ⟨z, List.mem_of_getElem? hz, rfl⟩) h2
        refine hfresh s' hs' ?_
        rw [List.mem_singleton.1 hs] at so
        rw [e, ← so]
    · rw [List.getElem?_append_right (by omega)] at hy
      have hk2 : k = B'.length := by
        have := (List.getElem?_eq_some_iff.1 hy).1
        simp at this
        omega
      subst hk2
      simp at hy
      subst hy
      rw [List.take_append_of_le_length (by simp; omega), List.take_of_length_le (by simp; omega)]
      rcases List.mem_append.1 hs with hs | hs
      · exact (x3 h2).2 s hs s1 so
      · rw [List.mem_singleton.1 hs] at s1; omega
  · intro k y hy h2
    by_cases hk : k < B'.length
    · rw [List.getElem?_append_left hk] at hy
      obtain ⟨z, hz, e1, e2⟩ := hat k y hy
      rw [← e2, ← e1]
      rw [← e1] at h2
      exact h.oth k z hz h2
    · rw [List.getElem?_append_right (by omega)] at hy
      have hk2 : k = B'.length := by
        have := (List.getElem?_eq_some_iff.1 hy).1
        simp at this
        omega
      subst hk2
      simp at hy
      subst hy
      exact x4 h2
theorem upd_map {α : Type} (B : Bk) (i : Int) (f : Kp → Kp) (g : Kp → α) (hg : ∀ x, g (f x) = g x) : (B.upd i f).map g = B.map g := by
  unfold Bk.upd
  rw [List.map_map]
  refine List.map_congr_left fun x _ => ?_
  show g (if x.e.id = i then f x else x) = g x
  split
  · exact hg x
  · rfl
theorem ri_put {B : Bk} (h : B.ri) (hok : ∀ p ∈ B, p.ok) (hnd : B.ids.Nodup) {e : Ent} (hm : B.may e = 0) : (B.put e).1.ri := by
  have hc := may_check hm
  have hnew := may_new hm hc
  unfold Bk.put
  by_cases hk : e.k = 1
  · rw [if_pos hk]
    refine ri_snoc (x := ⟨e, e.tax, List.replicate e.am.length 0, false⟩) h rfl rfl hnew ?_ ?_ ?_ ?_ ?_ ?_
    · intro s hs h1
      rw [h.void s hs h1]
      constructor
      · rintro ⟨r, hr, h3⟩; exact ⟨r, List.mem_append_left _ hr, h3⟩
      · rintro ⟨r, hr, h3⟩
        rcases List.mem_append.1 hr with hr | hr
        · exact ⟨r, hr, h3⟩
        · rw [List.mem_singleton.1 hr] at h3; simp only at h3; omega
    · intro s hs h1 i hi
      rw [h.back s hs h1 i hi, backR_app, backR_none (l := [_]) (fun r hr h2 => by rw [List.mem_singleton.1 hr] at h2; simp only at h2; omega)]
      omega
    · intro _
      refine ⟨rfl, fun i hi => ?_⟩
      simp only at hi
      simp [List.getD, hi]
    · intro h3; simp only at h3; omega
    · intro h2; simp only at h2; omega
    · intro _; rfl
  rw [if_neg hk]
  by_cases hk2 : e.k = 2
  · rw [if_pos hk2]
    obtain ⟨s0, hs0, hr⟩ := may_ref hm hc hk2
    rw [hs0]
    simp only
    obtain ⟨m0, i0, k0⟩ := sale_mem' hs0
    refine ri_snoc (x := ⟨e, s0.refLines e.am, [], false⟩) h (upd_map B e.of_ _ Kp.e fun _ => rfl) (upd_map B e.of_ _ Kp.lines fun _ => rfl) hnew ?_ ?_ ?_ ?_ ?_ ?_
    · intro s hs h1
      unfold Bk.upd at hs
      obtain ⟨y, hy, rfl⟩ := List.mem_map.1 hs
      have e0 : (if y.e.id = e.of_ then { y with back := addL y.back e.am } else y).voided = y.voided := by split <;> rfl
      have e1 : (if y.e.id = e.of_ then { y with back := addL y.back e.am } else y).e = y.e := by split <;> rfl
      rw [e1] at h1
      rw [e0, e1, h.void y hy h1]
      constructor
      · rintro ⟨r, hr, h3⟩; exact ⟨r, List.mem_append_left _ hr, h3⟩
      · rintro ⟨r, hr, h3⟩
        rcases List.mem_append.1 hr with hr | hr
        · exact ⟨r, hr, h3⟩
        · rw [List.mem_singleton.1 hr] at h3; simp only at h3; omega
    · intro s hs h1 i hi
      unfold Bk.upd at hs
      obtain ⟨y, hy, rfl⟩ := List.mem_map.1 hs
      rw [backR_app]
      by_cases hyi : y.e.id = e.of_
      · rw [if_pos hyi] at h1 hi ⊢
        have hys : y = s0 := nodup_at hnd hy m0 (by rw [hyi, i0])
        subst hys
        have hb : i < y.back.length := by have := (hok y hy).bln k0; simp only at hi; omega
        have hei : i < e.am.length := by have := hr.len; simp only at hi; omega
        simp only
        rw [addL_getD _ _ _ hb hei, h.back y hy k0 i hi]
        simp [backR, hk2, hyi]
      · rw [if_neg hyi] at h1 hi ⊢
        rw [h.back y hy h1 i hi, backR_none (l := [_]) (fun r hr h2 he => by rw [List.mem_singleton.1 hr] at he; exact hyi he.symm)]
        omega
    · intro h1; simp only at h1; omega
    · intro h3; simp only at h3; omega
    · intro _
      refine ⟨⟨s0.e, List.mem_map.2 ⟨s0, m0, rfl⟩, k0, i0, hr.len⟩, fun s hs s1 so => ?_⟩
      obtain ⟨y, hy, rfl⟩ := List.mem_map.1 hs
      have hys : y = s0 := nodup_at hnd hy m0 (by rw [so, i0])
      subst hys
      have hyok := hok y hy
      show y.lines.flatMap (y.refLine e.am) = _
      rw [hyok.lns k0]
      have hl := (sale_lines hyok k0).1
      rw [hyok.lns k0] at hl
      refine Eq.trans ?_ (retL_same (b := fun i => y.back.getD i 0) (n := y.e.am.length) (fun z hz => (hl z hz).2.1) fun i hi => h.back y hy k0 i hi)
      rfl
    · intro h2; exact absurd hk2 h2
  rw [if_neg hk2]
  have hk3 : e.k = 3 := by
    have hf := (Ent.check_ok hc).2.2
    unfold Ent.fine at hf
    rw [if_neg hk, if_neg hk2] at hf
    by_cases h3 : e.k = 3
    · exact h3
    · rw [if_neg h3] at hf; cases hf
  rw [if_pos hk3]
  obtain ⟨s0, hs0⟩ := may_void hm hc hk3
  obtain ⟨m0, i0, k0⟩ := sale_mem' hs0
  refine ri_snoc (x := ⟨e, [], [], false⟩) h (upd_map B e.of_ _ Kp.e fun _ => rfl) (upd_map B e.of_ _ Kp.lines fun _ => rfl) hnew ?_ ?_ ?_ ?_ ?_ ?_
  · intro s hs h1
    unfold Bk.upd at hs
    obtain ⟨y, hy, rfl⟩ := List.mem_map.1 hs
    have e1 : (if y.e.id = e.of_ then { y with voided := true } else y).e = y.e := by split <;> rfl
    rw [e1] at h1
    rw [e1]
    by_cases hyi : y.e.id = e.of_
    · rw [if_pos hyi]
      exact ⟨fun _ => ⟨e, List.mem_append_right _ (List.mem_singleton.2 rfl), hk3, hyi.symm⟩, fun _ => rfl⟩
    · rw [if_neg hyi, h.void y hy h1]
      constructor
      · rintro ⟨r, hr, h3⟩; exact ⟨r, List.mem_append_left _ hr, h3⟩
      · rintro ⟨r, hr, h3⟩
        rcases List.mem_append.1 hr with hr | hr
        · exact ⟨r, hr, h3⟩
        · rw [List.mem_singleton.1 hr] at h3; exact absurd h3.2.symm hyi
  · intro s hs h1 i hi
    unfold Bk.upd at hs
    obtain ⟨y, hy, rfl⟩ := List.mem_map.1 hs
    have e1 : (if y.e.id = e.of_ then { y with voided := true } else y).e = y.e := by split <;> rfl
    have e2 : (if y.e.id = e.of_ then { y with voided := true } else y).back = y.back := by split <;> rfl
    rw [e1] at h1 hi
    rw [e1, e2, backR_app, h.back y hy h1 i hi, backR_none (l := [_]) (fun r hr h2 => by rw [List.mem_singleton.1 hr] at h2; simp only at h2; omega)]
    omega
  · intro h1; simp only at h1; omega
  · intro _; exact ⟨s0.e, List.mem_map.2 ⟨s0, m0, rfl⟩, k0, i0⟩
  · intro h2; simp only at h2; omega
  · intro _
    have hf := (Ent.check_ok hc).2.2
    unfold Ent.fine at hf
    rw [if_neg hk, if_neg hk2, if_pos hk3] at hf
    unfold Ent.voidFine at hf
    simp only [Bool.and_eq_true, decide_eq_true_eq] at hf
    exact (List.length_eq_zero_iff.1 (by omega : e.tax.length = 0)).symm
theorem ri_add {B : Bk} (h : B.ri) (hok : ∀ p ∈ B, p.ok) (hnd : B.ids.Nodup) (e : Ent) : (B.add e).1.ri := by
  by_cases hm : B.may e = 0
  · unfold Bk.add
    rw [if_pos hm]
    exact ri_put h hok hnd hm
  · rw [add_no hm]; exact h
/-- A book's entries behind an Add. -/
theorem add_ents {B : Bk} (e : Ent) : (B.add e).1.map Kp.e = if B.may e = 0 then B.map Kp.e ++ [e] else B.map Kp.e := by
  by_cases hm : B.may e = 0
  · rw [if_pos hm]
    unfold Bk.add
    rw [if_pos hm]
    unfold Bk.put
    by_cases hk : e.k = 1
    · rw [if_pos hk]; simp
    rw [if_neg hk]
    by_cases hk2 : e.k = 2
    · rw [if_pos hk2]
      cases B.sale e.of_ with
      | none => simp
      | some s =>
        simp only
        rw [List.map_append, upd_map B e.of_ (fun x => { x with back := addL x.back e.am }) Kp.e (fun _ => rfl)]
        rfl
    rw [if_neg hk2]
    by_cases hk3 : e.k = 3
    · rw [if_pos hk3]
      simp only
      rw [List.map_append, upd_map B e.of_ (fun x => { x with voided := true }) Kp.e (fun _ => rfl)]
      rfl
    rw [if_neg hk3]; simp
  · rw [if_neg hm, add_no hm]
end Go.Proofs.YtokakpbpenndlaaGreatDoor
