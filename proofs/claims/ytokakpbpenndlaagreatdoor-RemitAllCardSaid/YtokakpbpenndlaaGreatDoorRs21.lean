/-
  Plain: what came back of a sale, entry by entry; when all came back its moves come to nothing.
-/
import Derived.Test.YtokakpbpenndlaaGreatDoorRs07
import Derived.Test.YtokakpbpenndlaaGreatDoorRs20
set_option linter.unusedVariables false
namespace Go.Proofs.YtokakpbpenndlaaGreatDoor

/-- A part of a tax line, and its share of what came back. -/
structure Gd (c : Tx → Int) (g : Tx → Int → Int) : Prop where
  zero : ∀ x, x.ok = true → g x 0 = 0
  step : ∀ x a p, x.ok = true → 0 ≤ a → a ≤ p → p ≤ x.t + x.x → c (x.ret a p).1 = g x p - g x a
theorem gd_t : Gd Tx.t (fun x b => shI x.t (x.t + x.x) b) := by
  refine ⟨fun x hx => ?_, fun x a p hx ha h hp => by rw [Tx.ret_eq hx ha h hp]⟩
  obtain ⟨_, _, b3, b4, _, _⟩ := Tx.ok_bd hx
  exact shI_zero _ _ (by omega)
theorem gd_x : Gd Tx.x (fun x b => b - shI x.t (x.t + x.x) b) := by
  refine ⟨fun x hx => ?_, fun x a p hx ha h hp => by rw [Tx.ret_eq hx ha h hp]; show p - a - _ = _; omega⟩
  obtain ⟨_, _, b3, b4, _, _⟩ := Tx.ok_bd hx
  show (0 : Int) - shI _ _ 0 = 0
  rw [shI_zero _ _ (by omega)]; rfl
theorem gd_v : Gd Tx.v (fun x b => shI x.v (x.t + x.x) b) := by
  refine ⟨fun x hx => ?_, fun x a p hx ha h hp => by rw [Tx.ret_eq hx ha h hp]⟩
  obtain ⟨_, _, b3, b4, _, _⟩ := Tx.ok_bd hx
  exact shI_zero _ _ (by omega)
theorem ret_j {x : Tx} {a p : Int} (hx : x.ok = true) (ha : 0 ≤ a) (h : a ≤ p) (hp : p ≤ x.t + x.x) : (x.ret a p).1.j = x.j := by rw [Tx.ret_eq hx ha h hp]

/-- What lines have in a jurisdiction. -/
def jsum (c : Tx → Int) (j : Int) : List Tx → Int
  | [] => 0
  | y :: r => (if y.j = j then c y else 0) + jsum c j r
theorem jsum_app (c : Tx → Int) (j : Int) : ∀ a b : List Tx, jsum c j (a ++ b) = jsum c j a + jsum c j b
  | [], b => by simp [jsum]
  | y :: a, b => by rw [List.cons_append, jsum, jsum, jsum_app c j a b]; omega
/-- What came back of them. -/
def shS (g : Tx → Int → Int) (j : Int) (back : List Int) : List Tx → Int
  | [] => 0
  | y :: r => (if y.j = j then g y (back.getD y.l.toNat 0) else 0) + shS g j back r
/-- What refunds of a sale have. -/
def rfS (c : Tx → Int) (j id : Int) : Bk → Int
  | [] => 0
  | r :: B => (if r.e.k = 2 ∧ r.e.of_ = id then jsum c j r.lines else 0) + rfS c j id B
theorem rfS_app (c : Tx → Int) (j id : Int) : ∀ a b : Bk, rfS c j id (a ++ b) = rfS c j id a + rfS c j id b
  | [], b => by simp [rfS]
  | y :: a, b => by rw [List.cons_append, rfS, rfS, rfS_app c j id a b]; omega
theorem rfS_upd (c : Tx → Int) (j id i : Int) (f : Kp → Kp) (he : ∀ x, (f x).e = x.e) (hl : ∀ x, (f x).lines = x.lines) : ∀ B : Bk, rfS c j id (B.upd i f) = rfS c j id B
  | [] => rfl
  | y :: B => by
    have h := rfS_upd c j id i f he hl B
    unfold Bk.upd at h ⊢
    rw [List.map_cons, rfS, rfS, h]
    congr 1
    split
    · rw [he, hl]
    · rfl
theorem rfS_none {c : Tx → Int} {j id : Int} : ∀ {B : Bk}, (∀ r ∈ B, r.e.k = 2 → r.e.of_ ≠ id) → rfS c j id B = 0
  | [], _ => rfl
  | y :: B, h => by
    rw [rfS, rfS_none (fun r hr => h r (by simp [hr])), if_neg (fun hh => h y (by simp) hh.1 hh.2)]
    rfl
theorem shS_zero {c : Tx → Int} {g : Tx → Int → Int} (hg : Gd c g) (j : Int) {back : List Int} (hb : ∀ i, back.getD i 0 = 0) : ∀ {l : List Tx}, (∀ y ∈ l, y.ok = true) → shS g j back l = 0
  | [], _ => rfl
  | y :: l, h => by
    rw [shS, shS_zero hg j hb (fun z hz => h z (by simp [hz])), hb, hg.zero y (h y (by simp))]
    simp
theorem addL_getD : ∀ (a b : List Int) (i : Nat), i < a.length → i < b.length → (addL a b).getD i 0 = a.getD i 0 + b.getD i 0
  | x :: r, y :: s, 0, _, _ => by simp [addL]
  | x :: r, y :: s, i + 1, h1, h2 => by
    have := addL_getD r s i (by simpa using h1) (by simpa using h2)
    simpa [addL] using this
/-- A refund's lines are what its shares have grown by. -/
theorem ref_grow {c : Tx → Int} {g : Tx → Int → Int} (hg : Gd c g) (j : Int) (s : Kp) (am sam : List Int) (hlen : am.length = sam.length) (hbl : s.back.length = sam.length)
    (hnn : ∀ i, i < am.length → 0 ≤ am.getD i 0) (hb0 : ∀ i, i < sam.length → 0 ≤ s.back.getD i 0) (hle : ∀ i, i < sam.length → s.back.getD i 0 + am.getD i 0 ≤ sam.getD i 0) :
    ∀ l : List Tx, (∀ y ∈ l, y.ok = true ∧ y.l.toNat < sam.length ∧ y.t + y.x = sam.getD y.l.toNat 0) → shS g j s.back l + jsum c j (l.flatMap (s.refLine am)) = shS g j (addL s.back am) l
  | [], _ => rfl
  | y :: l, h => by
    have ih := ref_grow hg j s am sam hlen hbl hnn hb0 hle l (fun z hz => h z (by simp [hz]))
    obtain ⟨hok, hl, hw⟩ := h y (by simp)
    rw [shS, shS, List.flatMap_cons, jsum_app]
    have ha := addL_getD s.back am y.l.toNat (by omega) (by omega)
    have h1 := hnn y.l.toNat (by omega)
    have h2 := hb0 y.l.toNat hl
    have h3 := hle y.l.toNat hl
    rw [ha]
    unfold Kp.refLine
    generalize s.back.getD y.l.toNat 0 = b at *
    generalize hn : am.getD y.l.toNat 0 = n at *
    by_cases hn0 : n = 0
    · rw [if_pos hn0, hn0]
      simp only [jsum, Int.add_zero]
      unfold Kp.refLine at ih
      omega
    · rw [if_neg hn0]
      have e1 := ret_j hok h2 (show b ≤ b + n by omega) (by omega)
      have e2 := hg.step y b (b + n) hok h2 (by omega) (by omega)
      simp only [jsum, e1]
      unfold Kp.refLine at ih
      split
      · rw [e2]; omega
      · omega

/-- What holds of a book beside its entries. -/
structure Bk.inv (B : Bk) : Prop where
  ref : ∀ r ∈ B, r.e.k = 2 → r.e.of_ ∈ B.ids
  void : ∀ r ∈ B, r.e.k = 3 → r.lines = []
  sum : ∀ c g, Gd c g → ∀ s ∈ B, s.e.k = 1 → ∀ j, rfS c j s.e.id B = shS g j s.back s.lines
theorem Bk.inv_nil : Bk.inv [] := ⟨fun _ h => absurd h (by simp), fun _ h => absurd h (by simp), fun _ _ _ _ h => absurd h (by simp)⟩
theorem ids_app (a b : Bk) : Bk.ids (a ++ b) = a.ids ++ b.ids := by simp [Bk.ids]
theorem ids_upd (B : Bk) (i : Int) (f : Kp → Kp) (he : ∀ x, (f x).e = x.e) : (B.upd i f).ids = B.ids := by
  unfold Bk.upd Bk.ids
  rw [List.map_map]
  refine List.map_congr_left fun x _ => ?_
  show ((if x.e.id = i then f x else x).e.id) = x.e.id
  split
  · rw [he]
  · rfl
theorem mem_ids {B : Bk} {x : Kp} (h : x ∈ B) : x.e.id ∈ B.ids := List.mem_map.2 ⟨x, h, rfl⟩
theorem nodup_at {B : Bk} (h : B.ids.Nodup) {x y : Kp} (hx : x ∈ B) (hy : y ∈ B) (e : x.e.id = y.e.id) : x = y := nodup_inj (f := fun x : Kp => x.e.id) h hx hy e
theorem sale_lines {s : Kp} (h : s.ok) (hk : s.e.k = 1) : (∀ y ∈ s.lines, y.ok = true ∧ y.l.toNat < s.e.am.length ∧ y.t + y.x = s.e.am.getD y.l.toNat 0) ∧ s.e.of_ = 0 := by
  rw [h.lns hk]
  have hf := (Ent.check_ok h.chk).2.2
  unfold Ent.fine at hf
  rw [if_pos hk] at hf
  unfold Ent.saleFine at hf
  simp only [Bool.and_eq_true, decide_eq_true_eq] at hf
  obtain ⟨⟨⟨h1, h2⟩, _⟩, h4⟩ := hf
  refine ⟨fun y hy => ⟨checkTax_mem h1 y hy, ?_⟩, h2⟩
  have := List.all_eq_true.1 h4 y hy
  unfold Tx.fits at this
  simp only [Bool.and_eq_true, decide_eq_true_eq] at this
  exact this
theorem inv_put {B : Bk} (h : B.inv) (hok : ∀ p ∈ B, p.ok) (hnd : B.ids.Nodup) {e : Ent} (hm : B.may e = 0) : (B.put e).1.inv := by
  have hc := may_check hm
  have hnew := may_new hm hc
  unfold Bk.put
  by_cases hk : e.k = 1
  · rw [if_pos hk]
    refine ⟨fun r hr h2 => ?_, fun r hr h3 => ?_, fun c g hg s hs hs1 j => ?_⟩
    · rw [ids_app]
      rcases List.mem_append.1 hr with hr | hr
      · exact List.mem_append_left _ (h.ref r hr h2)
      · rw [List.mem_singleton.1 hr] at h2; simp only at h2; omega
    · rcases List.mem_append.1 hr with hr | hr
      · exact h.void r hr h3
      · rw [List.mem_singleton.1 hr] at h3; simp only at h3; omega
    · have e0 : rfS c j s.e.id [⟨e, e.tax, List.replicate e.am.length 0, false⟩] = 0 := rfS_none (fun r hr h2 => by rw [List.mem_singleton.1 hr] at h2; simp only at h2; omega)
      rw [rfS_app, e0, Int.add_zero]
      rcases List.mem_append.1 hs with hs | hs
      · exact h.sum c g hg s hs hs1 j
      · rw [List.mem_singleton.1 hs]
        simp only
        rw [rfS_none (fun r hr h2 he => hnew (by rw [← he]; exact h.ref r hr h2))]
        have hf := (sale_lines (Kp.ok_sale hc hk) hk).1
        exact (shS_zero hg j (fun i => by simp [List.getD, List.getElem?_replicate]; split <;> rfl) (fun y hy => (hf y hy).1)).symm
  rw [if_neg hk]
  by_cases hk2 : e.k = 2
  · rw [if_pos hk2]
    obtain ⟨s0, hs0, hr⟩ := may_ref hm hc hk2
    rw [hs0]
    simp only
    obtain ⟨m0, i0, k0⟩ := sale_mem' hs0
    have hofi : e.of_ ∈ B.ids := by rw [← i0]; exact mem_ids m0
    have he : ∀ x : Kp, ({ x with back := addL x.back e.am } : Kp).e = x.e := fun _ => rfl
    have hl : ∀ x : Kp, ({ x with back := addL x.back e.am } : Kp).lines = x.lines := fun _ => rfl
    refine ⟨fun r hr2 h2 => ?_, fun r hr2 h3 => ?_, fun c g hg s hs hs1 j => ?_⟩
    · rw [ids_app, ids_upd B e.of_ (fun x => { x with back := addL x.back e.am }) he]
      refine List.mem_append_left _ ?_
      rcases List.mem_append.1 hr2 with hr2 | hr2
      · unfold Bk.upd at hr2
        obtain ⟨y, hy, rfl⟩ := List.mem_map.1 hr2
        by_cases hyi : y.e.id = e.of_
        · rw [if_pos hyi] at h2 ⊢; exact h.ref y hy h2
        · rw [if_neg hyi] at h2 ⊢; exact h.ref y hy h2
      · rw [List.mem_singleton.1 hr2]; exact hofi
    · rcases List.mem_append.1 hr2 with hr2 | hr2
      · unfold Bk.upd at hr2
        obtain ⟨y, hy, rfl⟩ := List.mem_map.1 hr2
        by_cases hyi : y.e.id = e.of_
        · rw [if_pos hyi] at h3 ⊢; exact h.void y hy h3
        · rw [if_neg hyi] at h3 ⊢; exact h.void y hy h3
      · rw [List.mem_singleton.1 hr2] at h3; simp only at h3; omega
    · rw [rfS_app, rfS_upd c j _ e.of_ (fun x => { x with back := addL x.back e.am }) he hl]
      rcases List.mem_append.1 hs with hs | hs
      · unfold Bk.upd at hs
        obtain ⟨y, hy, rfl⟩ := List.mem_map.1 hs
        by_cases hyi : y.e.id = e.of_
        · rw [if_pos hyi] at hs1 ⊢
          have hys : y = s0 := nodup_at hnd hy m0 (by rw [hyi, i0])
          subst hys
          simp only [rfS, hk2, hyi, true_and, if_true, Int.add_zero]
          have hyok := hok y hy
          have hsl := (sale_lines hyok k0).1
          have hgrow := ref_grow hg j y e.am y.e.am hr.len (hyok.bln k0) (fun i hi => by
            have := Ent.am_bd hc i hi
            have g2 : e.am.getD i 0 = e.am[i] := by simp [List.getD, hi]
            omega) (fun i hi => (hyok.bbd k0 i hi).1) (fun i hi => by
            have hb : i < y.back.length := by have := hyok.bln k0; omega
            have hei : i < e.am.length := by have := hr.len; omega
            have := overB_le hr.over i hei hi hb
            have g1 : y.back.getD i 0 = y.back[i] := by simp [List.getD, hb]
            have g2 : e.am.getD i 0 = e.am[i] := by simp [List.getD, hei]
            have g3 : y.e.am.getD i 0 = y.e.am[i] := by simp [List.getD, hi]
            omega) y.lines hsl
          have hsum := h.sum c g hg y hy k0 j
          rw [hyi] at hsum
          unfold Kp.refLines
          rw [hsum]
          exact hgrow
        · rw [if_neg hyi] at hs1 ⊢
          have e0 : rfS c j y.e.id [⟨e, s0.refLines e.am, [], false⟩] = 0 := rfS_none (fun r hr h2 he => by rw [List.mem_singleton.1 hr] at he; exact hyi he.symm)
          rw [e0, Int.add_zero]
          exact h.sum c g hg y hy hs1 j
      · rw [List.mem_singleton.1 hs] at hs1; simp only at hs1; omega
  rw [if_neg hk2]
  have hk3 : e.k = 3 := by
    have hf := (Ent.check_ok hc).2.2
    unfold Ent.fine at hf
    rw [if_neg hk, if_neg hk2] at hf
    by_cases h3 : e.k = 3
    · exact h3
    · rw [if_neg h3] at hf; cases hf
  rw [if_pos hk3]
  have he : ∀ x : Kp, ({ x with voided := true } : Kp).e = x.e := fun _ => rfl
  have hl : ∀ x : Kp, ({ x with voided := true } : Kp).lines = x.lines := fun _ => rfl
  refine ⟨fun r hr2 h2 => ?_, fun r hr2 h3 => ?_, fun c g hg s hs hs1 j => ?_⟩
  · rw [ids_app, ids_upd B e.of_ (fun x => { x with voided := true }) he]
    refine List.mem_append_left _ ?_
    rcases List.mem_append.1 hr2 with hr2 | hr2
    · unfold Bk.upd at hr2
      obtain ⟨y, hy, rfl⟩ := List.mem_map.1 hr2
      by_cases hyi : y.e.id = e.of_
      · rw [if_pos hyi] at h2 ⊢; exact h.ref y hy h2
      · rw [if_neg hyi] at h2 ⊢; exact h.ref y hy h2
    · rw [List.mem_singleton.1 hr2] at h2; simp only at h2; omega
  · rcases List.mem_append.1 hr2 with hr2 | hr2
    · unfold Bk.upd at hr2
      obtain ⟨y, hy, rfl⟩ := List.mem_map.1 hr2
      by_cases hyi : y.e.id = e.of_
      · rw [if_pos hyi] at h3 ⊢; exact h.void y hy h3
      · rw [if_neg hyi] at h3 ⊢; exact h.void y hy h3
    · rw [List.mem_singleton.1 hr2]
  · have e0 : rfS c j s.e.id [⟨e, [], [], false⟩] = 0 := rfS_none (fun r hr h2 he => by rw [List.mem_singleton.1 hr] at h2; simp only at h2; omega)
    rw [rfS_app, rfS_upd c j _ e.of_ (fun x => { x with voided := true }) he hl, e0, Int.add_zero]
    rcases List.mem_append.1 hs with hs | hs
    · unfold Bk.upd at hs
      obtain ⟨y, hy, rfl⟩ := List.mem_map.1 hs
      by_cases hyi : y.e.id = e.of_
      · rw [if_pos hyi] at hs1 ⊢; exact h.sum c g hg y hy hs1 j
      · rw [if_neg hyi] at hs1 ⊢; exact h.sum c g hg y hy hs1 j
    · rw [List.mem_singleton.1 hs] at hs1; simp only at hs1; omega
theorem inv_add {B : Bk} (h : B.inv) (hok : ∀ p ∈ B, p.ok) (hnd : B.ids.Nodup) (e : Ent) : (B.add e).1.inv := by
  by_cases hm : B.may e = 0
  · unfold Bk.add
    rw [if_pos hm]
    exact inv_put h hok hnd hm
  · rw [add_no hm]; exact h
end Go.Proofs.YtokakpbpenndlaaGreatDoor
