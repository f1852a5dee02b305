/-
  How a book in memory changes: one entry turned; one entry more. What it has turned.
-/
import Derived.Test.YtokakpbpenndlaaGreatDoorRt15
import Derived.Test.YtokakpbpenndlaaGreatDoorRt11
set_option linter.unusedVariables false
namespace Go.Proofs.YtokakpbpenndlaaGreatDoor
open Go.RowKit Go.Maps

/-- What a book may turn. -/
def foot (bb mb : Nat) (vids : Value) (M : BkM) : List Nat := bb :: mb :: (vids.ownBlock.toList ++ M.flatMap fun p => p.2.g :: p.2.vb.ownBlock.toList)
theorem foot_g {bb mb : Nat} {vids : Value} {M : BkM} {p : Kp × Slot} (hp : p ∈ M) : p.2.g ∈ foot bb mb vids M := by
  simp only [foot, List.mem_cons, List.mem_append, List.mem_flatMap]
  exact .inr (.inr (.inr ⟨p, hp, .inl rfl⟩))
theorem foot_vb {bb mb : Nat} {vids : Value} {M : BkM} {p : Kp × Slot} (hp : p ∈ M) {g : Nat} (hg : p.2.vb.ownBlock = some g) : g ∈ foot bb mb vids M := by
  simp only [foot, List.mem_cons, List.mem_append, List.mem_flatMap]
  exact .inr (.inr (.inr ⟨p, hp, .inr (by simp [hg])⟩))
theorem foot_vids {bb mb : Nat} {vids : Value} {M : BkM} {g : Nat} (hg : vids.ownBlock = some g) : g ∈ foot bb mb vids M := by simp [foot, hg]
theorem BookAt.foot_ge {w0 W : World} {bb mb : Nat} {vids : Value} {M : BkM} (h : BookAt w0 W bb mb vids M) : ∀ g ∈ foot bb mb vids M, w0.heap.size ≤ g ∧ g < W.heap.size := by
  intro g hg
  simp only [foot, List.mem_cons, List.mem_append, List.mem_flatMap, Option.mem_toList] at hg
  rcases hg with rfl | rfl | hg | ⟨p, hp, rfl | hg⟩
  · exact ⟨h.geb, h.blk.lt⟩
  · refine ⟨h.gem, ?_⟩
    obtain ⟨es, clock, hb, _⟩ := h.map
    exact (Array.getElem?_eq_some_iff.1 hb).1
  · exact h.ids.lt g hg
  · exact ⟨(h.all p hp).ge, (h.all p hp).blk.lt⟩
  · exact (h.all p hp).ob.lt g hg

theorem own_below {n : Nat} {w w' : World} {base : Nat} {e : TypeId} {size k : Nat} {v : Value} {xs : List Value} (h : w.ownsRow base e size v k xs) (hx : Below n w w') (hv : ∀ g, v.ownBlock = some g → g < n) : w'.ownsRow base e size v k xs := by
  refine ⟨h.1, ?_⟩
  rcases h.2 with h2 | ⟨g, cap, cur, rfl, hg, hh, r⟩
  · exact Or.inl h2
  · exact Or.inr ⟨g, cap, cur, rfl, hg, by rw [hx.block g (hv g (by simp [Value.ownBlock]))]; exact hh, r⟩
/-- All blocks of an entry lie below n. -/
def Slot.lt (m : Slot) (n : Nat) : Prop := m.g < n ∧ (∀ g, m.va.ownBlock = some g → g < n) ∧ (∀ g, m.vt.ownBlock = some g → g < n) ∧ (∀ g, m.vl.ownBlock = some g → g < n) ∧ (∀ g, m.vb.ownBlock = some g → g < n)
theorem KpAt.lt {w0 W : World} {m : Slot} {x : Kp} (h : KpAt w0 W m x) : m.lt W.heap.size := ⟨h.blk.lt, fun g e => (h.oa.lt g e).2, fun g e => (h.ot.lt g e).2, fun g e => (h.ol.lt g e).2, fun g e => (h.ob.lt g e).2⟩
theorem KpAt.below {n : Nat} {w0 w w' : World} {m : Slot} {x : Kp} (h : KpAt w0 w m x) (hx : Below n w w') (hl : m.lt n) : KpAt w0 w' m x :=
  ⟨(hx.block m.g hl.1).trans h.blk, own_below h.oa hx hl.2.1, own_below h.ot hx hl.2.2.1, own_below h.ol hx hl.2.2.2.1, own_below h.ob hx hl.2.2.2.2, h.ge⟩
theorem BookAt.below {n : Nat} {w0 w w' : World} {bb mb : Nat} {vids : Value} {M : BkM} (h : BookAt w0 w bb mb vids M) (hf : ∀ g ∈ foot bb mb vids M, g < n) (hl : ∀ p ∈ M, p.2.lt n) (hx : Below n w w') : BookAt w0 w' bb mb vids M := by
  refine ⟨(hx.block bb (hf _ (by simp [foot]))).trans h.blk, ?_, own_below h.ids hx (fun g e => hf g (foot_vids e)), fun p hp => (h.all p hp).below hx (hl p hp), h.nodup, h.gnd, h.apart, h.ok, h.geb, h.gem⟩
  obtain ⟨es, clock, hb, r⟩ := h.map
  exact ⟨es, clock, (hx.block mb (hf _ (by simp [foot]))).trans hb, r⟩
/-- One entry turned. -/
def BkM.upd (M : BkM) (id : Int) (f : Kp → Kp) : BkM := M.map fun p => (if p.1.e.id = id then f p.1 else p.1, p.2)
theorem BkM.upd_b (M : BkM) (id : Int) (f : Kp → Kp) : (M.upd id f).b = M.b.upd id f := by simp [BkM.upd, BkM.b, Bk.upd, Function.comp_def]
theorem BkM.upd_len (M : BkM) (id : Int) (f : Kp → Kp) : (M.upd id f).length = M.length := by simp [BkM.upd]
theorem BkM.upd_keys (M : BkM) (id : Int) (f : Kp → Kp) (hf : ∀ x, (f x).e = x.e) : (M.upd id f).keys = M.keys := by
  simp only [BkM.upd, BkM.keys, List.map_map]
  refine List.map_congr_left fun p _ => ?_
  simp only [Function.comp_apply]
  split <;> simp [hf]
theorem BkM.upd_ids (M : BkM) (id : Int) (f : Kp → Kp) (hf : ∀ x, (f x).e = x.e) : (M.upd id f).b.ids = M.b.ids := by
  rw [← keys_ids, BkM.upd_keys M id f hf, keys_ids]
theorem BkM.upd_rows (vids : Value) (M : BkM) (id : Int) (f : Kp → Kp) : BkM.rows vids (M.upd id f) = BkM.rows vids M := by
  simp only [BkM.rows, BkM.upd, List.flatMap_map]
theorem BkM.upd_foot (bb mb : Nat) (vids : Value) (M : BkM) (id : Int) (f : Kp → Kp) : foot bb mb vids (M.upd id f) = foot bb mb vids M := by
  simp only [foot, BkM.upd, List.flatMap_map]
theorem BookAt.uniq {w0 W : World} {bb mb : Nat} {vids : Value} {M : BkM} (h : BookAt w0 W bb mb vids M) {p q : Kp × Slot} (hp : p ∈ M) (hq : q ∈ M) (e : p.1.e.id = q.1.e.id) : p = q := by
  have hn := h.nodup
  simp only [BkM.b, Bk.ids, List.map_map] at hn
  exact nodup_inj hn hp hq e
theorem BookAt.uniqg {w0 W : World} {bb mb : Nat} {vids : Value} {M : BkM} (h : BookAt w0 W bb mb vids M) {p q : Kp × Slot} (hp : p ∈ M) (hq : q ∈ M) (e : p.2.g = q.2.g) : p = q := nodup_inj h.gnd hp hq e
theorem BookAt.turned {w0 W W' : World} {bb mb : Nat} {vids : Value} {M : BkM} (h : BookAt w0 W bb mb vids M) {p : Kp × Slot} (hp : p ∈ M) (f : Kp → Kp) (hf : ∀ x, (f x).e = x.e) {row : Option Nat} (hg : W.grownBy W' row)
    (hbb : row ≠ some bb) (hmb : row ≠ some mb) (hvi : vids.ownBlock = none ∨ vids.ownBlock ≠ row)
    (ho : ∀ q ∈ M, q.1.e.id ≠ p.1.e.id → KpAt w0 W' q.2 q.1) (hk : KpAt w0 W' p.2 (f p.1)) (hok : (f p.1).ok) : BookAt w0 W' bb mb vids (M.upd p.1.e.id f) := by
  refine ⟨h.blk.grown hg hbb.symm, ?_, ?_, ?_, ?_, ?_, ?_, ?_, h.geb, h.gem⟩
  · rw [BkM.upd_keys _ _ _ hf, BkM.upd_len]
    exact h.map.kept hg hmb.symm
  · rw [BkM.upd_ids _ _ _ hf, BkM.upd_len]
    exact h.ids.kept hg hvi
  · intro q hq
    simp only [BkM.upd, List.mem_map] at hq
    obtain ⟨r, hr, rfl⟩ := hq
    by_cases e : r.1.e.id = p.1.e.id
    · have := h.uniq hr hp e
      subst this
      simpa using hk
    · simp only [if_neg e]
      exact ho r hr e
  · rw [BkM.upd_ids _ _ _ hf]; exact h.nodup
  · have : (M.upd p.1.e.id f).map (fun p => p.2.g) = M.map fun p => p.2.g := by simp [BkM.upd, Function.comp_def]
    rw [this]; exact h.gnd
  · rw [BkM.upd_rows]; exact h.apart
  · intro q hq
    simp only [BkM.upd, List.mem_map] at hq
    obtain ⟨r, hr, rfl⟩ := hq
    by_cases e : r.1.e.id = p.1.e.id
    · have := h.uniq hr hp e
      subst this
      simpa using hok
    · simp only [if_neg e]
      exact h.ok r hr
theorem apart_mem {vids : Value} {M : BkM} (h : (BkM.rows vids M).Pairwise Apart) {p : Kp × Slot} (hp : p ∈ M) : Apart vids p.2.va ∧ Apart vids p.2.vb ∧ Apart p.2.va p.2.vb := by
  unfold BkM.rows at h
  rw [List.pairwise_cons] at h
  refine ⟨h.1 _ (List.mem_flatMap.2 ⟨p, hp, by simp⟩), h.1 _ (List.mem_flatMap.2 ⟨p, hp, by simp⟩), ?_⟩
  rw [List.pairwise_flatMap] at h
  have := h.2.1 p hp
  simpa using this
theorem apart_two {vids : Value} {M : BkM} (h : (BkM.rows vids M).Pairwise Apart) {p q : Kp × Slot} (hp : p ∈ M) (hq : q ∈ M) (hne : p ≠ q) : Apart p.2.vb q.2.va ∧ Apart p.2.vb q.2.vb := by
  unfold BkM.rows at h
  rw [List.pairwise_cons, List.pairwise_flatMap] at h
  have h2 := h.2.2
  clear h
  induction M with
  | nil => cases hp
  | cons a l ih =>
    rw [List.pairwise_cons] at h2
    rcases List.mem_cons.1 hp with e1 | h3
    · rcases List.mem_cons.1 hq with e2 | h4
      · exact absurd (e1.trans e2.symm) hne
      · have := h2.1 q h4
        rw [← e1] at this
        exact ⟨this _ (by simp) _ (by simp), this _ (by simp) _ (by simp)⟩
    · rcases List.mem_cons.1 hq with e2 | h4
      · have := h2.1 p h3
        rw [← e2] at this
        exact ⟨(this _ (by simp) _ (by simp)).symm, (this _ (by simp) _ (by simp)).symm⟩
      · exact ih h3 h4 h2.2
/-- A sale of which more came back. -/
theorem BookAt.backed {w0 W W' : World} {bb mb : Nat} {vids : Value} {M : BkM} (h : BookAt w0 W bb mb vids M) {p : Kp × Slot} (hp : p ∈ M) (am : List Int) (hg : W.grownBy W' p.2.vb.ownBlock)
    (hv : W'.ownsRow w0.heap.size 3 1 p.2.vb p.1.back.length (iV (addL p.1.back am))) (hok : ({ p.1 with back := addL p.1.back am } : Kp).ok) : BookAt w0 W' bb mb vids (M.upd p.1.e.id fun x => { x with back := addL x.back am }) := by
  have hk := h.all p hp
  have hne : ∀ {g : Nat} {t : TypeId} {cs : Array Value}, Blk W g t cs → 3 ≠ t → p.2.vb.ownBlock ≠ some g := fun hb ht => own_blk_ne hk.ob hb ht
  have hrow : ∀ {v : Value}, Apart p.2.vb v → v.ownBlock = none ∨ v.ownBlock ≠ p.2.vb.ownBlock := fun {v} ha => by
    cases hvb : p.2.vb.ownBlock with
    | none => cases hv : v.ownBlock with
      | none => exact .inl rfl
      | some g => exact .inr (by simp)
    | some g => exact .inr (ha g hvb)
  have htx : ∀ {b s n : Nat} {v : Value} {xs : List Value}, W.ownsRow b 117 s v n xs → v.ownBlock = none ∨ v.ownBlock ≠ p.2.vb.ownBlock := fun {b s n v xs} ho => by
    cases hvb : p.2.vb.ownBlock with
    | none => cases hv : v.ownBlock with
      | none => exact .inl rfl
      | some g => exact .inr (by simp)
    | some g => exact .inr (own_own_ne hk.ob ho (by decide) hvb)
  have hap := apart_mem h.apart hp
  refine h.turned hp _ (fun _ => rfl) hg (hne h.blk (by decide)) (ownsMap_own_ne h.map hk.ob) (hrow hap.2.1.symm) ?_ ?_ hok
  · intro q hq hq1
    have hkq := h.all q hq
    have h2 := apart_two h.apart hp hq (fun e => hq1 (by rw [e]))
    exact ⟨hkq.blk.grown hg (fun e => hne hkq.blk (by decide) e.symm), hkq.oa.kept hg (hrow h2.1), hkq.ot.kept hg (htx hkq.ot), hkq.ol.kept hg (htx hkq.ol), hkq.ob.kept hg (hrow h2.2), hkq.ge⟩
  · refine ⟨hk.blk.grown hg (fun e => hne hk.blk (by decide) e.symm), hk.oa.kept hg (hrow hap.2.2.symm), hk.ot.kept hg (htx hk.ot), hk.ol.kept hg (htx hk.ol), ?_, hk.ge⟩
    simp only [addL_len]
    exact hv
/-- A sale that is voided. -/
theorem BookAt.voided_ {w0 W : World} {bb mb : Nat} {vids : Value} {M : BkM} (h : BookAt w0 W bb mb vids M) {p : Kp × Slot} (hp : p ∈ M) (hok : ({ p.1 with voided := true } : Kp).ok) : BookAt w0 (W.setCell ⟨p.2.g, 8, none⟩ (.bool true)) bb mb vids (M.upd p.1.e.id fun x => { x with voided := true }) := by
  have hk := h.all p hp
  have hg : W.grownBy (W.setCell ⟨p.2.g, 8, none⟩ (.bool true)) (some p.2.g) := only_set (World.grownBy.refl W _) (.inl rfl) _
  have hrow : ∀ {b s n : Nat} {t : TypeId} {v : Value} {xs : List Value}, W.ownsRow b t s v n xs → t ≠ 111 → v.ownBlock = none ∨ v.ownBlock ≠ some p.2.g := fun ho ht => .inr (own_blk_ne ho hk.blk ht)
  refine h.turned hp _ (fun _ => rfl) hg (fun e => Blk.ne_ hk.blk h.blk (by decide) (Option.some.inj e)) (fun e => ownsMap_blk_ne h.map hk.blk (Option.some.inj e).symm) (hrow h.ids (by decide)) ?_ ?_ hok
  · intro q hq hq1
    have hkq := h.all q hq
    exact ⟨hkq.blk.grown hg (fun e => hq1 (by rw [h.uniqg hq hp (Option.some.inj e)])), hkq.oa.kept hg (hrow hkq.oa (by decide)), hkq.ot.kept hg (hrow hkq.ot (by decide)), hkq.ol.kept hg (hrow hkq.ol (by decide)), hkq.ob.kept hg (hrow hkq.ob (by decide)), hkq.ge⟩
  · exact ⟨hk.blk.set_ 8 (.bool true), hk.oa.kept hg (hrow hk.oa (by decide)), hk.ot.kept hg (hrow hk.ot (by decide)), hk.ol.kept hg (hrow hk.ol (by decide)), hk.ob.kept hg (hrow hk.ob (by decide)), hk.ge⟩
/-- One entry more. -/
theorem BookAt.snoc {w0 W1 W W6 W8 : World} {bb mb : Nat} {vids vids' : Value} {M : BkM} (h : BookAt w0 W bb mb vids M) (hx1 : Ext w0 W1) {m : Slot} {x : Kp} (hk : KpAt W1 W m x) (hfoot : ∀ g ∈ foot bb mb vids M, g < W1.heap.size) (hva : ∀ p ∈ M, ∀ g, p.2.va.ownBlock = some g → g < W1.heap.size)
    (hab : Apart m.va m.vb) (hid : x.e.id ∉ M.b.ids) (hok : x.ok) (ho : W6.ownsRow w0.heap.size 3 1 vids' (M.length + 1) (iV M.b.ids ++ [.int .i64 x.e.id])) (hg : W.grownBy W6 vids.ownBlock)
    (hat : vids'.ownBlock = vids.ownBlock ∨ ∃ g, vids'.ownBlock = some g ∧ W.heap.size ≤ g)
    (hm : W8.ownsMap Tryz.prog 3 ptrR mb (M.length + 1) ((mapD M.keys).put (klI x.e.id) (.lit (.int .u64 (m.g : Int))))) (hgr : (W6.setCell ⟨bb, 0, none⟩ vids').grownBy W8 (some mb)) : BookAt w0 W8 bb mb vids' (M ++ [(x, m)]) := by
  have hsz1 := hx1.size
  have hk0 : KpAt w0 W m x := ⟨hk.blk, own_base hk.oa hsz1, own_base hk.ot hsz1, own_base hk.ol hsz1, own_base hk.ob hsz1, Nat.le_trans hsz1 hk.ge⟩
  have hbb6 : Blk W6 bb 66 #[vids, .map (some mb)] := h.blk.grown hg (fun e => own_blk_ne h.ids h.blk (by decide) e.symm)
  have hne1 : mb ≠ bb := ownsMap_blk_ne h.map h.blk
  have hbb8 : Blk W8 bb 66 #[vids', .map (some mb)] := (hbb6.set_ 0 vids').grown hgr (fun e => hne1 (Option.some.inj e).symm)
  -- a row of the book that is not that of the IDs stays
  have hblk : ∀ {g : Nat} {cs : Array Value}, Blk W g 111 cs → Blk W8 g 111 cs := fun {g cs} hb => by
    have h1 := hb.grown hg (fun e => own_blk_ne h.ids hb (by decide) e.symm)
    have h2 := h1.far (p := ⟨bb, 0, none⟩) (fun e => Blk.ne_ hb h.blk (by decide) e) vids'
    exact h2.grown hgr (fun e => ownsMap_blk_ne h.map hb (Option.some.inj e).symm)
  have hrow : ∀ {b s n : Nat} {t : TypeId} {v : Value} {xs : List Value}, W.ownsRow b t s v n xs → t ≠ 66 → (v.ownBlock = none ∨ v.ownBlock ≠ vids.ownBlock) → W8.ownsRow b t s v n xs := fun {b s n t v xs} ho ht hv => by
    have h1 := ho.kept hg hv
    have h2 := own_set h1 (a := ⟨bb, 0, none⟩) (own_blk_ne ho h.blk ht) vids'
    exact h2.kept hgr (.inr (ownsMap_own_ne h.map ho))
  have htx : ∀ {b s n : Nat} {v : Value} {xs : List Value}, W.ownsRow b 117 s v n xs → v.ownBlock = none ∨ v.ownBlock ≠ vids.ownBlock := fun {b s n v xs} ho => by
    cases hvb : vids.ownBlock with
    | none => cases hv : v.ownBlock with
      | none => exact .inl rfl
      | some g => exact .inr (by simp)
    | some g => exact .inr (own_own_ne h.ids ho (by decide) hvb)
  have hap : ∀ {v : Value}, Apart vids v → v.ownBlock = none ∨ v.ownBlock ≠ vids.ownBlock := fun {v} ha => by
    cases hvb : vids.ownBlock with
    | none => cases hv : v.ownBlock with
      | none => exact .inl rfl
      | some g => exact .inr (by simp)
    | some g => exact .inr (ha g hvb)
  have hnew : ∀ {v : Value}, (∀ g, v.ownBlock = some g → W1.heap.size ≤ g) → Apart vids v := fun {v} hv g h1 h2 => by
    have a := hv g h2
    have b := hfoot g (foot_vids h1)
    omega
  have hA : Apart vids m.va := hnew fun g e => (hk.oa.lt g e).1
  have hB : Apart vids m.vb := hnew fun g e => (hk.ob.lt g e).1
  -- the row of the IDs, old or new, is apart from all
  have hids' : ∀ {v : Value}, Apart vids v → (∀ g, v.ownBlock = some g → g < W.heap.size) → Apart vids' v := fun {v} ha hv g h1 h2 => by
    rcases hat with e | ⟨g', e, hge⟩
    · exact ha g (by rw [← e]; exact h1) h2
    · have : g' = g := Option.some.inj (e.symm.trans h1)
      have := hv g h2
      omega
  have kpOld : ∀ p ∈ M, KpAt w0 W8 p.2 p.1 := fun p hp => by
    have hkp := h.all p hp
    have ha := apart_mem h.apart hp
    exact ⟨hblk hkp.blk, hrow hkp.oa (by decide) (hap ha.1), hrow hkp.ot (by decide) (htx hkp.ot), hrow hkp.ol (by decide) (htx hkp.ol), hrow hkp.ob (by decide) (hap ha.2.1), hkp.ge⟩
  have kpNew : KpAt w0 W8 m x := ⟨hblk hk0.blk, hrow hk0.oa (by decide) (hap hA), hrow hk0.ot (by decide) (htx hk0.ot), hrow hk0.ol (by decide) (htx hk0.ol), hrow hk0.ob (by decide) (hap hB), hk0.ge⟩
  refine ⟨hbb8, ?_, ?_, ?_, ?_, ?_, ?_, ?_, h.geb, h.gem⟩
  · have : BkM.keys (M ++ [(x, m)]) = M.keys ++ [(x.e.id, m.g)] := by simp [BkM.keys]
    rw [this, mapD_snoc, List.length_append]
    exact hm
  · have e1 : BkM.b (M ++ [(x, m)]) = M.b ++ [x] := by simp [BkM.b]
    have e2 : iV (Bk.ids (M.b ++ [x])) = iV M.b.ids ++ [.int .i64 x.e.id] := by simp [Bk.ids, iV]
    rw [e1, e2, List.length_append]
    have h1 := own_set ho (a := ⟨bb, 0, none⟩) (own_blk_ne ho hbb6 (by decide)) vids'
    exact h1.kept hgr (.inr (by
      have h6 : W6.ownsMap Tryz.prog 3 ptrR mb M.length (mapD M.keys) := h.map.kept hg (fun e => ownsMap_own_ne h.map h.ids e.symm)
      exact ownsMap_own_ne h6 ho))
  · intro p hp
    rcases List.mem_append.1 hp with hp | hp
    · exact kpOld p hp
    · rw [List.mem_singleton.1 hp]; exact kpNew
  · have e1 : Bk.ids (BkM.b (M ++ [(x, m)])) = M.b.ids ++ [x.e.id] := by simp [BkM.b, Bk.ids]
    rw [e1, List.nodup_append]
    refine ⟨h.nodup, by simp, ?_⟩
    intro a ha b hb e
    rw [List.mem_singleton.1 hb] at e
    exact hid (e ▸ ha)
  · rw [List.map_append, List.nodup_append]
    refine ⟨h.gnd, by simp, ?_⟩
    intro a ha b hb e
    simp only [List.map_cons, List.map_nil, List.mem_singleton] at hb
    obtain ⟨p, hp, rfl⟩ := List.mem_map.1 ha
    have h1 := hfoot _ (foot_g (bb := bb) (mb := mb) (vids := vids) hp)
    have h2 := hk.ge
    omega
  · have e1 : BkM.rows vids' (M ++ [(x, m)]) = BkM.rows vids' M ++ [m.va, m.vb] := by simp [BkM.rows]
    rw [e1, List.pairwise_append]
    refine ⟨?_, by simpa using hab, ?_⟩
    · have := h.apart
      unfold BkM.rows at this ⊢
      rw [List.pairwise_cons] at this ⊢
      refine ⟨fun v hv => ?_, this.2⟩
      refine hids' (this.1 v hv) fun g e => ?_
      obtain ⟨p, hp, hv⟩ := List.mem_flatMap.1 hv
      simp only [List.mem_cons, List.not_mem_nil, or_false] at hv
      rcases hv with rfl | rfl
      · exact ((h.all p hp).oa.lt g e).2
      · exact ((h.all p hp).ob.lt g e).2
    · intro a ha b hb
      unfold BkM.rows at ha
      have hbn : ∀ g, b.ownBlock = some g → W1.heap.size ≤ g ∧ g < W.heap.size := by
        intro g e
        simp only [List.mem_cons, List.not_mem_nil, or_false] at hb
        rcases hb with rfl | rfl
        · exact hk.oa.lt g e
        · exact hk.ob.lt g e
      rcases List.mem_cons.1 ha with rfl | ha
      · exact hids' (hnew fun g e => (hbn g e).1) fun g e => (hbn g e).2
      · obtain ⟨p, hp, hv⟩ := List.mem_flatMap.1 ha
        simp only [List.mem_cons, List.not_mem_nil, or_false] at hv
        intro g h1 h2
        have h3 := (hbn g h2).1
        rcases hv with rfl | rfl
        · have := hva p hp g h1; omega
        · have := hfoot g (foot_vb hp h1); omega
  · intro p hp
    rcases List.mem_append.1 hp with hp | hp
    · exact h.ok p hp
    · rw [List.mem_singleton.1 hp]; exact hok
theorem foot_snoc {bb mb : Nat} {vids vids' : Value} {M : BkM} {x : Kp} {m : Slot} {B : Nat} (hat : vids'.ownBlock = vids.ownBlock ∨ ∃ g, vids'.ownBlock = some g ∧ B ≤ g) (hg : B ≤ m.g) (hb : ∀ g, m.vb.ownBlock = some g → B ≤ g) :
    ∀ g ∈ foot bb mb vids' (M ++ [(x, m)]), g ∈ foot bb mb vids M ∨ B ≤ g := by
  intro g hm
  simp only [foot, List.mem_cons, List.mem_append, List.mem_flatMap, Option.mem_toList, List.flatMap_append, List.flatMap_cons, List.flatMap_nil, List.append_nil] at hm ⊢
  rcases hm with rfl | rfl | hm | ⟨p, hp, hm⟩ | rfl | hm
  · exact .inl (.inl rfl)
  · exact .inl (.inr (.inl rfl))
  · rcases hat with e | ⟨g', e, hge⟩
    · exact .inl (.inr (.inr (.inl (e ▸ hm))))
    · rw [e] at hm
      injection hm with hm
      exact .inr (hm ▸ hge)
  · exact .inl (.inr (.inr (.inr ⟨p, hp, hm⟩)))
  · exact .inr hg
  · exact .inr (hb g hm)
end Go.Proofs.YtokakpbpenndlaaGreatDoor

set_option linter.unusedVariables false
namespace Go.Proofs.YtokakpbpenndlaaGreatDoor
open Go.RowKit Go.Maps

theorem BookAt.empty {w0 W : World} {bb mb : Nat} (hb : Blk W bb 66 #[.slice none 0 0, .map (some mb)]) (hm : W.ownsMap Tryz.prog 3 ptrR mb 0 (.map [])) (h1 : w0.heap.size ≤ bb) (h2 : w0.heap.size ≤ mb) : BookAt w0 W bb mb (.slice none 0 0) [] := by
  refine ⟨hb, hm, World.ownsRow_nil _ _ _ _, ?_, ?_, ?_, ?_, ?_, h1, h2⟩
  · intro p hp; cases hp
  · simp [BkM.b, Bk.ids]
  · simp
  · simp [BkM.rows]
  · intro p hp; cases hp
set_option maxRecDepth 100000 in
theorem newBook_any (w : World) : Calls Tryz.prog 25 #[] w fun r w' => r = .returned (.pointer (some ⟨w.heap.size + 1, 0, none⟩)) ∧ BookAt w w' (w.heap.size + 1) w.heap.size (.slice none 0 0) [] ∧ Ext w w' := by
  have hmm := @run_makeMap Tryz.prog
  go_enter Tryz.func25, Tryz.ntmps25
  go_wp2_with fail
  go_ret
  refine ⟨rfl, BookAt.empty ?_ ?_ (by omega) (by omega), ((Ext.refl w).alloc _).alloc _⟩
  · have := Blk.new (w.alloc (.map #[] 0)) 66 #[.slice none 0 0, .map (some w.heap.size)]
    simpa using this
  · exact (World.ownsMap_made _ _ _ _).alloc _

/-- What an entry of a book may be, and what is told of it, in memory. -/
structure AddOut (w0 W W' : World) (bb mb : Nat) (vids : Value) (M : BkM) (vids' : Value) (M' : BkM) (B1 : Nat) : Prop where
  at_ : BookAt w0 W' bb mb vids' M'
  chg : Chg (foot bb mb vids M) W W'
  foot : ∀ g ∈ foot bb mb vids' M', g ∈ foot bb mb vids M ∨ (W.heap.size ≤ g ∧ g < B1)
  le : W.heap.size ≤ B1
theorem overB_le : ∀ {n a b : List Int}, overB n a b = false → ∀ i (h1 : i < n.length) (h2 : i < a.length) (h3 : i < b.length), n[i] ≤ a[i] - b[i]
  | [], _, _, _, i, h1, _, _ => by simp at h1
  | _ :: _, [], _, _, i, _, h2, _ => by simp at h2
  | _ :: _, _ :: _, [], _, i, _, _, h3 => by simp at h3
  | n :: r, a :: ra, b :: rb, h, 0, _, _, _ => by
    simp only [overB, Bool.or_eq_false_iff, decide_eq_false_iff_not] at h
    simp only [List.getElem_cons_zero]
    omega
  | n :: r, a :: ra, b :: rb, h, i + 1, h1, h2, h3 => by
    simp only [overB, Bool.or_eq_false_iff] at h
    simp only [List.getElem_cons_succ]
    exact overB_le h.2 i (by simpa using h1) (by simpa using h2) (by simpa using h3)
theorem addL_at : ∀ (a b : List Int) (k : Nat) (ha : k < a.length) (hb : k < b.length), (addL a b)[k]? = some (a[k] + b[k])
  | x :: r, y :: s, 0, _, _ => by simp [addL]
  | x :: r, y :: s, k + 1, ha, hb => by simpa [addL] using addL_at r s k (by simpa using ha) (by simpa using hb)
theorem Ent.am_bd {e : Ent} (h : e.check = 0) (i : Nat) (hi : i < e.am.length) : 0 ≤ e.am[i] ∧ e.am[i] ≤ 4611686018427387904 := by
  have := (Ent.check_ok h).2.1
  unfold Ent.ams at this
  exact win_bd (List.all_eq_true.1 this _ (List.getElem_mem hi))
/-- What the sale is of which something comes back. -/
structure RefMay (s : Kp) (e : Ent) : Prop where
  v : s.voided = false
  len : e.am.length = s.e.am.length
  over : overB e.am s.e.am s.back = false
theorem may_ref {B : Bk} {e : Ent} (hm : B.may e = 0) (hc : e.check = 0) (hk : e.k = 2) : ∃ s, B.sale e.of_ = some s ∧ RefMay s e := by
  unfold Bk.may at hm
  rw [if_neg (by simpa using hc)] at hm
  by_cases h1 : (B.find e.id).isSome
  · rw [if_pos h1] at hm; cases hm
  rw [if_neg h1, if_pos hk] at hm
  cases hs : B.sale e.of_ with
  | none => rw [hs] at hm; cases hm
  | some s =>
    rw [hs] at hm
    simp only at hm
    unfold Kp.refMay at hm
    by_cases h2 : s.voided = true
    · rw [if_pos h2] at hm; cases hm
    rw [if_neg h2] at hm
    by_cases h3 : e.am.length ≠ s.e.am.length ∨ e.day < s.e.day
    · rw [if_pos h3] at hm; cases hm
    rw [if_neg h3] at hm
    by_cases h4 : overB e.am s.e.am s.back = true
    · rw [if_pos h4] at hm; cases hm
    exact ⟨s, rfl, ⟨by simpa using h2, Classical.not_not.1 (not_or.1 h3).1, by simpa using h4⟩⟩
theorem may_void {B : Bk} {e : Ent} (hm : B.may e = 0) (hc : e.check = 0) (hk : e.k = 3) : ∃ s, B.sale e.of_ = some s := by
  unfold Bk.may at hm
  rw [if_neg (by simpa using hc)] at hm
  by_cases h1 : (B.find e.id).isSome
  · rw [if_pos h1] at hm; cases hm
  rw [if_neg h1, if_neg (by omega), if_pos hk] at hm
  cases hs : B.sale e.of_ with
  | none => rw [hs] at hm; cases hm
  | some s => exact ⟨s, rfl⟩
theorem may_new {B : Bk} {e : Ent} (hm : B.may e = 0) (hc : e.check = 0) : e.id ∉ B.ids := by
  unfold Bk.may at hm
  rw [if_neg (by simpa using hc)] at hm
  by_cases h1 : (B.find e.id).isSome
  · rw [if_pos h1] at hm; cases hm
  intro hi
  simp only [Bk.ids, List.mem_map] at hi
  obtain ⟨x, hx, he⟩ := hi
  refine h1 ?_
  unfold Bk.find
  rw [List.find?_isSome]
  exact ⟨x, hx, by simpa using he⟩
theorem Kp.ok_back {s : Kp} (h : s.ok) (hk : s.e.k = 1) {e : Ent} (hc : e.check = 0) (hr : RefMay s e) : ({ s with back := addL s.back e.am } : Kp).ok := by
  refine ⟨h.chk, h.lns, fun _ => by simpa [addL_len] using h.bln hk, fun _ i hi => ?_, fun h2 => absurd hk h2⟩
  simp only at hi ⊢
  have h1 := h.bbd hk i hi
  have hb : i < s.back.length := by have := h.bln hk; omega
  have he : i < e.am.length := by have := hr.len; omega
  have h2 := overB_le hr.over i he hi hb
  have h3 := Ent.am_bd hc i he
  have g1 : s.back.getD i 0 = s.back[i] := by simp [List.getD, hb]
  have g2 : s.e.am.getD i 0 = s.e.am[i] := by simp [List.getD, hi]
  have g3 : (addL s.back e.am).getD i 0 = s.back[i] + e.am[i] := by simp [List.getD, addL_at _ _ _ hb he]
  rw [g1, g2] at h1
  rw [g2, g3]
  omega
theorem Kp.ok_void {s : Kp} (h : s.ok) (hk : s.e.k = 1) : ({ s with voided := true } : Kp).ok := ⟨h.chk, h.lns, h.bln, h.bbd, fun h2 => absurd hk h2⟩
theorem Kp.ok_sale {e : Ent} (hc : e.check = 0) (hk : e.k = 1) : (⟨e, e.tax, List.replicate e.am.length 0, false⟩ : Kp).ok := by
  refine ⟨hc, fun _ => rfl, fun _ => by simp, fun _ i hi => ?_, fun _ => ?_⟩
  · have h := Ent.am_bd hc i hi
    have g2 : e.am.getD i 0 = e.am[i] := by simp [List.getD, hi]
    have g3 : (List.replicate e.am.length (0 : Int)).getD i 0 = 0 := by simp [List.getD, hi]
    simp only
    rw [g2, g3]
    omega
  · rename_i h1; exact absurd hk h1
theorem Kp.ok_other {e : Ent} (hc : e.check = 0) (hk : e.k ≠ 1) (l : List Tx) : (⟨e, l, [], false⟩ : Kp).ok := ⟨hc, fun h => absurd h hk, fun h => absurd h hk, fun h => absurd h hk, fun _ => ⟨rfl, rfl⟩⟩

end Go.Proofs.YtokakpbpenndlaaGreatDoor
