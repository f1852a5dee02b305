/-
  (*book.Book).Add.
-/
import Derived.Test.YtokakpbpenndlaaGreatDoorRt16
import Derived.Deep.DeepCutAuto
import Derived.Deep.CutBlock
import Derived.StillTailTactics
set_option linter.unusedVariables false
namespace Go.Proofs.YtokakpbpenndlaaGreatDoor
open Go.RowKit Go.Maps

/-- The entry of the call's own: its slices cloned. -/
structure Cl (W w1 wx : World) (e : Ent) (g : Nat) (A2 A3 : Option Addr) (c2 c3 : Nat) : Prop where
  blk : Blk wx g 52 #[.int .i64 e.k, .int .i64 e.id, .int .i64 e.of_, .int .i64 e.day, .slice A2 e.am.length c2, .slice A3 e.tax.length c3]
  oa : wx.ownsRow w1.heap.size 3 1 (.slice A2 e.am.length c2) e.am.length (iV e.am)
  ot : wx.ownsRow w1.heap.size 117 6 (.slice A3 e.tax.length c3) e.tax.length (txCells e.tax)
  ext : Ext W wx
def Cloned (W w1 wx : World) (e : Ent) (g : Nat) : Prop := ∃ A2 A3 c2 c3, Cl W w1 wx e g A2 A3 c2 c3
theorem Cl.to {W w1 wx wy : World} {e : Ent} {g : Nat} {A2 A3 : Option Addr} {c2 c3 : Nat} (h : Cl W w1 wx e g A2 A3 c2 c3) (hx : Ext wx wy) : Cl W w1 wy e g A2 A3 c2 c3 := ⟨h.blk.ext hx, own_ext h.oa hx, own_ext h.ot hx, h.ext.trans hx⟩
theorem Cl.mk_ {W w1 w2 w3 : World} {e : Ent} {Aa At A2 A3 : Option Addr} {ca ct c2 c3 : Nat} {g : Nat} (X1 : Ext W w1) (hg : W.heap.size = g) (B : Blk w1 g 52 #[.int .i64 e.k, .int .i64 e.id, .int .i64 e.of_, .int .i64 e.day, .slice Aa e.am.length ca, .slice At e.tax.length ct])
    (X2 : Ext w1 w2) (ho2 : w2.ownsRow w1.heap.size 3 1 (.slice A2 e.am.length c2) e.am.length (iV e.am)) (hx3 : Ext w2 w3) (ho3 : w3.ownsRow w2.heap.size 117 6 (.slice A3 e.tax.length c3) e.tax.length (txCells e.tax)) :
    Cloned W w1 ((w3.setCell ⟨g, 4, none⟩ (.slice A2 e.am.length c2)).setCell ⟨g, 5, none⟩ (.slice A3 e.tax.length c3)) e g := by
  have B3 := B.ext (X2.trans hx3)
  have o2 := own_ext ho2 hx3
  have n2 := own_blk_ne o2 B3 (by decide)
  have n3 := own_blk_ne ho3 B3 (by decide)
  have hle : W.heap.size ≤ g := by omega
  exact ⟨A2, A3, c2, c3, (B3.set_ 4 (.slice A2 e.am.length c2)).set_ 5 (.slice A3 e.tax.length c3), own_set (own_set o2 (a := ⟨g, 4, none⟩) n2 _) (a := ⟨g, 5, none⟩) n2 _, own_base (own_set (own_set ho3 (a := ⟨g, 4, none⟩) n3 _) (a := ⟨g, 5, none⟩) n3 _) X2.size,
    ((X1.trans (X2.trans hx3)).set (p := ⟨g, 4, none⟩) hle _).set (p := ⟨g, 5, none⟩) hle _⟩

/-- How it stands behind the kinds. -/
structure MidX (w0 W w5 : World) (bb mb : Nat) (vids : Value) (M M1 : BkM) (e : Ent) (g3 : Nat) (m : Slot) (x : Kp) : Prop where
  at_ : BookAt w0 w5 bb mb vids M1
  foot : foot bb mb vids M1 = foot bb mb vids M
  va : ∀ p ∈ M1, ∃ q ∈ M, q.2 = p.2
  ids : M1.b.ids = M.b.ids
  len : M1.length = M.length
  b : M1.b ++ [x] = (M.b.put e).1
  lines : x.lines = (M.b.put e).2
  xe : x.e = e
  ok : x.ok
  kp : KpAt W w5 m x
  ab : Apart m.va m.vb
  blk : ∃ A2 A3 c2 c3, Blk w5 g3 52 #[.int .i64 e.k, .int .i64 e.id, .int .i64 e.of_, .int .i64 e.day, .slice A2 e.am.length c2, .slice A3 e.tax.length c3]
  chg : Chg (Go.Proofs.YtokakpbpenndlaaGreatDoor.foot bb mb vids M) W w5
def Mid (w0 W w5 : World) (bb mb : Nat) (vids : Value) (M : BkM) (e : Ent) (g3 g7 : Nat) : Prop := ∃ M1 m x, m.g = g7 ∧ MidX w0 W w5 bb mb vids M M1 e g3 m x

theorem only_drew {a w : World} {row : Option Nat} (h : a.grownBy w row) : a.grownBy w.drew row := ⟨h.os, h.tape, h.output, h.size, h.block⟩
theorem iV_reps (n : Nat) : reps n (.int .i64 0) = iV (List.replicate n 0) := by simp [reps, iV]
theorem Mid.drew {w0 W w : World} {bb mb : Nat} {vids : Value} {M : BkM} {e : Ent} {g3 g7 : Nat} (h : Mid w0 W w bb mb vids M e g3 g7) : Mid w0 W w.drew bb mb vids M e g3 g7 := by
  obtain ⟨M1, m, x, h1, h⟩ := h
  have hx := (Ext.refl w).drew
  obtain ⟨A2, A3, c2, c3, hb⟩ := h.blk
  exact ⟨M1, m, x, h1, h.at_.ext hx, h.foot, h.va, h.ids, h.len, h.b, h.lines, h.xe, h.ok, h.kp.ext hx, h.ab, ⟨A2, A3, c2, c3, hb.ext hx⟩, h.chg.then_ext hx⟩
theorem Mid.sale {w0 W w1 w9 : World} {bb mb : Nat} {vids : Value} {M : BkM} {e : Ent} {g3 g7 : Nat} {A2 A3 : Option Addr} {c2 c3 : Nat} (HB : BookAt w0 W bb mb vids M) (C : Cl W w1 w9 e g3 A2 A3 c2 c3) (h1 : W.heap.size ≤ w1.heap.size)
    (B9 : Blk w9 g7 111 #[.int .i64 e.k, .int .i64 e.id, .int .i64 e.of_, .int .i64 e.day, .slice A2 e.am.length c2, .slice A3 e.tax.length c3, .slice none 0 0, .slice none 0 0, .bool false]) (hg7 : W.heap.size ≤ g7) (hc : e.check = 0) (hk : e.k = 1) (ha : e.am.length ≤ 100) :
    Mid w0 W (((w9.setCell ⟨g7, 6, none⟩ (.slice A3 e.tax.length c3)).setCell ⟨g7, 7, none⟩ (.slice (some ⟨w9.heap.size, 0, none⟩) e.am.length e.am.length)).alloc (.cells (reps e.am.length (.int .i64 0)).toArray 3)) bb mb vids M e g3 g7 := by
  have X := ((C.ext.set (p := ⟨g7, 6, none⟩) hg7 (.slice A3 e.tax.length c3)).set (p := ⟨g7, 7, none⟩) hg7 (.slice (some ⟨w9.heap.size, 0, none⟩) e.am.length e.am.length))
  have hp : M.b.put e = (M.b ++ [⟨e, e.tax, List.replicate e.am.length 0, false⟩], e.tax) := by unfold Bk.put; rw [if_pos hk]
  have hne : g3 ≠ g7 := Blk.ne_ C.blk B9 (by decide)
  have hs : w9.heap.size = ((w9.setCell ⟨g7, 6, none⟩ (.slice A3 e.tax.length c3)).setCell ⟨g7, 7, none⟩ (.slice (some ⟨w9.heap.size, 0, none⟩) e.am.length e.am.length)).heap.size := by simp [World.setCell]
  have hrow : ∀ {b s n : Nat} {t : TypeId} {v : Value} {xs : List Value}, w9.ownsRow b t s v n xs → t ≠ 111 → (((w9.setCell ⟨g7, 6, none⟩ (.slice A3 e.tax.length c3)).setCell ⟨g7, 7, none⟩ (.slice (some ⟨w9.heap.size, 0, none⟩) e.am.length e.am.length)).alloc (.cells (reps e.am.length (.int .i64 0)).toArray 3)).ownsRow b t s v n xs :=
    fun ho ht => (own_set (own_set ho (a := ⟨g7, 6, none⟩) (own_blk_ne ho B9 ht) _) (a := ⟨g7, 7, none⟩) (own_blk_ne ho B9 ht) _).alloc _
  have hnew : (((w9.setCell ⟨g7, 6, none⟩ (.slice A3 e.tax.length c3)).setCell ⟨g7, 7, none⟩ (.slice (some ⟨w9.heap.size, 0, none⟩) e.am.length e.am.length)).alloc (.cells (reps e.am.length (.int .i64 0)).toArray 3)).ownsRow W.heap.size 3 1 (.slice (some ⟨w9.heap.size, 0, none⟩) e.am.length e.am.length) e.am.length (iV (List.replicate e.am.length 0)) := by
    have := own_lit X (reps e.am.length (.int .i64 0)).toArray 3 e.am.length 1 hs (by unfold maxLen; omega) (by simp [reps])
    have e1 : (reps e.am.length (.int .i64 0)).toArray.toList = iV (List.replicate e.am.length 0) := by rw [← iV_reps]
    rw [e1] at this
    exact this
  refine ⟨M, ⟨g7, .slice A2 e.am.length c2, .slice A3 e.tax.length c3, .slice A3 e.tax.length c3, .slice (some ⟨w9.heap.size, 0, none⟩) e.am.length e.am.length⟩, ⟨e, e.tax, List.replicate e.am.length 0, false⟩, rfl, HB.ext (X.alloc _), rfl, fun p hp => ⟨p, hp, rfl⟩, rfl, rfl, by rw [hp], by rw [hp], rfl, Kp.ok_sale hc hk, ?_, ?_, ?_, Chg.ext (X.alloc _)⟩
  · refine ⟨?_, own_base (hrow C.oa (by decide)) h1, own_base (hrow C.ot (by decide)) h1, own_base (hrow C.ot (by decide)) h1, ?_, hg7⟩
    · exact ((B9.set_ 6 (.slice A3 e.tax.length c3)).set_ 7 (.slice (some ⟨w9.heap.size, 0, none⟩) e.am.length e.am.length)).alloc _
    · simp only [List.length_replicate]
      exact hnew
  · intro g h2 h3
    have := (C.oa.lt g h2).2
    have h4 : w9.heap.size = g := by simpa [Value.ownBlock] using h3
    omega
  · exact ⟨A2, A3, c2, c3, ((C.blk.far (p := ⟨g7, 6, none⟩) hne _).far (p := ⟨g7, 7, none⟩) hne _).alloc _⟩
theorem Mid.refund {w0 W w1 w9 w10 : World} {bb mb : Nat} {vids : Value} {M : BkM} {e : Ent} {g3 g7 : Nat} {A2 A3 A : Option Addr} {c2 c3 c : Nat} {p : Kp × Slot} (HB : BookAt w0 W bb mb vids M) (C : Cl W w1 w9 e g3 A2 A3 c2 c3) (h1 : W.heap.size ≤ w1.heap.size)
    (B9 : Blk w9 g7 111 #[.int .i64 e.k, .int .i64 e.id, .int .i64 e.of_, .int .i64 e.day, .slice A2 e.am.length c2, .slice A3 e.tax.length c3, .slice none 0 0, .slice none 0 0, .bool false]) (hg7 : W.heap.size ≤ g7) (hc : e.check = 0) (hk : e.k = 2)
    (hf : M.saleM e.of_ = some p) (hr : RefMay p.1 e) (hg : w9.grownBy w10 p.2.vb.ownBlock) (hv : w10.ownsRow w0.heap.size 3 1 p.2.vb p.1.back.length (iV (addL p.1.back e.am)))
    (hl : w10.ownsRow w9.heap.size 117 6 (.slice A (p.1.refLines e.am).length c) (p.1.refLines e.am).length (txCells (p.1.refLines e.am))) :
    Mid w0 W (w10.setCell ⟨g7, 6, none⟩ (.slice A (p.1.refLines e.am).length c)) bb mb vids M e g3 g7 := by
  obtain ⟨hmem, hid, hk1⟩ := BkM.saleM_mem hf
  have hp : M.b.put e = (M.b.upd e.of_ (fun x => { x with back := addL x.back e.am }) ++ [⟨e, p.1.refLines e.am, [], false⟩], p.1.refLines e.am) := by
    unfold Bk.put
    rw [if_neg (by omega), if_pos hk, BkM.sale_b, hf]
    rfl
  have H9 := HB.ext C.ext
  have hlt := (HB.all p hmem).ob.lt
  have H10 := H9.backed hmem e.am hg hv (Kp.ok_back (HB.ok p hmem) hk1 hc hr)
  rw [hid] at H10
  have hvb : ∀ k, p.2.vb.ownBlock = some k → k < W.heap.size := fun k h => (hlt k h).2
  have hbk : Below W.heap.size w10 (w10.setCell ⟨g7, 6, none⟩ (.slice A (p.1.refLines e.am).length c)) := (Below.refl _ _).setCell hg7 _
  have B10 : Blk w10 g7 _ _ := B9.grown hg (fun e => by have := hvb g7 e.symm; omega)
  have hrow : ∀ {b s n : Nat} {t : TypeId} {v : Value} {xs : List Value}, w9.ownsRow b t s v n xs → t ≠ 111 → W.heap.size ≤ b → (w10.setCell ⟨g7, 6, none⟩ (.slice A (p.1.refLines e.am).length c)).ownsRow b t s v n xs := fun {b s n t v xs} ho ht hb => by
    have h2 := ho.kept hg (by
      cases hv : v.ownBlock with
      | none => exact .inl rfl
      | some g => exact .inr (fun e => by have a1 := (ho.lt g hv).1; have a2 := hvb g e.symm; omega))
    exact own_set h2 (a := ⟨g7, 6, none⟩) (own_blk_ne h2 B10 ht) _
  have hfoot : ∀ g ∈ foot bb mb vids (M.upd e.of_ fun x => { x with back := addL x.back e.am }), g < W.heap.size := by
    rw [BkM.upd_foot]
    exact fun g hg => (HB.foot_ge g hg).2
  have hslot : ∀ q ∈ M.upd e.of_ (fun x => { x with back := addL x.back e.am }), ∃ q' ∈ M, q'.2 = q.2 := fun q hq => by
    simp only [BkM.upd, List.mem_map] at hq
    obtain ⟨r, hr, rfl⟩ := hq
    exact ⟨r, hr, rfl⟩
  refine ⟨M.upd e.of_ (fun x => { x with back := addL x.back e.am }), ⟨g7, .slice A2 e.am.length c2, .slice A3 e.tax.length c3, .slice A (p.1.refLines e.am).length c, .slice none 0 0⟩, ⟨e, p.1.refLines e.am, [], false⟩, rfl,
    H10.below hfoot (fun q hq => by obtain ⟨q', h2, h3⟩ := hslot q hq; rw [← h3]; exact (HB.all q' h2).lt) hbk, BkM.upd_foot _ _ _ _ _ _, hslot, BkM.upd_ids _ _ _ (fun _ => rfl), BkM.upd_len _ _ _, by rw [hp, BkM.upd_b], by rw [hp], rfl, Kp.ok_other hc (by omega) _, ?_, ?_, ?_, ?_⟩
  · refine ⟨B10.set_ 6 _, own_base (hrow C.oa (by decide) h1) h1, own_base (hrow C.ot (by decide) h1) h1, ?_, World.ownsRow_nil _ _ _ _, hg7⟩
    exact own_base (own_set hl (a := ⟨g7, 6, none⟩) (own_blk_ne hl B10 (by decide)) _) C.ext.size
  · exact (Apart.nil _ _ _).symm
  · have hb3 : Blk w10 g3 _ _ := C.blk.grown hg (fun e => own_blk_ne ((HB.all p hmem).ext C.ext).ob C.blk (by decide) e.symm)
    exact ⟨A2, A3, c2, c3, hb3.far (p := ⟨g7, 6, none⟩) (Blk.ne_ C.blk B9 (by decide)) _⟩
  · exact Chg.then_grown (Chg.then_grown (Chg.ext C.ext) hg (fun k h => .inl (foot_vb hmem h))) (only_set (World.grownBy.refl _ (some g7)) (.inl rfl) _) (fun k h => .inr (by have := Option.some.inj h; omega))
theorem Mid.void_ {w0 W w1 w9 : World} {bb mb : Nat} {vids : Value} {M : BkM} {e : Ent} {g3 g7 : Nat} {A2 A3 : Option Addr} {c2 c3 : Nat} {p : Kp × Slot} (HB : BookAt w0 W bb mb vids M) (C : Cl W w1 w9 e g3 A2 A3 c2 c3) (h1 : W.heap.size ≤ w1.heap.size)
    (B9 : Blk w9 g7 111 #[.int .i64 e.k, .int .i64 e.id, .int .i64 e.of_, .int .i64 e.day, .slice A2 e.am.length c2, .slice A3 e.tax.length c3, .slice none 0 0, .slice none 0 0, .bool false]) (hg7 : W.heap.size ≤ g7) (hc : e.check = 0) (hk : e.k = 3)
    (hf : M.saleM e.of_ = some p) : Mid w0 W (w9.setCell ⟨p.2.g, 8, none⟩ (.bool true)) bb mb vids M e g3 g7 := by
  obtain ⟨hmem, hid, hk1⟩ := BkM.saleM_mem hf
  have hp : M.b.put e = (M.b.upd e.of_ (fun x => { x with voided := true }) ++ [⟨e, [], [], false⟩], []) := by
    unfold Bk.put
    rw [if_neg (by omega), if_neg (by omega), if_pos hk]
  have H9 := HB.ext C.ext
  have H10 := H9.voided_ hmem (Kp.ok_void (HB.ok p hmem) hk1)
  rw [hid] at H10
  have hpg := (HB.all p hmem).blk.lt
  have hne : g7 ≠ p.2.g := by omega
  have hrow : ∀ {b s n : Nat} {t : TypeId} {v : Value} {xs : List Value}, w9.ownsRow b t s v n xs → t ≠ 111 → (w9.setCell ⟨p.2.g, 8, none⟩ (.bool true)).ownsRow b t s v n xs := fun {b s n t v xs} ho ht =>
    own_set ho (a := ⟨p.2.g, 8, none⟩) (own_blk_ne ho ((HB.all p hmem).ext C.ext).blk ht) _
  have hslot : ∀ q ∈ M.upd e.of_ (fun x => { x with voided := true }), ∃ q' ∈ M, q'.2 = q.2 := fun q hq => by
    simp only [BkM.upd, List.mem_map] at hq
    obtain ⟨r, hr, rfl⟩ := hq
    exact ⟨r, hr, rfl⟩
  refine ⟨M.upd e.of_ (fun x => { x with voided := true }), ⟨g7, .slice A2 e.am.length c2, .slice A3 e.tax.length c3, .slice none 0 0, .slice none 0 0⟩, ⟨e, [], [], false⟩, rfl,
    H10, BkM.upd_foot _ _ _ _ _ _, hslot, BkM.upd_ids _ _ _ (fun _ => rfl), BkM.upd_len _ _ _, by rw [hp, BkM.upd_b], by rw [hp], rfl, Kp.ok_other hc (by omega) _, ?_, ?_, ?_, ?_⟩
  · exact ⟨B9.far (p := ⟨p.2.g, 8, none⟩) hne _, own_base (hrow C.oa (by decide)) h1, own_base (hrow C.ot (by decide)) h1, World.ownsRow_nil _ _ _ _, World.ownsRow_nil _ _ _ _, hg7⟩
  · exact (Apart.nil _ _ _).symm
  · exact ⟨A2, A3, c2, c3, C.blk.far (p := ⟨p.2.g, 8, none⟩) (Blk.ne_ C.blk ((HB.all p hmem).ext C.ext).blk (by decide)) _⟩
  · exact Chg.then_grown (Chg.ext C.ext) (only_set (World.grownBy.refl _ (some p.2.g)) (.inl rfl) _) (fun k h => .inl (by have := Option.some.inj h; rw [← this]; exact foot_g hmem))

theorem Chg.drew {S : List Nat} {a w : World} (h : Chg S a w) : Chg S a w.drew := ⟨h.os, h.tape, h.output, h.size, h.block⟩
theorem Chg.alloc {S : List Nat} {a w : World} (h : Chg S a w) (o : Obj) : Chg S a (w.alloc o) := h.then_ext ((Ext.refl w).alloc o)
theorem Chg.setc {S : List Nat} {a w : World} (h : Chg S a w) {p : Addr} (hp : p.block ∈ S) (u : Value) : Chg S a (w.setCell p u) := h.then_grown (only_set (World.grownBy.refl w (some p.block)) (.inl rfl) u) (fun k e => .inl (by rw [← Option.some.inj e]; exact hp))
theorem grown_of_drew {w w' : World} {row : Option Nat} (h : w.drew.grownBy w' row) : w.grownBy w' row := ⟨h.os, h.tape, h.output, h.size, h.block⟩
/-- What a sale of a book is. -/
theorem sale_facts {x : Kp} (h : x.ok) (hk : x.e.k = 1) : x.lines = x.e.tax ∧ x.lines.length ≤ 6400 ∧ x.e.am.length ≤ 100 ∧ (∀ y ∈ x.lines, y.ok = true ∧ 0 ≤ y.l ∧ y.l.toNat < x.e.am.length ∧ y.t + y.x = x.e.am.getD y.l.toNat 0) := by
  have h1 := (Ent.check_ok h.chk).2.2
  unfold Ent.fine at h1
  rw [if_pos hk] at h1
  unfold Ent.saleFine at h1
  simp only [Bool.and_eq_true, decide_eq_true_eq] at h1
  obtain ⟨⟨⟨a1, _⟩, a2⟩, a3⟩ := h1
  have hl := h.lns hk
  unfold manyI at a2
  simp only [Bool.and_eq_true, decide_eq_true_eq] at a2
  refine ⟨hl, by rw [hl]; exact (checkTax_ok a1).1, a2.2, fun y hy => ?_⟩
  rw [hl] at hy
  have b1 := checkTax_mem a1 y hy
  have b2 := List.all_eq_true.1 a3 y hy
  unfold Tx.fits at b2
  simp only [Bool.and_eq_true, decide_eq_true_eq] at b2
  exact ⟨b1, (Tx.ok_bd b1).1.1, b2.1, b2.2⟩
theorem ref_pre {w0 W w1 w9 : World} {bb mb : Nat} {vids : Value} {M : BkM} {e : Ent} {g3 : Nat} {A2 A3 : Option Addr} {c2 c3 : Nat} {p : Kp × Slot} (HB : BookAt w0 W bb mb vids M) (C : Cl W w1 w9 e g3 A2 A3 c2 c3) (h1 : W.heap.size ≤ w1.heap.size) (hc : e.check = 0) (hf : M.saleM e.of_ = some p) (hr : RefMay p.1 e) :
    (∀ W', w9.drew.grownBy W' p.2.vb.ownBlock → Reads W' W'.heap.size 1 A2 e.am.length (iV e.am)) ∧ p.1.back.length = e.am.length ∧ p.1.lines.length ≤ 6400 ∧ e.am.length ≤ 100 ∧ (∀ y ∈ p.1.lines, 0 ≤ y.l ∧ y.l.toNat < e.am.length) ∧
      (∀ i (h : i < e.am.length) (h2 : i < p.1.back.length), 0 ≤ p.1.back[i] ∧ 0 ≤ e.am[i] ∧ p.1.back[i] + e.am[i] ≤ 4611686018427387904) := by
  obtain ⟨hmem, hid, hk1⟩ := BkM.saleM_mem hf
  have hok := HB.ok p hmem
  obtain ⟨f1, f2, f3, f4⟩ := sale_facts hok hk1
  have hbl := hok.bln hk1
  have hlen := hr.len
  refine ⟨fun W' hg => ?_, by omega, f2, by omega, fun y hy => ⟨(f4 y hy).2.1, by have := (f4 y hy).2.2.1; omega⟩, fun i h h2 => ?_⟩
  · have ho : W'.ownsRow w1.heap.size 3 1 (.slice A2 e.am.length c2) e.am.length (iV e.am) := C.oa.kept (grown_of_drew hg) (by
      cases hv : (Value.slice A2 e.am.length c2).ownBlock with
      | none => exact .inl rfl
      | some g => exact .inr (fun e => by
          have a1 := (C.oa.lt g hv).1
          have a2 := ((HB.all p hmem).ob.lt g e.symm).2
          omega))
    exact Reads.of_own ho
  · have h3 : i < p.1.e.am.length := by omega
    have b1 := hok.bbd hk1 i h3
    have b2 := overB_le hr.over i h h3 h2
    have b3 := Ent.am_bd hc i h
    have b4 := Ent.am_bd hok.chk i h3
    have g1 : p.1.back.getD i 0 = p.1.back[i] := by simp [List.getD, h2]
    have g2 : p.1.e.am.getD i 0 = p.1.e.am[i] := by simp [List.getD, h3]
    rw [g1, g2] at b1
    omega

theorem lines_snoc (B : Bk) (x : Kp) (h : x.e.id ∉ B.ids) : Bk.lines (B ++ [x]) x.e.id = x.lines := by
  unfold Bk.lines Bk.find
  have : B.find? (fun y => decide (y.e.id = x.e.id)) = none := by
    rw [List.find?_eq_none]
    intro y hy
    simp only [decide_eq_true_eq]
    intro e
    exact h (by rw [← e]; exact List.mem_map_of_mem hy)
  rw [List.find?_append, this]
  simp
/-- All that a slot has is new. -/
def Slot.ge (m : Slot) (n : Nat) : Prop := n ≤ m.g ∧ (∀ g, m.va.ownBlock = some g → n ≤ g) ∧ (∀ g, m.vt.ownBlock = some g → n ≤ g) ∧ (∀ g, m.vl.ownBlock = some g → n ≤ g) ∧ (∀ g, m.vb.ownBlock = some g → n ≤ g)
theorem AddEnd {w0 W wc w6 w8 : World} {bb mb : Nat} {vids v6 : Value} {M M1 : BkM} {e : Ent} {g3 : Nat} {m : Slot} {x : Kp} (HB : BookAt w0 W bb mb vids M) (hx0 : Ext w0 W) (Z : MidX w0 W wc bb mb vids M M1 e g3 m x) (hid : e.id ∉ M.b.ids)
    (ho : w6.ownsRow w0.heap.size 3 1 v6 (M1.length + 1) (iV M1.b.ids ++ [.int .i64 e.id])) (hg1 : wc.grownBy w6 vids.ownBlock) (hat : v6.ownBlock = vids.ownBlock ∨ v6.ownBlock = some (wc.heap.size + 1))
    (hm8 : w8.ownsMap Tryz.prog 3 ptrR mb (M1.length + 1) ((mapD M1.keys).put (klI e.id) (.lit (.int .u64 (m.g : Int))))) (hgr : (w6.setCell ⟨bb, 0, none⟩ v6).grownBy w8 (some mb)) :
    BookAt w0 w8 bb mb v6 (M1 ++ [(x, m)]) ∧ BkM.b (M1 ++ [(x, m)]) = (M.b.put e).1 ∧ Chg (foot bb mb vids M) W w8 ∧ (∀ g ∈ foot bb mb v6 (M1 ++ [(x, m)]), g ∈ foot bb mb vids M ∨ (W.heap.size ≤ g ∧ g < w8.heap.size)) ∧ W.heap.size ≤ w8.heap.size ∧ Bk.lines (BkM.b (M1 ++ [(x, m)])) e.id = (M.b.put e).2 ∧ (∀ p ∈ M1 ++ [(x, m)], (∃ q ∈ M, q.2 = p.2) ∨ p.2.ge W.heap.size) := by
  have hxe := Z.xe
  have hsz : W.heap.size ≤ wc.heap.size := Z.chg.size
  have hat' : v6.ownBlock = vids.ownBlock ∨ ∃ g, v6.ownBlock = some g ∧ wc.heap.size ≤ g := by
    rcases hat with h | h
    · exact .inl h
    · exact .inr ⟨_, h, by omega⟩
  have hids : x.e.id ∉ M1.b.ids := by rw [hxe, Z.ids]; exact hid
  have H8 : BookAt w0 w8 bb mb v6 (M1 ++ [(x, m)]) := Z.at_.snoc (W1 := W) hx0 Z.kp (fun g hg => (HB.foot_ge g (by rw [← Z.foot]; exact hg)).2) (fun p hp g hg => by
      obtain ⟨q, hq, he⟩ := Z.va p hp
      rw [← he] at hg
      exact ((HB.all q hq).oa.lt g hg).2) Z.ab hids Z.ok (by rw [hxe]; exact ho) hg1 hat' (by rw [hxe]; exact hm8) hgr
  have hb : BkM.b (M1 ++ [(x, m)]) = M1.b ++ [x] := by simp [BkM.b]
  refine ⟨H8, by rw [hb, Z.b], ?_, ?_, ?_, ?_, ?_⟩
  · have c1 := Z.chg.then_grown hg1 (fun k h => .inl (foot_vids (bb := bb) (mb := mb) (M := M) h))
    have c2 := c1.setc (p := ⟨bb, 0, none⟩) (by simp [foot]) v6
    exact c2.then_grown hgr (fun k h => .inl (by rw [← Option.some.inj h]; simp [foot]))
  · intro g hg
    have h1 := foot_snoc (B := W.heap.size) (by
      rcases hat' with h | ⟨g, h, h2⟩
      · exact .inl h
      · exact .inr ⟨g, h, Nat.le_trans hsz h2⟩) Z.kp.ge (fun g h => (Z.kp.ob.lt g h).1) g hg
    rw [Z.foot] at h1
    rcases h1 with h1 | h1
    · exact .inl h1
    · exact .inr ⟨h1, (H8.foot_ge g hg).2⟩
  · have h1 := hg1.size
    have h2 := hgr.size
    simp [World.setCell] at h2
    omega
  · rw [hb]
    have := lines_snoc M1.b x hids
    rw [hxe] at this
    rw [this, Z.lines]
  · intro p hp
    rcases List.mem_append.1 hp with hp | hp
    · exact .inl (Z.va p hp)
    · rw [List.mem_singleton.1 hp]
      exact .inr ⟨Z.kp.ge, fun g h => (Z.kp.oa.lt g h).1, fun g h => (Z.kp.ot.lt g h).1, fun g h => (Z.kp.ol.lt g h).1, fun g h => (Z.kp.ob.lt g h).1⟩

set_option maxRecDepth 100000 in
set_option maxHeartbeats 8000000 in
theorem add_ok {w0 W : World} {bb mb : Nat} {vids : Value} {M : BkM} (h : BookAt w0 W bb mb vids M) (hx0 : Ext w0 W) (e : Ent) (Aa At : Option Addr) (ca ct : Nat) (he : EntR W e Aa At) (hml : M.length ≤ 100000) (hm0 : M.b.may e = 0) (hc : e.check = 0) (ha : e.am.length ≤ 100) (ht : e.tax.length ≤ 6400) (hpl : (M.b.put e).2.length ≤ 6400) :
    Calls Tryz.prog 26 #[.pointer (some ⟨bb, 0, none⟩), entV e Aa At ca ct] W fun r W' => ∃ A c vids' M' B1, r = .returned (.tuple #[.slice A (M.b.put e).2.length c, .int .i64 0]) ∧ BookAt w0 W' bb mb vids' M' ∧ M'.b = (M.b.put e).1 ∧ Chg (foot bb mb vids M) W W' ∧
      (∀ g ∈ foot bb mb vids' M', g ∈ foot bb mb vids M ∨ (W.heap.size ≤ g ∧ g < B1)) ∧ W.heap.size ≤ B1 ∧ W'.ownsRow B1 117 6 (.slice A (M.b.put e).2.length c) (M.b.put e).2.length (txCells (M.b.put e).2) ∧ (∀ p ∈ M', (∃ q ∈ M, q.2 = p.2) ∨ p.2.ge W.heap.size) := by
  have HB := Lib.hid h
  have X0 := (Ext.refl W).alloc (.cells #[.int .i64 e.k, .int .i64 e.id, .int .i64 e.of_, .int .i64 e.day, .slice Aa e.am.length ca, .slice At e.tax.length ct] 52)
  have B := Blk.new W 52 #[.int .i64 e.k, .int .i64 e.id, .int .i64 e.of_, .int .i64 e.day, .slice Aa e.am.length ca, .slice At e.tax.length ct]
  replace he := Lib.hid (he.ext X0)
  have hks := Ent.kinds hc
  replace hm0 := Lib.hid hm0
  replace hc := Lib.hid hc
  clear h
  go_enter Tryz.func26, Tryz.ntmps26
  go_wp2_with fail
  refine (bmay_any (HB.out.ext X0) e Aa At ca ct he.out).mono ?_
  rintro r w1 ⟨rfl, hx1⟩
  rw [hm0.out]
  have B1 := B.ext hx1
  have X1 := X0.trans hx1
  have he1 := he.out.ext hx1
  clear B X0 he hx1
  obtain ⟨g3, hg3⟩ : ∃ g3, W.heap.size = g3 := ⟨_, rfl⟩
  rw [hg3] at B1 ⊢
  replace hg3 := Lib.hid hg3
  have HE := Lib.hid (fun W2 (h : Ext w1 W2) => he1.ext h)
  have HB3 := Lib.hid (fun W2 (h : Ext w1 W2) => (B1.ext h).cells)
  have HB1 := Lib.hid B1
  clear he1
  go_upto_region 6 with (fail)
  go_cut [46] (fun _ wx => Cloned W w1 wx e g3)
  case first =>
    obtain ⟨q, q'⟩ := B1.cells
    have lg := B1.lt
    go_region_law (first
      | (go_simp; go_at_call 59; refine (cloneInts_any e.am e.am.length Aa ca _ rfl (HE.out _ (Ext.refl w1).drew).ra (by omega)).mono ?_; rintro r w2 ⟨A2, c2, rfl, ho2, hx2⟩; have X2 : Ext w1 w2 := (Ext.refl w1).drew.trans hx2; obtain ⟨q2, q2'⟩ := HB3.out _ X2)
      | (go_simp; go_at_call 60; refine (cloneTax_any e.tax e.tax.length At ct _ rfl (HE.out _ X2).rt (by omega)).mono ?_; rintro r w3 ⟨A3, c3, rfl, ho3, hx3⟩; have X3 : Ext w1 w3 := X2.trans hx3; obtain ⟨q3, q3'⟩ := HB3.out _ X3))
    all_goals
      have HC := Lib.hid (Cl.mk_ X1 hg3.out HB1.out X2 ho2 hx3 ho3)
      clear q q' q2 q2' q3 q3' ho2 ho3 hx2 hx3
      go_wp2_with fail
      go_meet
      exact HC.out
  case rest =>
    obtain ⟨A2, A3, c2, c3, C0⟩ := hcut
    clear HE HB3 HB1 B1
    obtain ⟨q, q'⟩ := C0.blk.cells
    have lg3 := C0.blk.lt
    have B7 := Blk.new wc 111 #[.int .i64 e.k, .int .i64 e.id, .int .i64 e.of_, .int .i64 e.day, .slice A2 e.am.length c2, .slice A3 e.tax.length c3, .slice none 0 0, .slice none 0 0, .bool false]
    have C1 := C0.to ((Ext.refl wc).alloc (.cells #[.int .i64 e.k, .int .i64 e.id, .int .i64 e.of_, .int .i64 e.day, .slice A2 e.am.length c2, .slice A3 e.tax.length c3, .slice none 0 0, .slice none 0 0, .bool false] 111))
    go_wp2_with fail
    clear q q' lg3
    have hg7 : W.heap.size ≤ wc.heap.size := C0.ext.size
    generalize wc.alloc (.cells #[.int .i64 e.k, .int .i64 e.id, .int .i64 e.of_, .int .i64 e.day, .slice A2 e.am.length c2, .slice A3 e.tax.length c3, .slice none 0 0, .slice none 0 0, .bool false] 111) = W7 at *
    generalize wc.heap.size = g7 at *
    refine (of_any e A2 A3 c2 c3 _).mono ?_
    rintro r w8 ⟨rfl, hx8⟩
    have C8 := C1.to hx8
    have B8 := B7.ext hx8
    have h1s := Lib.hid X1.size
    clear C1 C0 B7 hx8 X1
    generalize hV : ofV e.k (entV e A2 A3 c2 c3) = V
    replace hV := Lib.hid hV
    go_upto_block 0 with (fail)
    go_cut [8, 9, 10] (fun _ _ _ wx => Mid w0 W wx bb mb vids M e g3 g7)
    case first =>
      have X9 := (Ext.refl w8).alloc (.cells #[.int .i64 e.k, .int .i64 e.id, .int .i64 e.of_, .int .i64 e.day, .slice A2 e.am.length c2, .slice A3 e.tax.length c3] 122)
      have X9r := (Ext.refl w8).alloc (.cells #[.int .i64 e.k, .int .i64 e.id, .int .i64 e.of_, .int .i64 e.day, .slice A2 e.am.length c2, .slice A3 e.tax.length c3] 123)
      have X9v := (Ext.refl w8).alloc (.cells #[.int .i64 e.k, .int .i64 e.id, .int .i64 e.of_, .int .i64 e.day, .slice A2 e.am.length c2, .slice A3 e.tax.length c3] 126)
      rcases hks with h1 | h1 | h1
      · have hv : ofV e.k (entV e A2 A3 c2 c3) = .iface 122 (entV e A2 A3 c2 c3) := by unfold ofV; rw [if_pos h1]
        obtain rfl := hV.out.symm.trans hv
        have hk := Lib.hid h1
        clear hv h1
        have a1 := asSS
        have C9 := C8.to X9
        have B9 := B8.ext X9
        go_wp2_with fail
        generalize w8.alloc (.cells #[.int .i64 e.k, .int .i64 e.id, .int .i64 e.of_, .int .i64 e.day, .slice A2 e.am.length c2, .slice A3 e.tax.length c3] 122) = w9 at *
        have HM := Lib.hid (Mid.sale HB.out C9 h1s.out B9 hg7 hc.out hk.out ha)
        have hne : g3 ≠ g7 := Blk.ne_ C9.blk B9 (by decide)
        have HQ := Lib.hid (fun W2 (h : w9.grownBy W2 (some g7)) => (show W2.cell? ⟨g3, 4, none⟩ = some (.slice A2 e.am.length c2) ∧ W2.cell? ⟨g3, 5, none⟩ = some (.slice A3 e.tax.length c3) from ⟨(C9.blk.grown h (fun e => hne (Option.some.inj e))).cell 4, (C9.blk.grown h (fun e => hne (Option.some.inj e))).cell 5⟩))
        obtain ⟨k4, k5⟩ := HQ.out _ (World.grownBy.refl w9 _)
        have hmk := fun W : World => row_int.make rfl e.am.length (by omega) (by omega) W
        obtain ⟨p, p'⟩ := B9.cells
        have lg7 := B9.lt
        have lg3 := C9.blk.lt
        have HB9 := Lib.hid B9
        have HC9 := Lib.hid C9
        clear B9 C9 X9 X9r X9v C8 B8
        go_region_held3 (fun w' => w'.cell? ⟨g3, 4, none⟩ = some (.slice A2 e.am.length c2) ∧ w'.cell? ⟨g3, 5, none⟩ = some (.slice A3 e.tax.length c3))
          (first | (with_reducible refine HQ.out _ ?_; with_reducible repeat (first | exact World.grownBy.refl _ _ | refine only_alloc ?_ _ | refine only_drew ?_ | refine only_set ?_ (.inl rfl) _)))
          (fail)
        all_goals
          go_wp2_with fail
          go_meet
          exact HM.out.drew
      · have hv : ofV e.k (entV e A2 A3 c2 c3) = .iface 123 (entV e A2 A3 c2 c3) := by unfold ofV; rw [if_neg (by omega), if_pos h1]
        obtain rfl := hV.out.symm.trans hv
        have hk := Lib.hid h1
        clear hv h1
        have a1 := asRS
        have a2 := asRR
        have C9 := C8.to X9r
        have B9 := B8.ext X9r
        have BY := Blk.new w8 123 #[.int .i64 e.k, .int .i64 e.id, .int .i64 e.of_, .int .i64 e.day, .slice A2 e.am.length c2, .slice A3 e.tax.length c3]
        go_wp2_with fail
        generalize w8.alloc (.cells #[.int .i64 e.k, .int .i64 e.id, .int .i64 e.of_, .int .i64 e.day, .slice A2 e.am.length c2, .slice A3 e.tax.length c3] 123) = w9 at *
        generalize w8.heap.size = g9 at *
        clear X9 X9r X9v C8 B8
        obtain ⟨s, hs, hr⟩ := may_ref hm0.out hc.out hk.out
        obtain ⟨p, hf, rfl⟩ : ∃ p, M.saleM e.of_ = some p ∧ p.1 = s := by
          rw [BkM.sale_b] at hs
          cases hsm : M.saleM e.of_ with
          | none => rw [hsm] at hs; cases hs
          | some p => rw [hsm] at hs; exact ⟨p, rfl, Option.some.inj hs⟩
        have hP := Lib.hid (show M.saleP e.of_ = .pointer (some ⟨p.2.g, 0, none⟩) by unfold BkM.saleP; rw [hf])
        have ho := (Ent.i64s hc.out).2
        have HM := Lib.hid (fun w10 A c hg hv hl => Mid.refund (w10 := w10) (A := A) (c := c) HB.out C9 h1s.out B9 hg7 hc.out hk.out hf hr hg hv hl)
        have HP := Lib.hid (ref_pre HB.out C9 h1s.out hc.out hf hr)
        have hne : g9 ≠ g7 := Blk.ne_ BY B9 (by decide)
        have hmem := (BkM.saleM_mem hf).1
        have H9 := Lib.hid ((HB.out.ext C9.ext).ext (Ext.refl w9).drew)
        have HKp := Lib.hid (H9.out.all p hmem)
        have hnb : p.2.vb.ownBlock ≠ some g9 := own_blk_ne ((HB.out.ext C9.ext).all p hmem).ob BY (by decide)
        have HQ := Lib.hid (fun W2 (h : Chg (p.2.vb.ownBlock.toList ++ [g7]) w9 W2) => (h.blk BY (by
          intro hm
          rcases List.mem_append.1 hm with hm | hm
          · exact hnb (by simpa using hm)
          · exact hne (by simpa using hm))).cells.1)
        have HQ6 := Lib.hid (fun W2 (h : Chg (p.2.vb.ownBlock.toList ++ [g7]) w9 W2) => (show W2.cell? ⟨g9, 0, none⟩ = some (.int .i64 e.k) ∧ W2.cell? ⟨g9, 1, none⟩ = some (.int .i64 e.id) ∧ W2.cell? ⟨g9, 2, none⟩ = some (.int .i64 e.of_) ∧ W2.cell? ⟨g9, 3, none⟩ = some (.int .i64 e.day) ∧ W2.cell? ⟨g9, 4, none⟩ = some (.slice A2 e.am.length c2) ∧ W2.cell? ⟨g9, 5, none⟩ = some (.slice A3 e.tax.length c3) from
          ⟨HQ.out W2 h 0, HQ.out W2 h 1, HQ.out W2 h 2, HQ.out W2 h 3, HQ.out W2 h 4, HQ.out W2 h 5⟩))
        have HB7 := Lib.hid (fun w10 (h : w9.grownBy w10 p.2.vb.ownBlock) => (B9.grown h (fun e => own_blk_ne ((HB.out.ext C9.ext).all p hmem).ob B9 (by decide) e.symm)).cells)
        have hg7S : g7 ∈ p.2.vb.ownBlock.toList ++ [g7] := by simp
        have HKS := Lib.hid (fun w10 (h : w9.grownBy w10 p.2.vb.ownBlock) => Chg.then_grown (Chg.refl (p.2.vb.ownBlock.toList ++ [g7]) w9) h (fun k e => .inl (by rw [e]; simp)))
        obtain ⟨k0, k1, k2, k3, k4, k5⟩ := HQ6.out _ (Chg.refl _ w9)
        clear hs hf hr B9 BY C9 hne hnb HQ
        go_region_held3 (fun w' => w'.cell? ⟨g9, 0, none⟩ = some (.int .i64 e.k) ∧ w'.cell? ⟨g9, 1, none⟩ = some (.int .i64 e.id) ∧ w'.cell? ⟨g9, 2, none⟩ = some (.int .i64 e.of_) ∧ w'.cell? ⟨g9, 3, none⟩ = some (.int .i64 e.day) ∧ w'.cell? ⟨g9, 4, none⟩ = some (.slice A2 e.am.length c2) ∧ w'.cell? ⟨g9, 5, none⟩ = some (.slice A3 e.tax.length c3))
          (first | (with_reducible refine HQ6.out _ ?_; with_reducible repeat (first | exact Chg.refl _ _ | exact X10 | refine Chg.drew ?_ | refine Chg.setc ?_ hg7S _)))
          (first
          | (go_at_call 63; refine (sale_any H9.out _ ho).mono ?_; rintro r w' ⟨rfl, rfl⟩; rw [hP.out])
          | (go_at_call 62; refine (refLines_any HKp.out e A2 A3 c2 c3 HP.out.1 HP.out.2.1 HP.out.2.2.1 HP.out.2.2.2.1 HP.out.2.2.2.2.1 HP.out.2.2.2.2.2).mono ?_; rintro r w10 ⟨A, c, rfl, hl, hv, hg⟩; have X10 := HKS.out _ (grown_of_drew hg); have HMm := Lib.hid (HM.out w10 A c (grown_of_drew hg) hv hl); obtain ⟨q7, q7'⟩ := HB7.out _ (grown_of_drew hg)))
        all_goals
          go_wp2_with fail
          go_meet
          first | exact HMm.out | exact HMm.out.drew
      · have hv : ofV e.k (entV e A2 A3 c2 c3) = .iface 126 (entV e A2 A3 c2 c3) := by unfold ofV; rw [if_neg (by omega), if_neg (by omega), if_pos h1]
        obtain rfl := hV.out.symm.trans hv
        have hk := Lib.hid h1
        clear hv h1
        have a1 := asVS
        have a2 := asVR
        have a3 := asVV
        have C9 := C8.to X9v
        have B9 := B8.ext X9v
        have BY := Blk.new w8 126 #[.int .i64 e.k, .int .i64 e.id, .int .i64 e.of_, .int .i64 e.day, .slice A2 e.am.length c2, .slice A3 e.tax.length c3]
        obtain ⟨p, hf⟩ : ∃ p, M.saleM e.of_ = some p := by
          obtain ⟨s, hs⟩ := may_void hm0.out hc.out hk.out
          rw [BkM.sale_b] at hs
          cases hsm : M.saleM e.of_ with
          | none => rw [hsm] at hs; cases hs
          | some p => exact ⟨p, rfl⟩
        have hP := Lib.hid (show M.saleP e.of_ = .pointer (some ⟨p.2.g, 0, none⟩) by unfold BkM.saleP; rw [hf])
        have HM := Lib.hid (Mid.void_ HB.out C9 h1s.out B9 hg7 hc.out hk.out hf)
        have ho := (Ent.i64s hc.out).2
        have BP := ((HB.out.all p (BkM.saleM_mem hf).1).ext C9.ext).blk
        obtain ⟨q, q'⟩ := BP.cells
        clear hf B9
        go_wp2_with fail
        refine (sale_any (HB.out.ext C9.ext) _ ho).mono ?_
        rintro r w' ⟨rfl, rfl⟩
        rw [hP.out]
        go_wp2_with fail
        go_meet
        exact HM.out
    case rest =>
      obtain ⟨M1, m, x, rfl, Z⟩ := hcut
      clear C8 B8 hV hks
      have hfo := Lib.hid (fun g (hg : g ∈ foot bb mb vids M1) => (HB.out.foot_ge g (by rw [← Z.foot]; exact hg)))
      have X5 : Ext w0 wc := Chg.to_ext hx0 Z.chg (fun k hk => (HB.out.foot_ge k hk).1)
      have hva := Lib.hid (fun p (hp : p ∈ M1) g (hg : p.2.va.ownBlock = some g) => (show g < W.heap.size from by
        obtain ⟨q, hq, he⟩ := Z.va p hp
        rw [← he] at hg
        exact ((HB.out.all q hq).oa.lt g hg).2))
      have hid : x.e.id ∉ M1.b.ids := by rw [Z.xe, Z.ids]; exact may_new hm0.out hc.out
      have hi := (Ent.i64s hc.out).1
      obtain ⟨A4, A5, c4, c5, hb3⟩ := Z.blk
      have hbb := Z.at_.blk
      have hi1 := Lib.hid Z.at_.ids
      have hl1 : M1.length ≤ 100000 := by rw [Z.len]; exact hml
      obtain ⟨q, q'⟩ := hbb.cells
      obtain ⟨p, p'⟩ := hb3.cells
      have lb := hbb.lt
      have l3 := hb3.lt
      have HZ := Lib.hid Z
      replace hid := Lib.hid hid
      have HX5 := Lib.hid X5
      have Hbb := Lib.hid hbb
      have Hb3 := Lib.hid hb3
      clear Z X5 hbb hb3
      go_wp2_with fail
      go_region_law (refine step_app (v := vids) row_int w0 _ (.tmp 95) (.tmp 98) rfl rfl rfl (own_ext hi1.out ((Ext.refl wc).alloc _).drew) (HX5.out.alloc _).drew rfl (reads_new' wc #[.int .i64 e.id] 3 1 1 rfl rfl) (by simp [Value.oneCell']) (by omega) (by unfold maxLen; omega) ?_; intro v6 w6 hg6; obtain ⟨A6, c6, rfl, _, _, _⟩ := own_slice hg6.own; have HG6 := Lib.hid hg6; have hb6 := hg6.blk (own_ext hi1.out ((Ext.refl wc).alloc _).drew) (Hbb.out.ext ((Ext.refl wc).alloc _).drew) (by decide); have hc6 := hg6.blk (own_ext hi1.out ((Ext.refl wc).alloc _).drew) (Hb3.out.ext ((Ext.refl wc).alloc _).drew) (by decide); clear hg6; obtain ⟨r6, r6'⟩ := hb6.cells)
      all_goals
        have HB6 := Lib.hid hb6
        have HC6 := Lib.hid hc6
        have hne3 : bb ≠ g3 := Blk.ne_ Hbb.out Hb3.out (by decide)
        have hc7 := hc6.far (p := ⟨bb, 0, none⟩) (fun e => hne3 e.symm) (.slice A6 (M1.length + 1) c6)
        have hb7 := hb6.set_ 0 (.slice A6 (M1.length + 1) c6)
        have hg1 := Lib.hid (show wc.grownBy w6 vids.ownBlock from only_trans (only_drew (only_alloc (World.grownBy.refl wc _) _)) HG6.out.grown)
        have hmap7 := Lib.hid (show (w6.setCell ⟨bb, 0, none⟩ (.slice A6 (M1.length + 1) c6)).ownsMap Tryz.prog 3 ptrR mb M1.length (mapD M1.keys) from
          (HZ.out.at_.map.kept hg1.out (fun e => ownsMap_own_ne HZ.out.at_.map HZ.out.at_.ids e.symm)).kept (only_set (World.grownBy.refl w6 (some bb)) (.inl rfl) _) (fun e => ownsMap_blk_ne HZ.out.at_.map Hbb.out (Option.some.inj e)))
        have hat := Lib.hid (show (Value.slice A6 (M1.length + 1) c6).ownBlock = vids.ownBlock ∨ (Value.slice A6 (M1.length + 1) c6).ownBlock = some (wc.heap.size + 1) from HG6.out.at_.imp id (fun h => h.trans (by simp)))
        have hown6 := Lib.hid HG6.out.own
        clear q q' p p' r6 r6' hb6 hc6 HG6
        have lb7 := hb7.lt
        go_wp2_with fail
        generalize hW7 : w6.setCell ⟨bb, 0, none⟩ (.slice A6 (M1.length + 1) c6) = W7' at *
        replace hW7 := Lib.hid hW7
        obtain ⟨s7, s7'⟩ := hb7.cells
        obtain ⟨t7, t7'⟩ := hc7.cells
        have hnm : mb ≠ g3 := ownsMap_blk_ne HZ.out.at_.map Hb3.out
        have HC8 := Lib.hid (fun w8 (h : W7'.grownBy w8 (some mb)) => (hc7.grown h (fun e => hnm (Option.some.inj e).symm)).cells)
        go_still_tail 7, (by kernel_rfl)
        go_wp2_with (at_mapUpdate; refine wpList_mapUpdate_own _ rfl _ _ _ 64 rfl 3 112 lawI Tryz.underlying64 ptrR mb M1.length _ rfl hmap7.out (by unfold maxLen; omega) _ _ _ rfl rfl (keyI e.id hi) (.lit (.int .u64 (m.g : Int))) [] rfl ?_; intro w8' hown8 hgrow8; have hgrow9 := Lib.hid (grown_of_drew hgrow8); have hown9 := Lib.hid hown8; clear hgrow8 hown8; obtain ⟨y8, y8'⟩ := HC8.out _ hgrow9.out)
        have HEnd := AddEnd (w8 := w8') (v6 := .slice A6 (M1.length + 1) c6) HB.out hx0 HZ.out (may_new hm0.out hc.out) (by rw [← HZ.out.xe]; rw [HZ.out.xe]; exact hown6.out) hg1.out hat.out hown9.out (by rw [hW7.out]; exact hgrow9.out)
        obtain ⟨E1, E2, E3, E4, E5, E6, E7⟩ := HEnd
        have HL := lines_any E1 e.id hi (by rw [E6]; omega)
        rw [E6] at HL
        replace E2 := Lib.hid E2
        replace E6 := Lib.hid E6
        replace E4 := Lib.hid E4
        replace E7 := Lib.hid E7
        refine HL.mono ?_
        rintro r w9 ⟨A, c, rfl, hown, hx⟩
        go_wp2_with fail
        go_ret2
        exact ⟨A, c, _, _, w8'.heap.size, rfl, E1.ext hx, E2.out, E3.then_ext hx, E4.out, E5, hown, E7.out⟩
end Go.Proofs.YtokakpbpenndlaaGreatDoor
