/-
  (*book.Book).Add: every case.
-/
import Derived.Test.YtokakpbpenndlaaGreatDoorRs17
set_option linter.unusedVariables false
namespace Go.Proofs.YtokakpbpenndlaaGreatDoor
open Go.RowKit Go.Maps

theorem may_seven {B : Bk} {e : Ent} (hm : B.may e = 7) : e.check = 0 ∧ (B.find e.id).isSome = true := by
  unfold Bk.may at hm
  by_cases hc : e.check ≠ 0
  · rw [if_pos hc] at hm
    unfold Ent.check at hm
    split at hm
    · cases hm
    · split at hm <;> cases hm
  rw [if_neg hc] at hm
  refine ⟨by simpa using hc, ?_⟩
  by_cases h1 : (B.find e.id).isSome = true
  · exact h1
  rw [if_neg h1] at hm
  exfalso
  by_cases h2 : e.k = 2
  · rw [if_pos h2] at hm
    cases hs : B.sale e.of_ with
    | none => rw [hs] at hm; cases hm
    | some s =>
      rw [hs] at hm
      simp only [Kp.refMay] at hm
      split at hm
      · cases hm
      · split at hm
        · cases hm
        · split at hm <;> cases hm
  rw [if_neg h2] at hm
  by_cases h3 : e.k = 3
  · rw [if_pos h3] at hm
    cases hs : B.sale e.of_ with
    | none => rw [hs] at hm; cases hm
    | some s =>
      rw [hs] at hm
      simp only [Kp.voidMay] at hm
      split at hm <;> cases hm
  rw [if_neg h3] at hm
  cases hm
theorem may_check {B : Bk} {e : Ent} (hm : B.may e = 0) : e.check = 0 := by
  unfold Bk.may at hm
  by_cases hc : e.check ≠ 0
  · rw [if_pos hc] at hm; exact hm
  · simpa using hc
theorem check_am {e : Ent} (hc : e.check = 0) : e.am.length ≤ 100 ∧ e.tax.length ≤ 6400 := by
  have h1 := (Ent.check_ok hc).2.2
  unfold Ent.fine at h1
  by_cases hk : e.k = 1
  · rw [if_pos hk] at h1
    unfold Ent.saleFine at h1
    simp only [Bool.and_eq_true, decide_eq_true_eq] at h1
    obtain ⟨⟨⟨a1, _⟩, a2⟩, _⟩ := h1
    unfold manyI at a2
    simp only [Bool.and_eq_true, decide_eq_true_eq] at a2
    exact ⟨a2.2, (checkTax_ok a1).1⟩
  rw [if_neg hk] at h1
  by_cases hk2 : e.k = 2
  · rw [if_pos hk2] at h1
    unfold Ent.refundFine at h1
    simp only [Bool.and_eq_true, decide_eq_true_eq] at h1
    obtain ⟨⟨⟨_, a2⟩, _⟩, a3⟩ := h1
    unfold manyI at a2
    simp only [Bool.and_eq_true, decide_eq_true_eq] at a2
    exact ⟨a2.2, by omega⟩
  rw [if_neg hk2] at h1
  by_cases hk3 : e.k = 3
  · rw [if_pos hk3] at h1
    unfold Ent.voidFine at h1
    simp only [Bool.and_eq_true, decide_eq_true_eq] at h1
    omega
  rw [if_neg hk3] at h1
  cases h1
/-- No entry has more tax lines than a sale may have. -/
def Bk.small (B : Bk) : Prop := ∀ x ∈ B, x.lines.length ≤ 6400
theorem refLines_len (s : Kp) (am : List Int) : (s.refLines am).length ≤ s.lines.length := by
  have := LnRel.len s am s.lines.length
  rw [List.take_length] at this
  exact this
theorem find_mem' {B : Bk} {id : Int} {x : Kp} (h : B.find id = some x) : x ∈ B ∧ x.e.id = id := by
  unfold Bk.find at h
  exact ⟨List.mem_of_find?_eq_some h, by simpa using List.find?_some h⟩
theorem sale_mem' {B : Bk} {id : Int} {x : Kp} (h : B.sale id = some x) : x ∈ B ∧ x.e.id = id ∧ x.e.k = 1 := by
  unfold Bk.sale at h
  rw [Option.filter_eq_some_iff] at h
  obtain ⟨h1, h2⟩ := find_mem' h.1
  exact ⟨h1, h2, by simpa using h.2⟩
theorem upd_small {B : Bk} (h : B.small) (id : Int) (f : Kp → Kp) (hf : ∀ x, (f x).lines = x.lines) : (B.upd id f).small := by
  intro x hx
  unfold Bk.upd at hx
  obtain ⟨y, hy, rfl⟩ := List.mem_map.1 hx
  split
  · rw [hf]; exact h y hy
  · exact h y hy
theorem snoc_small {B : Bk} (h : B.small) {x : Kp} (hx : x.lines.length ≤ 6400) : Bk.small (B ++ [x]) := by
  intro y hy
  rcases List.mem_append.1 hy with hy | hy
  · exact h y hy
  · rw [List.mem_singleton.1 hy]; exact hx
theorem put_small {B : Bk} (h : B.small) {e : Ent} (hc : e.check = 0) : (B.put e).1.small ∧ (B.put e).2.length ≤ 6400 := by
  unfold Bk.put
  by_cases hk : e.k = 1
  · rw [if_pos hk]
    exact ⟨snoc_small h (check_am hc).2, (check_am hc).2⟩
  rw [if_neg hk]
  by_cases hk2 : e.k = 2
  · rw [if_pos hk2]
    cases hs : B.sale e.of_ with
    | none => exact ⟨snoc_small h (by simp), by simp⟩
    | some s =>
      have h1 := refLines_len s e.am
      have h2 := h s (sale_mem' hs).1
      exact ⟨snoc_small (x := ⟨e, s.refLines e.am, [], false⟩) (upd_small h e.of_ (fun x => { x with back := addL x.back e.am }) (fun _ => rfl)) (show (s.refLines e.am).length ≤ 6400 by omega), (show (s.refLines e.am).length ≤ 6400 by omega)⟩
  rw [if_neg hk2]
  by_cases hk3 : e.k = 3
  · rw [if_pos hk3]
    exact ⟨snoc_small (x := ⟨e, [], [], false⟩) (upd_small h e.of_ (fun x => { x with voided := true }) (fun _ => rfl)) (by simp), by simp⟩
  rw [if_neg hk3]
  exact ⟨snoc_small h (by simp), by simp⟩
theorem add_small {B : Bk} (h : B.small) (e : Ent) : (B.add e).1.small := by
  unfold Bk.add
  by_cases h1 : B.may e = 0
  · rw [if_pos h1]; exact (put_small h (may_check h1)).1
  rw [if_neg h1]
  have hi : ∀ (c : Prop) [Decidable c] (x y : Bk × List Tx × Int), x.1.small → y.1.small → (if c then x else y).1.small := by
    intro c _ x y hx hy
    split
    · exact hx
    · exact hy
  exact hi _ _ _ h h
theorem lines_small {B : Bk} (h : B.small) (id : Int) : (B.lines id).length ≤ 6400 := by
  unfold Bk.lines
  cases hf : B.find id with
  | none => simp
  | some x => exact h x (find_mem' hf).1

/-- What an Add leaves. -/
structure Added (w0 W W' : World) (bb mb : Nat) (vids : Value) (M : BkM) (e : Ent) (A : Option Addr) (c : Nat) (vids' : Value) (M' : BkM) (B1 : Nat) : Prop where
  at_ : BookAt w0 W' bb mb vids' M'
  b : M'.b = (M.b.add e).1
  chg : Chg (Go.Proofs.YtokakpbpenndlaaGreatDoor.foot bb mb vids M) W W'
  foot : ∀ g ∈ Go.Proofs.YtokakpbpenndlaaGreatDoor.foot bb mb vids' M', g ∈ Go.Proofs.YtokakpbpenndlaaGreatDoor.foot bb mb vids M ∨ (W.heap.size ≤ g ∧ g < B1)
  le : W.heap.size ≤ B1
  own : W'.ownsRow B1 117 6 (.slice A (M.b.add e).2.1.length c) (M.b.add e).2.1.length (txCells (M.b.add e).2.1)
  slots : ∀ p ∈ M', (∃ q ∈ M, q.2 = p.2) ∨ p.2.ge W.heap.size

set_option maxRecDepth 100000 in
set_option maxHeartbeats 4000000 in
theorem add_any {w0 W : World} {bb mb : Nat} {vids : Value} {M : BkM} (h : BookAt w0 W bb mb vids M) (hx0 : Ext w0 W) (e : Ent) (Aa At : Option Addr) (ca ct : Nat) (he : EntR W e Aa At) (hml : M.length ≤ 100000) (hs : M.b.small) :
    Calls Tryz.prog 26 #[.pointer (some ⟨bb, 0, none⟩), entV e Aa At ca ct] W fun r W' => ∃ A c vids' M' B1, r = .returned (.tuple #[.slice A (M.b.add e).2.1.length c, .int .i64 (M.b.add e).2.2]) ∧ Added w0 W W' bb mb vids M e A c vids' M' B1 := by
  by_cases hm0 : M.b.may e = 0
  · have hc := may_check hm0
    have hp := put_small hs hc
    have hE : M.b.add e = ((M.b.put e).1, (M.b.put e).2, 0) := by unfold Bk.add; rw [if_pos hm0]
    refine (add_ok h hx0 e Aa At ca ct he hml hm0 hc (check_am hc).1 (check_am hc).2 hp.2).mono ?_
    rintro r W' ⟨A, c, vids', M', B1, rfl, h1, h2, h3, h4, h5, h6, h7⟩
    refine ⟨A, c, vids', M', B1, by rw [hE], ⟨h1, by rw [h2, hE], h3, h4, h5, by rw [hE]; exact h6, h7⟩⟩
  have HB := Lib.hid h
  have X0 := (Ext.refl W).alloc (.cells #[.int .i64 e.k, .int .i64 e.id, .int .i64 e.of_, .int .i64 e.day, .slice Aa e.am.length ca, .slice At e.tax.length ct] 52)
  have B := Blk.new W 52 #[.int .i64 e.k, .int .i64 e.id, .int .i64 e.of_, .int .i64 e.day, .slice Aa e.am.length ca, .slice At e.tax.length ct]
  replace he := Lib.hid (he.ext X0)
  have hb1 : (M.b.may e != 0) = true := by simpa using hm0
  clear h
  by_cases h7 : M.b.may e = 7
  case neg =>
    have hb2 : (M.b.may e == 7) = false := by simpa using h7
    have hE := Lib.hid (show M.b.add e = (M.b, [], M.b.may e) by unfold Bk.add; rw [if_neg hm0, if_neg (fun h => h7 h.1)])
    clear hm0 h7
    go_enter Tryz.func26, Tryz.ntmps26
    go_wp2_with fail
    refine (bmay_any (HB.out.ext X0) e Aa At ca ct he.out).mono ?_
    rintro r w1 ⟨rfl, hx1⟩
    have X1 := X0.trans hx1
    clear B
    go_wp2_with fail
    go_quiet (fail)
    go_wp2_with fail
    go_ret2
    refine ⟨none, 0, vids, M, W.heap.size, by rw [hE.out]; rfl, ⟨HB.out.ext (X1.drewN _), by rw [hE.out], Chg.ext (X1.drewN _), fun g hg => .inl hg, Nat.le_refl _, ?_, fun p hp => .inl ⟨p, hp, rfl⟩⟩⟩
    rw [hE.out]
    exact World.ownsRow_nil _ _ _ _
  obtain ⟨hc, hsome⟩ := may_seven h7
  have hi := (Ent.i64s hc).1
  have hF := BkM.find_b M e.id
  obtain ⟨p, hf⟩ : ∃ p, M.find e.id = some p := by
    cases hf : M.find e.id with
    | none => rw [hF, hf] at hsome; cases hsome
    | some p => exact ⟨p, rfl⟩
  rw [hf] at hF
  have hmem := (BkM.find_mem hf).1
  have hp0 : M.ptr e.id = .pointer (some ⟨p.2.g, 0, none⟩) := by unfold BkM.ptr; rw [hf]
  rw [h7] at hb1
  replace hb1 : ((7 : Int) != 0) = true := hb1
  by_cases hk : p.1.e.k = e.k
  case neg =>
    have hE := Lib.hid (show M.b.add e = (M.b, [], 7) by unfold Bk.add; rw [if_neg hm0, if_neg (fun h => by have h2 := h.2; rw [hF] at h2; exact hk (by simpa using h2)), h7])
    have hkb : (p.1.e.k == e.k) = false := by simpa using hk
    replace h7 := Lib.hid h7
    clear hm0 hk hF hf hsome hc
    go_enter Tryz.func26, Tryz.ntmps26
    go_wp2_with fail
    refine (bmay_any (HB.out.ext X0) e Aa At ca ct he.out).mono ?_
    rintro r w1 ⟨rfl, hx1⟩
    rw [h7.out]
    have X1 := X0.trans hx1
    have H1 := HB.out.ext X1
    obtain ⟨q, q'⟩ := (B.ext hx1).cells
    obtain ⟨q2, q2'⟩ := H1.blk.cells
    obtain ⟨q3, q3'⟩ := (H1.all p hmem).blk.cells
    have hl0 := H1.look e.id hi
    have hl := fun n => (H1.ext ((Ext.refl w1).drewN n)).look e.id hi
    rw [hp0] at hl0
    simp only [hp0] at hl
    clear B H1 hp0
    go_wp2_with fail
    go_quiet (fail)
    go_wp2_with fail
    go_ret2
    refine ⟨none, 0, vids, M, W.heap.size, by rw [hE.out]; rfl, ⟨HB.out.ext (X1.drewN _), by rw [hE.out], Chg.ext (X1.drewN _), fun g hg => .inl hg, Nat.le_refl _, ?_, fun p hp => .inl ⟨p, hp, rfl⟩⟩⟩
    rw [hE.out]
    exact World.ownsRow_nil _ _ _ _
  have hE := Lib.hid (show M.b.add e = (M.b, M.b.lines e.id, 7) by unfold Bk.add; rw [if_neg hm0, if_pos ⟨h7, by rw [hF]; simpa using hk⟩])
  have hkb : (p.1.e.k == e.k) = true := by simpa using hk
  have hsl := lines_small hs e.id
  replace h7 := Lib.hid h7
  clear hm0 hk hF hf hsome hc
  go_enter Tryz.func26, Tryz.ntmps26
  go_wp2_with fail
  refine (bmay_any (HB.out.ext X0) e Aa At ca ct he.out).mono ?_
  rintro r w1 ⟨rfl, hx1⟩
  rw [h7.out]
  have X1 := X0.trans hx1
  have H1 := HB.out.ext X1
  have B1 := B.ext hx1
  obtain ⟨q, q'⟩ := B1.cells
  obtain ⟨q2, q2'⟩ := H1.blk.cells
  obtain ⟨q3, q3'⟩ := (H1.all p hmem).blk.cells
  have hl0 := H1.look e.id hi
  have hl := fun n => (H1.ext ((Ext.refl w1).drewN n)).look e.id hi
  rw [hp0] at hl0
  simp only [hp0] at hl
  replace H1 := Lib.hid H1
  clear B hp0 B1
  go_wp2_with fail
  go_quiet (fail)
  go_wp2_with fail
  refine (lines_any (H1.out.ext ((Ext.refl w1).drewN _)) e.id hi (by omega)).mono ?_
  rintro r w2 ⟨A, c, rfl, ho, hx2⟩
  go_wp2_with fail
  go_ret2
  have X2 := X1.trans (((Ext.refl w1).drewN _).trans hx2)
  refine ⟨A, c, vids, M, W.heap.size, by rw [hE.out]; rfl, ⟨HB.out.ext X2, by rw [hE.out], Chg.ext X2, fun g hg => .inl hg, Nat.le_refl _, ?_, fun p hp => .inl ⟨p, hp, rfl⟩⟩⟩
  rw [hE.out]
  exact own_base ho X1.size
end Go.Proofs.YtokakpbpenndlaaGreatDoor

set_option linter.unusedVariables false
namespace Go.Proofs.YtokakpbpenndlaaGreatDoor
open Go.RowKit Go.Maps

theorem ld_ent {w : World} {g : Nat} {a b c d e f : Value} (h : Blk w g 52 #[a, b, c, d, e, f]) : (loadVar 52 ⟨g, 0, none⟩).run Tryz.prog w = .ok (.agg #[a, b, c, d, e, f]) w := by
  have q := h.cell
  simp [go_sem, q]
/-- What Entry leaves. -/
structure EntOut (W W' : World) (e : Ent) (A A' : Option Addr) (c c' : Nat) : Prop where
  oa : W'.ownsRow W.heap.size 3 1 (.slice A e.am.length c) e.am.length (iV e.am)
  ot : W'.ownsRow W.heap.size 117 6 (.slice A' e.tax.length c') e.tax.length (txCells e.tax)
  ext : Ext W W'
theorem EntOut.toR {W W' : World} {e : Ent} {A A' : Option Addr} {c c' : Nat} (h : EntOut W W' e A A' c c') : EntR W' e A A' := by
  obtain ⟨A1, c1, e1, l1, l2, r1⟩ := own_slice h.oa
  obtain ⟨A2, c2, e2, m1, m2, r2⟩ := own_slice h.ot
  injection e1 with e1 _ _
  injection e2 with e2 _ _
  subst e1 e2
  exact ⟨r1, r2, by omega, by omega⟩
theorem put6' {w : World} {g : Nat} {t : TypeId} {a b c d e f a' b' c' d' e' f' : Value} (h : Blk w g t #[a', b', c', d', e', f']) : Blk ((((((w.setCell ⟨g, 0, none⟩ a).setCell ⟨g, 1, none⟩ b).setCell ⟨g, 2, none⟩ c).setCell ⟨g, 3, none⟩ d).setCell ⟨g, 4, none⟩ e).setCell ⟨g, 5, none⟩ f) g t #[a, b, c, d, e, f] :=
  (((((h.set_ 0 a).set_ 1 b).set_ 2 c).set_ 3 d).set_ 4 e).set_ 5 f
theorem own_put6 {w : World} {g : Nat} {base s n : Nat} {t : TypeId} {v : Value} {xs : List Value} (h : w.ownsRow base t s v n xs) (hg : v.ownBlock ≠ some g) (a b c d e f : Value) : ((((((w.setCell ⟨g, 0, none⟩ a).setCell ⟨g, 1, none⟩ b).setCell ⟨g, 2, none⟩ c).setCell ⟨g, 3, none⟩ d).setCell ⟨g, 4, none⟩ e).setCell ⟨g, 5, none⟩ f).ownsRow base t s v n xs :=
  own_set (own_set (own_set (own_set (own_set (own_set h (a := ⟨g, 0, none⟩) hg a) (a := ⟨g, 1, none⟩) hg b) (a := ⟨g, 2, none⟩) hg c) (a := ⟨g, 3, none⟩) hg d) (a := ⟨g, 4, none⟩) hg e) (a := ⟨g, 5, none⟩) hg f
end Go.Proofs.YtokakpbpenndlaaGreatDoor
