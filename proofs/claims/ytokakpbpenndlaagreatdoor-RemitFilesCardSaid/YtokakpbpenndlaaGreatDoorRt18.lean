/-
  (*book.Book).Add: every case.
-/
import Derived.Test.YtokakpbpenndlaaGreatDoorRt17
import Derived.Deep.RegionHeld3
set_option linter.unusedVariables false
namespace Go.Proofs.YtokakpbpenndlaaGreatDoor
open Go.RowKit Go.Maps

theorem may_seven {B : Bk} {e : Ent} (hm : B.may e = 7) : e.check = 0 ∧ (B.find e.id).isSome = true := by
  unfold Bk.may at hm
  by_cases hc : e.check ≠ 0
  · rw [if_pos hc] at hm
    unfold Ent.check at hm
    split at hm
    · cases hm
    · split at hm <;> cases hm
  rw [if_neg hc] at hm
  refine ⟨by simpa using hc, ?_⟩
  by_cases h1 : (B.find e.id).isSome = true
  · exact h1
  rw [if_neg h1] at hm
  exfalso
  by_cases h2 : e.k = 2
  · rw [if_pos h2] at hm
    cases hs : B.sale e.of_ with
    | none => rw [hs] at hm; cases hm
    | some s =>
      rw [hs] at hm
      simp only [Kp.refMay] at hm
      split at hm
      · cases hm
      · split at hm
        · cases hm
        · split at hm <;> cases hm
  rw [if_neg h2] at hm
  by_cases h3 : e.k = 3
  · rw [if_pos h3] at hm
    cases hs : B.sale e.of_ with
    | none => rw [hs] at hm; cases hm
    | some s =>
      rw [hs] at hm
      simp only [Kp.voidMay] at hm
      split at hm <;> cases hm
  rw [if_neg h3] at hm
  cases hm
theorem may_check {B : Bk} {e : Ent} (hm : B.may e = 0) : e.check = 0 := by
  unfold Bk.may at hm
  by_cases hc : e.check ≠ 0
  · rw [if_pos hc] at hm; exact hm
  · simpa using hc
theorem check_am {e : Ent} (hc : e.check = 0) : e.am.length ≤ 100 ∧ e.tax.length ≤ 6400 := by
  have h1 := (Ent.check_ok hc).2.2
  unfold Ent.fine at h1
  by_cases hk : e.k = 1
  · rw [if_pos hk] at h1
    unfold Ent.saleFine at h1
    simp only [Bool.and_eq_true, decide_eq_true_eq] at h1
    obtain ⟨⟨⟨a1, _⟩, a2⟩, _⟩ := h1
    unfold manyI at a2
    simp only [Bool.and_eq_true, decide_eq_true_eq] at a2
    exact ⟨a2.2, (checkTax_ok a1).1⟩
  rw [if_neg hk] at h1
  by_cases hk2 : e.k = 2
  · rw [if_pos hk2] at h1
    unfold Ent.refundFine at h1
    simp only [Bool.and_eq_true, decide_eq_true_eq] at h1
    obtain ⟨⟨⟨_, a2⟩, _⟩, a3⟩ := h1
    unfold manyI at a2
    simp only [Bool.and_eq_true, decide_eq_true_eq] at a2
    exact ⟨a2.2, by omega⟩
  rw [if_neg hk2] at h1
  by_cases hk3 : e.k = 3
  · rw [if_pos hk3] at h1
    unfold Ent.voidFine at h1
    simp only [Bool.and_eq_true, decide_eq_true_eq] at h1
    omega
  rw [if_neg hk3] at h1
  cases h1
/-- No entry has more tax lines than a sale may have. -/
def Bk.small (B : Bk) : Prop := ∀ x ∈ B, x.lines.length ≤ 6400
theorem refLines_len (s : Kp) (am : List Int) : (s.refLines am).length ≤ s.lines.length := by
  have := LnRel.len s am s.lines.length
  rw [List.take_length] at this
  exact this
theorem find_mem' {B : Bk} {id : Int} {x : Kp} (h : B.find id = some x) : x ∈ B ∧ x.e.id = id := by
  unfold Bk.find at h
  exact ⟨List.mem_of_find?_eq_some h, by simpa using List.find?_some h⟩
theorem sale_mem' {B : Bk} {id : Int} {x : Kp} (h : B.sale id = some x) : x ∈ B ∧ x.e.id = id ∧ x.e.k = 1 := by
  unfold Bk.sale at h
  rw [Option.filter_eq_some_iff] at h
  obtain ⟨h1, h2⟩ := find_mem' h.1
  exact ⟨h1, h2, by simpa using h.2⟩
theorem upd_small {B : Bk} (h : B.small) (id : Int) (f : Kp → Kp) (hf : ∀ x, (f x).lines = x.lines) : (B.upd id f).small := by
  intro x hx
  unfold Bk.upd at hx
  obtain ⟨y, hy, rfl⟩ := List.mem_map.1 hx
  split
  · rw [hf]; exact h y hy
  · exact h y hy
theorem snoc_small {B : Bk} (h : B.small) {x : Kp} (hx : x.lines.length ≤ 6400) : Bk.small (B ++ [x]) := by
  intro y hy
  rcases List.mem_append.1 hy with hy | hy
  · exact h y hy
  · rw [List.mem_singleton.1 hy]; exact hx
theorem put_small {B : Bk} (h : B.small) {e : Ent} (hc : e.check = 0) : (B.put e).1.small ∧ (B.put e).2.length ≤ 6400 := by
  unfold Bk.put
  by_cases hk : e.k = 1
  · rw [if_pos hk]
    exact ⟨snoc_small h (check_am hc).2, (check_am hc).2⟩
  rw [if_neg hk]
  by_cases hk2 : e.k = 2
  · rw [if_pos hk2]
    cases hs : B.sale e.of_ with
    | none => exact ⟨snoc_small h (by simp), by simp⟩
    | some s =>
      have h1 := refLines_len s e.am
      have h2 := h s (sale_mem' hs).1
      exact ⟨snoc_small (x := ⟨e, s.refLines e.am, [], false⟩) (upd_small h e.of_ (fun x => { x with back := addL x.back e.am }) (fun _ => rfl)) (show (s.refLines e.am).length ≤ 6400 by omega), (show (s.refLines e.am).length ≤ 6400 by omega)⟩
  rw [if_neg hk2]
  by_cases hk3 : e.k = 3
  · rw [if_pos hk3]
    exact ⟨snoc_small (x := ⟨e, [], [], false⟩) (upd_small h e.of_ (fun x => { x with voided := true }) (fun _ => rfl)) (by simp), by simp⟩
  rw [if_neg hk3]
  exact ⟨snoc_small h (by simp), by simp⟩
theorem add_small {B : Bk} (h : B.small) (e : Ent) : (B.add e).1.small := by
  unfold Bk.add
  by_cases h1 : B.may e = 0
  · rw [if_pos h1]; exact (put_small h (may_check h1)).1
  rw [if_neg h1]
  have hi : ∀ (c : Prop) [Decidable c] (x y : Bk × List Tx × Int), x.1.small → y.1.small → (if c then x else y).1.small := by
    intro c _ x y hx hy
    split
    · exact hx
    · exact hy
  exact hi _ _ _ h h
theorem lines_small {B : Bk} (h : B.small) (id : Int) : (B.lines id).length ≤ 6400 := by
  unfold Bk.lines
  cases hf : B.find id with
  | none => simp
  | some x => exact h x (find_mem' hf).1

/-- What an Add leaves. -/
structure Added (w0 W W' : World) (bb mb : Nat) (vids : Value) (M : BkM) (e : Ent) (A : Option Addr) (c : Nat) (vids' : Value) (M' : BkM) (B1 : Nat) : Prop where
  at_ : BookAt w0 W' bb mb vids' M'
  b : M'.b = (M.b.add e).1
  chg : Chg (Go.Proofs.YtokakpbpenndlaaGreatDoor.foot bb mb vids M) W W'
  foot : ∀ g ∈ Go.Proofs.YtokakpbpenndlaaGreatDoor.foot bb mb vids' M', g ∈ Go.Proofs.YtokakpbpenndlaaGreatDoor.foot bb mb vids M ∨ (W.heap.size ≤ g ∧ g < B1)
  le : W.heap.size ≤ B1
  own : W'.ownsRow B1 117 6 (.slice A (M.b.add e).2.1.length c) (M.b.add e).2.1.length (txCells (M.b.add e).2.1)
  slots : ∀ p ∈ M', (∃ q ∈ M, q.2 = p.2) ∨ p.2.ge W.heap.size

set_option maxRecDepth 100000 in
set_option maxHeartbeats 4000000 in
theorem add_any {w0 W : World} {bb mb : Nat} {vids : Value} {M : BkM} (h : BookAt w0 W bb mb vids M) (hx0 : Ext w0 W) (e : Ent) (Aa At : Option Addr) (ca ct : Nat) (he : EntR W e Aa At) (hml : M.length ≤ 100000) (hs : M.b.small) :
    Calls Tryz.prog 26 #[.pointer (some ⟨bb, 0, none⟩), entV e Aa At ca ct] W fun r W' => ∃ A c vids' M' B1, r = .returned (.tuple #[.slice A (M.b.add e).2.1.length c, .int .i64 (M.b.add e).2.2]) ∧ Added w0 W W' bb mb vids M e A c vids' M' B1 := by
  by_cases hm0 : M.b.may e = 0
  · have hc := may_check hm0
    have hp := put_small hs hc
    have hE : M.b.add e = ((M.b.put e).1, (M.b.put e).2, 0) := by unfold Bk.add; rw [if_pos hm0]
    refine (add_ok h hx0 e Aa At ca ct he hml hm0 hc (check_am hc).1 (check_am hc).2 hp.2).mono ?_
    rintro r W' ⟨A, c, vids', M', B1, rfl, h1, h2, h3, h4, h5, h6, h7⟩
    refine ⟨A, c, vids', M', B1, by rw [hE], ⟨h1, by rw [h2, hE], h3, h4, h5, by rw [hE]; exact h6, h7⟩⟩
  have HB := Lib.hid h
  have X0 := (Ext.refl W).alloc (.cells #[.int .i64 e.k, .int .i64 e.id, .int .i64 e.of_, .int .i64 e.day, .slice Aa e.am.length ca, .slice At e.tax.length ct] 52)
  have B := Blk.new W 52 #[.int .i64 e.k, .int .i64 e.id, .int .i64 e.of_, .int .i64 e.day, .slice Aa e.am.length ca, .slice At e.tax.length ct]
  replace he := Lib.hid (he.ext X0)
  have hb1 : (M.b.may e != 0) = true := by simpa using hm0
  clear h
  by_cases h7 : M.b.may e = 7
  case neg =>
    have hb2 : (M.b.may e == 7) = false := by simpa using h7
    have hE := Lib.hid (show M.b.add e = (M.b, [], M.b.may e) by unfold Bk.add; rw [if_neg hm0, if_neg (fun h => h7 h.1)])
    clear hm0 h7
    go_enter Tryz.func26, Tryz.ntmps26
    go_wp2_with fail
    refine (bmay_any (HB.out.ext X0) e Aa At ca ct he.out).mono ?_
    rintro r w1 ⟨rfl, hx1⟩
    have X1 := X0.trans hx1
    clear B
    go_wp2_with fail
    go_quiet (fail)
    go_wp2_with fail
    go_ret2
    refine ⟨none, 0, vids, M, W.heap.size, by rw [hE.out]; rfl, ⟨HB.out.ext (X1.drewN _), by rw [hE.out], Chg.ext (X1.drewN _), fun g hg => .inl hg, Nat.le_refl _, ?_, fun p hp => .inl ⟨p, hp, rfl⟩⟩⟩
    rw [hE.out]
    exact World.ownsRow_nil _ _ _ _
  obtain ⟨hc, hsome⟩ := may_seven h7
  have hi := (Ent.i64s hc).1
  have hF := BkM.find_b M e.id
  obtain ⟨p, hf⟩ : ∃ p, M.find e.id = some p := by
    cases hf : M.find e.id with
    | none => rw [hF, hf] at hsome; cases hsome
    | some p => exact ⟨p, rfl⟩
  rw [hf] at hF
  have hmem := (BkM.find_mem hf).1
  have hp0 : M.ptr e.id = .pointer (some ⟨p.2.g, 0, none⟩) := by unfold BkM.ptr; rw [hf]
  rw [h7] at hb1
  replace hb1 : ((7 : Int) != 0) = true := hb1
  by_cases hk : p.1.e.k = e.k
  case neg =>
    have hE := Lib.hid (show M.b.add e = (M.b, [], 7) by unfold Bk.add; rw [if_neg hm0, if_neg (fun h => by have h2 := h.2; rw [hF] at h2; exact hk (by simpa using h2)), h7])
    have hkb : (p.1.e.k == e.k) = false := by simpa using hk
    replace h7 := Lib.hid h7
    clear hm0 hk hF hf hsome hc
    go_enter Tryz.func26, Tryz.ntmps26
    go_wp2_with fail
    refine (bmay_any (HB.out.ext X0) e Aa At ca ct he.out).mono ?_
    rintro r w1 ⟨rfl, hx1⟩
    rw [h7.out]
    have X1 := X0.trans hx1
    have H1 := HB.out.ext X1
    obtain ⟨q, q'⟩ := (B.ext hx1).cells
    obtain ⟨q2, q2'⟩ := H1.blk.cells
    obtain ⟨q3, q3'⟩ := (H1.all p hmem).blk.cells
    have hl0 := H1.look e.id hi
    have hl := fun n => (H1.ext ((Ext.refl w1).drewN n)).look e.id hi
    rw [hp0] at hl0
    simp only [hp0] at hl
    clear B H1 hp0
    go_wp2_with fail
    go_quiet (fail)
    go_wp2_with fail
    go_ret2
    refine ⟨none, 0, vids, M, W.heap.size, by rw [hE.out]; rfl, ⟨HB.out.ext (X1.drewN _), by rw [hE.out], Chg.ext (X1.drewN _), fun g hg => .inl hg, Nat.le_refl _, ?_, fun p hp => .inl ⟨p, hp, rfl⟩⟩⟩
    rw [hE.out]
    exact World.ownsRow_nil _ _ _ _
  have hE := Lib.hid (show M.b.add e = (M.b, M.b.lines e.id, 7) by unfold Bk.add; rw [if_neg hm0, if_pos ⟨h7, by rw [hF]; simpa using hk⟩])
  have hkb : (p.1.e.k == e.k) = true := by simpa using hk
  have hsl := lines_small hs e.id
  replace h7 := Lib.hid h7
  clear hm0 hk hF hf hsome hc
  go_enter Tryz.func26, Tryz.ntmps26
  go_wp2_with fail
  refine (bmay_any (HB.out.ext X0) e Aa At ca ct he.out).mono ?_
  rintro r w1 ⟨rfl, hx1⟩
  rw [h7.out]
  have X1 := X0.trans hx1
  have H1 := HB.out.ext X1
  have B1 := B.ext hx1
  obtain ⟨q, q'⟩ := B1.cells
  obtain ⟨q2, q2'⟩ := H1.blk.cells
  obtain ⟨q3, q3'⟩ := (H1.all p hmem).blk.cells
  have hl0 := H1.look e.id hi
  have hl := fun n => (H1.ext ((Ext.refl w1).drewN n)).look e.id hi
  rw [hp0] at hl0
  simp only [hp0] at hl
  replace H1 := Lib.hid H1
  clear B hp0 B1
  go_wp2_with fail
  go_quiet (fail)
  go_wp2_with fail
  refine (lines_any (H1.out.ext ((Ext.refl w1).drewN _)) e.id hi (by omega)).mono ?_
  rintro r w2 ⟨A, c, rfl, ho, hx2⟩
  go_wp2_with fail
  go_ret2
  have X2 := X1.trans (((Ext.refl w1).drewN _).trans hx2)
  refine ⟨A, c, vids, M, W.heap.size, by rw [hE.out]; rfl, ⟨HB.out.ext X2, by rw [hE.out], Chg.ext X2, fun g hg => .inl hg, Nat.le_refl _, ?_, fun p hp => .inl ⟨p, hp, rfl⟩⟩⟩
  rw [hE.out]
  exact own_base ho X1.size
end Go.Proofs.YtokakpbpenndlaaGreatDoor

set_option linter.unusedVariables false
namespace Go.Proofs.YtokakpbpenndlaaGreatDoor
open Go.RowKit Go.Maps
/-- What Entry leaves. -/
structure EntOut (W W' : World) (e : Ent) (A A' : Option Addr) (c c' : Nat) : Prop where
  oa : W'.ownsRow W.heap.size 3 1 (.slice A e.am.length c) e.am.length (iV e.am)
  ot : W'.ownsRow W.heap.size 117 6 (.slice A' e.tax.length c') e.tax.length (txCells e.tax)
  ext : Ext W W'
theorem own_put6 {w : World} {g : Nat} {base s n : Nat} {t : TypeId} {v : Value} {xs : List Value} (h : w.ownsRow base t s v n xs) (hg : v.ownBlock ≠ some g) (a b c d e f : Value) : ((((((w.setCell ⟨g, 0, none⟩ a).setCell ⟨g, 1, none⟩ b).setCell ⟨g, 2, none⟩ c).setCell ⟨g, 3, none⟩ d).setCell ⟨g, 4, none⟩ e).setCell ⟨g, 5, none⟩ f).ownsRow base t s v n xs :=
  own_set (own_set (own_set (own_set (own_set (own_set h (a := ⟨g, 0, none⟩) hg a) (a := ⟨g, 1, none⟩) hg b) (a := ⟨g, 2, none⟩) hg c) (a := ⟨g, 3, none⟩) hg d) (a := ⟨g, 4, none⟩) hg e) (a := ⟨g, 5, none⟩) hg f
end Go.Proofs.YtokakpbpenndlaaGreatDoor

set_option linter.unusedVariables false
namespace Go.Proofs.YtokakpbpenndlaaGreatDoor
open Go.RowKit Go.Maps

def Mv.cl (m : Mv) : List Value := [.int .i64 m.id, .int .i64 m.day, .bool m.back, .int .i64 m.t, .int .i64 m.x, .int .i64 m.v]
def mvCells (l : List Mv) : List Value := l.flatMap Mv.cl
theorem Mv.cl_len (m : Mv) : m.cl.length = 6 := rfl
theorem mv_one (x : Mv) : ∀ u ∈ x.cl, u.oneCell' = true := by intro u hu; simp [Mv.cl] at hu; rcases hu with rfl | rfl | rfl | rfl | rfl | rfl <;> rfl
theorem mvCells_at (l : List Mv) (k : Nat) (h : k < l.length) : (mvCells l)[k * 6]? = some (.int .i64 l[k].id) ∧ (mvCells l)[k * 6 + 1]? = some (.int .i64 l[k].day) ∧ (mvCells l)[k * 6 + 2]? = some (.bool l[k].back) ∧
    (mvCells l)[k * 6 + 3]? = some (.int .i64 l[k].t) ∧ (mvCells l)[k * 6 + 4]? = some (.int .i64 l[k].x) ∧ (mvCells l)[k * 6 + 5]? = some (.int .i64 l[k].v) :=
  ⟨flat_get Mv.cl_len l k 0 h (by decide), flat_get Mv.cl_len l k 1 h (by decide), flat_get Mv.cl_len l k 2 h (by decide), flat_get Mv.cl_len l k 3 h (by decide), flat_get Mv.cl_len l k 4 h (by decide), flat_get Mv.cl_len l k 5 h (by decide)⟩
theorem row_mv : RowT Tryz.prog 77 85 6 48 (.agg #[.int .i64 0, .int .i64 0, .bool false, .int .i64 0, .int .i64 0, .int .i64 0]) := rowT_mk Tryz.underlying77 (by kernel_rfl) rfl (by decide)
theorem find_nth {M : BkM} (hn : M.b.ids.Nodup) {k : Nat} (hk : k < M.length) : M.find M[k].1.e.id = some M[k] := by
  have h1 : (M.find M[k].1.e.id).isSome := by
    unfold BkM.find
    rw [List.find?_isSome]
    exact ⟨M[k], List.getElem_mem hk, by simp⟩
  obtain ⟨p, hp⟩ := Option.isSome_iff_exists.1 h1
  obtain ⟨h2, h3⟩ := BkM.find_mem hp
  rw [hp]
  simp only [BkM.b, Bk.ids, List.map_map] at hn
  rw [nodup_inj hn h2 (List.getElem_mem hk) h3]
def mvOf (x : Kp) (l : Tx) : Mv := ⟨x.e.id, x.e.day, decide (x.e.k = 2), l.t, l.x, l.v⟩
theorem moves_eq (x : Kp) (j : Int) (h : x.voided = false) : x.moves j = (x.lines.filter fun l => decide (l.j = j)).map (mvOf x) := by
  unfold Kp.moves
  rw [if_neg (by simp [h])]
  rfl
/-- Which moves have been told. -/
def MvOut (w : World) (v : Value) (l : List Mv) (wr : World) : Prop := Ext w wr ∧ wr.ownsRow w.heap.size 85 6 v l.length (mvCells l)
def MvRel (w : World) (M : BkM) (j : Int) (i v : Value) (wr : World) : Prop := ∃ k : Nat, k ≤ M.length ∧ i = .int .i64 (k : Int) ∧ MvOut w v ((M.b.take k).flatMap fun x => x.moves j) wr
def MvRel2 (w : World) (x : Kp) (pre : List Mv) (j : Int) (i v : Value) (wr : World) : Prop := ∃ k : Nat, k ≤ x.lines.length ∧ i = .int .i64 (k : Int) ∧ MvOut w v (pre ++ ((x.lines.take k).filter fun l => decide (l.j = j)).map (mvOf x)) wr
theorem MvRel2.skip {w wr : World} {x : Kp} {pre : List Mv} {j : Int} {v : Value} {k m : Nat} (hk : k < x.lines.length) (hj : x.lines[k].j ≠ j) (h : MvOut w v (pre ++ ((x.lines.take k).filter fun l => decide (l.j = j)).map (mvOf x)) wr) (e : m = k + 1) : MvRel2 w x pre j (.int .i64 (m : Int)) v wr := by
  subst e
  refine ⟨k + 1, by omega, rfl, ?_⟩
  rw [List.take_succ_eq_append_getElem hk, List.filter_append]
  simpa [hj] using h
theorem MvRel2.put {w wr : World} {x : Kp} {pre : List Mv} {j : Int} {v : Value} {k m n : Nat} (hk : k < x.lines.length) (hj : x.lines[k].j = j) (hx : Ext w wr) (hn : n = (pre ++ ((x.lines.take k).filter fun l => decide (l.j = j)).map (mvOf x)).length + 1)
    (h : wr.ownsRow w.heap.size 85 6 v n (mvCells (pre ++ ((x.lines.take k).filter fun l => decide (l.j = j)).map (mvOf x)) ++ (mvOf x x.lines[k]).cl)) (e : m = k + 1) : MvRel2 w x pre j (.int .i64 (m : Int)) v wr := by
  subst e hn
  refine ⟨k + 1, by omega, rfl, hx, ?_⟩
  have e1 : pre ++ ((x.lines.take (k + 1)).filter fun l => decide (l.j = j)).map (mvOf x) = (pre ++ ((x.lines.take k).filter fun l => decide (l.j = j)).map (mvOf x)) ++ [mvOf x x.lines[k]] := by
    rw [List.take_succ_eq_append_getElem hk, List.filter_append]
    simp [hj]
  rw [e1]
  simpa [mvCells, Nat.add_assoc] using h
theorem MvRel.next {w wr : World} {M : BkM} {j : Int} {v : Value} {k m : Nat} (hk : k < M.length) (h : MvOut w v ((M.b.take k).flatMap (fun x => x.moves j) ++ M[k].1.moves j) wr) (e : m = k + 1) : MvRel w M j (.int .i64 (m : Int)) v wr := by
  subst e
  refine ⟨k + 1, by omega, rfl, ?_⟩
  have hb : k < M.b.length := by simpa [BkM.b] using hk
  have e1 : M.b[k] = M[k].1 := by simp [BkM.b]
  rw [List.take_succ_eq_append_getElem hb, List.flatMap_append]
  simpa [e1] using h
theorem moves_len (x : Kp) (j : Int) : (x.moves j).length ≤ x.lines.length := by
  unfold Kp.moves
  split
  · simp
  · rw [List.length_map]; exact List.length_filter_le _ _
theorem allmoves_len {B : Bk} (h : B.small) (j : Int) : ∀ l : Bk, (∀ x ∈ l, x ∈ B) → (l.flatMap fun x => x.moves j).length ≤ l.length * 6400
  | [], _ => by simp
  | x :: l, hl => by
    rw [List.flatMap_cons, List.length_append, List.length_cons, Nat.add_mul]
    have h1 := moves_len x j
    have h2 := h x (hl x (by simp))
    have h3 := allmoves_len h j l (fun y hy => hl y (by simp [hy]))
    omega

set_option maxRecDepth 100000 in
set_option maxHeartbeats 8000000 in
theorem moves_any {w0 W : World} {bb mb : Nat} {vids : Value} {M : BkM} (h : BookAt w0 W bb mb vids M) (j : Int) (hml : M.length ≤ 100000) (hs : M.b.small) :
    Calls Tryz.prog 41 #[.pointer (some ⟨bb, 0, none⟩), .int .i64 j] W fun r W' => ∃ A c, r = .returned (.slice A (M.b.moves j).length c) ∧ W'.ownsRow W.heap.size 85 6 (.slice A (M.b.moves j).length c) (M.b.moves j).length (mvCells (M.b.moves j)) ∧ Ext W W' := by
  have HB := Lib.hid h
  obtain ⟨Ai, ci, rfl, l1, l2, hri⟩ := own_slice h.ids
  unfold maxLen at l2
  obtain ⟨q, q'⟩ := h.blk.cells
  have hlen : M.b.ids.length = M.length := by simp [BkM.b, Bk.ids]
  replace hlen := Lib.hid hlen
  have HS := Lib.hid hs
  clear h hs
  go_enter Tryz.func41, Tryz.ntmps41
  go_wp2_with fail
  refine (none_any HB.out).mono ?_
  rintro r w' ⟨rfl, rfl⟩
  go_wp2_with fail
  clear q q'
  go_loopw [18, 5] (fun i v wr => MvRel W M j i v wr) (fun i _ _ => M.length - (intOf i).toNat)
  case atStart => exact ⟨0, by omega, rfl, Ext.refl _, by simpa [mvCells] using World.ownsRow_nil _ _ _ _⟩
  case round =>
    obtain ⟨k, hk, rfl, hO⟩ := hrel
    by_cases hlt : k < M.length
    · have hd : decide ((k : Int) < (M.length : Int)) = true := by simp; omega
      have hkb : k < M.b.ids.length := by rw [hlen.out]; exact hlt
      obtain ⟨g, off, rfl, hg, c1⟩ := reads_int (hri.extB (Nat.le_refl _) hO.1) hkb hlen.out.symm
      have hid1 : M.b.ids[k] = M[k].1.e.id := by simp [BkM.b, Bk.ids]
      rw [hid1] at c1
      have H1 := HB.out.ext hO.1
      have hmem : M[k] ∈ M := List.getElem_mem hlt
      have hi := (Ent.i64s (H1.ok _ hmem).chk).1
      have hl := H1.look M[k].1.e.id hi
      have hp0 : M.ptr M[k].1.e.id = .pointer (some ⟨M[k].2.g, 0, none⟩) := by unfold BkM.ptr; rw [find_nth H1.nodup hlt]
      rw [hp0] at hl
      have hsm := HS.out M[k].1 (List.mem_map_of_mem hmem)
      have hpre := allmoves_len HS.out j (M.b.take k) (fun x hx => List.mem_of_mem_take hx)
      have hpl : (M.b.take k).length ≤ 100000 := by rw [List.length_take]; simp [BkM.b]; omega
      obtain ⟨Aa, At, Al, Ab, ca, ct, cl, cb, O⟩ := (HB.out.all _ hmem).open_
      obtain ⟨q, q'⟩ := H1.blk.cells
      obtain ⟨k1, k1'⟩ := (O.blk.ext hO.1).cells
      have HN := Lib.hid (fun W2 v h => MvRel.next (w := W) (wr := W2) (j := j) (v := v) (m := k + 1) hlt h rfl)
      have HME := Lib.hid (moves_eq M[k].1 j)
      have hMV := Lib.hid (show M[k].1.voided = true → M[k].1.moves j = [] from fun h => by unfold Kp.moves; rw [if_pos h])
      have OB := Lib.hid O.blk
      have hrl := Lib.hid O.rl
      clear H1 hp0 O hkb hid1 hmem
      generalize M[k] = p at *
      obtain ⟨x, m⟩ := p
      dsimp only at *
      generalize (M.b.take k).flatMap (fun x => x.moves j) = pre at *
      cases hv : x.voided
      case true =>
        rw [hv] at k1
        have hMV2 := Lib.hid (hMV.out hv)
        clear HME hMV hrl OB
        go_wp2_with fail
        go_roundw
        case rel => exact HN.out _ _ (by rw [hMV2.out, List.append_nil]; exact hO)
        case measure => simp [intOf]; omega
      rw [hv] at k1 OB
      have hMV2 := Lib.hid (HME.out hv)
      clear HME hMV
      go_wp2_with fail
      clear q q' k1 k1' hl c1
      replace hd := Lib.hid hd
      obtain ⟨wo, rfl⟩ : ∃ wo : World, wo = wr := ⟨_, rfl⟩
      go_loopw [37, 5] (fun i v wr => MvRel2 W x pre j i v wr) (fun i _ _ => x.lines.length - (intOf i).toNat)
      case atStart => exact ⟨0, by omega, rfl, by simpa using hO⟩
      case round =>
        obtain ⟨k2, hk2, rfl, hO2⟩ := hrel
        by_cases hlt2 : k2 < x.lines.length
        · have hd2 : decide ((k2 : Int) < (x.lines.length : Int)) = true := by simp; omega
          obtain ⟨gl, ol, rfl, hgl, hc⟩ := (hrl.out.extB (Nat.le_refl _) hO2.1).cellAt hlt2
          obtain ⟨e1, e2, e3, e4, e5, e6⟩ := txCells_at x.lines k2 hlt2
          have c1 := hc _ _ e1
          have c2 : wr.cell? ⟨gl, ol + k2 * 6 + 1, none⟩ = _ := hc _ _ e2
          have c3 : wr.cell? ⟨gl, ol + k2 * 6 + 2, none⟩ = _ := hc _ _ e3
          have c4 : wr.cell? ⟨gl, ol + k2 * 6 + 3, none⟩ = _ := hc _ _ e4
          have c5 : wr.cell? ⟨gl, ol + k2 * 6 + 4, none⟩ = _ := hc _ _ e5
          have c6 : wr.cell? ⟨gl, ol + k2 * 6 + 5, none⟩ = _ := hc _ _ e6
          have OB1 := OB.out.ext hO2.1
          obtain ⟨k1, k1'⟩ := OB1.cells
          have lgm := OB1.lt
          have HS2 := Lib.hid (fun W2 v hj h => MvRel2.skip (w := W) (wr := W2) (x := x) (pre := pre) (j := j) (v := v) (m := k2 + 1) hlt2 hj h rfl)
          have HP2 := Lib.hid (fun W2 v n hj hx hn h => MvRel2.put (w := W) (wr := W2) (x := x) (pre := pre) (j := j) (v := v) (n := n) (m := k2 + 1) hlt2 hj hx hn h rfl)
          have hfl : ((x.lines.take k2).filter fun l => decide (l.j = j)).length ≤ 6400 := Nat.le_trans (List.length_filter_le _ _) (by rw [List.length_take]; omega)
          have hpl2 : (pre ++ ((x.lines.take k2).filter fun l => decide (l.j = j)).map (mvOf x)).length ≤ 1000000000 := by rw [List.length_append, List.length_map]; omega
          generalize pre ++ ((x.lines.take k2).filter fun l => decide (l.j = j)).map (mvOf x) = L at *
          clear e1 e2 e3 e4 e5 e6 hc OB HN hMV2 hrl hfl
          generalize x.lines[k2] = y at *
          have X1 := hO2.1.alloc (.cells #[.int .i64 y.l, .int .i64 y.j, .int .i64 y.t, .int .i64 y.x, .int .i64 y.r, .int .i64 y.v] 117)
          have O1 : (wr.alloc (.cells #[.int .i64 y.l, .int .i64 y.j, .int .i64 y.t, .int .i64 y.x, .int .i64 y.r, .int .i64 y.v] 117)).ownsRow W.heap.size 85 6 u5 L.length (mvCells L) := hO2.2.alloc _
          have HO1 := Lib.hid O1
          have HX1 := Lib.hid X1
          clear O1 X1
          by_cases hj : y.j = j
          · have hjb : (y.j == j) = true := by simpa using hj
            replace hj := Lib.hid hj
            clear HS2
            go_wp2_with fail
            obtain ⟨bk, hbk⟩ : ∃ bk, (x.e.k == 2) = bk := ⟨_, rfl⟩
            have hmv := Lib.hid (show mvOf x y = ⟨x.e.id, x.e.day, bk, y.t, y.x, y.v⟩ from by
              unfold mvOf
              rw [← hbk, show decide (x.e.k = 2) = (x.e.k == 2) by rw [Bool.eq_iff_iff]; simp])
            have Y1 := (Ext.refl wr).alloc (.cells #[.int .i64 y.l, .int .i64 y.j, .int .i64 y.t, .int .i64 y.x, .int .i64 y.r, .int .i64 y.v] 117)
            have BB := Blk.new wr 117 #[.int .i64 y.l, .int .i64 y.j, .int .i64 y.t, .int .i64 y.x, .int .i64 y.r, .int .i64 y.v]
            have BM := OB1.ext Y1
            clear Y1 k1 k1' OB1 c1 c2 c3 c4 c5 c6 hO2
            generalize wr.alloc (.cells #[.int .i64 y.l, .int .i64 y.j, .int .i64 y.t, .int .i64 y.x, .int .i64 y.r, .int .i64 y.v] 117) = W1 at *
            generalize wr.heap.size = gb at *
            have HX := Lib.hid (fun W2 (h : Ext W1 W2) => (show W2.cell? ⟨m.g, 3, none⟩ = some (.int .i64 x.e.day) ∧ W2.cell? ⟨m.g, 0, none⟩ = some (.int .i64 x.e.k) ∧ W2.cell? ⟨gb, 2, none⟩ = some (.int .i64 y.t) ∧ W2.cell? ⟨gb, 3, none⟩ = some (.int .i64 y.x) ∧ W2.cell? ⟨gb, 5, none⟩ = some (.int .i64 y.v) from ⟨(BM.ext h).cell 3, (BM.ext h).cell 0, (BB.ext h).cell 2, (BB.ext h).cell 3, (BB.ext h).cell 5⟩))
            obtain ⟨s1, s2, s3, s4, s5⟩ := HX.out _ (Ext.refl W1)
            have HBM := Lib.hid BM
            have HBB := Lib.hid BB
            clear BM BB
            go_region_held3 (fun w' => w'.cell? ⟨m.g, 3, none⟩ = some (.int .i64 x.e.day) ∧ w'.cell? ⟨m.g, 0, none⟩ = some (.int .i64 x.e.k) ∧ w'.cell? ⟨gb, 2, none⟩ = some (.int .i64 y.t) ∧ w'.cell? ⟨gb, 3, none⟩ = some (.int .i64 y.x) ∧ w'.cell? ⟨gb, 5, none⟩ = some (.int .i64 y.v))
              (first | (with_reducible exact HX.out _ (Ext.refl W1).drew) | (with_reducible exact HX.out _ ((Ext.refl W1).alloc _)) | (with_reducible exact HX.out _ ((Ext.refl W1).drew.alloc _)) | (with_reducible exact HX.out _ ((Ext.refl W1).alloc _).drew) | (exact S7.out))
              (first
              | (refine step_app (v := u5) row_mv W _ (.tmp 45) (.tmp 65) rfl rfl rfl (own_ext HO1.out ((Ext.refl W1).alloc _).drew) (HX1.out.alloc _).drew rfl (reads_new' W1 #[.int .i64 x.e.id, .int .i64 x.e.day, .bool bk, .int .i64 y.t, .int .i64 y.x, .int .i64 y.v] 85 1 6 rfl rfl) (mv_one ⟨x.e.id, x.e.day, bk, y.t, y.x, y.v⟩) (by omega) (by unfold maxLen; omega) ?_; intro v7 w7 hg7; have HG7 := Lib.hid hg7; have M7 := hg7.blk (own_ext HO1.out ((Ext.refl W1).alloc _).drew) (HBM.out.ext ((Ext.refl W1).alloc _).drew) (by decide); have B7 := hg7.blk (own_ext HO1.out ((Ext.refl W1).alloc _).drew) (HBB.out.ext ((Ext.refl W1).alloc _).drew) (by decide); have S7 := Lib.hid (show w7.cell? ⟨m.g, 3, none⟩ = some (.int .i64 x.e.day) ∧ w7.cell? ⟨m.g, 0, none⟩ = some (.int .i64 x.e.k) ∧ w7.cell? ⟨gb, 2, none⟩ = some (.int .i64 y.t) ∧ w7.cell? ⟨gb, 3, none⟩ = some (.int .i64 y.x) ∧ w7.cell? ⟨gb, 5, none⟩ = some (.int .i64 y.v) from ⟨M7.cell 3, M7.cell 0, B7.cell 2, B7.cell 3, B7.cell 5⟩); clear hg7 M7 B7))
            all_goals
              go_wp2_with fail
              go_roundw
              case rel => exact HP2.out _ _ _ hj.out HG7.out.ext rfl (by rw [hmv.out]; exact HG7.out.own)
              case measure => simp [intOf]; omega
          · have hjb : (y.j == j) = false := by simpa using hj
            replace hj := Lib.hid hj
            clear HP2
            go_wp2_with fail
            go_roundw
            case rel => exact HS2.out _ _ hj.out ⟨HX1.out, HO1.out⟩
            case measure => simp [intOf]; omega
        · have hd2 : decide ((k2 : Int) < (x.lines.length : Int)) = false := by simp; omega
          rw [List.take_of_length_le (by omega)] at hO2
          have HF := Lib.hid (fun v (h : MvOut W v (pre ++ (x.lines.filter fun l => decide (l.j = j)).map (mvOf x)) wr) => HN.out wr v (by rw [hMV2.out]; exact h))
          clear HN hMV2 hrl OB
          go_wp2_with fail
          go_roundw
          case rel => exact HF.out _ hO2
          case measure => simp [intOf]; omega
    · have hd : decide ((k : Int) < (M.length : Int)) = false := by simp; omega
      rw [List.take_of_length_le (by simp [BkM.b]; omega)] at hO
      have HO := Lib.hid (show MvOut W u5 (M.b.moves j) wr from hO)
      clear hO hri
      go_wp2_with fail
      go_ret
      obtain ⟨h1, h2⟩ := HO.out
      obtain ⟨A, c, rfl, _⟩ := own_slice h2
      exact ⟨A, c, rfl, h2, h1⟩
end Go.Proofs.YtokakpbpenndlaaGreatDoor
