/-
  (*book.Book).Add: every case.
-/
import Derived.Test.YtehkmngbknbbaaaRk28
set_option linter.unusedVariables false
namespace Go.Proofs.Ytehkmngbknbbaaa
open Go.RowKit Go.Maps

theorem may_seven {B : Bk} {e : Ent} (hm : B.may e = 7) : e.check = 0 ∧ (B.find e.id).isSome = true := by
  unfold Bk.may at hm
  by_cases hc : e.check ≠ 0
  · rw [if_pos hc] at hm
    unfold Ent.check at hm
    split at hm
    · cases hm
    · split at hm <;> cases hm
  rw [if_neg hc] at hm
  refine ⟨by simpa using hc, ?_⟩
  by_cases h1 : (B.find e.id).isSome = true
  · exact h1
  rw [if_neg h1] at hm
  exfalso
  by_cases h2 : e.k = 2
  · rw [if_pos h2] at hm
    cases hs : B.sale e.of_ with
    | none => rw [hs] at hm; cases hm
    | some s =>
      rw [hs] at hm
      simp only [Kp.refMay] at hm
      split at hm
      · cases hm
      · split at hm
        · cases hm
        · split at hm <;> cases hm
  rw [if_neg h2] at hm
  by_cases h3 : e.k = 3
  · rw [if_pos h3] at hm
    cases hs : B.sale e.of_ with
    | none => rw [hs] at hm; cases hm
    | some s =>
      rw [hs] at hm
      simp only [Kp.voidMay] at hm
      split at hm <;> cases hm
  rw [if_neg h3] at hm
  cases hm
theorem may_check {B : Bk} {e : Ent} (hm : B.may e = 0) : e.check = 0 := by
  unfold Bk.may at hm
  by_cases hc : e.check ≠ 0
  · rw [if_pos hc] at hm; exact hm
  · simpa using hc
theorem check_am {e : Ent} (hc : e.check = 0) : e.am.length ≤ 100 ∧ e.tax.length ≤ 6400 := by
  have h1 := (Ent.check_ok hc).2.2
  unfold Ent.fine at h1
  by_cases hk : e.k = 1
  · rw [if_pos hk] at h1
    unfold Ent.saleFine at h1
    simp only [Bool.and_eq_true, decide_eq_true_eq] at h1
    obtain ⟨⟨⟨a1, _⟩, a2⟩, _⟩ := h1
    unfold manyI at a2
    simp only [Bool.and_eq_true, decide_eq_true_eq] at a2
    exact ⟨a2.2, (checkTax_ok a1).1⟩
  rw [if_neg hk] at h1
  by_cases hk2 : e.k = 2
  · rw [if_pos hk2] at h1
    unfold Ent.refundFine at h1
    simp only [Bool.and_eq_true, decide_eq_true_eq] at h1
    obtain ⟨⟨⟨_, a2⟩, _⟩, a3⟩ := h1
    unfold manyI at a2
    simp only [Bool.and_eq_true, decide_eq_true_eq] at a2
    exact ⟨a2.2, by omega⟩
  rw [if_neg hk2] at h1
  by_cases hk3 : e.k = 3
  · rw [if_pos hk3] at h1
    unfold Ent.voidFine at h1
    simp only [Bool.and_eq_true, decide_eq_true_eq] at h1
    omega
  rw [if_neg hk3] at h1
  cases h1
/-- No entry has more tax lines than a sale may have. -/
def Bk.small (B : Bk) : Prop := ∀ x ∈ B, x.lines.length ≤ 6400
theorem refLines_len (s : Kp) (am : List Int) : (s.refLines am).length ≤ s.lines.length := by
  have := LnRel.len s am s.lines.length
  rw [List.take_length] at this
  exact this
theorem find_mem' {B : Bk} {id : Int} {x : Kp} (h : B.find id = some x) : x ∈ B ∧ x.e.id = id := by
  unfold Bk.find at h
  exact ⟨List.mem_of_find?_eq_some h, by simpa using List.find?_some h⟩
theorem sale_mem' {B : Bk} {id : Int} {x : Kp} (h : B.sale id = some x) : x ∈ B ∧ x.e.id = id ∧ x.e.k = 1 := by
  unfold Bk.sale at h
  rw [Option.filter_eq_some_iff] at h
  obtain ⟨h1, h2⟩ := find_mem' h.1
  exact ⟨h1, h2, by simpa using h.2⟩
theorem upd_small {B : Bk} (h : B.small) (id : Int) (f : Kp → Kp) (hf : ∀ x, (f x).lines = x.lines) : (B.upd id f).small := by
  intro x hx
  unfold Bk.upd at hx
  obtain ⟨y, hy, rfl⟩ := List.mem_map.1 hx
  split
  · rw [hf]; exact h y hy
  · exact h y hy
theorem snoc_small {B : Bk} (h : B.small) {x : Kp} (hx : x.lines.length ≤ 6400) : Bk.small (B ++ [x]) := by
  intro y hy
  rcases List.mem_append.1 hy with hy | hy
  · exact h y hy
  · rw [List.mem_singleton.1 hy]; exact hx
theorem put_small {B : Bk} (h : B.small) {e : Ent} (hc : e.check = 0) : (B.put e).1.small ∧ (B.put e).2.length ≤ 6400 := by
  unfold Bk.put
  by_cases hk : e.k = 1
  · rw [if_pos hk]
    exact ⟨snoc_small h (check_am hc).2, (check_am hc).2⟩
  rw [if_neg hk]
  by_cases hk2 : e.k = 2
  · rw [if_pos hk2]
    cases hs : B.sale e.of_ with
    | none => exact ⟨snoc_small h (by simp), by simp⟩
    | some s =>
      have h1 := refLines_len s e.am
      have h2 := h s (sale_mem' hs).1
      exact ⟨snoc_small (x := ⟨e, s.refLines e.am, [], false⟩) (upd_small h e.of_ (fun x => { x with back := addL x.back e.am }) (fun _ => rfl)) (show (s.refLines e.am).length ≤ 6400 by omega), (show (s.refLines e.am).length ≤ 6400 by omega)⟩
  rw [if_neg hk2]
  by_cases hk3 : e.k = 3
  · rw [if_pos hk3]
    exact ⟨snoc_small (x := ⟨e, [], [], false⟩) (upd_small h e.of_ (fun x => { x with voided := true }) (fun _ => rfl)) (by simp), by simp⟩
  rw [if_neg hk3]
  exact ⟨snoc_small h (by simp), by simp⟩
theorem add_small {B : Bk} (h : B.small) (e : Ent) : (B.add e).1.small := by
  unfold Bk.add
  by_cases h1 : B.may e = 0
  · rw [if_pos h1]; exact (put_small h (may_check h1)).1
  rw [if_neg h1]
  have hi : ∀ (c : Prop) [Decidable c] (x y : Bk × List Tx × Int), x.1.small → y.1.small → (if c then x else y).1.small := by
    intro c _ x y hx hy
    split
    · exact hx
    · exact hy
  exact hi _ _ _ h h
theorem lines_small {B : Bk} (h : B.small) (id : Int) : (B.lines id).length ≤ 6400 := by
  unfold Bk.lines
  cases hf : B.find id with
  | none => simp
  | some x => exact h x (find_mem' hf).1

/-- What an Add leaves. -/
structure Added (w0 W W' : World) (bb mb : Nat) (vids : Value) (M : BkM) (e : Ent) (A : Option Addr) (c : Nat) (vids' : Value) (M' : BkM) (B1 : Nat) : Prop where
  at_ : BookAt w0 W' bb mb vids' M'
  b : M'.b = (M.b.add e).1
  chg : Chg (Go.Proofs.Ytehkmngbknbbaaa.foot bb mb vids M) W W'
  foot : ∀ g ∈ Go.Proofs.Ytehkmngbknbbaaa.foot bb mb vids' M', g ∈ Go.Proofs.Ytehkmngbknbbaaa.foot bb mb vids M ∨ (W.heap.size ≤ g ∧ g < B1)
  le : W.heap.size ≤ B1
  own : W'.ownsRow B1 46 6 (.slice A (M.b.add e).2.1.length c) (M.b.add e).2.1.length (txCells (M.b.add e).2.1)

set_option maxRecDepth 100000 in
set_option maxHeartbeats 4000000 in
theorem add_any {w0 W : World} {bb mb : Nat} {vids : Value} {M : BkM} (h : BookAt w0 W bb mb vids M) (hx0 : Ext w0 W) (e : Ent) (Aa At : Option Addr) (ca ct : Nat) (he : EntR W e Aa At) (hml : M.length ≤ 100000) (hs : M.b.small) :
    Calls Try.prog 42 #[.pointer (some ⟨bb, 0, none⟩), entV e Aa At ca ct] W fun r W' => ∃ A c vids' M' B1, r = .returned (.tuple #[.slice A (M.b.add e).2.1.length c, .int .i64 (M.b.add e).2.2]) ∧ Added w0 W W' bb mb vids M e A c vids' M' B1 := by
  by_cases hm0 : M.b.may e = 0
  · have hc := may_check hm0
    have hp := put_small hs hc
    have hE : M.b.add e = ((M.b.put e).1, (M.b.put e).2, 0) := by unfold Bk.add; rw [if_pos hm0]
    refine (add_ok h hx0 e Aa At ca ct he hml hm0 hc (check_am hc).1 (check_am hc).2 hp.2).mono ?_
    rintro r W' ⟨A, c, vids', M', B1, rfl, h1, h2, h3, h4, h5, h6⟩
    refine ⟨A, c, vids', M', B1, by rw [hE], ⟨h1, by rw [h2, hE], h3, h4, h5, by rw [hE]; exact h6⟩⟩
  have HB := Lib.hid h
  have X0 := (Ext.refl W).alloc (.cells #[.int .i64 e.k, .int .i64 e.id, .int .i64 e.of_, .int .i64 e.day, .slice Aa e.am.length ca, .slice At e.tax.length ct] 66)
  have B := Blk.new W 66 #[.int .i64 e.k, .int .i64 e.id, .int .i64 e.of_, .int .i64 e.day, .slice Aa e.am.length ca, .slice At e.tax.length ct]
  replace he := Lib.hid (he.ext X0)
  have hb1 : (M.b.may e != 0) = true := by simpa using hm0
  clear h
  by_cases h7 : M.b.may e = 7
  case neg =>
    have hb2 : (M.b.may e == 7) = false := by simpa using h7
    have hE := Lib.hid (show M.b.add e = (M.b, [], M.b.may e) by unfold Bk.add; rw [if_neg hm0, if_neg (fun h => h7 h.1)])
    clear hm0 h7
    go_enter Try.func42, Try.ntmps42
    go_wp2_with fail
    refine (bmay_any (HB.out.ext X0) e Aa At ca ct he.out).mono ?_
    rintro r w1 ⟨rfl, hx1⟩
    have X1 := X0.trans hx1
    clear B
    go_wp2_with fail
    go_quiet (fail)
    go_wp2_with fail
    go_ret2
    refine ⟨none, 0, vids, M, W.heap.size, by rw [hE.out]; rfl, ⟨HB.out.ext (X1.drewN _), by rw [hE.out], Chg.ext (X1.drewN _), fun g hg => .inl hg, Nat.le_refl _, ?_⟩⟩
    rw [hE.out]
    exact World.ownsRow_nil _ _ _ _
  obtain ⟨hc, hsome⟩ := may_seven h7
  have hi := (Ent.i64s hc).1
  have hF := BkM.find_b M e.id
  obtain ⟨p, hf⟩ : ∃ p, M.find e.id = some p := by
    cases hf : M.find e.id with
    | none => rw [hF, hf] at hsome; cases hsome
    | some p => exact ⟨p, rfl⟩
  rw [hf] at hF
  have hmem := (BkM.find_mem hf).1
  have hp0 : M.ptr e.id = .pointer (some ⟨p.2.g, 0, none⟩) := by unfold BkM.ptr; rw [hf]
  rw [h7] at hb1
  replace hb1 : ((7 : Int) != 0) = true := hb1
  by_cases hk : p.1.e.k = e.k
  case neg =>
    have hE := Lib.hid (show M.b.add e = (M.b, [], 7) by unfold Bk.add; rw [if_neg hm0, if_neg (fun h => by have h2 := h.2; rw [hF] at h2; exact hk (by simpa using h2)), h7])
    have hkb : (p.1.e.k == e.k) = false := by simpa using hk
    replace h7 := Lib.hid h7
    clear hm0 hk hF hf hsome hc
    go_enter Try.func42, Try.ntmps42
    go_wp2_with fail
    refine (bmay_any (HB.out.ext X0) e Aa At ca ct he.out).mono ?_
    rintro r w1 ⟨rfl, hx1⟩
    rw [h7.out]
    have X1 := X0.trans hx1
    have H1 := HB.out.ext X1
    obtain ⟨q, q'⟩ := (B.ext hx1).cells
    obtain ⟨q2, q2'⟩ := H1.blk.cells
    obtain ⟨q3, q3'⟩ := (H1.all p hmem).blk.cells
    have hl0 := H1.look e.id hi
    have hl := fun n => (H1.ext ((Ext.refl w1).drewN n)).look e.id hi
    rw [hp0] at hl0
    simp only [hp0] at hl
    clear B H1 hp0
    go_wp2_with fail
    go_quiet (fail)
    go_wp2_with fail
    go_ret2
    refine ⟨none, 0, vids, M, W.heap.size, by rw [hE.out]; rfl, ⟨HB.out.ext (X1.drewN _), by rw [hE.out], Chg.ext (X1.drewN _), fun g hg => .inl hg, Nat.le_refl _, ?_⟩⟩
    rw [hE.out]
    exact World.ownsRow_nil _ _ _ _
  have hE := Lib.hid (show M.b.add e = (M.b, M.b.lines e.id, 7) by unfold Bk.add; rw [if_neg hm0, if_pos ⟨h7, by rw [hF]; simpa using hk⟩])
  have hkb : (p.1.e.k == e.k) = true := by simpa using hk
  have hsl := lines_small hs e.id
  replace h7 := Lib.hid h7
  clear hm0 hk hF hf hsome hc
  go_enter Try.func42, Try.ntmps42
  go_wp2_with fail
  refine (bmay_any (HB.out.ext X0) e Aa At ca ct he.out).mono ?_
  rintro r w1 ⟨rfl, hx1⟩
  rw [h7.out]
  have X1 := X0.trans hx1
  have H1 := HB.out.ext X1
  have B1 := B.ext hx1
  obtain ⟨q, q'⟩ := B1.cells
  obtain ⟨q2, q2'⟩ := H1.blk.cells
  obtain ⟨q3, q3'⟩ := (H1.all p hmem).blk.cells
  have hl0 := H1.look e.id hi
  have hl := fun n => (H1.ext ((Ext.refl w1).drewN n)).look e.id hi
  rw [hp0] at hl0
  simp only [hp0] at hl
  replace H1 := Lib.hid H1
  clear B hp0 B1
  go_wp2_with fail
  go_quiet (fail)
  go_wp2_with fail
  refine (lines_any (H1.out.ext ((Ext.refl w1).drewN _)) e.id hi (by omega)).mono ?_
  rintro r w2 ⟨A, c, rfl, ho, hx2⟩
  go_wp2_with fail
  go_ret2
  have X2 := X1.trans (((Ext.refl w1).drewN _).trans hx2)
  refine ⟨A, c, vids, M, W.heap.size, by rw [hE.out]; rfl, ⟨HB.out.ext X2, by rw [hE.out], Chg.ext X2, fun g hg => .inl hg, Nat.le_refl _, ?_⟩⟩
  rw [hE.out]
  exact own_base ho X1.size
end Go.Proofs.Ytehkmngbknbbaaa

set_option linter.unusedVariables false
namespace Go.Proofs.Ytehkmngbknbbaaa
open Go.RowKit Go.Maps

theorem ld_ent {w : World} {g : Nat} {a b c d e f : Value} (h : Blk w g 66 #[a, b, c, d, e, f]) : (loadVar 66 ⟨g, 0, none⟩).run Try.prog w = .ok (.agg #[a, b, c, d, e, f]) w := by
  have q := h.cell
  simp [go_sem, q]
set_option maxRecDepth 100000 in
set_option maxHeartbeats 4000000 in
theorem entry_none {w0 W : World} {bb mb : Nat} {vids : Value} {M : BkM} (h : BookAt w0 W bb mb vids M) (id : Int) (hi : i64 id) (hf : M.find id = none) :
    Calls Try.prog 52 #[.pointer (some ⟨bb, 0, none⟩), .int .i64 id] W fun r W' => r = .returned (.tuple #[zeroEnt, .bool false]) ∧ Ext W W' := by
  have X0 := (Ext.refl W).alloc (.cells #[.int .i64 0, .int .i64 0, .int .i64 0, .int .i64 0, .slice none 0 0, .slice none 0 0] 66)
  have B0 := Blk.new W 66 #[.int .i64 0, .int .i64 0, .int .i64 0, .int .i64 0, .slice none 0 0, .slice none 0 0]
  have HB := Lib.hid (h.ext X0)
  have hl := HB.out.look id hi
  have hp0 : M.ptr id = .pointer none := by unfold BkM.ptr; rw [hf]
  rw [hp0] at hl
  obtain ⟨q, q'⟩ := HB.out.blk.cells
  clear h hf hp0
  go_enter Try.func52, Try.ntmps52
  go_wp2_with fail
  refine (none_any HB.out).mono ?_
  rintro r w' ⟨rfl, rfl⟩
  go_wp2_with fail
  exact bodyPost_ret (results_ct rfl rfl (ld_ent B0)) rfl ⟨rfl, X0⟩

/-- What Entry leaves. -/
structure EntOut (W W' : World) (e : Ent) (A A' : Option Addr) (c c' : Nat) : Prop where
  oa : W'.ownsRow W.heap.size 3 1 (.slice A e.am.length c) e.am.length (iV e.am)
  ot : W'.ownsRow W.heap.size 46 6 (.slice A' e.tax.length c') e.tax.length (txCells e.tax)
  ext : Ext W W'
theorem EntOut.toR {W W' : World} {e : Ent} {A A' : Option Addr} {c c' : Nat} (h : EntOut W W' e A A' c c') : EntR W' e A A' := by
  obtain ⟨A1, c1, e1, l1, l2, r1⟩ := own_slice h.oa
  obtain ⟨A2, c2, e2, m1, m2, r2⟩ := own_slice h.ot
  injection e1 with e1 _ _
  injection e2 with e2 _ _
  subst e1 e2
  exact ⟨r1, r2, by omega, by omega⟩
theorem put6' {w : World} {g : Nat} {t : TypeId} {a b c d e f a' b' c' d' e' f' : Value} (h : Blk w g t #[a', b', c', d', e', f']) : Blk ((((((w.setCell ⟨g, 0, none⟩ a).setCell ⟨g, 1, none⟩ b).setCell ⟨g, 2, none⟩ c).setCell ⟨g, 3, none⟩ d).setCell ⟨g, 4, none⟩ e).setCell ⟨g, 5, none⟩ f) g t #[a, b, c, d, e, f] :=
  (((((h.set_ 0 a).set_ 1 b).set_ 2 c).set_ 3 d).set_ 4 e).set_ 5 f
theorem own_put6 {w : World} {g : Nat} {base s n : Nat} {t : TypeId} {v : Value} {xs : List Value} (h : w.ownsRow base t s v n xs) (hg : v.ownBlock ≠ some g) (a b c d e f : Value) : ((((((w.setCell ⟨g, 0, none⟩ a).setCell ⟨g, 1, none⟩ b).setCell ⟨g, 2, none⟩ c).setCell ⟨g, 3, none⟩ d).setCell ⟨g, 4, none⟩ e).setCell ⟨g, 5, none⟩ f).ownsRow base t s v n xs :=
  own_set (own_set (own_set (own_set (own_set (own_set h (a := ⟨g, 0, none⟩) hg a) (a := ⟨g, 1, none⟩) hg b) (a := ⟨g, 2, none⟩) hg c) (a := ⟨g, 3, none⟩) hg d) (a := ⟨g, 4, none⟩) hg e) (a := ⟨g, 5, none⟩) hg f
set_option maxRecDepth 100000 in
set_option maxHeartbeats 8000000 in
theorem entry_some {w0 W : World} {bb mb : Nat} {vids : Value} {M : BkM} (h : BookAt w0 W bb mb vids M) (id : Int) (hi : i64 id) {p : Kp × Slot} (hf : M.find id = some p) :
    Calls Try.prog 52 #[.pointer (some ⟨bb, 0, none⟩), .int .i64 id] W fun r W' => ∃ A A' c c', r = .returned (.tuple #[entV p.1.e A A' c c', .bool true]) ∧ EntOut W W' p.1.e A A' c c' := by
  have X0 := (Ext.refl W).alloc (.cells #[.int .i64 0, .int .i64 0, .int .i64 0, .int .i64 0, .slice none 0 0, .slice none 0 0] 66)
  have B0 := Blk.new W 66 #[.int .i64 0, .int .i64 0, .int .i64 0, .int .i64 0, .slice none 0 0, .slice none 0 0]
  have HB := Lib.hid (h.ext X0)
  have hl := HB.out.look id hi
  have hp0 : M.ptr id = .pointer (some ⟨p.2.g, 0, none⟩) := by unfold BkM.ptr; rw [hf]
  rw [hp0] at hl
  obtain ⟨q, q'⟩ := HB.out.blk.cells
  have hmem := (BkM.find_mem hf).1
  have hck := check_am (h.ok p hmem).chk
  obtain ⟨Aa, At, Al, Ab, ca, ct, cl, cb, O⟩ := (HB.out.all p hmem).open_
  obtain ⟨k, k'⟩ := O.blk.cells
  have hra := Lib.hid O.ra
  have hrt := Lib.hid O.rt
  have lg := O.blk.lt
  clear h hf hp0
  go_enter Try.func52, Try.ntmps52
  go_wp2_with fail
  refine (none_any HB.out).mono ?_
  rintro r w' ⟨rfl, rfl⟩
  go_wp2_with fail
  clear q q' k k' O hl
  have hsz : (W.alloc (.cells #[.int .i64 0, .int .i64 0, .int .i64 0, .int .i64 0, .slice none 0 0, .slice none 0 0] 66)).heap.size = W.heap.size + 1 := by simp
  generalize W.alloc (.cells #[.int .i64 0, .int .i64 0, .int .i64 0, .int .i64 0, .slice none 0 0, .slice none 0 0] 66) = W1 at *
  have B1 := Blk.new W1 66 #[.int .i64 p.1.e.k, .int .i64 p.1.e.id, .int .i64 p.1.e.of_, .int .i64 p.1.e.day, .slice Aa p.1.e.am.length ca, .slice At p.1.e.tax.length ct]
  have X1 := (Ext.refl W1).alloc (.cells #[.int .i64 p.1.e.k, .int .i64 p.1.e.id, .int .i64 p.1.e.of_, .int .i64 p.1.e.day, .slice Aa p.1.e.am.length ca, .slice At p.1.e.tax.length ct] 66)
  have B01 := B0.ext X1
  replace hra := Lib.hid (hra.out.ext X1)
  replace hrt := Lib.hid (hrt.out.ext X1)
  replace X1 := X0.trans X1
  obtain ⟨g0, hg0⟩ : ∃ g0, W.heap.size = g0 := ⟨_, rfl⟩
  obtain ⟨g6, hg6⟩ : ∃ g6, W.heap.size + 1 = g6 := ⟨_, rfl⟩
  have h06 : g0 < g6 := by omega
  rw [hsz, hg6] at B1
  rw [hg6]
  rw [hg0] at B01 ⊢
  have hg6' : W.heap.size ≤ g6 := by omega
  have hg0' : W.heap.size ≤ g0 := by omega
  clear X0 B0 HB hg6 lg hsz
  replace hg0 := Lib.hid hg0
  generalize W1.alloc (.cells #[.int .i64 p.1.e.k, .int .i64 p.1.e.id, .int .i64 p.1.e.of_, .int .i64 p.1.e.day, .slice Aa p.1.e.am.length ca, .slice At p.1.e.tax.length ct] 66) = w1 at *
  obtain ⟨q, q'⟩ := B1.cells
  have lg := B1.lt
  have HB3 := Lib.hid (fun W2 (h : Ext w1 W2) => (B1.ext h).cells)
  have HBB := Lib.hid (And.intro B1 B01)
  clear B1 B01
  go_region_law (first
    | (go_simp; go_at_call 90; refine (cloneInts_any p.1.e.am p.1.e.am.length Aa ca _ rfl (hra.out.ext (Ext.refl w1).drew) (by omega)).mono ?_; rintro r w2 ⟨A2, c2, rfl, ho2, hx2⟩; have X2 : Ext w1 w2 := (Ext.refl w1).drew.trans hx2; obtain ⟨q2, q2'⟩ := HB3.out _ X2)
    | (go_simp; go_at_call 91; refine (cloneTax_any p.1.e.tax p.1.e.tax.length At ct _ rfl (hrt.out.ext X2) (by omega)).mono ?_; rintro r w3 ⟨A3, c3, rfl, ho3, hx3⟩; have X3 : Ext w1 w3 := X2.trans hx3; obtain ⟨q3, q3'⟩ := HB3.out _ X3))
  all_goals
    obtain ⟨B1, B01⟩ := HBB.out
    have B5 := ((B1.ext X3).set_ 4 (.slice A2 p.1.e.am.length c2)).set_ 5 (.slice A3 p.1.e.tax.length c3)
    have B05 := ((B01.ext X3).far (p := ⟨g6, 4, none⟩) (show g0 ≠ g6 by omega) (.slice A2 p.1.e.am.length c2)).far (p := ⟨g6, 5, none⟩) (show g0 ≠ g6 by omega) (.slice A3 p.1.e.tax.length c3)
    have o2 := own_ext ho2 hx3
    have n2 := own_blk_ne o2 (B1.ext X3) (by decide)
    have n3 := own_blk_ne ho3 (B1.ext X3) (by decide)
    have oo2 := Lib.hid (own_set (own_set o2 (a := ⟨g6, 4, none⟩) n2 (.slice A2 p.1.e.am.length c2)) (a := ⟨g6, 5, none⟩) n2 (.slice A3 p.1.e.tax.length c3))
    have oo3 := Lib.hid (own_set (own_set ho3 (a := ⟨g6, 4, none⟩) n3 (.slice A2 p.1.e.am.length c2)) (a := ⟨g6, 5, none⟩) n3 (.slice A3 p.1.e.tax.length c3))
    have X5 := ((X1.trans X3).set (p := ⟨g6, 4, none⟩) hg6' (.slice A2 p.1.e.am.length c2)).set (p := ⟨g6, 5, none⟩) hg6' (.slice A3 p.1.e.tax.length c3)
    have hs1 : W.heap.size ≤ w1.heap.size := X1.size
    have hs2 : W.heap.size ≤ w2.heap.size := (X1.trans X2).size
    clear q q' q2 q2' q3 q3' ho2 ho3 o2 n2 n3 B1 B01 HB3
    generalize (w3.setCell ⟨g6, 4, none⟩ (.slice A2 p.1.e.am.length c2)).setCell ⟨g6, 5, none⟩ (.slice A3 p.1.e.tax.length c3) = w5 at *
    obtain ⟨q5, q5'⟩ := B5.cells
    obtain ⟨q0, q0'⟩ := B05.cells
    have n4 := own_blk_ne oo2.out B05 (by decide)
    have n5 := own_blk_ne oo3.out B05 (by decide)
    go_wp2_with fail
    exact bodyPost_ret (results_ct rfl rfl (ld_ent (put6' B05))) rfl ⟨A2, A3, c2, c3, rfl, own_base (own_put6 oo2.out n4 _ _ _ _ _ _) hs1, own_base (own_put6 oo3.out n5 _ _ _ _ _ _) hs2, set6' X5 hg0' _ _ _ _ _ _⟩
end Go.Proofs.Ytehkmngbknbbaaa
