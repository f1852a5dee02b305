/-
  (*book.Book).Entry.
-/
import Derived.Test.YtehkmngbknbbaaaEr
set_option linter.unusedVariables false
namespace Go.Proofs.Ytehkmngbknbbaaa
open Go.RowKit Go.Maps

theorem ld_ent {w : World} {g : Nat} {a b c d e f : Value} (h : Blk w g 66 #[a, b, c, d, e, f]) : (loadVar 66 ⟨g, 0, none⟩).run Try.prog w = .ok (.agg #[a, b, c, d, e, f]) w := by
  have q := h.cell
  simp [go_sem, q]
set_option maxRecDepth 100000 in
set_option maxHeartbeats 4000000 in
theorem entry_none {w0 W : World} {bb mb : Nat} {vids : Value} {M : BkM} (h : BookAt w0 W bb mb vids M) (id : Int) (hi : i64 id) (hf : M.find id = none) :
    Calls Try.prog 52 #[.pointer (some ⟨bb, 0, none⟩), .int .i64 id] W fun r W' => r = .returned (.tuple #[zeroEnt, .bool false]) ∧ Ext W W' := by
  have X0 := (Ext.refl W).alloc (.cells #[.int .i64 0, .int .i64 0, .int .i64 0, .int .i64 0, .slice none 0 0, .slice none 0 0] 66)
  have B0 := Blk.new W 66 #[.int .i64 0, .int .i64 0, .int .i64 0, .int .i64 0, .slice none 0 0, .slice none 0 0]
  have HB := Lib.hid (h.ext X0)
  have hl := HB.out.look id hi
  have hp0 : M.ptr id = .pointer none := by unfold BkM.ptr; rw [hf]
  rw [hp0] at hl
  obtain ⟨q, q'⟩ := HB.out.blk.cells
  clear h hf hp0
  go_enter Try.func52, Try.ntmps52
  go_wp2_with fail
  refine (none_any HB.out).mono ?_
  rintro r w' ⟨rfl, rfl⟩
  go_wp2_with fail
  exact bodyPost_ret (results_ct rfl rfl (ld_ent B0)) rfl ⟨rfl, X0⟩

/-- What Entry leaves. -/
structure EntOut (W W' : World) (e : Ent) (A A' : Option Addr) (c c' : Nat) : Prop where
  oa : W'.ownsRow W.heap.size 3 1 (.slice A e.am.length c) e.am.length (iV e.am)
  ot : W'.ownsRow W.heap.size 46 6 (.slice A' e.tax.length c') e.tax.length (txCells e.tax)
  ext : Ext W W'
theorem EntOut.toR {W W' : World} {e : Ent} {A A' : Option Addr} {c c' : Nat} (h : EntOut W W' e A A' c c') : EntR W' e A A' := by
  obtain ⟨A1, c1, e1, l1, l2, r1⟩ := own_slice h.oa
  obtain ⟨A2, c2, e2, m1, m2, r2⟩ := own_slice h.ot
  injection e1 with e1 _ _
  injection e2 with e2 _ _
  subst e1 e2
  exact ⟨r1, r2, by omega, by omega⟩
theorem put6' {w : World} {g : Nat} {t : TypeId} {a b c d e f a' b' c' d' e' f' : Value} (h : Blk w g t #[a', b', c', d', e', f']) : Blk ((((((w.setCell ⟨g, 0, none⟩ a).setCell ⟨g, 1, none⟩ b).setCell ⟨g, 2, none⟩ c).setCell ⟨g, 3, none⟩ d).setCell ⟨g, 4, none⟩ e).setCell ⟨g, 5, none⟩ f) g t #[a, b, c, d, e, f] :=
  (((((h.set_ 0 a).set_ 1 b).set_ 2 c).set_ 3 d).set_ 4 e).set_ 5 f
theorem own_put6 {w : World} {g : Nat} {base s n : Nat} {t : TypeId} {v : Value} {xs : List Value} (h : w.ownsRow base t s v n xs) (hg : v.ownBlock ≠ some g) (a b c d e f : Value) : ((((((w.setCell ⟨g, 0, none⟩ a).setCell ⟨g, 1, none⟩ b).setCell ⟨g, 2, none⟩ c).setCell ⟨g, 3, none⟩ d).setCell ⟨g, 4, none⟩ e).setCell ⟨g, 5, none⟩ f).ownsRow base t s v n xs :=
  own_set (own_set (own_set (own_set (own_set (own_set h (a := ⟨g, 0, none⟩) hg a) (a := ⟨g, 1, none⟩) hg b) (a := ⟨g, 2, none⟩) hg c) (a := ⟨g, 3, none⟩) hg d) (a := ⟨g, 4, none⟩) hg e) (a := ⟨g, 5, none⟩) hg f
set_option maxRecDepth 100000 in
set_option maxHeartbeats 8000000 in
theorem entry_some {w0 W : World} {bb mb : Nat} {vids : Value} {M : BkM} (h : BookAt w0 W bb mb vids M) (id : Int) (hi : i64 id) {p : Kp × Slot} (hf : M.find id = some p) :
    Calls Try.prog 52 #[.pointer (some ⟨bb, 0, none⟩), .int .i64 id] W fun r W' => ∃ A A' c c', r = .returned (.tuple #[entV p.1.e A A' c c', .bool true]) ∧ EntOut W W' p.1.e A A' c c' := by
  have X0 := (Ext.refl W).alloc (.cells #[.int .i64 0, .int .i64 0, .int .i64 0, .int .i64 0, .slice none 0 0, .slice none 0 0] 66)
  have B0 := Blk.new W 66 #[.int .i64 0, .int .i64 0, .int .i64 0, .int .i64 0, .slice none 0 0, .slice none 0 0]
  have HB := Lib.hid (h.ext X0)
  have hl := HB.out.look id hi
  have hp0 : M.ptr id = .pointer (some ⟨p.2.g, 0, none⟩) := by unfold BkM.ptr; rw [hf]
  rw [hp0] at hl
  obtain ⟨q, q'⟩ := HB.out.blk.cells
  have hmem := (BkM.find_mem hf).1
  have hck := check_am (h.ok p hmem).chk
  obtain ⟨Aa, At, Al, Ab, ca, ct, cl, cb, O⟩ := (HB.out.all p hmem).open_
  obtain ⟨k, k'⟩ := O.blk.cells
  have hra := Lib.hid O.ra
  have hrt := Lib.hid O.rt
  have lg := O.blk.lt
  clear h hf hp0
  go_enter Try.func52, Try.ntmps52
  go_wp2_with fail
  refine (none_any HB.out).mono ?_
  rintro r w' ⟨rfl, rfl⟩
  go_wp2_with fail
  clear q q' k k' O hl
  have hsz : (W.alloc (.cells #[.int .i64 0, .int .i64 0, .int .i64 0, .int .i64 0, .slice none 0 0, .slice none 0 0] 66)).heap.size = W.heap.size + 1 := by simp
  generalize W.alloc (.cells #[.int .i64 0, .int .i64 0, .int .i64 0, .int .i64 0, .slice none 0 0, .slice none 0 0] 66) = W1 at *
  have B1 := Blk.new W1 66 #[.int .i64 p.1.e.k, .int .i64 p.1.e.id, .int .i64 p.1.e.of_, .int .i64 p.1.e.day, .slice Aa p.1.e.am.length ca, .slice At p.1.e.tax.length ct]
  have X1 := (Ext.refl W1).alloc (.cells #[.int .i64 p.1.e.k, .int .i64 p.1.e.id, .int .i64 p.1.e.of_, .int .i64 p.1.e.day, .slice Aa p.1.e.am.length ca, .slice At p.1.e.tax.length ct] 66)
  have B01 := B0.ext X1
  replace hra := Lib.hid (hra.out.ext X1)
  replace hrt := Lib.hid (hrt.out.ext X1)
  replace X1 := X0.trans X1
  obtain ⟨g0, hg0⟩ : ∃ g0, W.heap.size = g0 := ⟨_, rfl⟩
  obtain ⟨g6, hg6⟩ : ∃ g6, W.heap.size + 1 = g6 := ⟨_, rfl⟩
  have h06 : g0 < g6 := by omega
  rw [hsz, hg6] at B1
  rw [hg6]
  rw [hg0] at B01 ⊢
  have hg6' : W.heap.size ≤ g6 := by omega
  have hg0' : W.heap.size ≤ g0 := by omega
  clear X0 B0 HB hg6 lg hsz
  replace hg0 := Lib.hid hg0
  generalize W1.alloc (.cells #[.int .i64 p.1.e.k, .int .i64 p.1.e.id, .int .i64 p.1.e.of_, .int .i64 p.1.e.day, .slice Aa p.1.e.am.length ca, .slice At p.1.e.tax.length ct] 66) = w1 at *
  obtain ⟨q, q'⟩ := B1.cells
  have lg := B1.lt
  have HB3 := Lib.hid (fun W2 (h : Ext w1 W2) => (B1.ext h).cells)
  have HBB := Lib.hid (And.intro B1 B01)
  clear B1 B01
  go_region_law (first
    | (go_simp; go_at_call 90; refine (cloneInts_any p.1.e.am p.1.e.am.length Aa ca _ rfl (hra.out.ext (Ext.refl w1).drew) (by omega)).mono ?_; rintro r w2 ⟨A2, c2, rfl, ho2, hx2⟩; have X2 : Ext w1 w2 := (Ext.refl w1).drew.trans hx2; obtain ⟨q2, q2'⟩ := HB3.out _ X2)
    | (go_simp; go_at_call 91; refine (cloneTax_any p.1.e.tax p.1.e.tax.length At ct _ rfl (hrt.out.ext X2) (by omega)).mono ?_; rintro r w3 ⟨A3, c3, rfl, ho3, hx3⟩; have X3 : Ext w1 w3 := X2.trans hx3; obtain ⟨q3, q3'⟩ := HB3.out _ X3))
  all_goals
    obtain ⟨B1, B01⟩ := HBB.out
    have B5 := ((B1.ext X3).set_ 4 (.slice A2 p.1.e.am.length c2)).set_ 5 (.slice A3 p.1.e.tax.length c3)
    have B05 := ((B01.ext X3).far (p := ⟨g6, 4, none⟩) (show g0 ≠ g6 by omega) (.slice A2 p.1.e.am.length c2)).far (p := ⟨g6, 5, none⟩) (show g0 ≠ g6 by omega) (.slice A3 p.1.e.tax.length c3)
    have o2 := own_ext ho2 hx3
    have n2 := own_blk_ne o2 (B1.ext X3) (by decide)
    have n3 := own_blk_ne ho3 (B1.ext X3) (by decide)
    have oo2 := Lib.hid (own_set (own_set o2 (a := ⟨g6, 4, none⟩) n2 (.slice A2 p.1.e.am.length c2)) (a := ⟨g6, 5, none⟩) n2 (.slice A3 p.1.e.tax.length c3))
    have oo3 := Lib.hid (own_set (own_set ho3 (a := ⟨g6, 4, none⟩) n3 (.slice A2 p.1.e.am.length c2)) (a := ⟨g6, 5, none⟩) n3 (.slice A3 p.1.e.tax.length c3))
    have X5 := ((X1.trans X3).set (p := ⟨g6, 4, none⟩) hg6' (.slice A2 p.1.e.am.length c2)).set (p := ⟨g6, 5, none⟩) hg6' (.slice A3 p.1.e.tax.length c3)
    have hs1 : W.heap.size ≤ w1.heap.size := X1.size
    have hs2 : W.heap.size ≤ w2.heap.size := (X1.trans X2).size
    clear q q' q2 q2' q3 q3' ho2 ho3 o2 n2 n3 B1 B01 HB3
    generalize (w3.setCell ⟨g6, 4, none⟩ (.slice A2 p.1.e.am.length c2)).setCell ⟨g6, 5, none⟩ (.slice A3 p.1.e.tax.length c3) = w5 at *
    obtain ⟨q5, q5'⟩ := B5.cells
    obtain ⟨q0, q0'⟩ := B05.cells
    have n4 := own_blk_ne oo2.out B05 (by decide)
    have n5 := own_blk_ne oo3.out B05 (by decide)
    go_wp2_with fail
    exact bodyPost_ret (results_ct rfl rfl (ld_ent (put6' B05))) rfl ⟨A2, A3, c2, c3, rfl, own_base (own_put6 oo2.out n4 _ _ _ _ _ _) hs1, own_base (own_put6 oo3.out n5 _ _ _ _ _ _) hs2, set6' X5 hg0' _ _ _ _ _ _⟩
end Go.Proofs.Ytehkmngbknbbaaa
