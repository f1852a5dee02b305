/-
  A book that is none, or that New did not make.
-/
import Derived.Test.YtokakpbpenndlaaDoorRp29
import Derived.Test.YtokakpbpenndlaaDoorRp34
import Derived.Test.YtokakpbpenndlaaDoorRp36
import Derived.Test.YtokakpbpenndlaaDoorRp38
set_option linter.unusedVariables false
namespace Go.Proofs.YtokakpbpenndlaaDoor
open Go.RowKit Go.Maps

/-- No book. -/
def NoneB (W : World) (v : Value) : Prop := v = .pointer none ∨ ∃ g, v = .pointer (some ⟨g, 0, none⟩) ∧ Blk W g 46 #[.slice none 0 0, .map none]
theorem NoneB.ext {W W' : World} {v : Value} (h : NoneB W v) (hx : Ext W W') : NoneB W' v := by
  rcases h with h | ⟨g, h1, h2⟩
  · exact .inl h
  · exact .inr ⟨g, h1, h2.ext hx⟩
set_option maxRecDepth 100000 in
set_option maxHeartbeats 1000000 in
theorem none_n {W : World} {v : Value} (h : NoneB W v) : Calls Tryd.prog 32 #[v] W fun r w' => r = .returned (.bool true) ∧ W = w' := by
  rcases h with rfl | ⟨g, rfl, hb⟩
  · go_enter Tryd.func32, Tryd.ntmps32
    go_wp2_with fail
    go_ret
    exact ⟨rfl, rfl⟩
  · obtain ⟨q, q'⟩ := hb.cells
    clear hb
    have hm := fun W : World => run_eql_map_nil (P := Tryd.prog) W 44 3 50 none Tryd.underlying44
    go_enter Tryd.func32, Tryd.ntmps32
    go_wp2_with fail
    go_ret
    exact ⟨rfl, rfl⟩
set_option maxRecDepth 100000 in
theorem sale_n {W : World} {v : Value} (h : NoneB W v) (id : Int) : Calls Tryd.prog 18 #[v, .int .i64 id] W fun r w' => r = .returned (.pointer none) ∧ W = w' := by
  have H := Lib.hid h
  clear h
  go_enter Tryd.func18, Tryd.ntmps18
  go_wp2_with fail
  refine (none_n H.out).mono ?_
  rintro r w' ⟨rfl, rfl⟩
  go_wp2_with fail
  go_ret
  exact ⟨rfl, rfl⟩
set_option maxRecDepth 100000 in
theorem lines_n {W : World} {v : Value} (h : NoneB W v) (id : Int) : Calls Tryd.prog 13 #[v, .int .i64 id] W fun r w' => r = .returned (.slice none 0 0) ∧ W = w' := by
  have H := Lib.hid h
  clear h
  go_enter Tryd.func13, Tryd.ntmps13
  go_wp2_with fail
  refine (none_n H.out).mono ?_
  rintro r w' ⟨rfl, rfl⟩
  go_wp2_with fail
  go_ret
  exact ⟨rfl, rfl⟩
set_option maxRecDepth 100000 in
theorem moves_n {W : World} {v : Value} (h : NoneB W v) (id : Int) : Calls Tryd.prog 23 #[v, .int .i64 id] W fun r w' => r = .returned (.slice none 0 0) ∧ W = w' := by
  have H := Lib.hid h
  clear h
  go_enter Tryd.func23, Tryd.ntmps23
  go_wp2_with fail
  refine (none_n H.out).mono ?_
  rintro r w' ⟨rfl, rfl⟩
  go_wp2_with fail
  go_ret
  exact ⟨rfl, rfl⟩
set_option maxRecDepth 100000 in
set_option maxHeartbeats 1000000 in
theorem may_n {W : World} {v : Value} (h : NoneB W v) (e : Ent) (Aa At : Option Addr) (ca ct : Nat) : Calls Tryd.prog 12 #[v, entV e Aa At ca ct] W fun r w' => r = .returned (.int .i64 1) ∧ Ext W w' := by
  have X0 := (Ext.refl W).alloc (.cells #[.int .i64 e.k, .int .i64 e.id, .int .i64 e.of_, .int .i64 e.day, .slice Aa e.am.length ca, .slice At e.tax.length ct] 30)
  have H := Lib.hid (h.ext X0)
  clear h
  go_enter Tryd.func12, Tryd.ntmps12
  go_wp2_with fail
  refine (none_n H.out).mono ?_
  rintro r w' ⟨rfl, rfl⟩
  go_wp2_with fail
  go_ret
  exact ⟨rfl, X0⟩
set_option maxRecDepth 100000 in
set_option maxHeartbeats 1000000 in
theorem add_n {W : World} {v : Value} (h : NoneB W v) (e : Ent) (Aa At : Option Addr) (ca ct : Nat) : Calls Tryd.prog 6 #[v, entV e Aa At ca ct] W fun r w' => r = .returned (.tuple #[.slice none 0 0, .int .i64 1]) ∧ Ext W w' := by
  have X0 := (Ext.refl W).alloc (.cells #[.int .i64 e.k, .int .i64 e.id, .int .i64 e.of_, .int .i64 e.day, .slice Aa e.am.length ca, .slice At e.tax.length ct] 30)
  have H := Lib.hid (h.ext X0)
  clear h
  go_enter Tryd.func6, Tryd.ntmps6
  go_wp2_with fail
  refine (may_n H.out e Aa At ca ct).mono ?_
  rintro r w1 ⟨rfl, hx1⟩
  go_wp2_with fail
  go_quiet (fail)
  go_wp2_with fail
  go_ret2
  exact ⟨rfl, X0.trans (hx1.drewN _)⟩
end Go.Proofs.YtokakpbpenndlaaDoor

set_option linter.unusedVariables false
namespace Go.Proofs.YtokakpbpenndlaaDoor
open Go.RowKit Go.Maps

theorem zero_check : Ent.zero.check = 5 := by decide
theorem rnone_any {w0 W : World} {bb mb : Nat} {vids : Value} {M : BkM} (h : BookAt w0 W bb mb vids M) : Calls Tryd.prog 19 #[.pointer (some ⟨bb, 0, none⟩)] W fun e w' => e = .returned (.bool false) ∧ Ext W w' := by
  have hm : M.b.may Ent.zero = 5 := by unfold Bk.may; rw [if_pos (by rw [zero_check]; decide)]; exact zero_check
  have HB := Lib.hid (bmay_any h Ent.zero none none 0 0 ⟨Reads.none_, Reads.none_, by simp [Ent.zero, maxLen], by simp [Ent.zero, maxLen]⟩)
  rw [hm] at HB
  clear h hm
  go_enter Tryd.func19, Tryd.ntmps19
  go_wp2_with fail
  refine HB.out.mono ?_
  rintro e w1 ⟨rfl, hx⟩
  go_wp2_with fail
  go_ret
  exact ⟨rfl, hx⟩
theorem rnone_n {W : World} {v : Value} (h : NoneB W v) : Calls Tryd.prog 19 #[v] W fun e w' => e = .returned (.bool true) ∧ Ext W w' := by
  have HB := Lib.hid (may_n h Ent.zero none none 0 0)
  clear h
  go_enter Tryd.func19, Tryd.ntmps19
  go_wp2_with fail
  refine HB.out.mono ?_
  rintro e w1 ⟨rfl, hx⟩
  go_wp2_with fail
  go_ret
  exact ⟨rfl, hx⟩
def Rep.cs (r : Rep) : Array Value := #[.int .i64 r.j, .int .i64 r.k, .int .i64 r.p, .int .i64 r.t, .int .i64 r.x, .int .i64 r.v, .int .i64 r.s, .int .i64 r.r]
abbrev Rep.V (r : Rep) : Value := .agg #[.int .i64 r.j, .int .i64 r.k, .int .i64 r.p, .int .i64 r.t, .int .i64 r.x, .int .i64 r.v, .int .i64 r.s, .int .i64 r.r]
theorem ld_rep {w : World} {g : Nat} {a b c d e f i j : Value} (h : Blk w g 35 #[a, b, c, d, e, f, i, j]) : (loadVar 35 ⟨g, 0, none⟩).run Tryd.prog w = .ok (.agg #[a, b, c, d, e, f, i, j]) w := by
  have q := h.cell
  simp [go_sem, q]
theorem put8 {w : World} {g : Nat} {t : TypeId} {a b c d e f i j a' b' c' d' e' f' i' j' : Value} (h : Blk w g t #[a, b, c, d, e, f, i, j]) :
    Blk ((((((((w.setCell ⟨g, 0, none⟩ a').setCell ⟨g, 1, none⟩ b').setCell ⟨g, 2, none⟩ c').setCell ⟨g, 3, none⟩ d').setCell ⟨g, 4, none⟩ e').setCell ⟨g, 5, none⟩ f').setCell ⟨g, 6, none⟩ i').setCell ⟨g, 7, none⟩ j') g t #[a', b', c', d', e', f', i', j'] := by
  have := (((((((h.set_ 0 a').set_ 1 b').set_ 2 c').set_ 3 d').set_ 4 e').set_ 5 f').set_ 6 i').set_ 7 j'
  simpa using this
theorem ext8 {a w : World} {g : Nat} (hx : Ext a w) (hg : a.heap.size ≤ g) (v0 v1 v2 v3 v4 v5 v6 v7 : Value) :
    Ext a ((((((((w.setCell ⟨g, 0, none⟩ v0).setCell ⟨g, 1, none⟩ v1).setCell ⟨g, 2, none⟩ v2).setCell ⟨g, 3, none⟩ v3).setCell ⟨g, 4, none⟩ v4).setCell ⟨g, 5, none⟩ v5).setCell ⟨g, 6, none⟩ v6).setCell ⟨g, 7, none⟩ v7) :=
  (((((((hx.set (p := ⟨g, 0, none⟩) hg _).set (p := ⟨g, 1, none⟩) hg _).set (p := ⟨g, 2, none⟩) hg _).set (p := ⟨g, 3, none⟩) hg _).set (p := ⟨g, 4, none⟩) hg _).set (p := ⟨g, 5, none⟩) hg _).set (p := ⟨g, 6, none⟩) hg _).set (p := ⟨g, 7, none⟩) hg _
abbrev zRep : Array Value := #[.int .i64 0, .int .i64 0, .int .i64 0, .int .i64 0, .int .i64 0, .int .i64 0, .int .i64 0, .int .i64 0]
/-- Of no book. -/
theorem rfile_n {W : World} {v : Value} (h : NoneB W v) (L : Value) (id p : Int) : Calls Tryd.prog 7 #[v, L, .int .i64 id, .int .i64 p] W fun e w' => e = .returned (.tuple #[Rep.zero.V, .int .i64 1]) ∧ Ext W w' := by
  have X0 := (Ext.refl W).alloc (.cells #[.int .i64 0, .int .i64 0, .int .i64 0, .int .i64 0, .int .i64 0, .int .i64 0, .int .i64 0, .int .i64 0] 35)
  have B0 := Blk.new W 35 #[.int .i64 0, .int .i64 0, .int .i64 0, .int .i64 0, .int .i64 0, .int .i64 0, .int .i64 0, .int .i64 0]
  have HN := Lib.hid (rnone_n (h.ext X0))
  clear h
  go_enter Tryd.func7, Tryd.ntmps7
  go_wp2_with fail
  refine HN.out.mono ?_
  rintro e w1 ⟨rfl, hx⟩
  have B1 := B0.ext hx
  obtain ⟨q, q'⟩ := B1.cells
  go_wp2_with fail
  exact bodyPost_ret (results_ct rfl rfl (ld_rep (put8 B1))) rfl ⟨rfl, ext8 (X0.trans hx) (Nat.le_refl _) _ _ _ _ _ _ _ _⟩

/-- How the world stands in File's loops. -/
structure FlAt (W : World) (g8 g12 g16 g17 : Nat) (x : JV) (R : Array Value) (T X V : Int) (wr : World) : Prop where
  b8 : Blk wr g8 35 zRep
  b12 : Blk wr g12 70 #[.int .i64 x.j.id, .int .i64 x.j.k, .int .i64 x.j.par, .int .i64 x.j.f, .slice x.A x.n x.c]
  b16 : Blk wr g16 35 R
  b17 : Blk wr g17 78 #[.int .u64 (hiI T), .int .u64 (loI T), .int .u64 (hiI X), .int .u64 (loI X), .int .u64 (hiI V), .int .u64 (loI V)]
  ne : g8 ≠ g16
  ext : Ext W wr
  l8 : W.heap.size ≤ g8
  l16 : W.heap.size ≤ g16
  l17 : W.heap.size ≤ g17
theorem FlAt.to {W wr w' : World} {g8 g12 g16 g17 : Nat} {x : JV} {R : Array Value} {T X V : Int} (h : FlAt W g8 g12 g16 g17 x R T X V wr) (hx : Ext wr w') : FlAt W g8 g12 g16 g17 x R T X V w' :=
  ⟨h.b8.ext hx, h.b12.ext hx, h.b16.ext hx, h.b17.ext hx, h.ne, h.ext.trans hx, h.l8, h.l16, h.l17⟩
theorem FlAt.put {W wr : World} {g8 g12 g16 g17 : Nat} {x : JV} {R : Array Value} {T X V : Int} (h : FlAt W g8 g12 g16 g17 x R T X V wr) (i : Nat) (u : Value) : FlAt W g8 g12 g16 g17 x (R.setIfInBounds i u) T X V (wr.setCell ⟨g16, i, none⟩ u) :=
  ⟨h.b8.far (p := ⟨g16, i, none⟩) h.ne _, h.b12.far (p := ⟨g16, i, none⟩) (h.b12.ne_ h.b16 (by decide)) _, h.b16.set_ i u, h.b17.far (p := ⟨g16, i, none⟩) (h.b17.ne_ h.b16 (by decide)) _, h.ne, h.ext.set (p := ⟨g16, i, none⟩) h.l16 _, h.l8, h.l16, h.l17⟩
theorem FlAt.sum {W wr : World} {g8 g12 g16 g17 : Nat} {x : JV} {R : Array Value} {T X V T' X' V' : Int} (h : FlAt W g8 g12 g16 g17 x R T X V wr) (o : Nat) (hi lo : Value)
    (he : ((#[.int .u64 (hiI T), .int .u64 (loI T), .int .u64 (hiI X), .int .u64 (loI X), .int .u64 (hiI V), .int .u64 (loI V)] : Array Value).setIfInBounds (o + 1) lo).setIfInBounds o hi = #[.int .u64 (hiI T'), .int .u64 (loI T'), .int .u64 (hiI X'), .int .u64 (loI X'), .int .u64 (hiI V'), .int .u64 (loI V')]) :
    FlAt W g8 g12 g16 g17 x R T' X' V' ((wr.setCell ⟨g17, o + 1, none⟩ lo).setCell ⟨g17, o, none⟩ hi) :=
  ⟨(h.b8.far (p := ⟨g17, o + 1, none⟩) (h.b8.ne_ h.b17 (by decide)) _).far (p := ⟨g17, o, none⟩) (h.b8.ne_ h.b17 (by decide)) _,
   (h.b12.far (p := ⟨g17, o + 1, none⟩) (h.b12.ne_ h.b17 (by decide)) _).far (p := ⟨g17, o, none⟩) (h.b12.ne_ h.b17 (by decide)) _,
   (h.b16.far (p := ⟨g17, o + 1, none⟩) (h.b16.ne_ h.b17 (by decide)) _).far (p := ⟨g17, o, none⟩) (h.b16.ne_ h.b17 (by decide)) _,
   by have := (h.b17.set_ (o + 1) lo).set_ o hi; rwa [he] at this, h.ne, (h.ext.set (p := ⟨g17, o + 1, none⟩) h.l17 _).set (p := ⟨g17, o, none⟩) h.l17 _, h.l8, h.l16, h.l17⟩
end Go.Proofs.YtokakpbpenndlaaDoor
