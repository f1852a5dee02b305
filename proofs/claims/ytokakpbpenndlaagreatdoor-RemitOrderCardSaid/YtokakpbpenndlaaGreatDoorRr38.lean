/-
  The program's reader: the walks.
-/
import Derived.Test.YtokakpbpenndlaaGreatDoorRr37
set_option linter.unusedVariables false
namespace Go.Proofs.YtokakpbpenndlaaGreatDoor
open Go.RowKit

/-- Block g is a reader of the program that stands as s. -/
structure RdO (w : World) (g : Nat) (s : RS) : Prop where
  ex : ∃ A cap, Blk w g 173 #[.slice A s.b.length cap, .int .i64 (s.at_ : Int), .int .i64 s.fe, .int .i64 (s.fa : Int), .bool true] ∧ Reads w g 1 A s.b.length (bV s.b) ∧ s.b.length ≤ cap ∧ cap ≤ maxLen
  ok : s.ok
theorem RdO.lt {w : World} {g : Nat} {s : RS} (h : RdO w g s) : g < w.heap.size := by obtain ⟨A, cap, hB, _⟩ := h.ex; exact hB.lt
theorem RdO.ext {w w' : World} {g : Nat} {s : RS} (h : RdO w g s) (hx : Ext w w') : RdO w' g s := by
  obtain ⟨A, cap, hB, hr, hc, hm⟩ := h.ex
  exact ⟨⟨A, cap, hB.ext hx, hr.extB (Nat.le_of_lt hB.lt) hx, hc, hm⟩, h.ok⟩

/-- The fault of a number that was read. -/
def RS.flt (s : RS) (lo hi above : Int) : Int × Nat :=
  if (getN s.b s.at_).fe ≠ 0 then ((getN s.b s.at_).fe, (getN s.b s.at_).fa) else if hi < (getN s.b s.at_).n then (above, s.at_) else if (getN s.b s.at_).n < lo then (5, s.at_) else (0, 0)

theorem oget_t (b : List UInt8) (A : Option Addr) (cap at_ : Nat) (w : World) (G : Got) (hG : Hid (getN b at_ = G)) (hr : Reads w w.heap.size 1 A b.length (bV b)) (hc : b.length ≤ cap) (hm : cap ≤ maxLen) (ha : at_ ≤ b.length) :
    Calls Tryz.prog 135 #[.slice A b.length cap, .int .i64 (at_ : Int)] w fun e w' => e = .returned (.tuple #[.int .i64 G.n, .int .i64 (G.next : Int), .agg #[.int .i64 G.fe, .int .i64 (G.fa : Int)]]) ∧ Ext w w' :=
  (oget_all b A cap at_ w hr hc hm ha).mono fun e w' ⟨h1, h2⟩ => ⟨by rw [h1, hG.out]; rfl, h2⟩
theorem rget_t (b : List UInt8) (A : Option Addr) (cap at_ : Nat) (w : World) (G : Got) (hG : Hid (getN b at_ = G)) (hr : Reads w w.heap.size 1 A b.length (bV b)) (hc : b.length ≤ cap) (hm : cap ≤ maxLen) (ha : at_ ≤ b.length) :
    Calls Tryz.prog 99 #[.slice A b.length cap, .int .i64 (at_ : Int)] w fun e w' => e = .returned (.tuple #[.int .i64 G.n, .int .i64 (G.next : Int), .agg #[.int .i64 G.fe, .int .i64 (G.fa : Int)]]) ∧ Ext w w' :=
  (rget_any b A cap at_ w hr hc hm ha).mono fun e w' ⟨h1, h2⟩ => ⟨by rw [h1, hG.out]; rfl, h2⟩

theorem al_some {w : World} {a : Addr} {v : Value} (h : w.cell? a = some v) (o : Obj) : (w.alloc o).cell? a = some v := (World.cell?_alloc_some w a o (by rw [h]; rfl)).trans h
theorem st_some {w : World} {a : Addr} {v u : Value} {o : Obj} {i : Nat} (h : w.cell? a = some v) : ((w.alloc o).setCell ⟨w.heap.size, i, none⟩ u).cell? a = some v :=
  (World.cell?_setCell_far _ _ _ _ (Nat.ne_of_gt (World.block_lt_of_cell? w _ h))).trans (al_some h o)
theorem st_some2 {w : World} {a : Addr} {v u u' : Value} {o : Obj} {i j : Nat} (h : w.cell? a = some v) : (((w.alloc o).setCell ⟨w.heap.size, i, none⟩ u).setCell ⟨w.heap.size, j, none⟩ u').cell? a = some v :=
  (World.cell?_setCell_far _ _ _ _ (Nat.ne_of_gt (World.block_lt_of_cell? w _ h))).trans (st_some h)
theorem set_some2 {w : World} {b i n j j' : Nat} {v u u' : Value} (h : w.cell? ⟨b, i, none⟩ = some v) (hne : b < n) : ((w.setCell ⟨n, j, none⟩ u).setCell ⟨n, j', none⟩ u').cell? ⟨b, i, none⟩ = some v :=
  (World.cell?_setCell_far _ _ _ _ (Nat.ne_of_gt hne)).trans ((World.cell?_setCell_far _ _ _ _ (Nat.ne_of_gt hne)).trans h)

set_option maxRecDepth 100000 in
set_option maxHeartbeats 4000000 in
theorem onum1_any (s : RS) (lo hi above : Int) (g br bh ba bl : Nat) (w : World) (h : RdO w g s)
    (c0 : w.cell? ⟨br, 0, none⟩ = some (.pointer (some ⟨g, 0, none⟩))) (c1 : w.cell? ⟨bh, 0, none⟩ = some (.int .i64 hi)) (c2 : w.cell? ⟨ba, 0, none⟩ = some (.int .i64 above)) (c3 : w.cell? ⟨bl, 0, none⟩ = some (.int .i64 lo)) :
    Calls Tryz.prog 134 #[.pointer (some ⟨br, 0, none⟩), .pointer (some ⟨bh, 0, none⟩), .pointer (some ⟨ba, 0, none⟩), .pointer (some ⟨bl, 0, none⟩)] w fun e w' =>
      e = .returned (.tuple #[.int .i64 (getN s.b s.at_).n, .int .i64 ((getN s.b s.at_).next : Int), .agg #[.int .i64 (s.flt lo hi above).1, .int .i64 ((s.flt lo hi above).2 : Int)]]) ∧ Ext w w' := by
  have hg := h.lt
  have z0 := World.block_lt_of_cell? w _ c0
  have z1 := World.block_lt_of_cell? w _ c1
  have z2 := World.block_lt_of_cell? w _ c2
  have z3 := World.block_lt_of_cell? w _ c3
  simp only at z0 z1 z2 z3
  obtain ⟨A, cap, hB, hr, hc, hm⟩ := h.ex
  have hok := h.ok.1
  have d0 : w.cell? ⟨g, 0, none⟩ = some (.slice A s.b.length cap) := hB.cell 0
  have d1 : w.cell? ⟨g, 1, none⟩ = some (.int .i64 (s.at_ : Int)) := hB.cell 1
  have RR := Lib.hid (fun (W : World) (hx : Ext w W) => (hr.more (Nat.le_of_lt hB.lt)).ext hx)
  clear hr hB h
  generalize hG : getN s.b s.at_ = G
  have HG := Lib.hid hG
  clear hG
  go_enter Tryz.func134, Tryz.ntmps134
  go_wp2_with fail
  go_region_held3 (fun w' => w'.cell? ⟨br, 0, none⟩ = some (.pointer (some ⟨g, 0, none⟩)) ∧ w'.cell? ⟨g, 0, none⟩ = some (.slice A s.b.length cap) ∧ w'.cell? ⟨g, 1, none⟩ = some (.int .i64 (s.at_ : Int))) (first | (exact ⟨k0, k4, k5⟩) | (exact ⟨al_some k0 _, al_some k4 _, al_some k5 _⟩) | (exact ⟨st_some2 k0, st_some2 k4, st_some2 k5⟩) | (exact ⟨set_some2 k0 (by omega), set_some2 k4 (by omega), set_some2 k5 (by omega)⟩) | (simp [go_sem, *]; done)) (first | (go_at_call 135; refine (oget_t s.b A cap s.at_ _ G HG (RR.out _ ((Ext.refl w).alloc _).drew) hc hm hok).mono ?_; rintro e w1 ⟨rfl, hx1⟩; have X1 := (((Ext.refl w).alloc _).drew).trans hx1; have B6 : Blk w1 w.heap.size 100 #[.int .i64 0, .int .i64 0] := Blk.ext (w := (w.alloc (.cells #[.int .i64 0, .int .i64 0] 100)).drew) (Blk.new w _ _) hx1; have k0 := (X1.cell br 0 none z0).trans c0; have k1 := (X1.cell bh 0 none z1).trans c1; have k2 := (X1.cell ba 0 none z2).trans c2; have k3 := (X1.cell bl 0 none z3).trans c3; have k4 := (X1.cell g 0 none hg).trans d0; have k5 := (X1.cell g 1 none hg).trans d1) | (go_at_call 135; refine (oget_t s.b A cap s.at_ _ G HG (RR.out _ (((Ext.refl w).alloc _).alloc _).drew) hc hm hok).mono ?_; rintro e w1 ⟨rfl, hx1⟩; have X1 := ((((Ext.refl w).alloc _).alloc _).drew).trans hx1; have B6 : Blk w1 w.heap.size 100 #[.int .i64 0, .int .i64 0] := Blk.ext (w := ((w.alloc (.cells #[.int .i64 0, .int .i64 0] 100)).alloc (.cells #[.int .i64 0, .int .i64 0] 100)).drew) ((Blk.new w _ _).alloc _) hx1; have B9 : Blk w1 (w.heap.size + 1) 100 #[.int .i64 0, .int .i64 0] := by { have := Blk.ext (w := ((w.alloc (.cells #[.int .i64 0, .int .i64 0] 100)).alloc (.cells #[.int .i64 0, .int .i64 0] 100)).drew) (Blk.new (w.alloc (.cells #[.int .i64 0, .int .i64 0] 100)) 100 #[.int .i64 0, .int .i64 0]) hx1; simpa using this }; obtain ⟨q9, q9'⟩ := B9.cells; have k0 := (X1.cell br 0 none z0).trans c0; have k1 := (X1.cell bh 0 none z1).trans c1; have k2 := (X1.cell ba 0 none z2).trans c2; have k3 := (X1.cell bl 0 none z3).trans c3; have k4 := (X1.cell g 0 none hg).trans d0; have k5 := (X1.cell g 1 none hg).trans d1))
  case' refine_2.refine_3.refine_3.refine_3.refine_3.refine_3.refine_3.refine_3.refine_3.refine_1.refine_2.refine_3.refine_3.refine_3.refine_3.refine_1.refine_2.refine_3.refine_3.refine_1.refine_2 =>
    replace B6 : Blk (w1.alloc (Obj.cells #[.int .i64 G.fe, .int .i64 (G.fa : Int)] 100)) w.heap.size 100 #[.int .i64 0, .int .i64 0] := B6.alloc _
    have B9 := Blk.new w1 100 #[.int .i64 G.fe, .int .i64 (G.fa : Int)]
    replace X1 := X1.alloc (Obj.cells #[.int .i64 G.fe, .int .i64 (G.fa : Int)] 100)
    have hn9 : w.heap.size < w1.heap.size := by have := hx1.size; simp at this; omega
    generalize w1.heap.size = n9 at *
    generalize w1.alloc (Obj.cells #[.int .i64 G.fe, .int .i64 (G.fa : Int)] 100) = wz at *
  case' refine_2.refine_3.refine_3.refine_3.refine_3.refine_3.refine_3.refine_3.refine_3.refine_2.refine_1.refine_2.refine_1.refine_2.refine_3.refine_3.refine_3.refine_3.refine_3.refine_3.refine_1.refine_2 =>
    replace B6 : Blk ((w1.setCell ⟨w.heap.size + 1, 0, none⟩ (.int .i64 G.fe)).setCell ⟨w.heap.size + 1, 1, none⟩ (.int .i64 (G.fa : Int))) w.heap.size 100 #[.int .i64 0, .int .i64 0] := (B6.far (by simp) _).far (by simp) _
    replace B9 := fault_set B9 (.int .i64 G.fe) (.int .i64 (G.fa : Int))
    replace X1 := (X1.set (p := ⟨w.heap.size + 1, 0, none⟩) (by simp) (.int .i64 G.fe)).set (p := ⟨w.heap.size + 1, 1, none⟩) (by simp) (.int .i64 (G.fa : Int))
    have hn9 : w.heap.size < w.heap.size + 1 := by omega
    clear q9 q9'
    generalize w.heap.size + 1 = n9 at *
    generalize ((w1.setCell ⟨n9, 0, none⟩ (.int .i64 G.fe)).setCell ⟨n9, 1, none⟩ (.int .i64 (G.fa : Int))) = wz at *
  all_goals
    clear hx1 k0 k1 k2 k3 k4 k5
    have k0 := (X1.cell br 0 none z0).trans c0
    have k1 := (X1.cell bh 0 none z1).trans c1
    have k2 := (X1.cell ba 0 none z2).trans c2
    have k3 := (X1.cell bl 0 none z3).trans c3
    have k4 := (X1.cell g 0 none hg).trans d0
    have k5 := (X1.cell g 1 none hg).trans d1
    obtain ⟨q9, q9'⟩ := B9.cells
    obtain ⟨q6, q6'⟩ := B6.cells
    have HF : Hid (s.flt lo hi above = if G.fe ≠ 0 then (G.fe, G.fa) else if hi < G.n then (above, s.at_) else if G.n < lo then (5, s.at_) else (0, 0)) := Lib.hid (by unfold RS.flt; rw [HG.out])
    have HG' := Lib.hid (show (G.fe = 0 → G.fa = 0) from fun h0 => by rw [← HG.out] at h0 ⊢; exact getGo_ok _ _ _ _ h0)
    go_wp2_with (go_at_call 98; refine (ofault_any _ _ _).mono ?_; rintro e w2 ⟨rfl, hx2⟩; obtain ⟨q9, q9'⟩ := (B9.ext hx2).cells; obtain ⟨q6, q6'⟩ := (B6.ext hx2).cells)
    · go_region
      go_wp2_with fail
      refine bodyPost_ret (results_ttc rfl rfl (ld_fault (show Blk _ _ _ _ from fault_set B6 _ _))) rfl ⟨?_, ?_⟩
      · rw [HF.out, if_pos (by have := ‹(G.fe != 0) = true›; simpa using this)]; rfl
      · exact ((X1.set (Nat.le_refl _) _).set (Nat.le_refl _) _).drew
    · have h1 : ¬ G.fe ≠ 0 := by have := ‹(G.fe != 0) = false›; simpa using this
      have h2 : hi < G.n := by assumption
      go_region_held3 (fun w' => w'.cell? ⟨br, 0, none⟩ = some (.pointer (some ⟨g, 0, none⟩)) ∧ w'.cell? ⟨g, 1, none⟩ = some (.int .i64 (s.at_ : Int)) ∧ w'.cell? ⟨ba, 0, none⟩ = some (.int .i64 above)) (first | (exact ⟨k0, k5, k2⟩) | (exact ⟨r0, r1, r2⟩) | (exact ⟨set_some2 r0 (by omega), set_some2 r1 (by omega), set_some2 r2 (by omega)⟩) | (simp [go_sem, *]; done)) (first | (go_at_call 98; refine (ofault_any _ _ _).mono ?_; rintro e w2 ⟨rfl, hx2⟩; have X2 := X1.trans (Ext.trans ((Ext.refl wz).drew) hx2); have Z9 := Blk.ext (w := wz.drew) B9 hx2; have Z6 := Blk.ext (w := wz.drew) B6 hx2; obtain ⟨q9, q9'⟩ := Z9.cells; obtain ⟨q6, q6'⟩ := Z6.cells; have r0 := (X2.cell br 0 none z0).trans c0; have r1 := (X2.cell g 1 none hg).trans d1; have r2 := (X2.cell ba 0 none z2).trans c2))
      go_wp2_with fail
      go_region
      go_wp2_with fail
      refine bodyPost_ret (results_ttc rfl rfl (ld_fault (show Blk _ _ _ _ from fault_set ((Z6.far (Nat.ne_of_lt hn9) _).far (Nat.ne_of_lt hn9) _) _ _))) rfl ⟨?_, ?_⟩
      · rw [HF.out, if_neg h1, if_pos h2]; rfl
      · exact ((((X2.set (Nat.le_of_lt hn9) _).set (Nat.le_of_lt hn9) _).set (Nat.le_refl _) _).set (Nat.le_refl _) _).drew
    · have h1 : ¬ G.fe ≠ 0 := by have := ‹(G.fe != 0) = false›; simpa using this
      have h2 : ¬ hi < G.n := Int.not_lt.2 (by assumption)
      have h3 : G.n < lo := by assumption
      go_region
      go_wp2_with fail
      refine bodyPost_ret (results_ttc rfl rfl (ld_fault (show Blk _ _ _ _ from fault_set (((B6.ext hx2).far (Nat.ne_of_lt hn9) _).far (Nat.ne_of_lt hn9) _) _ _))) rfl ⟨?_, ?_⟩
      · rw [HF.out, if_neg h1, if_neg (Int.not_lt.2 h2), if_pos h3]; rfl
      · exact (((((X1.trans hx2).set (Nat.le_of_lt hn9) _).set (Nat.le_of_lt hn9) _).set (Nat.le_refl _) _).set (Nat.le_refl _) _).drew
    · have h1 : ¬ G.fe ≠ 0 := by have := ‹(G.fe != 0) = false›; simpa using this
      have h2 : ¬ hi < G.n := Int.not_lt.2 (by assumption)
      have h3 : ¬ G.n < lo := Int.not_lt.2 (by assumption)
      go_region
      go_wp2_with fail
      refine bodyPost_ret (results_ttc rfl rfl (ld_fault (show Blk _ _ _ _ from fault_set B6 _ _))) rfl ⟨?_, ?_⟩
      · rw [HF.out, if_neg h1, if_neg (Int.not_lt.2 h2), if_neg (Int.not_lt.2 h3)]
        have h4 : G.fe = 0 := by simpa using h1
        rw [HG'.out h4, h4]; rfl
      · exact ((X1.set (Nat.le_refl _) _).set (Nat.le_refl _) _).drew
end Go.Proofs.YtokakpbpenndlaaGreatDoor
