/-
  The program's reader: its methods.
-/
import Derived.Test.YtokakpbpenndlaaGreatDoorRs25
import Derived.Defers
set_option linter.unusedVariables false
namespace Go.Proofs.YtokakpbpenndlaaGreatDoor
open Go.RowKit

/-- The cells of a reader. -/
def rdCells (A : Option Addr) (n cap at_ : Nat) (fe : Int) (fa : Nat) : Array Value := #[.slice A n cap, .int .i64 (at_ : Int), .int .i64 fe, .int .i64 (fa : Int), .bool true]
theorem RdO.upd {w w' : World} {g : Nat} {s s' : RS} (h : RdO w g s) (hg : w.grownBy w' (some g)) (hb : s'.b = s.b) (hok : s'.ok)
    (hB : ∀ A cap, Blk w g 173 (rdCells A s.b.length cap s.at_ s.fe s.fa) → Blk w' g 173 (rdCells A s.b.length cap s'.at_ s'.fe s'.fa)) : RdO w' g s' := by
  obtain ⟨A, cap, hB', hr, hc, hm⟩ := h.ex
  refine ⟨⟨A, cap, by rw [hb]; exact hB A cap hB', ?_, by rw [hb]; exact hc, hm⟩, hok⟩
  rw [hb]
  exact hr.keep fun b o hlt => World.cell?_of_block (a := ⟨b, o, none⟩) (hg.block b (Nat.lt_trans hlt hB'.lt) (fun e => by have := Option.some.inj e; omega))
theorem RdO.made {w : World} {g : Nat} {s : RS} (h : RdO w g s) : w.cell? ⟨g, 4, none⟩ = some (.bool true) := by
  obtain ⟨A, cap, hB', hr, hc, hm⟩ := h.ex
  exact hB'.cell 4
theorem RdO.at_ {w : World} {g : Nat} {s : RS} (h : RdO w g s) : w.cell? ⟨g, 1, none⟩ = some (.int .i64 (s.at_ : Int)) := by
  obtain ⟨A, cap, hB', hr, hc, hm⟩ := h.ex
  exact hB'.cell 1
theorem RdO.fe {w : World} {g : Nat} {s : RS} (h : RdO w g s) : w.cell? ⟨g, 2, none⟩ = some (.int .i64 s.fe) := by
  obtain ⟨A, cap, hB', hr, hc, hm⟩ := h.ex
  exact hB'.cell 2
theorem RdO.fa {w : World} {g : Nat} {s : RS} (h : RdO w g s) : w.cell? ⟨g, 3, none⟩ = some (.int .i64 (s.fa : Int)) := by
  obtain ⟨A, cap, hB', hr, hc, hm⟩ := h.ex
  exact hB'.cell 3
theorem RdO.bytes {w : World} {g : Nat} {s : RS} (h : RdO w g s) : ∃ A cap, w.cell? ⟨g, 0, none⟩ = some (.slice A s.b.length cap) := by
  obtain ⟨A, cap, hB', hr, hc, hm⟩ := h.ex
  exact ⟨A, cap, hB'.cell 0⟩
theorem RdO.frz {w : World} {g : Nat} {s : RS} (h : RdO w g s) (i : Nat) : w.frozen? ⟨g, i, none⟩ = false := by
  obtain ⟨A, cap, hB', hr, hc, hm⟩ := h.ex
  exact hB'.frozen i

theorem onone_any (g : Nat) (s : RS) (w : World) (h : RdO w g s) :
    Calls Tryz.prog 136 #[.pointer (some ⟨g, 0, none⟩)] w fun e w' => e = .returned (.bool false) ∧ w = w' := by
  have d4 := h.made
  clear h
  go_enter Tryz.func136, Tryz.ntmps136
  go_wp2
  go_ret
  exact ⟨rfl, rfl⟩

/-- The closure that reading defers. -/
theorem clo_bad {a2 a3 : Value} (g bf br bx bn : Nat) (fe : Int) (fa : Nat) (x : Value) (u : FrameMode) (w : World) (q : Blk w bf 100 #[.int .i64 fe, .int .i64 (fa : Int)]) (qr : w.cell? ⟨br, 0, none⟩ = some (.pointer (some ⟨g, 0, none⟩)))
    (d2 : w.cell? ⟨g, 2, none⟩ = some a2) (d3 : w.cell? ⟨g, 3, none⟩ = some a3) (f2 : w.frozen? ⟨g, 2, none⟩ = false) (f3 : w.frozen? ⟨g, 3, none⟩ = false) (qx : w.cell? ⟨bx, 0, none⟩ = some x) (fx : w.frozen? ⟨bx, 0, none⟩ = false) (hne : g ≠ bx) (h : fe ≠ 0) :
    CallsD Tryz.prog 166 #[.pointer (some ⟨bf, 0, none⟩), .pointer (some ⟨br, 0, none⟩), .pointer (some ⟨bx, 0, none⟩), .pointer (some ⟨bn, 0, none⟩)] u w fun e u' w' => u' = u ∧ (e = .returned (.tuple #[]) ∧
      w' = ((w.setCell ⟨g, 2, none⟩ (.int .i64 fe)).setCell ⟨g, 3, none⟩ (.int .i64 (fa : Int))).setCell ⟨bx, 0, none⟩ (.int .i64 0)) := by
  obtain ⟨q0, q0'⟩ := q.cells
  have hb : (fe == 0) = false := by rw [beq_eq_false_iff_ne]; exact h
  go_enter_d Tryz.func166, Tryz.ntmps166
  go_wp2
  exact bodyPost_ret (results_none rfl _ _ _) rfl ⟨rfl, rfl⟩

theorem clo_ok {a1 : Value} (g bf br bx bn : Nat) (next : Value) (fa : Nat) (u : FrameMode) (w : World) (q : Blk w bf 100 #[.int .i64 0, .int .i64 (fa : Int)]) (qr : w.cell? ⟨br, 0, none⟩ = some (.pointer (some ⟨g, 0, none⟩)))
    (d1 : w.cell? ⟨g, 1, none⟩ = some a1) (f1 : w.frozen? ⟨g, 1, none⟩ = false) (qn : w.cell? ⟨bn, 0, none⟩ = some next) (hn : ∃ z, next = .int .i64 z) :
    CallsD Tryz.prog 166 #[.pointer (some ⟨bf, 0, none⟩), .pointer (some ⟨br, 0, none⟩), .pointer (some ⟨bx, 0, none⟩), .pointer (some ⟨bn, 0, none⟩)] u w fun e u' w' => u' = u ∧ (e = .returned (.tuple #[]) ∧
      w' = w.setCell ⟨g, 1, none⟩ next) := by
  obtain ⟨z, rfl⟩ := hn
  obtain ⟨q0, q0'⟩ := q.cells
  go_enter_d Tryz.func166, Tryz.ntmps166
  go_wp2
  go_end0
  exact ⟨rfl, rfl⟩
end Go.Proofs.YtokakpbpenndlaaGreatDoor

set_option linter.unusedVariables false
namespace Go.Proofs.YtokakpbpenndlaaGreatDoor
open Go.RowKit

theorem num_flt (s : RS) (lo hi above : Int) (h0 : s.fe = 0) (ha : above ≠ 0) :
    s.num lo hi above = if (s.flt lo hi above).1 ≠ 0 then (0, { s with fe := (s.flt lo hi above).1, fa := (s.flt lo hi above).2 }) else ((getN s.b s.at_).n, { s with at_ := (getN s.b s.at_).next }) := by
  unfold RS.num RS.flt
  rw [if_neg (by simpa using h0)]
  simp only
  by_cases h1 : (getN s.b s.at_).fe ≠ 0
  · rw [if_pos h1, if_pos h1, if_pos h1]
  rw [if_neg h1, if_neg h1]
  by_cases h2 : hi < (getN s.b s.at_).n
  · rw [if_pos h2, if_pos h2, if_pos ha]
  rw [if_neg h2, if_neg h2]
  by_cases h3 : (getN s.b s.at_).n < lo
  · rw [if_pos h3, if_pos h3, if_pos (by show (5 : Int) ≠ 0; decide)]
  rw [if_neg h3, if_neg h3, if_neg (by show ¬ (0 : Int) ≠ 0; decide)]

end Go.Proofs.YtokakpbpenndlaaGreatDoor

namespace Go.Proofs.YtokakpbpenndlaaGreatDoor
open Go.RowKit

theorem ld_int {w : World} {b i : Nat} {v : Value} (h : w.cell? ⟨b, i, none⟩ = some v) : (loadVar 3 ⟨b, i, none⟩).run Tryz.prog w = .ok v w := by
  simp [go_sem, h]
theorem blk4 (w : World) (t0 t1 t2 t3 : TypeId) (c0 c1 c2 c3 : Array Value) :
    Blk ((((w.alloc (.cells c0 t0)).alloc (.cells c1 t1)).alloc (.cells c2 t2)).alloc (.cells c3 t3)) w.heap.size t0 c0 ∧
    Blk ((((w.alloc (.cells c0 t0)).alloc (.cells c1 t1)).alloc (.cells c2 t2)).alloc (.cells c3 t3)) (w.heap.size + 1) t1 c1 ∧
    Blk ((((w.alloc (.cells c0 t0)).alloc (.cells c1 t1)).alloc (.cells c2 t2)).alloc (.cells c3 t3)) (w.heap.size + 1 + 1) t2 c2 ∧
    Blk ((((w.alloc (.cells c0 t0)).alloc (.cells c1 t1)).alloc (.cells c2 t2)).alloc (.cells c3 t3)) (w.heap.size + 1 + 1 + 1) t3 c3 := by
  have h1 := Blk.new (w.alloc (.cells c0 t0)) t1 c1
  have h2 := Blk.new ((w.alloc (.cells c0 t0)).alloc (.cells c1 t1)) t2 c2
  have h3 := Blk.new (((w.alloc (.cells c0 t0)).alloc (.cells c1 t1)).alloc (.cells c2 t2)) t3 c3
  have e1 : (w.alloc (.cells c0 t0)).heap.size = w.heap.size + 1 := by simp
  have e2 : ((w.alloc (.cells c0 t0)).alloc (.cells c1 t1)).heap.size = w.heap.size + 1 + 1 := by simp
  have e3 : (((w.alloc (.cells c0 t0)).alloc (.cells c1 t1)).alloc (.cells c2 t2)).heap.size = w.heap.size + 1 + 1 + 1 := by simp
  rw [e1] at h1
  rw [e2] at h2
  rw [e3] at h3
  exact ⟨(((Blk.new w t0 c0).alloc _).alloc _).alloc _, (h1.alloc _).alloc _, h2.alloc _, h3⟩

def doorW (w2 : World) (n1 n2 n3 : Nat) (G : Got) (F : Int × Nat) : World :=
  (((((w2.setCell ⟨n1, 0, none⟩ (.int .i64 G.n)).setCell ⟨n2, 0, none⟩ (.int .i64 (G.next : Int))).setCell ⟨n3, 0, none⟩ (.int .i64 F.1)).setCell ⟨n3, 1, none⟩ (.int .i64 (F.2 : Int))).setCell ⟨n1, 0, none⟩ (.int .i64 G.n))
theorem doorW_blk (w w2 : World) (g n0 n1 n2 n3 : Nat) (G : Got) (F : Int × Nat) (h0 : w.heap.size ≤ n0) (l01 : n0 < n1) (l12 : n1 < n2) (l23 : n2 < n3)
    (Y0 : Blk w2 n0 97 #[.pointer (some ⟨g, 0, none⟩)]) (Y1 : Blk w2 n1 3 #[.int .i64 0]) (Y2 : Blk w2 n2 3 #[.int .i64 0]) (Y3 : Blk w2 n3 100 #[.int .i64 0, .int .i64 0]) (X2 : Ext w w2) :
    Blk (doorW w2 n1 n2 n3 G F) n0 97 #[.pointer (some ⟨g, 0, none⟩)] ∧ Blk (doorW w2 n1 n2 n3 G F) n1 3 #[.int .i64 G.n] ∧ Blk (doorW w2 n1 n2 n3 G F) n2 3 #[.int .i64 (G.next : Int)] ∧ Blk (doorW w2 n1 n2 n3 G F) n3 100 #[.int .i64 F.1, .int .i64 (F.2 : Int)] ∧ Ext w (doorW w2 n1 n2 n3 G F) := by
  have a01 : n0 ≠ n1 := by omega
  have a02 : n0 ≠ n2 := by omega
  have a03 : n0 ≠ n3 := by omega
  have a12 : n1 ≠ n2 := by omega
  have a13 : n1 ≠ n3 := by omega
  have a23 : n2 ≠ n3 := by omega
  have b1 : w.heap.size ≤ n1 := by omega
  have b2 : w.heap.size ≤ n2 := by omega
  have b3 : w.heap.size ≤ n3 := by omega
  unfold doorW
  exact ⟨((((Y0.far (p := ⟨n1, 0, none⟩) a01 _).far (p := ⟨n2, 0, none⟩) a02 _).far (p := ⟨n3, 0, none⟩) a03 _).far (p := ⟨n3, 1, none⟩) a03 _).far (p := ⟨n1, 0, none⟩) a01 _,
    ((((Y1.set_ 0 (.int .i64 G.n)).far (p := ⟨n2, 0, none⟩) a12 _).far (p := ⟨n3, 0, none⟩) a13 _).far (p := ⟨n3, 1, none⟩) a13 _).set_ 0 (.int .i64 G.n),
    ((((Y2.far (p := ⟨n1, 0, none⟩) a12.symm _).set_ 0 (.int .i64 (G.next : Int))).far (p := ⟨n3, 0, none⟩) a23 _).far (p := ⟨n3, 1, none⟩) a23 _).far (p := ⟨n1, 0, none⟩) a12.symm _,
    (fault_set ((Y3.far (p := ⟨n1, 0, none⟩) a13.symm _).far (p := ⟨n2, 0, none⟩) a23.symm _) (.int .i64 F.1) (.int .i64 (F.2 : Int))).far (p := ⟨n1, 0, none⟩) a13.symm _,
    ((((X2.set (p := ⟨n1, 0, none⟩) b1 _).set (p := ⟨n2, 0, none⟩) b2 _).set (p := ⟨n3, 0, none⟩) b3 _).set (p := ⟨n3, 1, none⟩) b3 _).set (p := ⟨n1, 0, none⟩) b1 _⟩

theorem read_end (s : RS) (lo hi above : Int) (g n0 n1 n2 n3 : Nat) (w wz : World) (tmps : Array Value) (h : RdO w g s) (hs : s.fe = 0) (ha : above ≠ 0) (h0 : w.heap.size ≤ n0) (l01 : n0 < n1) (l12 : n1 < n2) (l23 : n2 < n3)
    (ht : tmps.getD 4 undef = .pointer (some ⟨n1, 0, none⟩))
    (Z0 : Blk wz n0 97 #[.pointer (some ⟨g, 0, none⟩)]) (Z1 : Blk wz n1 3 #[.int .i64 (getN s.b s.at_).n]) (Z2 : Blk wz n2 3 #[.int .i64 ((getN s.b s.at_).next : Int)]) (Z3 : Blk wz n3 100 #[.int .i64 (s.flt lo hi above).1, .int .i64 ((s.flt lo hi above).2 : Int)]) (ZX : Ext w wz) :
    Leaves Tryz.prog Tryz.f133 tmps (fun e w' => e = .returned (.int .i64 (s.num lo hi above).1) ∧ RdO w' g (s.num lo hi above).2 ∧ w.grownBy w' (some g))
      [{ target := .fn (.func 166) #[.pointer (some ⟨n3, 0, none⟩), .pointer (some ⟨n0, 0, none⟩), .pointer (some ⟨n1, 0, none⟩), .pointer (some ⟨n2, 0, none⟩)], args := #[] }] .returning wz := by
  have hlt := h.lt
  have hnum := num_flt s lo hi above hs ha
  have hok := RS.num_ok h.ok lo hi above
  have HZ := RdO.ext h ZX
  generalize s.flt lo hi above = F at *
  obtain ⟨F1, F2⟩ := F
  simp only at *
  have agn : g ≠ n1 := by omega
  have b1 : w.heap.size ≤ n1 := by omega
  refine leaves_cons (f := 166) (args := #[.pointer (some ⟨n3, 0, none⟩), .pointer (some ⟨n0, 0, none⟩), .pointer (some ⟨n1, 0, none⟩), .pointer (some ⟨n2, 0, none⟩)]) (by simp) (by simp [go_sem]) ?_
  by_cases hF : F1 = 0
  · rw [if_neg (by simpa using hF)] at hnum
    subst hF
    refine (clo_ok g n3 n0 n1 n2 (.int .i64 ((getN s.b s.at_).next : Int)) F2 .returning wz Z3 (Z0.cell 0) HZ.at_ (HZ.frz 1) (Z2.cell 0) ⟨_, rfl⟩).mono ?_
    rintro e u' w4 ⟨rfl, rfl, rfl⟩
    rw [hnum] at hok ⊢
    have GB := only_set (only_ext (World.grownBy.refl w (some g)) ZX) (p := ⟨g, 1, none⟩) (.inl rfl) (.int .i64 ((getN s.b s.at_).next : Int))
    exact ⟨_, results_c rfl ht (ld_int (b := n1) ((World.cell?_setCell_far wz ⟨g, 1, none⟩ ⟨n1, 0, none⟩ _ agn).trans (Z1.cell 0))), rfl, h.upd (s' := { s with at_ := (getN s.b s.at_).next }) GB rfl hok.1 fun A cap B => (B.ext ZX).set_ 1 _, GB⟩
  · rw [if_pos hF] at hnum
    refine (clo_bad g n3 n0 n1 n2 F1 F2 (.int .i64 (getN s.b s.at_).n) .returning wz Z3 (Z0.cell 0) HZ.fe HZ.fa (HZ.frz 2) (HZ.frz 3) (Z1.cell 0) (Z1.frozen 0) agn hF).mono ?_
    rintro e u' w4 ⟨rfl, rfl, rfl⟩
    rw [hnum] at hok ⊢
    have GB := only_set (only_set (only_set (only_ext (World.grownBy.refl w (some g)) ZX) (p := ⟨g, 2, none⟩) (.inl rfl) (.int .i64 F1)) (p := ⟨g, 3, none⟩) (.inl rfl) (.int .i64 (F2 : Int))) (p := ⟨n1, 0, none⟩) (.inr b1) (.int .i64 0)
    have Z1' := (((Z1.far (p := ⟨g, 2, none⟩) agn.symm (.int .i64 F1)).far (p := ⟨g, 3, none⟩) agn.symm (.int .i64 (F2 : Int))).set_ 0 (.int .i64 0))
    exact ⟨_, results_c rfl ht (ld_int (b := n1) (v := .int .i64 0) (by rw [Z1'.cell 0]; rfl)), rfl, h.upd (s' := { s with fe := F1, fa := F2 }) GB rfl hok.1 fun A cap B => (((B.ext ZX).set_ 2 _).set_ 3 _).far (p := ⟨n1, 0, none⟩) agn _, GB⟩

set_option maxRecDepth 100000 in
set_option maxHeartbeats 1000000 in
theorem oread_any (s : RS) (lo hi above : Int) (g br bh ba bl : Nat) (w : World) (h : RdO w g s) (ha : above ≠ 0) (hbr : g ≠ br) (hbh : g ≠ bh) (hba : g ≠ ba) (hbl : g ≠ bl)
    (c0 : w.cell? ⟨br, 0, none⟩ = some (.pointer (some ⟨g, 0, none⟩))) (c1 : w.cell? ⟨bh, 0, none⟩ = some (.int .i64 hi)) (c2 : w.cell? ⟨ba, 0, none⟩ = some (.int .i64 above)) (c3 : w.cell? ⟨bl, 0, none⟩ = some (.int .i64 lo)) :
    Calls Tryz.prog 133 #[.pointer (some ⟨g, 0, none⟩), .func (.func 134) #[] #[.pointer (some ⟨br, 0, none⟩), .pointer (some ⟨bh, 0, none⟩), .pointer (some ⟨ba, 0, none⟩), .pointer (some ⟨bl, 0, none⟩)]] w fun e w' =>
      e = .returned (.int .i64 (s.num lo hi above).1) ∧ RdO w' g (s.num lo hi above).2 ∧ w.grownBy w' (some g) := by
  have hmf : ∀ (fn : Fn) (first cap : Array Value) (w : World), (Instr.makeFunc fn first cap).run Tryz.prog w = .ok (.func fn first cap) w := fun _ _ _ _ => rfl
  have hg := h.lt
  have z0 := World.block_lt_of_cell? w _ c0
  have z1 := World.block_lt_of_cell? w _ c1
  have z2 := World.block_lt_of_cell? w _ c2
  have z3 := World.block_lt_of_cell? w _ c3
  simp only at z0 z1 z2 z3
  have d2 := h.fe
  have d3 := h.fa
  have d1 := h.at_
  have f1 := h.frz 1
  have f2 := h.frz 2
  have f3 := h.frz 3
  have HK := Lib.hid h
  clear h
  by_cases hs : s.fe = 0
  · have hb : (s.fe != 0) = false := by simp [hs]
    go_enter_defers Tryz.func133, Tryz.ntmps133
    go_wp2_with (go_at_call 136; refine (onone_any g s _ (RdO.ext HK.out (((Ext.refl w).alloc _).alloc _))).mono ?_; rintro e w' ⟨rfl, rfl⟩)
    obtain ⟨x0, x1, x2, x3⟩ := blk4 w 97 3 3 100 #[.pointer (some ⟨g, 0, none⟩)] #[.int .i64 0] #[.int .i64 0] #[.int .i64 0, .int .i64 0]
    have hX : Ext w ((((w.alloc (.cells #[.pointer (some ⟨g, 0, none⟩)] 97)).alloc (.cells #[.int .i64 0] 3)).alloc (.cells #[.int .i64 0] 3)).alloc (.cells #[.int .i64 0, .int .i64 0] 100)) := ((((Ext.refl w).alloc _).alloc _).alloc _).alloc _
    refine (onum1_any s lo hi above g br bh ba bl _ (RdO.ext HK.out hX) ((hX.cell br 0 none z0).trans c0) ((hX.cell bh 0 none z1).trans c1) ((hX.cell ba 0 none z2).trans c2) ((hX.cell bl 0 none z3).trans c3)).mono ?_
    rintro e w2 ⟨rfl, hx2⟩
    have Y0 := x0.ext hx2
    have Y1 := x1.ext hx2
    have Y2 := x2.ext hx2
    have Y3 := x3.ext hx2
    have X2 := hX.trans hx2
    clear x0 x1 x2 x3 hX hx2
    obtain ⟨p1, p1'⟩ := Y1.cells
    obtain ⟨p2, p2'⟩ := Y2.cells
    obtain ⟨p3, p3'⟩ := Y3.cells
    go_wp2_with fail
    obtain ⟨Z0, Z1, Z2, Z3, ZX⟩ := doorW_blk w w2 g w.heap.size (w.heap.size + 1) (w.heap.size + 1 + 1) (w.heap.size + 1 + 1 + 1) (getN s.b s.at_) (s.flt lo hi above) (Nat.le_refl _) (Nat.lt_succ_self _) (Nat.lt_succ_self _) (Nat.lt_succ_self _) Y0 Y1 Y2 Y3 X2
    exact read_end s lo hi above g w.heap.size (w.heap.size + 1) (w.heap.size + 1 + 1) (w.heap.size + 1 + 1 + 1) w _ _ HK.out hs ha (Nat.le_refl _) (Nat.lt_succ_self _) (Nat.lt_succ_self _) (Nat.lt_succ_self _) rfl Z0 Z1 Z2 Z3 ZX
  · have hb : (s.fe != 0) = true := by simp [hs]
    go_enter_defers Tryz.func133, Tryz.ntmps133
    go_wp2_with (go_at_call 136; refine (onone_any g s _ (RdO.ext HK.out (((Ext.refl w).alloc _).alloc _))).mono ?_; rintro e w' ⟨rfl, rfl⟩)
    refine ⟨_, results_c rfl rfl (ld_int (b := w.heap.size + 1) (v := .int .i64 0) (by simp)), ?_, ?_, ?_⟩
    · rw [RS.num_sticky hs]
    · rw [RS.num_sticky hs]; exact HK.out.ext (((Ext.refl w).alloc _).alloc _)
    · exact only_ext (World.grownBy.refl w _) (((Ext.refl w).alloc _).alloc _)
end Go.Proofs.YtokakpbpenndlaaGreatDoor
