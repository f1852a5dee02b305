/-
  The program's reader: its methods, whole.
-/
import Derived.Test.YtokakpbpenndlaaGreatDoorRr39
import Derived.Test.YtokakpbpenndlaaGreatDoorRr12
import Derived.Test.YtokakpbpenndlaaGreatDoorRr06
import Derived.Test.YtokakpbpenndlaaGreatDoorRr37
set_option linter.unusedVariables false
namespace Go.Proofs.YtokakpbpenndlaaGreatDoor
open Go.RowKit

set_option maxRecDepth 100000 in
set_option maxHeartbeats 1000000 in
theorem onumber_any (s : RS) (lo hi above : Int) (g : Nat) (w : World) (h : RdO w g s) (ha : above ≠ 0) :
    Calls Tryz.prog 96 #[.pointer (some ⟨g, 0, none⟩), .int .i64 lo, .int .i64 hi, .int .i64 above] w fun e w' =>
      e = .returned (.int .i64 (s.num lo hi above).1) ∧ RdO w' g (s.num lo hi above).2 ∧ w.grownBy w' (some g) := by
  have hmf : ∀ (fn : Fn) (first cap : Array Value) (w : World), (Instr.makeFunc fn first cap).run Tryz.prog w = .ok (.func fn first cap) w := fun _ _ _ _ => rfl
  have hg := h.lt
  have HK := Lib.hid h
  clear h
  obtain ⟨x0, x1, x2, x3⟩ := blk4 w 97 3 3 27 #[.pointer (some ⟨g, 0, none⟩)] #[.int .i64 lo] #[.int .i64 hi] #[.int .i64 above]
  have hX : Ext w ((((w.alloc (.cells #[.pointer (some ⟨g, 0, none⟩)] 97)).alloc (.cells #[.int .i64 lo] 3)).alloc (.cells #[.int .i64 hi] 3)).alloc (.cells #[.int .i64 above] 27)) := ((((Ext.refl w).alloc _).alloc _).alloc _).alloc _
  go_enter Tryz.func96, Tryz.ntmps96
  go_wp2_with (go_at_call 133; refine (oread_any s lo hi above g w.heap.size (w.heap.size + 1 + 1) (w.heap.size + 1 + 1 + 1) (w.heap.size + 1) _ (RdO.ext HK.out hX) ha (by omega) (by omega) (by omega) (by omega) (x0.cell 0) (x2.cell 0) (x3.cell 0) (x1.cell 0)).mono ?_; rintro e w2 ⟨rfl, hR, hG⟩)
  refine bodyPost_ret (results_tmp rfl _ _ _) rfl ⟨rfl, hR, ?_⟩
  exact ⟨hG.os, hG.tape, hG.output, Nat.le_trans hX.size hG.size, fun k hk hne => (hG.block k (Nat.lt_of_lt_of_le hk hX.size) hne).trans (hX.block k hk)⟩

theorem oint_any (s : RS) (lo hi : Int) (g : Nat) (w : World) (h : RdO w g s) :
    Calls Tryz.prog 51 #[.pointer (some ⟨g, 0, none⟩), .int .i64 lo, .int .i64 hi] w fun e w' =>
      e = .returned (.int .i64 (s.num lo hi 5).1) ∧ RdO w' g (s.num lo hi 5).2 ∧ w.grownBy w' (some g) := by
  go_enter Tryz.func51, Tryz.ntmps51
  go_wp2_with (go_at_call 96; refine (onumber_any s lo hi 5 g _ h (by decide)).mono ?_; rintro e w' ⟨rfl, hR, hG⟩)
  exact bodyPost_ret (results_tmp rfl _ _ _) rfl ⟨rfl, hR, hG⟩
set_option maxRecDepth 100000 in
theorem ofaultR_any (s : RS) (g : Nat) (w : World) (h : RdO w g s) :
    Calls Tryz.prog 97 #[.pointer (some ⟨g, 0, none⟩)] w fun e w' => e = .returned (.agg #[.int .i64 s.fe, .int .i64 (s.fa : Int)]) ∧ Ext w w' := by
  have hg := h.lt
  have d2 := h.fe
  have d3 := h.fa
  have HK := Lib.hid h
  clear h
  go_enter Tryz.func97, Tryz.ntmps97
  go_wp2_with (go_at_call 136; refine (onone_any g s _ (HK.out.ext ((Ext.refl w).alloc _))).mono ?_; rintro e w' ⟨rfl, rfl⟩)
  exact bodyPost_ret (results_c rfl rfl (ld_fault (Blk.new w 100 #[.int .i64 s.fe, .int .i64 (s.fa : Int)]))) rfl ⟨rfl, (Ext.refl w).alloc _⟩
end Go.Proofs.YtokakpbpenndlaaGreatDoor

set_option linter.unusedVariables false
namespace Go.Proofs.YtokakpbpenndlaaGreatDoor
open Go.RowKit

set_option maxRecDepth 100000 in
set_option maxHeartbeats 1000000 in
theorem onew_any (b : List UInt8) (A : Option Addr) (cap : Nat) (w : World) (hr : Reads w w.heap.size 1 A b.length (bV b)) (hm : b.length ≤ 1000000) :
    Calls Tryz.prog 50 #[.slice A b.length cap] w fun e w' => ∃ w1 : World, e = .returned (.pointer (some ⟨w1.heap.size, 0, none⟩)) ∧ Ext w w1 ∧ RdO w' w1.heap.size (RS.start b) ∧ Ext w1 w' := by
  go_enter Tryz.func50, Tryz.ntmps50
  go_wp2_with (at_builtin; refine wpl_app row_u8 w w _ (.tmp 3) rfl rfl rfl (World.ownsRow_nil _ _ _ _) (Ext.refl w) rfl hr (bV_one _) (by omega) (by unfold maxLen; omega) ?_; intro v1 w1 hg; obtain ⟨A1, c1, rfl, hc1, hm1, hr1⟩ := own_slice hg.own)
  simp only [Nat.zero_add, List.nil_append] at hc1 hr1
  refine bodyPost_ret (results_tmp rfl _ _ _) rfl ⟨w1, rfl, hg.ext, ⟨⟨A1, c1, ?_, ?_, hc1, hm1⟩, by simp [RS.ok, RS.start]⟩, (Ext.refl w1).alloc _⟩
  · have := Blk.new w1 173 #[.slice A1 b.length c1, .int .i64 0, .int .i64 0, .int .i64 0, .bool true]
    simpa [RS.start] using this
  · exact hr1.extB (Nat.le_refl _) ((Ext.refl w1).alloc _)

set_option maxRecDepth 100000 in
set_option maxHeartbeats 2000000 in
theorem oend_any (s : RS) (g : Nat) (w : World) (h : RdO w g s) :
    Calls Tryz.prog 52 #[.pointer (some ⟨g, 0, none⟩)] w fun e w' => e = .returned (.agg #[.int .i64 s.fin.1, .int .i64 (s.fin.2 : Int)]) ∧ Ext w w' := by
  have hg := h.lt
  have HK := Lib.hid h
  clear h
  by_cases hs : s.fe = 0
  · have hb : (s.fe == 0) = true := by simp [hs]
    by_cases ha : s.at_ < s.b.length
    · have hd : decide ((s.at_ : Int) < (s.b.length : Int)) = true := by simpa using ha
      have HF := Lib.hid (show s.fin = (4, s.at_) by unfold RS.fin; rw [if_pos ⟨hs, ha⟩])
      replace hs := Lib.hid hs
      go_enter Tryz.func52, Tryz.ntmps52
      go_wp2_with (go_at_call 97; refine (ofaultR_any s g _ (HK.out.ext ((Ext.refl w).alloc _))).mono ?_; rintro e w1 ⟨rfl, hx1⟩)
      have X8 := (((Ext.refl w).alloc _).trans hx1).alloc (Obj.cells #[.int .i64 s.fe, .int .i64 (s.fa : Int)] 100)
      have B2 := (Blk.ext (Blk.new w 100 #[.int .i64 0, .int .i64 0]) hx1).alloc (Obj.cells #[.int .i64 s.fe, .int .i64 (s.fa : Int)] 100)
      have B3 := Blk.new w1 100 #[.int .i64 s.fe, .int .i64 (s.fa : Int)]
      generalize w1.alloc (Obj.cells #[.int .i64 s.fe, .int .i64 (s.fa : Int)] 100) = wz at B2 B3 X8 ⊢
      have HZ := HK.out.ext X8
      have d1 := HZ.at_
      obtain ⟨A, cap, d0⟩ := HZ.bytes
      clear HZ hx1
      obtain ⟨q2, q2'⟩ := B2.cells
      obtain ⟨q3, q3'⟩ := B3.cells
      go_quiet (fail)
      go_wp2_with (go_at_call 98; refine (ofault_any _ _ _).mono ?_; rintro e w2 ⟨rfl, hx2⟩; have B2' := (B2.drewN _).ext hx2; obtain ⟨p2, p2'⟩ := B2'.cells)
      refine bodyPost_ret (results_c rfl rfl (ld_fault (fault_set B2' _ _))) rfl ⟨?_, (((X8.drewN _).trans hx2).set (Nat.le_refl _) _).set (Nat.le_refl _) _⟩
      rw [HF.out]
    · have hd : decide ((s.at_ : Int) < (s.b.length : Int)) = false := by simpa using ha
      have HF := Lib.hid (show s.fin = (s.fe, s.fa) by unfold RS.fin; rw [if_neg (by omega)])
      replace hs := Lib.hid hs
      go_enter Tryz.func52, Tryz.ntmps52
      go_wp2_with (go_at_call 97; refine (ofaultR_any s g _ (HK.out.ext ((Ext.refl w).alloc _))).mono ?_; rintro e w1 ⟨rfl, hx1⟩)
      have X8 := (((Ext.refl w).alloc _).trans hx1).alloc (Obj.cells #[.int .i64 s.fe, .int .i64 (s.fa : Int)] 100)
      have B2 := (Blk.ext (Blk.new w 100 #[.int .i64 0, .int .i64 0]) hx1).alloc (Obj.cells #[.int .i64 s.fe, .int .i64 (s.fa : Int)] 100)
      have B3 := Blk.new w1 100 #[.int .i64 s.fe, .int .i64 (s.fa : Int)]
      generalize w1.alloc (Obj.cells #[.int .i64 s.fe, .int .i64 (s.fa : Int)] 100) = wz at B2 B3 X8 ⊢
      have HZ := HK.out.ext X8
      have d1 := HZ.at_
      obtain ⟨A, cap, d0⟩ := HZ.bytes
      clear HZ hx1
      obtain ⟨q2, q2'⟩ := B2.cells
      obtain ⟨q3, q3'⟩ := B3.cells
      go_quiet (fail)
      go_wp2_with fail
      refine bodyPost_ret (results_c rfl rfl (ld_fault (fault_set (B2.drewN _) _ _))) rfl ⟨?_, ((X8.drewN _).set (Nat.le_refl _) _).set (Nat.le_refl _) _⟩
      rw [HF.out]
  · have hb : (s.fe == 0) = false := by simp [hs]
    have HF := Lib.hid (show s.fin = (s.fe, s.fa) by unfold RS.fin; rw [if_neg (by omega)])
    go_enter Tryz.func52, Tryz.ntmps52
    go_wp2_with (go_at_call 97; refine (ofaultR_any s g _ (HK.out.ext ((Ext.refl w).alloc _))).mono ?_; rintro e w1 ⟨rfl, hx1⟩)
    have X8 := (((Ext.refl w).alloc _).trans hx1).alloc (Obj.cells #[.int .i64 s.fe, .int .i64 (s.fa : Int)] 100)
    have B2 := (Blk.ext (Blk.new w 100 #[.int .i64 0, .int .i64 0]) hx1).alloc (Obj.cells #[.int .i64 s.fe, .int .i64 (s.fa : Int)] 100)
    have B3 := Blk.new w1 100 #[.int .i64 s.fe, .int .i64 (s.fa : Int)]
    generalize w1.alloc (Obj.cells #[.int .i64 s.fe, .int .i64 (s.fa : Int)] 100) = wz at B2 B3 X8 ⊢
    have HZ := HK.out.ext X8
    have d1 := HZ.at_
    obtain ⟨A, cap, d0⟩ := HZ.bytes
    clear HZ hx1
    obtain ⟨q2, q2'⟩ := B2.cells
    obtain ⟨q3, q3'⟩ := B3.cells
    go_quiet (fail)
    go_wp2_with fail
    refine bodyPost_ret (results_c rfl rfl (ld_fault (fault_set (B2.drewN _) _ _))) rfl ⟨?_, ((X8.drewN _).set (Nat.le_refl _) _).set (Nat.le_refl _) _⟩
    rw [HF.out]

theorem RdO.set {w : World} {g : Nat} {s : RS} (h : RdO w g s) {p : Addr} (hp : g < p.block) (u : Value) : RdO (w.setCell p u) g s := by
  obtain ⟨A, cap, hB, hr, hc, hm⟩ := h.ex
  exact ⟨⟨A, cap, hB.far (Nat.ne_of_lt hp) u, hr.keep fun b o hb => World.cell?_setCell_far _ _ _ _ (Nat.ne_of_gt (Nat.lt_trans hb hp)), hc, hm⟩, h.ok⟩
theorem ext_grown {w a b : World} {row : Option Nat} (hx : Ext w a) (hG : a.grownBy b row) : w.grownBy b row :=
  ⟨hG.os.trans hx.below.os, hG.tape.trans hx.below.tape, hG.output.trans hx.below.output, Nat.le_trans hx.size hG.size, fun k hk hne => (hG.block k (Nat.lt_of_lt_of_le hk hx.size) hne).trans (hx.block k hk)⟩

end Go.Proofs.YtokakpbpenndlaaGreatDoor

set_option linter.unusedVariables false
namespace Go.Proofs.YtokakpbpenndlaaGreatDoor
open Go.RowKit

def zOrd : Array Value := #[.int .i64 0, .int .i64 0, .int .i64 0, .int .i64 0, .slice none 0 0]
def exitW (W : World) (n2 n3 : Nat) (v0 v1 v2 v3 v4 x y : Value) : World :=
  ((((((W.setCell ⟨n2, 0, none⟩ v0).setCell ⟨n2, 1, none⟩ v1).setCell ⟨n2, 2, none⟩ v2).setCell ⟨n2, 3, none⟩ v3).setCell ⟨n2, 4, none⟩ v4).setCell ⟨n3, 0, none⟩ x).setCell ⟨n3, 1, none⟩ y
end Go.Proofs.YtokakpbpenndlaaGreatDoor

set_option linter.unusedVariables false
namespace Go.Proofs.YtokakpbpenndlaaGreatDoor
open Go.RowKit
end Go.Proofs.YtokakpbpenndlaaGreatDoor

namespace Go.Proofs.YtokakpbpenndlaaGreatDoor
open Go.RowKit

theorem sameBytes_t (a : List UInt8) (A A' : Option Addr) (n n' c c' : Nat) (w : World) (h1 : Reads w w.heap.size 1 A n (bV a)) (h2 : Reads w w.heap.size 1 A' n' (bV a)) :
    Calls Tryz.prog 20 #[.slice A n c, .slice A' n' c'] w fun e w' => e = .returned (.bool true) ∧ w = w' :=
  (sameBytes_any a a A A' n n' c c' w h1 h2).mono fun e w' ⟨h, hw⟩ => ⟨by rw [h, beq_self_eq_true], hw⟩
/-- The six cells of an order and a fault that lie in two blocks. -/
abbrev Six (w : World) (g : Nat) (a b c d : Int) (s : Value) (h : Nat) : Prop :=
  w.cell? ⟨g, 0, none⟩ = some (.int .i64 a) ∧ w.cell? ⟨g, 1, none⟩ = some (.int .i64 b) ∧ w.cell? ⟨g, 2, none⟩ = some (.int .i64 c) ∧ w.cell? ⟨g, 3, none⟩ = some (.int .i64 d) ∧ w.cell? ⟨g, 4, none⟩ = some s ∧ w.cell? ⟨h, 0, none⟩ = some (.int .i64 0)

end Go.Proofs.YtokakpbpenndlaaGreatDoor

set_option linter.unusedVariables false
namespace Go.Proofs.YtokakpbpenndlaaGreatDoor
open Go.RowKit

/-- Block g is a reader of the reference that stands as s. -/
structure RdR (w : World) (g : Nat) (s : RS) : Prop where
  ex : ∃ A cap, Blk w g 104 #[.slice A s.b.length cap, .int .i64 (s.at_ : Int), .int .i64 s.fe, .int .i64 (s.fa : Int)] ∧ Reads w g 1 A s.b.length (bV s.b) ∧ s.b.length ≤ cap ∧ cap ≤ maxLen
  ok : s.ok
theorem RdR.lt {w : World} {g : Nat} {s : RS} (h : RdR w g s) : g < w.heap.size := by obtain ⟨A, cap, hB, _⟩ := h.ex; exact hB.lt
theorem RdR.ext {w w' : World} {g : Nat} {s : RS} (h : RdR w g s) (hx : Ext w w') : RdR w' g s := by
  obtain ⟨A, cap, hB, hr, hc, hm⟩ := h.ex
  exact ⟨⟨A, cap, hB.ext hx, hr.extB (Nat.le_of_lt hB.lt) hx, hc, hm⟩, h.ok⟩
def rrCells (A : Option Addr) (n cap at_ : Nat) (fe : Int) (fa : Nat) : Array Value := #[.slice A n cap, .int .i64 (at_ : Int), .int .i64 fe, .int .i64 (fa : Int)]
theorem RdR.upd {w w' : World} {g : Nat} {s s' : RS} (h : RdR w g s) (hg : w.grownBy w' (some g)) (hb : s'.b = s.b) (hok : s'.ok)
    (hB : ∀ A cap, Blk w g 104 (rrCells A s.b.length cap s.at_ s.fe s.fa) → Blk w' g 104 (rrCells A s.b.length cap s'.at_ s'.fe s'.fa)) : RdR w' g s' := by
  obtain ⟨A, cap, hB', hr, hc, hm⟩ := h.ex
  refine ⟨⟨A, cap, by rw [hb]; exact hB A cap hB', ?_, by rw [hb]; exact hc, hm⟩, hok⟩
  rw [hb]
  exact hr.keep fun b o hlt => World.cell?_of_block (a := ⟨b, o, none⟩) (hg.block b (Nat.lt_trans hlt hB'.lt) (fun e => by have := Option.some.inj e; omega))
theorem RdR.at_ {w : World} {g : Nat} {s : RS} (h : RdR w g s) : w.cell? ⟨g, 1, none⟩ = some (.int .i64 (s.at_ : Int)) := by
  obtain ⟨A, cap, hB', hr, hc, hm⟩ := h.ex
  exact hB'.cell 1
theorem RdR.fe {w : World} {g : Nat} {s : RS} (h : RdR w g s) : w.cell? ⟨g, 2, none⟩ = some (.int .i64 s.fe) := by
  obtain ⟨A, cap, hB', hr, hc, hm⟩ := h.ex
  exact hB'.cell 2
theorem RdR.fa {w : World} {g : Nat} {s : RS} (h : RdR w g s) : w.cell? ⟨g, 3, none⟩ = some (.int .i64 (s.fa : Int)) := by
  obtain ⟨A, cap, hB', hr, hc, hm⟩ := h.ex
  exact hB'.cell 3
theorem RdR.bytes {w : World} {g : Nat} {s : RS} (h : RdR w g s) : ∃ A cap, w.cell? ⟨g, 0, none⟩ = some (.slice A s.b.length cap) := by
  obtain ⟨A, cap, hB', hr, hc, hm⟩ := h.ex
  exact ⟨A, cap, hB'.cell 0⟩
theorem RdR.frz {w : World} {g : Nat} {s : RS} (h : RdR w g s) (i : Nat) : w.frozen? ⟨g, i, none⟩ = false := by
  obtain ⟨A, cap, hB', hr, hc, hm⟩ := h.ex
  exact hB'.frozen i

theorem num3 (s : RS) (lo hi above : Int) (h0 : s.fe = 0) (ha : above ≠ 0) :
    ((getN s.b s.at_).fe ≠ 0 → s.num lo hi above = (0, { s with fe := (getN s.b s.at_).fe, fa := (getN s.b s.at_).fa })) ∧
    ((getN s.b s.at_).fe = 0 → hi < (getN s.b s.at_).n → s.num lo hi above = (0, { s with fe := above, fa := s.at_ })) ∧
    ((getN s.b s.at_).fe = 0 → (getN s.b s.at_).n ≤ hi → (getN s.b s.at_).n < lo → s.num lo hi above = (0, { s with fe := 5, fa := s.at_ })) ∧
    ((getN s.b s.at_).fe = 0 → lo ≤ (getN s.b s.at_).n → (getN s.b s.at_).n ≤ hi → s.num lo hi above = ((getN s.b s.at_).n, { s with at_ := (getN s.b s.at_).next })) := by
  unfold RS.num
  rw [if_neg (by simpa using h0)]
  simp only
  refine ⟨fun h => by rw [if_pos h], fun h h1 => by rw [if_neg (by simpa using h), if_pos h1], fun h h1 h2 => by rw [if_neg (by simpa using h), if_neg (by omega), if_pos h2], fun h h1 h2 => by rw [if_neg (by simpa using h), if_neg (by omega), if_neg (by omega)]⟩
theorem num5 {s : RS} {lo hi : Int} {G : Got} (h : (G.fe ≠ 0 → s.num lo hi 5 = (0, { s with fe := G.fe, fa := G.fa })) ∧ (G.fe = 0 → hi < G.n → s.num lo hi 5 = (0, { s with fe := 5, fa := s.at_ })) ∧
    (G.fe = 0 → G.n ≤ hi → G.n < lo → s.num lo hi 5 = (0, { s with fe := 5, fa := s.at_ })) ∧ (G.fe = 0 → lo ≤ G.n → G.n ≤ hi → s.num lo hi 5 = (G.n, { s with at_ := G.next }))) (h0 : G.fe = 0) (h1 : G.n < lo ∨ hi < G.n) : s.num lo hi 5 = (0, { s with fe := 5, fa := s.at_ }) := by
  by_cases h2 : hi < G.n
  · exact h.2.1 h0 h2
  · exact h.2.2.1 h0 (by omega) (by omega)
theorem Blk.drew {w : World} {g : Nat} {t : TypeId} {cs : Array Value} (h : Blk w g t cs) : Blk w.drew g t cs := h
theorem rend_bad {s : RS} {lo hi above : Int} {g : Nat} {w wz : World} {e : Int} {a : Nat} (h : RdR w g s) (hn : s.num lo hi above = (0, { s with fe := e, fa := a })) (hx : Ext w wz) :
    Ending.returned (.int .i64 0) = .returned (.int .i64 (s.num lo hi above).1) ∧ RdR ((wz.setCell ⟨g, 2, none⟩ (.int .i64 e)).setCell ⟨g, 3, none⟩ (.int .i64 (a : Int))) g (s.num lo hi above).2 ∧
      w.grownBy ((wz.setCell ⟨g, 2, none⟩ (.int .i64 e)).setCell ⟨g, 3, none⟩ (.int .i64 (a : Int))) (some g) := by
  have hok := RS.num_ok h.ok lo hi above
  rw [hn] at hok ⊢
  have GB := only_set (only_set (only_ext (World.grownBy.refl w (some g)) hx) (p := ⟨g, 2, none⟩) (.inl rfl) (.int .i64 e)) (p := ⟨g, 3, none⟩) (.inl rfl) (.int .i64 (a : Int))
  exact ⟨rfl, h.upd (s' := { s with fe := e, fa := a }) GB rfl hok.1 fun A cap B => ((B.ext hx).set_ 2 _).set_ 3 _, GB⟩
theorem rend_ok {s : RS} {lo hi above n : Int} {g : Nat} {w wz : World} {next : Nat} (h : RdR w g s) (hn : s.num lo hi above = (n, { s with at_ := next })) (hx : Ext w wz) :
    Ending.returned (.int .i64 n) = .returned (.int .i64 (s.num lo hi above).1) ∧ RdR (wz.setCell ⟨g, 1, none⟩ (.int .i64 (next : Int))) g (s.num lo hi above).2 ∧
      w.grownBy (wz.setCell ⟨g, 1, none⟩ (.int .i64 (next : Int))) (some g) := by
  have hok := RS.num_ok h.ok lo hi above
  rw [hn] at hok ⊢
  have GB := only_set (only_ext (World.grownBy.refl w (some g)) hx) (p := ⟨g, 1, none⟩) (.inl rfl) (.int .i64 (next : Int))
  exact ⟨rfl, h.upd (s' := { s with at_ := next }) GB rfl hok.1 fun A cap B => (B.ext hx).set_ 1 _, GB⟩

set_option maxRecDepth 100000 in
set_option maxHeartbeats 1000000 in
theorem rint_any (s : RS) (lo hi : Int) (g : Nat) (w : World) (h : RdR w g s) :
    Calls Tryz.prog 53 #[.pointer (some ⟨g, 0, none⟩), .int .i64 lo, .int .i64 hi] w fun e w' =>
      e = .returned (.int .i64 (s.num lo hi 5).1) ∧ RdR w' g (s.num lo hi 5).2 ∧ w.grownBy w' (some g) := by
  have hg := h.lt
  have d2 := h.fe
  have d3 := h.fa
  have d1 := h.at_
  have f1 := h.frz 1
  have f2 := h.frz 2
  have f3 := h.frz 3
  have HK := Lib.hid h
  by_cases hs : s.fe = 0
  case neg =>
    have hb : (s.fe != 0) = true := by simp [hs]
    clear h
    go_enter Tryz.func53, Tryz.ntmps53
    go_wp2
    go_ret
    exact ⟨by rw [RS.num_sticky hs]; rfl, by rw [RS.num_sticky hs]; exact HK.out, World.grownBy.refl _ _⟩
  case pos =>
    obtain ⟨A, cap, hB, hr, hc, hm⟩ := h.ex
    have hok1 := h.ok.1
    have d0 : w.cell? ⟨g, 0, none⟩ = some (.slice A s.b.length cap) := hB.cell 0
    have RR := Lib.hid (fun (W : World) (hx : Ext w W) => (hr.more (Nat.le_of_lt hB.lt)).ext hx)
    have hfe : (s.fe != 0) = false := by simp [hs]
    clear hr hB h
    have HN := Lib.hid (num3 s lo hi 5 hs (by decide))
    generalize hG : getN s.b s.at_ = G at HN
    have HG := Lib.hid hG
    clear hG
    go_enter Tryz.func53, Tryz.ntmps53
    go_wp2_with fail
    go_region_held3 (fun w' => w'.cell? ⟨g, 0, none⟩ = some (.slice A s.b.length cap) ∧ w'.cell? ⟨g, 1, none⟩ = some (.int .i64 (s.at_ : Int))) (first | (with_reducible exact ⟨k4, k5⟩) | (with_reducible exact ⟨al_some k4 _, al_some k5 _⟩) | (with_reducible exact ⟨set_some2 k4 hg, set_some2 k5 hg⟩) | (simp [go_sem, *]; done)) (first | (go_at_call 99; refine (rget_t s.b A cap s.at_ _ G HG (RR.out _ (by first | with_reducible exact (Ext.refl w).drew | with_reducible exact ((Ext.refl w).alloc _).drew)) hc hm hok1).mono ?_; rintro e w1 ⟨rfl, hx1⟩; have X1 : Ext w w1 := Ext.trans (by first | with_reducible exact (Ext.refl w).drew | with_reducible exact ((Ext.refl w).alloc _).drew) hx1; (first | (have B9 : Blk w1 w.heap.size 100 #[.int .i64 0, .int .i64 0] := Blk.ext (Blk.drew (Blk.new w _ _)) hx1; obtain ⟨q9, q9'⟩ := B9.cells) | skip); have k4 := (X1.cell g 0 none hg).trans d0; have k5 := (X1.cell g 1 none hg).trans d1))
    all_goals
      first
      | (have B8 := fault_set B9 (.int .i64 G.fe) (.int .i64 (G.fa : Int))
         have X8 := (X1.set (p := ⟨w.heap.size, 0, none⟩) (Nat.le_refl _) (.int .i64 G.fe)).set (p := ⟨w.heap.size, 1, none⟩) (Nat.le_refl _) (.int .i64 (G.fa : Int))
         have hn9 : w.heap.size ≤ w.heap.size := Nat.le_refl _
         clear q9 q9' hx1 B9 X1 k4 k5
         generalize ((w1.setCell ⟨w.heap.size, 0, none⟩ (.int .i64 G.fe)).setCell ⟨w.heap.size, 1, none⟩ (.int .i64 (G.fa : Int))) = wz at B8 X8 ⊢)
      | (have B8 := Blk.new w1 100 #[.int .i64 G.fe, .int .i64 (G.fa : Int)]
         have X8 := X1.alloc (Obj.cells #[.int .i64 G.fe, .int .i64 (G.fa : Int)] 100)
         have hn9 : w.heap.size ≤ w1.heap.size := X1.size
         clear hx1 X1 k4 k5
         generalize w1.alloc (Obj.cells #[.int .i64 G.fe, .int .i64 (G.fa : Int)] 100) = wz at B8 X8 ⊢)
    all_goals
      have HZ := RdR.ext HK.out X8
      have k1 := HZ.at_
      have k2 := HZ.fe
      have k3 := HZ.fa
      have j1 := HZ.frz 1
      have j2 := HZ.frz 2
      have j3 := HZ.frz 3
      clear HZ
      obtain ⟨q9, q9'⟩ := B8.cells
      go_wp2_with fail
      all_goals first
        | (have hf := ‹(G.fe != 0) = true›; refine bodyPost_ret (results_tmp rfl _ _ _) rfl ?_; exact rend_bad HK.out (HN.out.1 (by simpa using hf)) X8)
        | (have hf := ‹lo ≤ G.n ∧ G.n ≤ hi›; refine bodyPost_ret (results_tmp rfl _ _ _) rfl ?_; exact rend_ok HK.out (HN.out.2.2.2 ‹G.fe = 0› hf.1 hf.2) X8)
        | (have hf := ‹G.n < lo ∨ hi < G.n›; have HQ := num5 HN.out ‹G.fe = 0› hf; refine bodyPost_ret (results_tmp rfl _ _ _) rfl ?_; exact rend_bad (e := 5) (a := s.at_) HK.out HQ ((X8.set (p := ⟨_, 0, none⟩) hn9 _).set (p := ⟨_, 1, none⟩) hn9 _))
        | (have hf := ‹G.n < lo›; have HQ := num5 HN.out ‹G.fe = 0› (.inl hf); refine bodyPost_ret (results_tmp rfl _ _ _) rfl ?_; exact rend_bad (e := 5) (a := s.at_) HK.out HQ ((X8.set (p := ⟨_, 0, none⟩) hn9 _).set (p := ⟨_, 1, none⟩) hn9 _))

set_option maxRecDepth 100000 in
set_option maxHeartbeats 2000000 in
theorem rend_any (s : RS) (g : Nat) (w : World) (h : RdR w g s) :
    Calls Tryz.prog 54 #[.pointer (some ⟨g, 0, none⟩)] w fun e w' => e = .returned (.agg #[.int .i64 s.fin.1, .int .i64 (s.fin.2 : Int)]) ∧ Ext w w' := by
  have hg := h.lt
  have d2 := h.fe
  have d3 := h.fa
  have d1 := h.at_
  obtain ⟨A, cap, d0⟩ := h.bytes
  clear h
  have HB := Blk.new w 100 #[.int .i64 0, .int .i64 0]
  obtain ⟨q9, q9'⟩ := HB.cells
  by_cases hs : s.fe = 0
  · have hb : (s.fe == 0) = true := by simp [hs]
    by_cases ha : s.at_ < s.b.length
    · have hd : decide ((s.at_ : Int) < (s.b.length : Int)) = true := by simpa using ha
      have HF := Lib.hid (show s.fin = (4, s.at_) by unfold RS.fin; rw [if_pos ⟨hs, ha⟩])
      replace hs := Lib.hid hs
      go_enter Tryz.func54, Tryz.ntmps54
      go_wp2_with fail
      go_quiet (fail)
      go_wp2_with fail
      refine bodyPost_ret (results_c rfl rfl (ld_fault (fault_set ((Blk.new w 100 #[.int .i64 0, .int .i64 0]).drewN _) _ _))) rfl ⟨?_, ((((Ext.refl w).alloc _).drewN _).set (Nat.le_refl _) _).set (Nat.le_refl _) _⟩
      rw [HF.out]
    · have hd : decide ((s.at_ : Int) < (s.b.length : Int)) = false := by simpa using ha
      have HF := Lib.hid (show s.fin = (s.fe, s.fa) by unfold RS.fin; rw [if_neg (by omega)])
      replace hs := Lib.hid hs
      go_enter Tryz.func54, Tryz.ntmps54
      go_wp2_with fail
      go_quiet (fail)
      go_wp2_with fail
      refine bodyPost_ret (results_c rfl rfl (ld_fault (fault_set ((Blk.new w 100 #[.int .i64 0, .int .i64 0]).drewN _) _ _))) rfl ⟨?_, ((((Ext.refl w).alloc _).drewN _).set (Nat.le_refl _) _).set (Nat.le_refl _) _⟩
      rw [HF.out]
  · have hb : (s.fe == 0) = false := by simp [hs]
    have HF := Lib.hid (show s.fin = (s.fe, s.fa) by unfold RS.fin; rw [if_neg (by omega)])
    go_enter Tryz.func54, Tryz.ntmps54
    go_wp2_with fail
    go_quiet (fail)
    go_wp2_with fail
    refine bodyPost_ret (results_c rfl rfl (ld_fault (fault_set ((Blk.new w 100 #[.int .i64 0, .int .i64 0]).drewN _) _ _))) rfl ⟨?_, ((((Ext.refl w).alloc _).drewN _).set (Nat.le_refl _) _).set (Nat.le_refl _) _⟩
    rw [HF.out]
end Go.Proofs.YtokakpbpenndlaaGreatDoor
