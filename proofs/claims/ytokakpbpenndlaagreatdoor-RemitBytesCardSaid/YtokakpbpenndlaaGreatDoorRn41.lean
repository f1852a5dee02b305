/-
  The program's reader: its methods, whole.
-/
import Derived.Test.YtokakpbpenndlaaGreatDoorRn40
import Derived.Test.YtokakpbpenndlaaGreatDoorRn33
import Derived.Test.YtokakpbpenndlaaGreatDoorRn35
set_option linter.unusedVariables false
namespace Go.Proofs.YtokakpbpenndlaaGreatDoor
open Go.RowKit

set_option maxRecDepth 100000 in
set_option maxHeartbeats 1000000 in
theorem onumber_any (s : RS) (lo hi above : Int) (g : Nat) (w : World) (h : RdO w g s) (ha : above ≠ 0) :
    Calls Tryz.prog 96 #[.pointer (some ⟨g, 0, none⟩), .int .i64 lo, .int .i64 hi, .int .i64 above] w fun e w' =>
      e = .returned (.int .i64 (s.num lo hi above).1) ∧ RdO w' g (s.num lo hi above).2 ∧ w.grownBy w' (some g) := by
  have hmf : ∀ (fn : Fn) (first cap : Array Value) (w : World), (Instr.makeFunc fn first cap).run Tryz.prog w = .ok (.func fn first cap) w := fun _ _ _ _ => rfl
  have hg := h.lt
  have HK := Lib.hid h
  clear h
  obtain ⟨x0, x1, x2, x3⟩ := blk4 w 97 3 3 27 #[.pointer (some ⟨g, 0, none⟩)] #[.int .i64 lo] #[.int .i64 hi] #[.int .i64 above]
  have hX : Ext w ((((w.alloc (.cells #[.pointer (some ⟨g, 0, none⟩)] 97)).alloc (.cells #[.int .i64 lo] 3)).alloc (.cells #[.int .i64 hi] 3)).alloc (.cells #[.int .i64 above] 27)) := ((((Ext.refl w).alloc _).alloc _).alloc _).alloc _
  go_enter Tryz.func96, Tryz.ntmps96
  go_wp2_with (go_at_call 133; refine (oread_any s lo hi above g w.heap.size (w.heap.size + 1 + 1) (w.heap.size + 1 + 1 + 1) (w.heap.size + 1) _ (RdO.ext HK.out hX) ha (by omega) (by omega) (by omega) (by omega) (x0.cell 0) (x2.cell 0) (x3.cell 0) (x1.cell 0)).mono ?_; rintro e w2 ⟨rfl, hR, hG⟩)
  refine bodyPost_ret (results_tmp rfl _ _ _) rfl ⟨rfl, hR, ?_⟩
  exact ⟨hG.os, hG.tape, hG.output, Nat.le_trans hX.size hG.size, fun k hk hne => (hG.block k (Nat.lt_of_lt_of_le hk hX.size) hne).trans (hX.block k hk)⟩

theorem oint_any (s : RS) (lo hi : Int) (g : Nat) (w : World) (h : RdO w g s) :
    Calls Tryz.prog 51 #[.pointer (some ⟨g, 0, none⟩), .int .i64 lo, .int .i64 hi] w fun e w' =>
      e = .returned (.int .i64 (s.num lo hi 5).1) ∧ RdO w' g (s.num lo hi 5).2 ∧ w.grownBy w' (some g) := by
  go_enter Tryz.func51, Tryz.ntmps51
  go_wp2_with (go_at_call 96; refine (onumber_any s lo hi 5 g _ h (by decide)).mono ?_; rintro e w' ⟨rfl, hR, hG⟩)
  exact bodyPost_ret (results_tmp rfl _ _ _) rfl ⟨rfl, hR, hG⟩
set_option maxRecDepth 100000 in
theorem ofaultR_any (s : RS) (g : Nat) (w : World) (h : RdO w g s) :
    Calls Tryz.prog 97 #[.pointer (some ⟨g, 0, none⟩)] w fun e w' => e = .returned (.agg #[.int .i64 s.fe, .int .i64 (s.fa : Int)]) ∧ Ext w w' := by
  have hg := h.lt
  have d2 := h.fe
  have d3 := h.fa
  have HK := Lib.hid h
  clear h
  go_enter Tryz.func97, Tryz.ntmps97
  go_wp2_with (go_at_call 136; refine (onone_any g s _ (HK.out.ext ((Ext.refl w).alloc _))).mono ?_; rintro e w' ⟨rfl, rfl⟩)
  exact bodyPost_ret (results_c rfl rfl (ld_fault (Blk.new w 100 #[.int .i64 s.fe, .int .i64 (s.fa : Int)]))) rfl ⟨rfl, (Ext.refl w).alloc _⟩
end Go.Proofs.YtokakpbpenndlaaGreatDoor

set_option linter.unusedVariables false
namespace Go.Proofs.YtokakpbpenndlaaGreatDoor
open Go.RowKit

set_option maxRecDepth 100000 in
set_option maxHeartbeats 1000000 in
theorem onew_any (b : List UInt8) (A : Option Addr) (cap : Nat) (w : World) (hr : Reads w w.heap.size 1 A b.length (bV b)) (hm : b.length ≤ 1000000) :
    Calls Tryz.prog 50 #[.slice A b.length cap] w fun e w' => ∃ w1 : World, e = .returned (.pointer (some ⟨w1.heap.size, 0, none⟩)) ∧ Ext w w1 ∧ RdO w' w1.heap.size (RS.start b) ∧ Ext w1 w' := by
  go_enter Tryz.func50, Tryz.ntmps50
  go_wp2_with (at_builtin; refine wpl_app row_u8 w w _ (.tmp 3) rfl rfl rfl (World.ownsRow_nil _ _ _ _) (Ext.refl w) rfl hr (bV_one _) (by omega) (by unfold maxLen; omega) ?_; intro v1 w1 hg; obtain ⟨A1, c1, rfl, hc1, hm1, hr1⟩ := own_slice hg.own)
  simp only [Nat.zero_add, List.nil_append] at hc1 hr1
  refine bodyPost_ret (results_tmp rfl _ _ _) rfl ⟨w1, rfl, hg.ext, ⟨⟨A1, c1, ?_, ?_, hc1, hm1⟩, by simp [RS.ok, RS.start]⟩, (Ext.refl w1).alloc _⟩
  · have := Blk.new w1 173 #[.slice A1 b.length c1, .int .i64 0, .int .i64 0, .int .i64 0, .bool true]
    simpa [RS.start] using this
  · exact hr1.extB (Nat.le_refl _) ((Ext.refl w1).alloc _)

set_option maxRecDepth 100000 in
set_option maxHeartbeats 2000000 in
theorem oend_any (s : RS) (g : Nat) (w : World) (h : RdO w g s) :
    Calls Tryz.prog 52 #[.pointer (some ⟨g, 0, none⟩)] w fun e w' => e = .returned (.agg #[.int .i64 s.fin.1, .int .i64 (s.fin.2 : Int)]) ∧ Ext w w' := by
  have hg := h.lt
  have HK := Lib.hid h
  clear h
  by_cases hs : s.fe = 0
  · have hb : (s.fe == 0) = true := by simp [hs]
    by_cases ha : s.at_ < s.b.length
    · have hd : decide ((s.at_ : Int) < (s.b.length : Int)) = true := by simpa using ha
      have HF := Lib.hid (show s.fin = (4, s.at_) by unfold RS.fin; rw [if_pos ⟨hs, ha⟩])
      replace hs := Lib.hid hs
      go_enter Tryz.func52, Tryz.ntmps52
      go_wp2_with (go_at_call 97; refine (ofaultR_any s g _ (HK.out.ext ((Ext.refl w).alloc _))).mono ?_; rintro e w1 ⟨rfl, hx1⟩)
      have X8 := (((Ext.refl w).alloc _).trans hx1).alloc (Obj.cells #[.int .i64 s.fe, .int .i64 (s.fa : Int)] 100)
      have B2 := (Blk.ext (Blk.new w 100 #[.int .i64 0, .int .i64 0]) hx1).alloc (Obj.cells #[.int .i64 s.fe, .int .i64 (s.fa : Int)] 100)
      have B3 := Blk.new w1 100 #[.int .i64 s.fe, .int .i64 (s.fa : Int)]
      generalize w1.alloc (Obj.cells #[.int .i64 s.fe, .int .i64 (s.fa : Int)] 100) = wz at B2 B3 X8 ⊢
      have HZ := HK.out.ext X8
      have d1 := HZ.at_
      obtain ⟨A, cap, d0⟩ := HZ.bytes
      clear HZ hx1
      obtain ⟨q2, q2'⟩ := B2.cells
      obtain ⟨q3, q3'⟩ := B3.cells
      go_quiet (fail)
      go_wp2_with (go_at_call 98; refine (ofault_any _ _ _).mono ?_; rintro e w2 ⟨rfl, hx2⟩; have B2' := (B2.drewN _).ext hx2; obtain ⟨p2, p2'⟩ := B2'.cells)
      refine bodyPost_ret (results_c rfl rfl (ld_fault (fault_set B2' _ _))) rfl ⟨?_, (((X8.drewN _).trans hx2).set (Nat.le_refl _) _).set (Nat.le_refl _) _⟩
      rw [HF.out]
    · have hd : decide ((s.at_ : Int) < (s.b.length : Int)) = false := by simpa using ha
      have HF := Lib.hid (show s.fin = (s.fe, s.fa) by unfold RS.fin; rw [if_neg (by omega)])
      replace hs := Lib.hid hs
      go_enter Tryz.func52, Tryz.ntmps52
      go_wp2_with (go_at_call 97; refine (ofaultR_any s g _ (HK.out.ext ((Ext.refl w).alloc _))).mono ?_; rintro e w1 ⟨rfl, hx1⟩)
      have X8 := (((Ext.refl w).alloc _).trans hx1).alloc (Obj.cells #[.int .i64 s.fe, .int .i64 (s.fa : Int)] 100)
      have B2 := (Blk.ext (Blk.new w 100 #[.int .i64 0, .int .i64 0]) hx1).alloc (Obj.cells #[.int .i64 s.fe, .int .i64 (s.fa : Int)] 100)
      have B3 := Blk.new w1 100 #[.int .i64 s.fe, .int .i64 (s.fa : Int)]
      generalize w1.alloc (Obj.cells #[.int .i64 s.fe, .int .i64 (s.fa : Int)] 100) = wz at B2 B3 X8 ⊢
      have HZ := HK.out.ext X8
      have d1 := HZ.at_
      obtain ⟨A, cap, d0⟩ := HZ.bytes
      clear HZ hx1
      obtain ⟨q2, q2'⟩ := B2.cells
      obtain ⟨q3, q3'⟩ := B3.cells
      go_quiet (fail)
      go_wp2_with fail
      refine bodyPost_ret (results_c rfl rfl (ld_fault (fault_set (B2.drewN _) _ _))) rfl ⟨?_, ((X8.drewN _).set (Nat.le_refl _) _).set (Nat.le_refl _) _⟩
      rw [HF.out]
  · have hb : (s.fe == 0) = false := by simp [hs]
    have HF := Lib.hid (show s.fin = (s.fe, s.fa) by unfold RS.fin; rw [if_neg (by omega)])
    go_enter Tryz.func52, Tryz.ntmps52
    go_wp2_with (go_at_call 97; refine (ofaultR_any s g _ (HK.out.ext ((Ext.refl w).alloc _))).mono ?_; rintro e w1 ⟨rfl, hx1⟩)
    have X8 := (((Ext.refl w).alloc _).trans hx1).alloc (Obj.cells #[.int .i64 s.fe, .int .i64 (s.fa : Int)] 100)
    have B2 := (Blk.ext (Blk.new w 100 #[.int .i64 0, .int .i64 0]) hx1).alloc (Obj.cells #[.int .i64 s.fe, .int .i64 (s.fa : Int)] 100)
    have B3 := Blk.new w1 100 #[.int .i64 s.fe, .int .i64 (s.fa : Int)]
    generalize w1.alloc (Obj.cells #[.int .i64 s.fe, .int .i64 (s.fa : Int)] 100) = wz at B2 B3 X8 ⊢
    have HZ := HK.out.ext X8
    have d1 := HZ.at_
    obtain ⟨A, cap, d0⟩ := HZ.bytes
    clear HZ hx1
    obtain ⟨q2, q2'⟩ := B2.cells
    obtain ⟨q3, q3'⟩ := B3.cells
    go_quiet (fail)
    go_wp2_with fail
    refine bodyPost_ret (results_c rfl rfl (ld_fault (fault_set (B2.drewN _) _ _))) rfl ⟨?_, ((X8.drewN _).set (Nat.le_refl _) _).set (Nat.le_refl _) _⟩
    rw [HF.out]

theorem RdO.set {w : World} {g : Nat} {s : RS} (h : RdO w g s) {p : Addr} (hp : g < p.block) (u : Value) : RdO (w.setCell p u) g s := by
  obtain ⟨A, cap, hB, hr, hc, hm⟩ := h.ex
  exact ⟨⟨A, cap, hB.far (Nat.ne_of_lt hp) u, hr.keep fun b o hb => World.cell?_setCell_far _ _ _ _ (Nat.ne_of_gt (Nat.lt_trans hb hp)), hc, hm⟩, h.ok⟩
theorem ext_grown {w a b : World} {row : Option Nat} (hx : Ext w a) (hG : a.grownBy b row) : w.grownBy b row :=
  ⟨hG.os.trans hx.below.os, hG.tape.trans hx.below.tape, hG.output.trans hx.below.output, Nat.le_trans hx.size hG.size, fun k hk hne => (hG.block k (Nat.lt_of_lt_of_le hk hx.size) hne).trans (hx.block k hk)⟩

end Go.Proofs.YtokakpbpenndlaaGreatDoor

set_option linter.unusedVariables false
namespace Go.Proofs.YtokakpbpenndlaaGreatDoor
open Go.RowKit Go.Maps

/-- The reading of a report, the first k numbers read. -/
def rstF (f : RS → Int × RS) (s : RS) : Nat → RS × Array Value
  | 0 => (s, zRep)
  | k + 1 => ((f (rstF f s k).1).2, (rstF f s k).2.setIfInBounds k (.int .i64 (f (rstF f s k).1).1))
def numF (s : RS) : Int × RS := s.num (-9223372036854775808) 9223372036854775807 5
def repF (f : RS → Int × RS) (s : RS) : Rep × RS :=
  (⟨(f s).1, (f (f s).2).1, (f (f (f s).2).2).1, (f (f (f (f s).2).2).2).1, (f (f (f (f (f s).2).2).2).2).1, (f (f (f (f (f (f s).2).2).2).2).2).1, (f (f (f (f (f (f (f s).2).2).2).2).2).2).1, (f (f (f (f (f (f (f (f s).2).2).2).2).2).2).2).1⟩, (f (f (f (f (f (f (f (f s).2).2).2).2).2).2).2).2)
theorem rstF_8 (f : RS → Int × RS) (s : RS) : rstF f s 8 = ((repF f s).2, (repF f s).1.cs) := rfl
theorem repP_F (b : List UInt8) : repP b = repF numF (RS.start b) := rfl
def rst (b : List UInt8) (k : Nat) : RS × Array Value := rstF numF (RS.start b) k
theorem rst_8 (b : List UInt8) : rst b 8 = ((repP b).2, (repP b).1.cs) := by
  rw [repP_F]
  exact rstF_8 numF (RS.start b)
structure R8 (w w1 W : World) (b5 : Nat) (s : RS) (cs : Array Value) : Prop where
  rd : RdO W w1.heap.size s
  h2 : Blk W w.heap.size 23 zRep
  h5 : Blk W b5 23 cs
  ew : Ext w w1
  e1 : Ext w1 W
  lg : w.heap.size < w1.heap.size
  l5 : w1.heap.size < b5
theorem R8.ext {w w1 W : World} {b5 : Nat} {s : RS} {cs : Array Value} (h : R8 w w1 W b5 s cs) : Ext w W := h.ew.trans h.e1
theorem R8.call {w w1 W W' : World} {b5 : Nat} {s s' : RS} {cs : Array Value} (h : R8 w w1 W b5 s cs) (hR : RdO W' w1.heap.size s') (hG : W.grownBy W' (some w1.heap.size)) : R8 w w1 W' b5 s' cs := by
  have l := h.lg
  have l' := h.l5
  exact ⟨hR, h.h2.grown hG (by intro e; have := Option.some.inj e; omega), h.h5.grown hG (by intro e; have := Option.some.inj e; omega), h.ew, h.e1.grown hG (by intro k e; have := Option.some.inj e; omega), h.lg, h.l5⟩
theorem R8.to {w w1 W W' : World} {b5 : Nat} {s : RS} {cs : Array Value} (h : R8 w w1 W b5 s cs) (hx : Ext W W') : R8 w w1 W' b5 s cs :=
  ⟨h.rd.ext hx, h.h2.ext hx, h.h5.ext hx, h.ew, h.e1.trans hx, h.lg, h.l5⟩
theorem R8.set {w w1 W : World} {b5 : Nat} {s : RS} {cs : Array Value} (h : R8 w w1 W b5 s cs) (i : Nat) (v : Value) : R8 w w1 (W.setCell ⟨b5, i, none⟩ v) b5 s (cs.setIfInBounds i v) := by
  have l := h.lg
  have l' := h.l5
  exact ⟨h.rd.set (p := ⟨b5, i, none⟩) l' v, h.h2.far (p := ⟨b5, i, none⟩) (show w.heap.size ≠ b5 by omega) v, h.h5.set_ i v, h.ew, h.e1.set (p := ⟨b5, i, none⟩) (show w1.heap.size ≤ b5 by omega) v, l, l'⟩
def RrRel (w w1 : World) (b5 : Nat) (b : List UInt8) (i : Value) (wr : World) : Prop := ∃ k : Nat, k ≤ 8 ∧ i = .int .i64 (k : Int) ∧ R8 w w1 wr b5 (rst b k).1 (rst b k).2
theorem rstF_at (f : RS → Int × RS) (s : RS) : ∀ k, k < 8 → (rstF f s k).2[k]? = some (.int .i64 0)
  | 0, _ => rfl
  | 1, _ => rfl
  | 2, _ => rfl
  | 3, _ => rfl
  | 4, _ => rfl
  | 5, _ => rfl
  | 6, _ => rfl
  | 7, _ => rfl
  | n + 8, h => absurd h (by omega)
theorem rst_at (b : List UInt8) (k : Nat) (h : k < 8) : (rst b k).2[k]? = some (.int .i64 0) := rstF_at _ _ k h
theorem num_i64 (s : RS) (above : Int) : i64 (s.num (-9223372036854775808) 9223372036854775807 above).1 := by
  unfold RS.num
  by_cases h0 : s.fe ≠ 0
  · rw [if_pos h0]; exact (by decide : i64 0)
  rw [if_neg h0]
  simp only
  by_cases h1 : (getN s.b s.at_).fe ≠ 0
  · rw [if_pos h1]; exact (by decide : i64 0)
  rw [if_neg h1]
  by_cases h2 : 9223372036854775807 < (getN s.b s.at_).n
  · rw [if_pos h2]; exact (by decide : i64 0)
  rw [if_neg h2]
  by_cases h3 : (getN s.b s.at_).n < -9223372036854775808
  · rw [if_pos h3]; exact (by decide : i64 0)
  rw [if_neg h3]
  unfold i64
  omega
theorem repP_i64 (b : List UInt8) : (repP b).1.i64s := by
  constructor <;> exact num_i64 _ _
set_option maxRecDepth 100000 in
set_option maxHeartbeats 2000000 in
theorem rread30_any (b : List UInt8) (A : Option Addr) (cap : Nat) (w : World) (hr : Reads w w.heap.size 1 A b.length (bV b)) (hm : b.length ≤ 1000000) :
    Calls Tryz.prog 16 #[.slice A b.length cap] w fun r w' => r = .returned (.tuple #[(readRep b).1.V, .int .i64 (readRep b).2]) ∧ Ext w w' := by
  have X0 := (Ext.refl w).alloc (.cells #[.int .i64 0, .int .i64 0, .int .i64 0, .int .i64 0, .int .i64 0, .int .i64 0, .int .i64 0, .int .i64 0] 23)
  have B0 := Blk.new w 23 #[.int .i64 0, .int .i64 0, .int .i64 0, .int .i64 0, .int .i64 0, .int .i64 0, .int .i64 0, .int .i64 0]
  have Z0 := Lib.hid (show (w.alloc (.cells #[.int .i64 0, .int .i64 0, .int .i64 0, .int .i64 0, .int .i64 0, .int .i64 0, .int .i64 0, .int .i64 0] 23)).heap.size = w.heap.size + 1 by simp)
  have HR := Lib.hid (hr.ext X0)
  have HRe := Lib.hid (show readRep b = if (repP b).2.fin.1 ≠ 0 ∨ (repP b).1.check ≠ 0 then (Rep.zero, 4) else ((repP b).1, 0) from rfl)
  have HI := Lib.hid (repP_i64 b)
  obtain ⟨R, hR⟩ : ∃ R, readRep b = R := ⟨_, rfl⟩
  rw [hR] at HRe ⊢
  replace hR := Lib.hid hR
  clear hr
  go_enter Tryz.func16, Tryz.ntmps16
  go_wp2_with fail
  refine (onew_any b A cap _ HR.out hm).mono ?_
  rintro e w2 ⟨w1, rfl, hew, hR1, hx1⟩
  go_wp2_with fail
  have S1 : R8 w w1 (w2.alloc (.cells zRep 23)) w2.heap.size (RS.start b) zRep := ⟨hR1.ext ((Ext.refl w2).alloc _), ((B0.ext hew).ext hx1).alloc _, Blk.new w2 _ _, X0.trans hew, hx1.alloc _, by have := hew.size; rw [Z0.out] at this; omega, hR1.lt⟩
  unfold zRep at S1
  clear B0 X0 Z0 hR1 hx1 hew HR
  generalize w2.alloc (.cells #[.int .i64 0, .int .i64 0, .int .i64 0, .int .i64 0, .int .i64 0, .int .i64 0, .int .i64 0, .int .i64 0] 23) = W at *
  generalize w2.heap.size = b5 at *
  refine (rfields_any b5 _).mono ?_
  rintro e w3 ⟨rfl, hx3⟩
  have H0 := Lib.hid (show RrRel w w1 b5 b (.int .i64 ((0 : Nat) : Int)) w3 from ⟨0, by omega, rfl, S1.to hx3⟩)
  clear S1 hx3
  go_wp2_with fail
  go_loopw [11] (fun i wr => RrRel w w1 b5 b i wr) (fun i _ => 8 - (intOf i).toNat)
  case atStart => exact H0.out
  case round =>
    clear H0
    obtain ⟨k, hk, rfl, hS⟩ := hrel
    by_cases hlt : k < 8
    · have hd : decide ((k : Int) < 8) = true := by simp; omega
      have hix := flds_at b5 k hlt
      have hz := rst_at b k hlt
      have HN := Lib.hid (fun (W' : World) (T : R8 w w1 W' b5 ((rst b k).1.num (-9223372036854775808) 9223372036854775807 5).2 (rst b k).2) => (show RrRel w w1 b5 b (.int .i64 ((k + 1 : Nat) : Int)) (W'.setCell ⟨b5, k, none⟩ (.int .i64 ((rst b k).1.num (-9223372036854775808) 9223372036854775807 5).1)) from ⟨k + 1, by omega, rfl, T.set k _⟩))
      have HS := Lib.hid hS
      generalize (rst b k).1 = s at *
      generalize (rst b k).2 = cs at *
      clear hS
      go_wp2_with fail
      refine (oint_any s (-9223372036854775808) 9223372036854775807 w1.heap.size _ HS.out.rd).mono ?_
      rintro e w5 ⟨rfl, hR, hG⟩
      have T5 := HS.out.call hR hG
      have HN2 := Lib.hid (HN.out _ T5)
      have c5 := (T5.h5.cell k).trans hz
      have f5 := T5.h5.frozen k
      have l5 := T5.h5.lt
      clear HN hR hG T5 HS
      go_wp2_with fail
      go_roundw
      case rel => exact HN2.out
      case measure => simp [intOf]; omega
    · have hk8 : k = 8 := by omega
      have hd : decide ((k : Int) < 8) = false := by simp; omega
      rw [hk8, rst_8] at hS
      simp only at hS
      clear hk8
      generalize repP b = Q at *
      obtain ⟨q, s⟩ := Q
      simp only at hS HRe HI
      have HS := Lib.hid hS
      clear hS
      go_wp2_with fail
      refine (oend_any s w1.heap.size _ HS.out.rd).mono ?_
      rintro e w5 ⟨rfl, hx5⟩
      have T5 := HS.out.to hx5
      have hfl : ∀ (a b : Value) (w : World), (Instr.field 100 (.agg #[a, b]) 0).run Tryz.prog w = .ok a w := fun _ _ _ => rfl
      obtain ⟨p2, p2'⟩ := T5.h2.cells
      have l2 := T5.h2.lt
      have HT5 := Lib.hid T5
      clear T5 hx5
      by_cases hf : s.fin.1 = 0
      case neg =>
        have hb : (s.fin.1 != 0) = true := by simpa using hf
        have HE := Lib.hid (HRe.out.trans (if_pos (.inl hf)))
        replace hf := Lib.hid hf
        generalize s.fin.1 = f1 at *
        go_wp2_with fail
        exact bodyPost_ret (results_ct rfl rfl (ld_rep (put8 HT5.out.h2))) rfl ⟨by rw [HE.out]; rfl, ext8 HT5.out.ext (Nat.le_refl _) _ _ _ _ _ _ _ _⟩
      have hb : (s.fin.1 != 0) = false := by simp [hf]
      have hq5 := Lib.hid (show Blk w5 b5 23 #[.int .i64 q.j, .int .i64 q.k, .int .i64 q.p, .int .i64 q.t, .int .i64 q.x, .int .i64 q.v, .int .i64 q.s, .int .i64 q.r] from HT5.out.h5)
      obtain ⟨p5, p5'⟩ := hq5.out.cells
      have HC := Lib.hid (rrcheck_any q HI.out.k)
      obtain ⟨C, hC⟩ : ∃ C, q.check = C := ⟨_, rfl⟩
      rw [hC] at HC HRe
      replace hC := Lib.hid hC
      replace hf := Lib.hid hf
      generalize s.fin.1 = f1 at *
      by_cases hc : C = 0
      case neg =>
        have hcb : (C != 0) = true := by simpa using hc
        have HE := Lib.hid (HRe.out.trans (if_pos (.inr hc)))
        replace hc := Lib.hid hc
        go_wp2_with fail
        refine (HC.out _).mono ?_
        rintro e w6 ⟨rfl, hx6⟩
        have T6 := Lib.hid (HT5.out.to hx6)
        clear p2 p2' p5 p5' l2
        obtain ⟨p2, p2'⟩ := T6.out.h2.cells
        have l2 := T6.out.h2.lt
        clear HT5 hx6
        go_wp2_with fail
        exact bodyPost_ret (results_ct rfl rfl (ld_rep (put8 T6.out.h2))) rfl ⟨by rw [HE.out]; rfl, ext8 T6.out.ext (Nat.le_refl _) _ _ _ _ _ _ _ _⟩
      have hcb : (C != 0) = false := by simp [hc]
      have HE := Lib.hid (HRe.out.trans (if_neg (by rw [hf.out, hc]; simp)))
      replace hc := Lib.hid hc
      go_wp2_with fail
      refine (HC.out _).mono ?_
      rintro e w6 ⟨rfl, hx6⟩
      have T6 := Lib.hid (HT5.out.to hx6)
      have hq6 := Lib.hid (hq5.out.ext hx6)
      clear p2 p2' p5 p5' l2
      obtain ⟨p2, p2'⟩ := T6.out.h2.cells
      obtain ⟨p5, p5'⟩ := hq6.out.cells
      have l2 := T6.out.h2.lt
      clear HT5 hx6 hq5
      go_wp2_with fail
      exact bodyPost_ret (results_ct rfl rfl (ld_rep (put8 T6.out.h2))) rfl ⟨by rw [HE.out]; rfl, ext8 T6.out.ext (Nat.le_refl _) _ _ _ _ _ _ _ _⟩
end Go.Proofs.YtokakpbpenndlaaGreatDoor
