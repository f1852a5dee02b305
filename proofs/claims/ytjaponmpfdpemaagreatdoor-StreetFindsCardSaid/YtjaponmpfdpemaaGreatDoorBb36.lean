/-
  The reference's numbers: division, bit by bit.
-/
import Derived.Test.YtjaponmpfdpemaaGreatDoorBb35
import Derived.Deep.DeepCutAuto
import Derived.Deep.RegionHeld3
set_option linter.unusedSimpArgs false
set_option linter.unusedVariables false
namespace Go.Proofs.YtjaponmpfdpemaaGreatDoor
open Go.RowKit
section
variable {P : Program} {fn : Func} {tmps : Array Value} {w : World}
theorem results_ctt {p u u' : Tmp} {ty : TypeId} {a : Addr} {v : Value} (h : fn.results = #[.cell p ty, .tmp u, .tmp u']) (ha : tmps.getD p undef = .pointer (some a)) (hv : (loadVar ty a).run P w = .ok v w) : (results fn tmps).run P w = .ok (.tuple #[v, tmps.getD u undef, tmps.getD u' undef]) w := by
 simp only [results, h]
 simp at ha
 simp [Result.andThen, ha, asAddr, hv]
end
theorem of_one (w : World) : Calls Tryz.prog 101 #[.int .i64 1] w fun e w' => e = .returned (numV false (digI 1)) ∧ Ext w w' := of_any01 1 (by decide) w
structure PS (w W : World) (x c Q R : Nat) : Prop where
 b0 : Blk W w.heap.size 153 (numC false (digI x))
 b1 : Blk W (w.heap.size + 1) 153 (numC false (digI c))
 b2 : Blk W (w.heap.size + 1 + 1) 153 (numC false (fun _ => 0))
 b3 : Blk W (w.heap.size + 1 + 1 + 1) 153 (numC false (digI Q))
 b4 : Blk W (w.heap.size + 1 + 1 + 1 + 1) 153 (numC false (digI R))
 ext : Ext w W
theorem PS.to {w W W' : World} {x c Q R : Nat} (h : PS w W x c Q R) (hx : Ext W W') : PS w W' x c Q R :=
 ⟨h.b0.ext hx, h.b1.ext hx, h.b2.ext hx, h.b3.ext hx, h.b4.ext hx, h.ext.trans hx⟩
def put13W (W : World) (g : Nat) (s : Bool) (f : Nat → Int) : World :=
 (((((((((((((W.setCell ⟨g, 0, none⟩ (.bool s)).setCell ⟨g, 1, none⟩ (.int .i64 (f 0))).setCell ⟨g, 2, none⟩ (.int .i64 (f 1))).setCell ⟨g, 3, none⟩ (.int .i64 (f 2))).setCell ⟨g, 4, none⟩ (.int .i64 (f 3))).setCell ⟨g, 5, none⟩ (.int .i64 (f 4))).setCell ⟨g, 6, none⟩ (.int .i64 (f 5))).setCell ⟨g, 7, none⟩ (.int .i64 (f 6))).setCell ⟨g, 8, none⟩ (.int .i64 (f 7))).setCell ⟨g, 9, none⟩ (.int .i64 (f 8))).setCell ⟨g, 10, none⟩ (.int .i64 (f 9))).setCell ⟨g, 11, none⟩ (.int .i64 (f 10))).setCell ⟨g, 12, none⟩ (.int .i64 (f 11)))
theorem PS.setQ {w W : World} {x c Q R : Nat} (h : PS w W x c Q R) (Q' : Nat) : PS w (put13W W (w.heap.size + 1 + 1 + 1) false (digI Q')) x c Q' R :=
 ⟨far13 h.b0 (by omega), far13 h.b1 (by omega), far13 h.b2 (by omega), put13 h.b3, far13 h.b4 (by omega), ext13 h.ext (by omega)⟩
theorem PS.setR {w W : World} {x c Q R : Nat} (h : PS w W x c Q R) (R' : Nat) : PS w (put13W W (w.heap.size + 1 + 1 + 1 + 1) false (digI R')) x c Q R' :=
 ⟨far13 h.b0 (by omega), far13 h.b1 (by omega), far13 h.b2 (by omega), far13 h.b3 (by omega), put13 h.b4, ext13 h.ext (by omega)⟩
theorem PS.setN {w W : World} {x c Q R : Nat} (h : PS w W x c Q R) : PS w (W.setCell ⟨w.heap.size + 1, 0, none⟩ (.bool false)) x c Q R :=
 ⟨h.b0.far (p := ⟨w.heap.size + 1, 0, none⟩) (by show w.heap.size ≠ w.heap.size + 1; omega) _, h.b1.set_ 0 _, h.b2.far (p := ⟨w.heap.size + 1, 0, none⟩) (by show w.heap.size + 1 + 1 ≠ w.heap.size + 1; omega) _, h.b3.far (p := ⟨w.heap.size + 1, 0, none⟩) (by show w.heap.size + 1 + 1 + 1 ≠ w.heap.size + 1; omega) _, h.b4.far (p := ⟨w.heap.size + 1, 0, none⟩) (by show w.heap.size + 1 + 1 + 1 + 1 ≠ w.heap.size + 1; omega) _, h.ext.set (p := ⟨w.heap.size + 1, 0, none⟩) (by show w.heap.size ≤ w.heap.size + 1; omega) _⟩
abbrev PS39 (W w : World) (c Q R : Nat) : Prop := W.cell? ⟨w.heap.size + 1, 0, none⟩ = some (.bool false) ∧ W.cell? ⟨w.heap.size + 1, 1, none⟩ = some (.int .i64 (digI c 0)) ∧ W.cell? ⟨w.heap.size + 1, 2, none⟩ = some (.int .i64 (digI c 1)) ∧ W.cell? ⟨w.heap.size + 1, 3, none⟩ = some (.int .i64 (digI c 2)) ∧ W.cell? ⟨w.heap.size + 1, 4, none⟩ = some (.int .i64 (digI c 3)) ∧ W.cell? ⟨w.heap.size + 1, 5, none⟩ = some (.int .i64 (digI c 4)) ∧ W.cell? ⟨w.heap.size + 1, 6, none⟩ = some (.int .i64 (digI c 5)) ∧ W.cell? ⟨w.heap.size + 1, 7, none⟩ = some (.int .i64 (digI c 6)) ∧ W.cell? ⟨w.heap.size + 1, 8, none⟩ = some (.int .i64 (digI c 7)) ∧ W.cell? ⟨w.heap.size + 1, 9, none⟩ = some (.int .i64 (digI c 8)) ∧ W.cell? ⟨w.heap.size + 1, 10, none⟩ = some (.int .i64 (digI c 9)) ∧ W.cell? ⟨w.heap.size + 1, 11, none⟩ = some (.int .i64 (digI c 10)) ∧ W.cell? ⟨w.heap.size + 1, 12, none⟩ = some (.int .i64 (digI c 11)) ∧ W.cell? ⟨w.heap.size + 1 + 1 + 1, 0, none⟩ = some (.bool false) ∧ W.cell? ⟨w.heap.size + 1 + 1 + 1, 1, none⟩ = some (.int .i64 (digI Q 0)) ∧ W.cell? ⟨w.heap.size + 1 + 1 + 1, 2, none⟩ = some (.int .i64 (digI Q 1)) ∧ W.cell? ⟨w.heap.size + 1 + 1 + 1, 3, none⟩ = some (.int .i64 (digI Q 2)) ∧ W.cell? ⟨w.heap.size + 1 + 1 + 1, 4, none⟩ = some (.int .i64 (digI Q 3)) ∧ W.cell? ⟨w.heap.size + 1 + 1 + 1, 5, none⟩ = some (.int .i64 (digI Q 4)) ∧ W.cell? ⟨w.heap.size + 1 + 1 + 1, 6, none⟩ = some (.int .i64 (digI Q 5)) ∧ W.cell? ⟨w.heap.size + 1 + 1 + 1, 7, none⟩ = some (.int .i64 (digI Q 6)) ∧ W.cell? ⟨w.heap.size + 1 + 1 + 1, 8, none⟩ = some (.int .i64 (digI Q 7)) ∧ W.cell? ⟨w.heap.size + 1 + 1 + 1, 9, none⟩ = some (.int .i64 (digI Q 8)) ∧ W.cell? ⟨w.heap.size + 1 + 1 + 1, 10, none⟩ = some (.int .i64 (digI Q 9)) ∧ W.cell? ⟨w.heap.size + 1 + 1 + 1, 11, none⟩ = some (.int .i64 (digI Q 10)) ∧ W.cell? ⟨w.heap.size + 1 + 1 + 1, 12, none⟩ = some (.int .i64 (digI Q 11)) ∧ W.cell? ⟨w.heap.size + 1 + 1 + 1 + 1, 0, none⟩ = some (.bool false) ∧ W.cell? ⟨w.heap.size + 1 + 1 + 1 + 1, 1, none⟩ = some (.int .i64 (digI R 0)) ∧ W.cell? ⟨w.heap.size + 1 + 1 + 1 + 1, 2, none⟩ = some (.int .i64 (digI R 1)) ∧ W.cell? ⟨w.heap.size + 1 + 1 + 1 + 1, 3, none⟩ = some (.int .i64 (digI R 2)) ∧ W.cell? ⟨w.heap.size + 1 + 1 + 1 + 1, 4, none⟩ = some (.int .i64 (digI R 3)) ∧ W.cell? ⟨w.heap.size + 1 + 1 + 1 + 1, 5, none⟩ = some (.int .i64 (digI R 4)) ∧ W.cell? ⟨w.heap.size + 1 + 1 + 1 + 1, 6, none⟩ = some (.int .i64 (digI R 5)) ∧ W.cell? ⟨w.heap.size + 1 + 1 + 1 + 1, 7, none⟩ = some (.int .i64 (digI R 6)) ∧ W.cell? ⟨w.heap.size + 1 + 1 + 1 + 1, 8, none⟩ = some (.int .i64 (digI R 7)) ∧ W.cell? ⟨w.heap.size + 1 + 1 + 1 + 1, 9, none⟩ = some (.int .i64 (digI R 8)) ∧ W.cell? ⟨w.heap.size + 1 + 1 + 1 + 1, 10, none⟩ = some (.int .i64 (digI R 9)) ∧ W.cell? ⟨w.heap.size + 1 + 1 + 1 + 1, 11, none⟩ = some (.int .i64 (digI R 10)) ∧ W.cell? ⟨w.heap.size + 1 + 1 + 1 + 1, 12, none⟩ = some (.int .i64 (digI R 11))
theorem PS39.mk' {W w : World} {c Q R : Nat} (b1 : Blk W (w.heap.size + 1) 153 (numC false (digI c))) (b3 : Blk W (w.heap.size + 1 + 1 + 1) 153 (numC false (digI Q))) (b4 : Blk W (w.heap.size + 1 + 1 + 1 + 1) 153 (numC false (digI R))) : PS39 W w c Q R :=
 ⟨b1.cell 0, b1.cell 1, b1.cell 2, b1.cell 3, b1.cell 4, b1.cell 5, b1.cell 6, b1.cell 7, b1.cell 8, b1.cell 9, b1.cell 10, b1.cell 11, b1.cell 12, b3.cell 0, b3.cell 1, b3.cell 2, b3.cell 3, b3.cell 4, b3.cell 5, b3.cell 6, b3.cell 7, b3.cell 8, b3.cell 9, b3.cell 10, b3.cell 11, b3.cell 12, b4.cell 0, b4.cell 1, b4.cell 2, b4.cell 3, b4.cell 4, b4.cell 5, b4.cell 6, b4.cell 7, b4.cell 8, b4.cell 9, b4.cell 10, b4.cell 11, b4.cell 12⟩
theorem PS.all39 {w W : World} {x c Q R : Nat} (h : PS w W x c Q R) : PS39 W w c Q R := PS39.mk' h.b1 h.b3 h.b4
theorem PS.far2 {w W : World} {x c Q R : Nat} (h : PS w W x c Q R) (s : Bool) (f : Nat → Int) : PS39 (put13W W (w.heap.size + 1 + 1) s f) w c Q R :=
 PS39.mk' (far13 h.b1 (by omega)) (far13 h.b3 (by omega)) (far13 h.b4 (by omega))
def PartRel (w : World) (x c : Nat) (i : Value) (wr : World) : Prop := ∃ k : Nat, k ≤ 192 ∧ i = .int .i64 ((k : Int) - 1) ∧ PS w wr x c (x / 2 ^ k / c) (x / 2 ^ k % c)
theorem pow12 : (65536 : Nat) ^ 12 = 2 ^ 192 := by decide
set_option maxRecDepth 100000 in
set_option maxHeartbeats 6000000 in
theorem nparts_any (x c : Nat) (hx : x < 65536 ^ 12) (hc0 : 0 < c) (hc : c < 9223372036854775808) (w : World) :
  Calls Tryz.prog 103 #[numV false (digI x), numV false (digI c)] w fun e w' => e = .returned (.tuple #[numV false (digI (x / c)), .int .i64 (cmpN (x % c + x % c) c), .bool (!decide (x % c = 0))]) ∧ Ext w w' := by
 have S0 : PS w (((((w.alloc (.cells (numC false (digI x)) 153)).alloc (.cells (numC false (digI c)) 153)).alloc (.cells (numC false (fun _ => 0)) 153)).alloc (.cells (numC false (fun _ => 0)) 153)).alloc (.cells (numC false (fun _ => 0)) 153)) x c 0 0 := by
  have e1 : (w.alloc (.cells (numC false (digI x)) 153)).heap.size = w.heap.size + 1 := by simp
  have e2 : ((w.alloc (.cells (numC false (digI x)) 153)).alloc (.cells (numC false (digI c)) 153)).heap.size = w.heap.size + 1 + 1 := by simp
  have e3 : (((w.alloc (.cells (numC false (digI x)) 153)).alloc (.cells (numC false (digI c)) 153)).alloc (.cells (numC false (fun _ => 0)) 153)).heap.size = w.heap.size + 1 + 1 + 1 := by simp
  have z : digI 0 = fun _ => 0 := by funext i; simp [digI, dig]
  have B2 := Blk.two12 (w.alloc (.cells (numC false (digI x)) 153)) 153 153 (numC false (digI c)) (numC false (fun _ => 0))
  rw [e1] at B2
  have B3 := Blk.two12 ((w.alloc (.cells (numC false (digI x)) 153)).alloc (.cells (numC false (digI c)) 153)) 153 153 (numC false (fun _ => 0)) (numC false (fun _ => 0))
  rw [e2] at B3
  have B4 := Blk.two12 (((w.alloc (.cells (numC false (digI x)) 153)).alloc (.cells (numC false (digI c)) 153)).alloc (.cells (numC false (fun _ => 0)) 153)) 153 153 (numC false (fun _ => 0)) (numC false (fun _ => 0))
  rw [e3] at B4
  refine ⟨((((Blk.new w _ _).alloc _).alloc _).alloc _).alloc _, (((Blk.two12 w _ _ _ _).alloc _).alloc _).alloc _, (B2.alloc _).alloc _, ?_, ?_, (((((Ext.refl w).alloc _).alloc _).alloc _).alloc _).alloc _⟩
  ·rw [z]; exact B3.alloc _
  ·rw [z]; exact B4
 have hz : x / 2 ^ 192 = 0 := Nat.div_eq_of_lt (by rw [← pow12]; exact hx)
 have H0 := Lib.hid (show PartRel w x c (.int .i64 191) _ from ⟨192, by omega, rfl, by rw [hz, Nat.zero_div, Nat.zero_mod]; exact S0⟩)
 clear hz
 replace hx := Lib.hid hx
 clear S0
 go_enter Tryz.func103, Tryz.ntmps103
 go_wp2_with fail
 go_loopw [9] (fun i wr => PartRel w x c i wr) (fun i _ => (intOf i + 1).toNat)
 case atStart => exact H0.out
 case round =>
  clear H0
  obtain ⟨k, hk, rfl, hS⟩ := hrel
  rcases k with _ | j
  ·have e0 : (((0 : Nat) : Int) - 1) = -1 := rfl
   rw [e0]
   have ex : x / 2 ^ 0 = x := by simp
   rw [ex] at hS
   have hR : x % c < c := Nat.mod_lt _ hc0
   obtain ⟨Q, hQ⟩ : ∃ Q, x / c = Q := ⟨_, rfl⟩
   obtain ⟨R, hRR⟩ : ∃ R, x % c = R := ⟨_, rfl⟩
   rw [hQ, hRR] at hS
   rw [hRR] at hR
   have hQ' := Lib.hid hQ
   have hR' := Lib.hid hRR
   obtain ⟨zb, hzb⟩ : ∃ zb, decide (R = 0) = zb := ⟨_, rfl⟩
   obtain ⟨zc, hzc⟩ : ∃ zc, cmpN (R + R) c = zc := ⟨_, rfl⟩
   replace hzb := Lib.hid hzb
   replace hzc := Lib.hid hzc
   clear hQ hRR ex
   have hcB : c < 65536 ^ 12 := by have := hc; omega
   have hRB : R < 65536 ^ 12 := by have := hc; omega
   have hRRB : R + R < 65536 ^ 12 := by have := hc; omega
   replace hcB := Lib.hid hcB
   replace hRB := Lib.hid hRB
   replace hRRB := Lib.hid hRRB
   obtain ⟨q1, q1'⟩ := hS.b1.cells
   obtain ⟨q3, q3'⟩ := hS.b3.cells
   obtain ⟨q4, q4'⟩ := hS.b4.cells
   have l1 := hS.b1.lt
   have l3 := hS.b3.lt
   have l4 := hS.b4.lt
   unfold numC at q1 q3 q4
   have HS0 := Lib.hid (fun W (hx : Ext wr W) => hS.to hx)
   have HQ := Lib.hid (fun W (hx : Ext wr W) => PS.all39 (hS.to hx))
   clear q1 q1' q3 q3' q4 q4' hS
   obtain ⟨s0, s1, s2, s3, s4, s5, s6, s7, s8, s9, s10, s11, s12, s13, s14, s15, s16, s17, s18, s19, s20, s21, s22, s23, s24, s25, s26, s27, s28, s29, s30, s31, s32, s33, s34, s35, s36, s37, s38⟩ := HQ.out _ (Ext.refl wr)
   go_wp2_with fail
   go_region_held3 (fun w' => w'.cell? ⟨w.heap.size + 1, 0, none⟩ = some (.bool false) ∧ w'.cell? ⟨w.heap.size + 1, 1, none⟩ = some (.int .i64 (digI c 0)) ∧ w'.cell? ⟨w.heap.size + 1, 2, none⟩ = some (.int .i64 (digI c 1)) ∧ w'.cell? ⟨w.heap.size + 1, 3, none⟩ = some (.int .i64 (digI c 2)) ∧ w'.cell? ⟨w.heap.size + 1, 4, none⟩ = some (.int .i64 (digI c 3)) ∧ w'.cell? ⟨w.heap.size + 1, 5, none⟩ = some (.int .i64 (digI c 4)) ∧ w'.cell? ⟨w.heap.size + 1, 6, none⟩ = some (.int .i64 (digI c 5)) ∧ w'.cell? ⟨w.heap.size + 1, 7, none⟩ = some (.int .i64 (digI c 6)) ∧ w'.cell? ⟨w.heap.size + 1, 8, none⟩ = some (.int .i64 (digI c 7)) ∧ w'.cell? ⟨w.heap.size + 1, 9, none⟩ = some (.int .i64 (digI c 8)) ∧ w'.cell? ⟨w.heap.size + 1, 10, none⟩ = some (.int .i64 (digI c 9)) ∧ w'.cell? ⟨w.heap.size + 1, 11, none⟩ = some (.int .i64 (digI c 10)) ∧ w'.cell? ⟨w.heap.size + 1, 12, none⟩ = some (.int .i64 (digI c 11)) ∧ w'.cell? ⟨w.heap.size + 1 + 1 + 1, 0, none⟩ = some (.bool false) ∧ w'.cell? ⟨w.heap.size + 1 + 1 + 1, 1, none⟩ = some (.int .i64 (digI Q 0)) ∧ w'.cell? ⟨w.heap.size + 1 + 1 + 1, 2, none⟩ = some (.int .i64 (digI Q 1)) ∧ w'.cell? ⟨w.heap.size + 1 + 1 + 1, 3, none⟩ = some (.int .i64 (digI Q 2)) ∧ w'.cell? ⟨w.heap.size + 1 + 1 + 1, 4, none⟩ = some (.int .i64 (digI Q 3)) ∧ w'.cell? ⟨w.heap.size + 1 + 1 + 1, 5, none⟩ = some (.int .i64 (digI Q 4)) ∧ w'.cell? ⟨w.heap.size + 1 + 1 + 1, 6, none⟩ = some (.int .i64 (digI Q 5)) ∧ w'.cell? ⟨w.heap.size + 1 + 1 + 1, 7, none⟩ = some (.int .i64 (digI Q 6)) ∧ w'.cell? ⟨w.heap.size + 1 + 1 + 1, 8, none⟩ = some (.int .i64 (digI Q 7)) ∧ w'.cell? ⟨w.heap.size + 1 + 1 + 1, 9, none⟩ = some (.int .i64 (digI Q 8)) ∧ w'.cell? ⟨w.heap.size + 1 + 1 + 1, 10, none⟩ = some (.int .i64 (digI Q 9)) ∧ w'.cell? ⟨w.heap.size + 1 + 1 + 1, 11, none⟩ = some (.int .i64 (digI Q 10)) ∧ w'.cell? ⟨w.heap.size + 1 + 1 + 1, 12, none⟩ = some (.int .i64 (digI Q 11)) ∧ w'.cell? ⟨w.heap.size + 1 + 1 + 1 + 1, 0, none⟩ = some (.bool false) ∧ w'.cell? ⟨w.heap.size + 1 + 1 + 1 + 1, 1, none⟩ = some (.int .i64 (digI R 0)) ∧ w'.cell? ⟨w.heap.size + 1 + 1 + 1 + 1, 2, none⟩ = some (.int .i64 (digI R 1)) ∧ w'.cell? ⟨w.heap.size + 1 + 1 + 1 + 1, 3, none⟩ = some (.int .i64 (digI R 2)) ∧ w'.cell? ⟨w.heap.size + 1 + 1 + 1 + 1, 4, none⟩ = some (.int .i64 (digI R 3)) ∧ w'.cell? ⟨w.heap.size + 1 + 1 + 1 + 1, 5, none⟩ = some (.int .i64 (digI R 4)) ∧ w'.cell? ⟨w.heap.size + 1 + 1 + 1 + 1, 6, none⟩ = some (.int .i64 (digI R 5)) ∧ w'.cell? ⟨w.heap.size + 1 + 1 + 1 + 1, 7, none⟩ = some (.int .i64 (digI R 6)) ∧ w'.cell? ⟨w.heap.size + 1 + 1 + 1 + 1, 8, none⟩ = some (.int .i64 (digI R 7)) ∧ w'.cell? ⟨w.heap.size + 1 + 1 + 1 + 1, 9, none⟩ = some (.int .i64 (digI R 8)) ∧ w'.cell? ⟨w.heap.size + 1 + 1 + 1 + 1, 10, none⟩ = some (.int .i64 (digI R 9)) ∧ w'.cell? ⟨w.heap.size + 1 + 1 + 1 + 1, 11, none⟩ = some (.int .i64 (digI R 10)) ∧ w'.cell? ⟨w.heap.size + 1 + 1 + 1 + 1, 12, none⟩ = some (.int .i64 (digI R 11)))
    (first | (with_reducible exact HQ.out _ (Ext.refl wr).drew) | (with_reducible exact HQ.out _ hx5.out) | (with_reducible exact HQ.out _ hx6.out) | (with_reducible exact HQ.out _ hx7.out) | (with_reducible exact HQ7.out))
    (first
    | (go_at_call 105; refine (plus_same false R R hRB.out hRB.out hRRB.out _).mono ?_; rintro e w5 ⟨rfl, hx5⟩; rw [Bool.false_and]; have hx5 := Lib.hid (Ext.trans (Ext.refl wr).drew hx5))
    | (go_at_call 134; refine (size_any false false (R + R) c hRRB.out hcB.out _).mono ?_; rintro e w6 ⟨rfl, hx6⟩; rw [hzc.out]; have hx6 := Lib.hid (hx5.out.trans hx6))
    | (go_at_call 136; refine (zero_any false (digI R) _).mono ?_; rintro e w7 ⟨rfl, hx7⟩; rw [allZ_dig hRB.out, hzb.out]; have hx7 := Lib.hid (hx6.out.trans hx7); have S7 := HS0.out _ hx7.out; have HQ7 := Lib.hid (S7.far2 false (digI Q)); unfold put13W at HQ7; obtain ⟨qf, qf'⟩ := S7.b2.cells; unfold numC at qf))
   all_goals
    go_wp2_with fail
    exact bodyPost_ret (results_ctt rfl rfl (ld_num (put13 (s := false) (f := digI Q) S7.b2))) rfl ⟨by rw [hQ'.out, hR'.out, hzb.out, hzc.out]; rfl, ext13 S7.ext (by omega)⟩
  ·have e0 : (((j + 1 : Nat) : Int) - 1) = (j : Int) := by omega
   rw [e0]
   have hq2 : x / 2 ^ (j + 1) / c + x / 2 ^ (j + 1) / c ≤ x / 2 ^ j := by
    have h1 : x / 2 ^ (j + 1) / c ≤ x / 2 ^ (j + 1) := Nat.div_le_self _ _
    have h2 : x / 2 ^ (j + 1) = x / 2 ^ j / 2 := by rw [Nat.pow_succ, Nat.div_div_eq_div_mul]
    omega
   have hq3 : x / 2 ^ j ≤ x := Nat.div_le_self _ _
   have hrc : x / 2 ^ (j + 1) % c < c := Nat.mod_lt _ hc0
   have hdb := div_bit (x := x) (i := j) hc0 _ _ rfl rfl
   have hbit := bit_dig x j
   have hQ := Lib.hid (show x / 2 ^ (j + 1) / c + x / 2 ^ (j + 1) / c + 1 < 65536 ^ 12 + 1 from by have := hx.out; omega)
   have HN := Lib.hid (fun (W : World) (Q R : Nat) (h1 : x / 2 ^ j / c = Q) (h2 : x / 2 ^ j % c = R) (h : PS w W x c Q R) => (show PartRel w x c (.int .i64 ((j : Int) - 1)) W from ⟨j, by omega, rfl, by rw [h1, h2]; exact h⟩))
   replace hdb := Lib.hid hdb
   replace hbit := Lib.hid hbit
   clear hq2 hq3
   generalize x / 2 ^ (j + 1) / c = Q at *
   generalize x / 2 ^ (j + 1) % c = R at *
   obtain ⟨q3, q3'⟩ := hS.b3.cells
   have l3 := hS.b3.lt
   unfold numC at q3
   go_wp2_with fail
   refine (plus_same false Q Q (by have := hQ.out; omega) (by have := hQ.out; omega) (by have := hQ.out; omega) _).mono ?_
   rintro e w1 ⟨rfl, hx1⟩
   rw [Bool.false_and]
   have S1 := hS.to hx1
   clear q3 q3' hS hx1
   obtain ⟨q3, q3'⟩ := S1.b3.cells
   unfold numC at q3
   go_upto_region 6 with (fail)
   have S2 := S1.setQ (Q + Q)
   unfold put13W at S2
   generalize (((((((((((((w1.setCell ⟨w.heap.size + 1 + 1 + 1, 0, none⟩ (.bool false)).setCell ⟨w.heap.size + 1 + 1 + 1, 1, none⟩ (.int .i64 (digI (Q + Q) 0))).setCell ⟨w.heap.size + 1 + 1 + 1, 2, none⟩ (.int .i64 (digI (Q + Q) 1))).setCell ⟨w.heap.size + 1 + 1 + 1, 3, none⟩ (.int .i64 (digI (Q + Q) 2))).setCell ⟨w.heap.size + 1 + 1 + 1, 4, none⟩ (.int .i64 (digI (Q + Q) 3))).setCell ⟨w.heap.size + 1 + 1 + 1, 5, none⟩ (.int .i64 (digI (Q + Q) 4))).setCell ⟨w.heap.size + 1 + 1 + 1, 6, none⟩ (.int .i64 (digI (Q + Q) 5))).setCell ⟨w.heap.size + 1 + 1 + 1, 7, none⟩ (.int .i64 (digI (Q + Q) 6))).setCell ⟨w.heap.size + 1 + 1 + 1, 8, none⟩ (.int .i64 (digI (Q + Q) 7))).setCell ⟨w.heap.size + 1 + 1 + 1, 9, none⟩ (.int .i64 (digI (Q + Q) 8))).setCell ⟨w.heap.size + 1 + 1 + 1, 10, none⟩ (.int .i64 (digI (Q + Q) 9))).setCell ⟨w.heap.size + 1 + 1 + 1, 11, none⟩ (.int .i64 (digI (Q + Q) 10))).setCell ⟨w.heap.size + 1 + 1 + 1, 12, none⟩ (.int .i64 (digI (Q + Q) 11))) = W2 at S2 ⊢
   clear q3 q3' S1
   obtain ⟨q4, q4'⟩ := S2.b4.cells
   have l4 := S2.b4.lt
   unfold numC at q4
   go_wp2_with fail
   refine (plus_same false R R (by have := hc; omega) (by have := hc; omega) (by have := hc; omega) _).mono ?_
   rintro e w3 ⟨rfl, hx3⟩
   rw [Bool.false_and]
   have S3 := S2.to hx3
   clear q4 q4' S2 hx3 l4
   obtain ⟨q4, q4'⟩ := S3.b4.cells
   unfold numC at q4
   go_upto_region 7 with (fail)
   have S4 := S3.setR (R + R)
   unfold put13W at S4
   generalize (((((((((((((w3.setCell ⟨w.heap.size + 1 + 1 + 1 + 1, 0, none⟩ (.bool false)).setCell ⟨w.heap.size + 1 + 1 + 1 + 1, 1, none⟩ (.int .i64 (digI (R + R) 0))).setCell ⟨w.heap.size + 1 + 1 + 1 + 1, 2, none⟩ (.int .i64 (digI (R + R) 1))).setCell ⟨w.heap.size + 1 + 1 + 1 + 1, 3, none⟩ (.int .i64 (digI (R + R) 2))).setCell ⟨w.heap.size + 1 + 1 + 1 + 1, 4, none⟩ (.int .i64 (digI (R + R) 3))).setCell ⟨w.heap.size + 1 + 1 + 1 + 1, 5, none⟩ (.int .i64 (digI (R + R) 4))).setCell ⟨w.heap.size + 1 + 1 + 1 + 1, 6, none⟩ (.int .i64 (digI (R + R) 5))).setCell ⟨w.heap.size + 1 + 1 + 1 + 1, 7, none⟩ (.int .i64 (digI (R + R) 6))).setCell ⟨w.heap.size + 1 + 1 + 1 + 1, 8, none⟩ (.int .i64 (digI (R + R) 7))).setCell ⟨w.heap.size + 1 + 1 + 1 + 1, 9, none⟩ (.int .i64 (digI (R + R) 8))).setCell ⟨w.heap.size + 1 + 1 + 1 + 1, 10, none⟩ (.int .i64 (digI (R + R) 9))).setCell ⟨w.heap.size + 1 + 1 + 1 + 1, 11, none⟩ (.int .i64 (digI (R + R) 10))).setCell ⟨w.heap.size + 1 + 1 + 1 + 1, 12, none⟩ (.int .i64 (digI (R + R) 11))) = W4 at S4 ⊢
   clear q4 q4' S3
   have hj16 : j / 16 < 12 := by omega
   have c1 := (S4.b0.cell (1 + j / 16)).trans (numC_at false _ (j / 16) hj16)
   have e2 : ((j : Int) / 16).toNat = j / 16 := by omega
   have e3 : (0 : Int) ≤ (j : Int) / 16 := by omega
   have e4 : (j : Int) / 16 < 12 := by omega
   have e5 : ((j : Int) % 16).toNat = j % 16 := by omega
   have e6 : (0 : Int) ≤ (j : Int) % 16 := by omega
   have e7 : (j : Int) % 16 < 16 := by omega
   have hD : digI x (j / 16) = ((dig x (j / 16) : Nat) : Int) := rfl
   rw [hD] at c1
   have hDl := dig_lt x (j / 16)
   clear hD
   obtain ⟨b, hb⟩ : ∃ b, x / 2 ^ j % 2 = b := ⟨_, rfl⟩
   have hb1 : b < 2 := by rw [← hb]; exact Nat.mod_lt _ (by decide)
   have hbD := hbit.out
   rw [hb] at hbD hdb
   replace hb := Lib.hid hb
   clear hbit
   generalize dig x (j / 16) = D at *
   have e8 : ((D : Int) / 2 ^ (j % 16)).tmod 2 = (b : Int) := by
    rw [← hbD, show ((D : Int) / 2 ^ (j % 16)) = ((D / 2 ^ (j % 16) : Nat) : Int) by simp]
    rw [Int.tmod_eq_emod_of_nonneg (Int.natCast_nonneg _)]
    simp
   clear hbD
   go_upto_if 29 with (fail)
   go_cut [30] (fun _ wx => PS w wx x c (Q + Q) (R + R + b))
   case first =>
    clear c1 e2 e3 e4 e5 e6 e7 e8 hDl
    by_cases hb0 : b = 0
    ·have hbb : ((b : Int) == 1) = false := by rw [beq_eq_false_iff_ne]; omega
     have HP := Lib.hid (show PS w W4 x c (Q + Q) (R + R + b) by rw [hb0, Nat.add_zero]; exact S4)
     replace hb0 := Lib.hid hb0
     clear S4
     go_wp2_with fail
     go_meet
     exact HP.out
    ·have hbb : ((b : Int) == 1) = true := by rw [beq_iff_eq]; omega
     have hbe : b = 1 := by omega
     replace hbe := Lib.hid hbe
     replace hb0 := Lib.hid hb0
     obtain ⟨q4, q4'⟩ := S4.b4.cells
     have l4 := S4.b4.lt
     unfold numC at q4
     have HS4 := Lib.hid (fun W (hx : Ext W4 W) => S4.to hx)
     go_wp2_with fail
     go_region_law (first
      | (go_simp; go_at_call 101; refine (of_one _).mono ?_; rintro e w5 ⟨rfl, hx5⟩; have S5 := HS4.out _ ((Ext.refl W4).drew.trans hx5); obtain ⟨q5, q5'⟩ := S5.b4.cells; unfold numC at q5)
      | (go_simp; go_at_call 105; refine (plus_same false (R + R) 1 (by have := hc; omega) (by decide) (by have := hc; omega) _).mono ?_; rintro e w6 ⟨rfl, hx6⟩; rw [Bool.false_and]; have S6 := S5.to hx6; obtain ⟨q6, q6'⟩ := S6.b4.cells; unfold numC at q6))
     all_goals
      have HP := Lib.hid (show PS w (put13W w6 (w.heap.size + 1 + 1 + 1 + 1) false (digI (R + R + 1))) x c (Q + Q) (R + R + b) by rw [hbe.out]; exact S6.setR (R + R + 1))
      unfold put13W at HP
      go_wp2_with fail
      go_meet
      exact HP.out
   case rest =>
    clear S4 c1 e2 e3 e4 e5 e6 e7 e8 hDl
    obtain ⟨W5, hW5⟩ : ∃ W5, W5 = W4 := ⟨_, rfl⟩
    clear hW5
    have S5 := hcut
    clear hcut
    have hM : R + R + b < 65536 ^ 12 := by have := hc; omega
    have hcB : c < 65536 ^ 12 := by have := hc; omega
    replace hM := Lib.hid hM
    replace hcB := Lib.hid hcB
    obtain ⟨q4, q4'⟩ := S5.b4.cells
    obtain ⟨q1, q1'⟩ := S5.b1.cells
    unfold numC at q4 q1
    go_wp2_with fail
    refine (size_any false false (R + R + b) c hM.out hcB.out _).mono ?_
    rintro e w6 ⟨rfl, hx6⟩
    have S6 := S5.to hx6
    clear q4 q4' q1 q1' S5 hx6
    by_cases hle : c ≤ R + R + b
    ·have hcm : ∃ z : Int, cmpN (R + R + b) c = z ∧ 0 ≤ z := ⟨_, rfl, cmpN_ge hle⟩
     obtain ⟨z, hz, hz0⟩ := hcm
     rw [hz]
     replace hz := Lib.hid hz
     have hzd : decide (0 ≤ z) = true := by simpa using hz0
     obtain ⟨h1, h2⟩ := hdb.out
     rw [if_pos (by omega)] at h1 h2
     have HE := Lib.hid (fun W (h : PS w W x c (Q + Q + 1) (R + R + b - c)) => HN.out W (Q + Q + 1) (R + R + b - c) (by rw [h1]; omega) (by rw [h2]; omega) h)
     clear h1 h2 hdb HN
     obtain ⟨q1, q1'⟩ := S6.b1.cells
     have l1 := S6.b1.lt
     have S7 := S6.setN
     clear S6
     unfold numC at q1
     go_wp2_with fail
     generalize w6.setCell ⟨w.heap.size + 1, 0, none⟩ (.bool false) = W7 at S7 ⊢
     clear q1 q1' l1
     obtain ⟨q1, q1'⟩ := S7.b1.cells
     obtain ⟨q4, q4'⟩ := S7.b4.cells
     have l4 := S7.b4.lt
     unfold numC at q1 q4
     have HS7 := Lib.hid (fun W (hx : Ext W7 W) => S7.to hx)
     have hcz := Lib.hid (show (!false && decide (c ≠ 0)) = true by simp; omega)
     replace hle := Lib.hid hle
     go_region_law (first
      | (go_simp; go_at_call 135; refine (less_any false c hcB.out _).mono ?_; rintro e w8 ⟨rfl, hx8⟩; rw [hcz.out]; have S8 := HS7.out _ ((Ext.refl W7).drew.trans hx8); obtain ⟨q8, q8'⟩ := S8.b4.cells; unfold numC at q8)
      | (go_simp; go_at_call 105; refine (plus_diff false true (R + R + b) c hM.out hle.out rfl _).mono ?_; rintro e w9 ⟨rfl, hx9⟩; rw [Bool.false_and]; have S9 := S8.to hx9; obtain ⟨q9, q9'⟩ := S9.b4.cells; unfold numC at q9))
     all_goals
      have SA := S9.setR (R + R + b - c)
      unfold put13W at SA
      clear q1 q1' q4 q4' q8 q8' q9 q9' S8 S9 S7 HS7
      generalize (((((((((((((w9.setCell ⟨w.heap.size + 1 + 1 + 1 + 1, 0, none⟩ (.bool false)).setCell ⟨w.heap.size + 1 + 1 + 1 + 1, 1, none⟩ (.int .i64 (digI (R + R + b - c) 0))).setCell ⟨w.heap.size + 1 + 1 + 1 + 1, 2, none⟩ (.int .i64 (digI (R + R + b - c) 1))).setCell ⟨w.heap.size + 1 + 1 + 1 + 1, 3, none⟩ (.int .i64 (digI (R + R + b - c) 2))).setCell ⟨w.heap.size + 1 + 1 + 1 + 1, 4, none⟩ (.int .i64 (digI (R + R + b - c) 3))).setCell ⟨w.heap.size + 1 + 1 + 1 + 1, 5, none⟩ (.int .i64 (digI (R + R + b - c) 4))).setCell ⟨w.heap.size + 1 + 1 + 1 + 1, 6, none⟩ (.int .i64 (digI (R + R + b - c) 5))).setCell ⟨w.heap.size + 1 + 1 + 1 + 1, 7, none⟩ (.int .i64 (digI (R + R + b - c) 6))).setCell ⟨w.heap.size + 1 + 1 + 1 + 1, 8, none⟩ (.int .i64 (digI (R + R + b - c) 7))).setCell ⟨w.heap.size + 1 + 1 + 1 + 1, 9, none⟩ (.int .i64 (digI (R + R + b - c) 8))).setCell ⟨w.heap.size + 1 + 1 + 1 + 1, 10, none⟩ (.int .i64 (digI (R + R + b - c) 9))).setCell ⟨w.heap.size + 1 + 1 + 1 + 1, 11, none⟩ (.int .i64 (digI (R + R + b - c) 10))).setCell ⟨w.heap.size + 1 + 1 + 1 + 1, 12, none⟩ (.int .i64 (digI (R + R + b - c) 11))) = WA at SA ⊢
      obtain ⟨qa, qa'⟩ := SA.b3.cells
      have la := SA.b3.lt
      unfold numC at qa
      have HSA := Lib.hid (fun W (hx : Ext WA W) => SA.to hx)
      go_wp2_with fail
      go_region_law (first
       | (go_simp; go_at_call 101; refine (of_one _).mono ?_; rintro e wb ⟨rfl, hxb⟩; have SB := HSA.out _ ((Ext.refl WA).drew.trans hxb); obtain ⟨qb, qb'⟩ := SB.b3.cells; unfold numC at qb)
       | (go_simp; go_at_call 105; refine (plus_same false (Q + Q) 1 (by have := hQ.out; omega) (by decide) (by have := hQ.out; omega) _).mono ?_; rintro e wc ⟨rfl, hxc⟩; rw [Bool.false_and]; have SC := SB.to hxc; obtain ⟨qc, qc'⟩ := SC.b3.cells; unfold numC at qc))
      all_goals
       have HP := Lib.hid (HE.out _ (SC.setQ (Q + Q + 1)))
       unfold put13W at HP
       go_wp2_with fail
       go_roundw
       case rel => exact HP.out
       case measure => simp [intOf] <;> omega
    ·have hcm : cmpN (R + R + b) c = -1 := by unfold cmpN; rw [if_pos (by omega)]
     rw [hcm]
     replace hcm := Lib.hid hcm
     obtain ⟨h1, h2⟩ := hdb.out
     rw [if_neg (by omega)] at h1 h2
     have HE := Lib.hid (HN.out _ (Q + Q) (R + R + b) (by rw [h1]; omega) (by rw [h2]; omega) S6)
     clear h1 h2 hdb HN S6
     go_wp2_with fail
     go_roundw
     case rel => exact HE.out
     case measure => simp [intOf] <;> omega
end Go.Proofs.YtjaponmpfdpemaaGreatDoor
