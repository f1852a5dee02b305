/-
  order.Read: the walk.
-/
import Derived.Test.YtokakpbpenndlaaGreatDoorRn41
import Derived.Test.YtokakpbpenndlaaGreatDoorRn03
import Derived.Test.YtokakpbpenndlaaGreatDoorRn45
import Derived.Test.YtokakpbpenndlaaGreatDoorRn44
import Derived.Test.YtokakpbpenndlaaGreatDoorRn09
import Derived.Test.YtokakpbpenndlaaGreatDoorRn38
set_option linter.unusedVariables false
namespace Go.Proofs.YtokakpbpenndlaaGreatDoor
open Go.RowKit

def zOrd : Array Value := #[.int .i64 0, .int .i64 0, .int .i64 0, .int .i64 0, .slice none 0 0]
def exitW (W : World) (n2 n3 : Nat) (v0 v1 v2 v3 v4 x y : Value) : World :=
  ((((((W.setCell ⟨n2, 0, none⟩ v0).setCell ⟨n2, 1, none⟩ v1).setCell ⟨n2, 2, none⟩ v2).setCell ⟨n2, 3, none⟩ v3).setCell ⟨n2, 4, none⟩ v4).setCell ⟨n3, 0, none⟩ x).setCell ⟨n3, 1, none⟩ y
end Go.Proofs.YtokakpbpenndlaaGreatDoor

set_option linter.unusedVariables false
namespace Go.Proofs.YtokakpbpenndlaaGreatDoor
open Go.RowKit

theorem RdR.set {w : World} {g : Nat} {s : RS} (h : RdR w g s) {p : Addr} (hp : g < p.block) (u : Value) : RdR (w.setCell p u) g s := by
  obtain ⟨A, cap, hB, hr, hc, hm⟩ := h.ex
  exact ⟨⟨A, cap, hB.far (Nat.ne_of_lt hp) u, hr.keep fun b o hb => World.cell?_setCell_far _ _ _ _ (Nat.ne_of_gt (Nat.lt_trans hb hp)), hc, hm⟩, h.ok⟩
end Go.Proofs.YtokakpbpenndlaaGreatDoor

set_option linter.unusedVariables false
namespace Go.Proofs.YtokakpbpenndlaaGreatDoor
open Go.RowKit Go.Maps

structure R9 (w w1 W : World) (b5 : Nat) (s : RS) (cs : Array Value) : Prop where
  rd : RdR W w1.heap.size s
  h2 : Blk W w.heap.size 23 zRep
  h5 : Blk W b5 105 cs
  ew : Ext w w1
  e1 : Ext w1 W
  lg : w.heap.size < w1.heap.size
  l5 : w1.heap.size < b5
theorem R9.ext {w w1 W : World} {b5 : Nat} {s : RS} {cs : Array Value} (h : R9 w w1 W b5 s cs) : Ext w W := h.ew.trans h.e1
theorem R9.call {w w1 W W' : World} {b5 : Nat} {s s' : RS} {cs : Array Value} (h : R9 w w1 W b5 s cs) (hR : RdR W' w1.heap.size s') (hG : W.grownBy W' (some w1.heap.size)) : R9 w w1 W' b5 s' cs := by
  have l := h.lg
  have l' := h.l5
  exact ⟨hR, h.h2.grown hG (by intro e; have := Option.some.inj e; omega), h.h5.grown hG (by intro e; have := Option.some.inj e; omega), h.ew, h.e1.grown hG (by intro k e; have := Option.some.inj e; omega), h.lg, h.l5⟩
theorem R9.to {w w1 W W' : World} {b5 : Nat} {s : RS} {cs : Array Value} (h : R9 w w1 W b5 s cs) (hx : Ext W W') : R9 w w1 W' b5 s cs :=
  ⟨h.rd.ext hx, h.h2.ext hx, h.h5.ext hx, h.ew, h.e1.trans hx, h.lg, h.l5⟩
theorem R9.set {w w1 W : World} {b5 : Nat} {s : RS} {cs : Array Value} (h : R9 w w1 W b5 s cs) (i : Nat) (v : Value) : R9 w w1 (W.setCell ⟨b5, i, none⟩ v) b5 s (cs.setIfInBounds i v) := by
  have l := h.lg
  have l' := h.l5
  exact ⟨h.rd.set (p := ⟨b5, i, none⟩) l' v, h.h2.far (p := ⟨b5, i, none⟩) (show w.heap.size ≠ b5 by omega) v, h.h5.set_ i v, h.ew, h.e1.set (p := ⟨b5, i, none⟩) (show w1.heap.size ≤ b5 by omega) v, l, l'⟩
def RfRel (w w1 : World) (b5 : Nat) (b : List UInt8) (i : Value) (wr : World) : Prop := ∃ k : Nat, k ≤ 8 ∧ i = .int .i64 (k : Int) ∧ R9 w w1 wr b5 (rst b k).1 (rst b k).2
set_option maxRecDepth 100000 in
set_option maxHeartbeats 2000000 in
theorem refread30_any (b : List UInt8) (A : Option Addr) (cap : Nat) (w : World) (hr : Reads w w.heap.size 1 A b.length (bV b)) (hm : b.length ≤ 1000000) (hbc : b.length ≤ cap) (hcm : cap ≤ maxLen) :
    Calls Tryz.prog 17 #[.slice A b.length cap] w fun r w' => r = .returned (.tuple #[(readRep b).1.V, .int .i64 (readRep b).2]) ∧ Ext w w' := by
  have X0 := (Ext.refl w).alloc (.cells #[.int .i64 0, .int .i64 0, .int .i64 0, .int .i64 0, .int .i64 0, .int .i64 0, .int .i64 0, .int .i64 0] 23)
  have B0 := Blk.new w 23 #[.int .i64 0, .int .i64 0, .int .i64 0, .int .i64 0, .int .i64 0, .int .i64 0, .int .i64 0, .int .i64 0]
  have Z0 := Lib.hid (show (w.alloc (.cells #[.int .i64 0, .int .i64 0, .int .i64 0, .int .i64 0, .int .i64 0, .int .i64 0, .int .i64 0, .int .i64 0] 23)).heap.size = w.heap.size + 1 by simp)
  have HR := Lib.hid (hr.ext X0)
  have HRe := Lib.hid (show readRep b = if (repP b).2.fin.1 ≠ 0 ∨ (repP b).1.check ≠ 0 then (Rep.zero, 4) else ((repP b).1, 0) from rfl)
  obtain ⟨R, hR⟩ : ∃ R, readRep b = R := ⟨_, rfl⟩
  rw [hR] at HRe ⊢
  replace hR := Lib.hid hR
  clear hr
  go_enter Tryz.func17, Tryz.ntmps17
  go_wp2_with fail
  have hz := Z0.out
  generalize w.alloc (.cells #[.int .i64 0, .int .i64 0, .int .i64 0, .int .i64 0, .int .i64 0, .int .i64 0, .int .i64 0, .int .i64 0] 23) = w1 at *
  have BR := Blk.new w1 104 #[.slice A b.length cap, .int .i64 0, .int .i64 0, .int .i64 0]
  have XR := (Ext.refl w1).alloc (.cells #[.slice A b.length cap, .int .i64 0, .int .i64 0, .int .i64 0] 104)
  have hz2 : (w1.alloc (.cells #[.slice A b.length cap, .int .i64 0, .int .i64 0, .int .i64 0] 104)).heap.size = w1.heap.size + 1 := by simp
  generalize w1.alloc (.cells #[.slice A b.length cap, .int .i64 0, .int .i64 0, .int .i64 0] 104) = w2 at *
  have B5 := Blk.new w2 105 #[.int .i64 0, .int .i64 0, .int .i64 0, .int .i64 0, .int .i64 0, .int .i64 0, .int .i64 0, .int .i64 0]
  have X5 := (Ext.refl w2).alloc (.cells #[.int .i64 0, .int .i64 0, .int .i64 0, .int .i64 0, .int .i64 0, .int .i64 0, .int .i64 0, .int .i64 0] 105)
  generalize w2.alloc (.cells #[.int .i64 0, .int .i64 0, .int .i64 0, .int .i64 0, .int .i64 0, .int .i64 0, .int .i64 0, .int .i64 0] 105) = W at *
  rw [← hz, ← hz2]
  have S1 : R9 w w1 W w2.heap.size (RS.start b) zRep := ⟨⟨⟨A, cap, BR.ext X5, HR.out.extB (Nat.le_refl _) (XR.trans X5), hbc, hcm⟩, by simp [RS.ok, RS.start]⟩, (B0.ext XR).ext X5, B5, X0, XR.trans X5, by omega, by omega⟩
  have H0 := Lib.hid (show RfRel w w1 w2.heap.size b (.int .i64 ((0 : Nat) : Int)) W from ⟨0, by omega, rfl, S1⟩)
  clear S1 B0 BR XR B5 X5 X0 Z0 hz hz2 HR hbc hcm
  generalize w2.heap.size = b5 at *
  go_loopw [6] (fun i wr => RfRel w w1 b5 b i wr) (fun i _ => 8 - (intOf i).toNat)
  case atStart => exact H0.out
  case round =>
    clear H0
    obtain ⟨k, hk, rfl, hS⟩ := hrel
    by_cases hlt : k < 8
    · have hd : decide ((k : Int) < 8) = true := by simp; omega
      have kl : (k : Int) < 8 := by omega
      have kz : (0 : Int) ≤ (k : Int) := by omega
      have hz := rst_at b k hlt
      have HN := Lib.hid (fun (W' : World) (T : R9 w w1 W' b5 ((rst b k).1.num (-9223372036854775808) 9223372036854775807 5).2 (rst b k).2) => (show RfRel w w1 b5 b (.int .i64 ((k + 1 : Nat) : Int)) (W'.setCell ⟨b5, k, none⟩ (.int .i64 ((rst b k).1.num (-9223372036854775808) 9223372036854775807 5).1)) from ⟨k + 1, by omega, rfl, T.set k _⟩))
      have HS := Lib.hid hS
      generalize (rst b k).1 = s at *
      generalize (rst b k).2 = cs at *
      clear hS
      go_wp2_with fail
      refine (rint_any s (-9223372036854775808) 9223372036854775807 w1.heap.size _ HS.out.rd).mono ?_
      rintro e w5 ⟨rfl, hR, hG⟩
      have T5 := HS.out.call hR hG
      have HN2 := Lib.hid (HN.out _ T5)
      have c5 := (T5.h5.cell k).trans hz
      have f5 := T5.h5.frozen k
      have l5 := T5.h5.lt
      clear HN hR hG T5 HS
      go_wp2_with fail
      go_roundw
      case rel => exact HN2.out
      case measure => simp [intOf]; omega
    · have hk8 : k = 8 := by omega
      have hd : decide ((k : Int) < 8) = false := by simp; omega
      rw [hk8, rst_8] at hS
      simp only at hS
      clear hk8
      generalize repP b = Q at *
      obtain ⟨q, s⟩ := Q
      simp only at hS HRe
      have HS := Lib.hid hS
      clear hS
      go_wp2_with fail
      refine (rend_any s w1.heap.size _ HS.out.rd).mono ?_
      rintro e w5 ⟨rfl, hx5⟩
      have T5 := HS.out.to hx5
      have hq5 : Blk w5 b5 105 #[.int .i64 q.j, .int .i64 q.k, .int .i64 q.p, .int .i64 q.t, .int .i64 q.x, .int .i64 q.v, .int .i64 q.s, .int .i64 q.r] := T5.h5
      obtain ⟨f1, hf1⟩ : ∃ f, s.fin.1 = f := ⟨_, rfl⟩
      rw [hf1] at HRe ⊢
      generalize (s.fin.2 : Int) = f2 at *
      have XF := (Ext.refl w5).alloc (.cells #[.int .i64 f1, .int .i64 f2] 100)
      have X7 := XF.alloc (.cells #[.int .i64 q.j, .int .i64 q.k, .int .i64 q.p, .int .i64 q.t, .int .i64 q.x, .int .i64 q.v, .int .i64 q.s, .int .i64 q.r] 23)
      have B8 := Blk.new (w5.alloc (.cells #[.int .i64 f1, .int .i64 f2] 100)) 23 #[.int .i64 q.j, .int .i64 q.k, .int .i64 q.p, .int .i64 q.t, .int .i64 q.x, .int .i64 q.v, .int .i64 q.s, .int .i64 q.r]
      have hz6 : (w5.alloc (.cells #[.int .i64 f1, .int .i64 f2] 100)).heap.size = w5.heap.size + 1 := by simp
      rw [hz6] at B8
      obtain ⟨p5, p5'⟩ := (hq5.ext XF).cells
      obtain ⟨r5, r5'⟩ := hq5.cells
      have l5 := hq5.lt
      have HT7 := Lib.hid (T5.to X7)
      have HT5 := Lib.hid T5
      obtain ⟨p2, p2'⟩ := HT7.out.h2.cells
      have l2 := T5.h2.lt
      have HC := Lib.hid (refcheck_any q)
      clear T5 hq5 hx5 HS XF hz6
      by_cases hf : f1 = 0
      case neg =>
        have hb : (f1 != 0) = true := by simpa using hf
        have HE := Lib.hid (HRe.out.trans (if_pos (.inl hf)))
        replace hf := Lib.hid hf
        clear B8 p2 p2'
        obtain ⟨p2, p2'⟩ := HT5.out.h2.cells
        go_wp2_with fail
        exact bodyPost_ret (results_ct rfl rfl (ld_rep (((put8 HT5.out.h2).alloc _).alloc _))) rfl ⟨by rw [HE.out]; rfl, ((ext8 HT5.out.ext (Nat.le_refl _) _ _ _ _ _ _ _ _).alloc _).alloc _⟩
      have hb : (f1 != 0) = false := by simp [hf]
      obtain ⟨C, hC⟩ : ∃ C, q.check = C := ⟨_, rfl⟩
      rw [hC] at HC HRe
      replace hC := Lib.hid hC
      replace hf := Lib.hid hf
      by_cases hc : C = 0
      case neg =>
        have hcb : (C != 0) = true := by simpa using hc
        have HE := Lib.hid (HRe.out.trans (if_pos (.inr hc)))
        replace hc := Lib.hid hc
        clear B8
        go_wp2_with fail
        refine (HC.out _).mono ?_
        rintro e w8 ⟨rfl, hx8⟩
        have T8 := Lib.hid (HT7.out.to hx8)
        clear p2 p2' p5 p5' l2 r5 r5' l5
        obtain ⟨p2, p2'⟩ := T8.out.h2.cells
        have l2 := T8.out.h2.lt
        clear HT7 hx8 X7
        go_wp2_with fail
        exact bodyPost_ret (results_ct rfl rfl (ld_rep (put8 T8.out.h2))) rfl ⟨by rw [HE.out]; rfl, ext8 T8.out.ext (Nat.le_refl _) _ _ _ _ _ _ _ _⟩
      have hcb : (C != 0) = false := by simp [hc]
      have HE := Lib.hid (HRe.out.trans (if_neg (by rw [hf.out, hc]; simp)))
      replace hc := Lib.hid hc
      have HB8 := Lib.hid B8
      clear B8
      go_wp2_with fail
      refine (HC.out _).mono ?_
      rintro e w8 ⟨rfl, hx8⟩
      have T8 := Lib.hid (HT7.out.to hx8)
      have B9 := HB8.out.ext hx8
      clear p2 p2' p5 p5' l2 r5 r5' l5
      obtain ⟨p2, p2'⟩ := T8.out.h2.cells
      obtain ⟨p5, p5'⟩ := B9.cells
      have l2 := T8.out.h2.lt
      clear HT7 hx8 X7 B9 HB8
      go_wp2_with fail
      exact bodyPost_ret (results_ct rfl rfl (ld_rep (put8 T8.out.h2))) rfl ⟨by rw [HE.out]; rfl, ext8 T8.out.ext (Nat.le_refl _) _ _ _ _ _ _ _ _⟩
end Go.Proofs.YtokakpbpenndlaaGreatDoor

set_option linter.unusedVariables false
namespace Go.Proofs.YtokakpbpenndlaaGreatDoor
open Go.RowKit
end Go.Proofs.YtokakpbpenndlaaGreatDoor

namespace Go.Proofs.YtokakpbpenndlaaGreatDoor
open Go.RowKit

theorem sameBytes_t (a : List UInt8) (A A' : Option Addr) (n n' c c' : Nat) (w : World) (h1 : Reads w w.heap.size 1 A n (bV a)) (h2 : Reads w w.heap.size 1 A' n' (bV a)) :
    Calls Tryz.prog 20 #[.slice A n c, .slice A' n' c'] w fun e w' => e = .returned (.bool true) ∧ w = w' :=
  (sameBytes_any a a A A' n n' c c' w h1 h2).mono fun e w' ⟨h, hw⟩ => ⟨by rw [h, beq_self_eq_true], hw⟩
/-- The six cells of an order and a fault that lie in two blocks. -/
abbrev Six (w : World) (g : Nat) (a b c d : Int) (s : Value) (h : Nat) : Prop :=
  w.cell? ⟨g, 0, none⟩ = some (.int .i64 a) ∧ w.cell? ⟨g, 1, none⟩ = some (.int .i64 b) ∧ w.cell? ⟨g, 2, none⟩ = some (.int .i64 c) ∧ w.cell? ⟨g, 3, none⟩ = some (.int .i64 d) ∧ w.cell? ⟨g, 4, none⟩ = some s ∧ w.cell? ⟨h, 0, none⟩ = some (.int .i64 0)

end Go.Proofs.YtokakpbpenndlaaGreatDoor

set_option linter.unusedVariables false
namespace Go.Proofs.YtokakpbpenndlaaGreatDoor
open Go.RowKit

/-- The block of an own row lies above its base. -/
theorem own_above {w : World} {base : Nat} {e : TypeId} {size n : Nat} {v : Value} {xs : List Value} (h : w.ownsRow base e size v n xs) : ∀ k, v.ownBlock = some k → base ≤ k := by
  intro k hk
  rcases h.2 with ⟨rfl, _⟩ | ⟨g, cap, cur, rfl, hg, _⟩
  · simp [Value.ownBlock] at hk
  · have : g = k := by simpa [Value.ownBlock] using hk
    omega
theorem own_types_ne {w : World} {base base' : Nat} {e e' : TypeId} {size size' n n' : Nat} {v v' : Value} {xs xs' : List Value} (h : w.ownsRow base e size v n xs) (h' : w.ownsRow base' e' size' v' n' xs') (hne : e ≠ e') : v.ownBlock = none ∨ v.ownBlock ≠ v'.ownBlock := by
  rcases h'.2 with ⟨rfl, _⟩ | ⟨g, cap, cur, rfl, hg, hh, _⟩
  · rcases h.2 with ⟨rfl, _⟩ | ⟨g, cap, cur, rfl, hg, _⟩
    · exact .inl rfl
    · exact .inr (by simp [Value.ownBlock])
  · exact .inr (own_blk_ne h hh hne)
theorem Blk.new2 (w : World) (t t' : TypeId) (cs cs' : Array Value) : Blk ((w.alloc (.cells cs t)).alloc (.cells cs' t')) (w.heap.size + 1) t' cs' := by
  have := Blk.new (w.alloc (.cells cs t)) t' cs'
  simpa using this
theorem lent_reads {V : World} {b : List UInt8} {gl : Nat} (h : Blk V gl 5 (bV (lentL b)).toArray) : Reads V V.heap.size 1 (some ⟨gl, 0, none⟩) b.length (bV b) :=
  ⟨by simp [bV], fun _ => ⟨gl, 0, rfl, h.lt, fun j u hu => by
    rw [Nat.zero_add, h.cell]
    have hj : j < b.length := by
      have := (List.getElem?_eq_some_iff.1 hu).1
      simpa [bV] using this
    rw [← hu]
    simp [bV, lentL, List.getElem?_append, hj]⟩⟩

end Go.Proofs.YtokakpbpenndlaaGreatDoor
