/-
  The reference's Total.
-/
import Derived.Test.YtehkmngbknbbaaaRj26
import Derived.Test.YtehkmngbknbbaaaRj29
import Derived.Test.YtehkmngbknbbaaaRj30
set_option linter.unusedVariables false
namespace Go.Proofs.Ytehkmngbknbbaaa
open Go.RowKit

theorem Grew.others {w0 W W' : World} {o : Obj} {e e' : TypeId} {size s' n m : Nat} {z v v' u : Value} {xs ys : List Value} (hg : Grew w0 (W.alloc o) W' e size z v v' n xs) (ho : W.ownsRow w0.heap.size e' s' u m ys) (ha : Apart u v) : W'.ownsRow w0.heap.size e' s' u m ys ∧ Apart u v' := by
  constructor
  · refine (ho.alloc _).kept hg.grown ?_
    rcases hv : u.ownBlock with _ | g
    · exact .inl rfl
    · exact .inr (fun e => ha g hv e.symm)
  · intro g hv e
    rcases hg.at_ with h1 | h1
    · exact ha g hv (by rw [← h1]; exact e)
    · rw [h1] at e
      have hlt := own_lt ho g hv
      have := Option.some.inj e
      simp at this
      omega
/-- Three rows that are appended to in turn. -/
structure R3 (w0 W : World) (l1 l2 l3 : List Int) (v1 v2 v3 : Value) : Prop where
  o1 : W.ownsRow w0.heap.size 3 1 v1 l1.length (iV l1)
  o2 : W.ownsRow w0.heap.size 3 1 v2 l2.length (iV l2)
  o3 : W.ownsRow w0.heap.size 3 1 v3 l3.length (iV l3)
  a12 : Apart v1 v2
  a13 : Apart v1 v3
  a23 : Apart v2 v3
  ext : Ext w0 W
theorem R3.rot {w0 W : World} {l1 l2 l3 : List Int} {v1 v2 v3 : Value} (h : R3 w0 W l1 l2 l3 v1 v2 v3) : R3 w0 W l2 l3 l1 v2 v3 v1 :=
  ⟨h.o2, h.o3, h.o1, h.a23, h.a12.symm, h.a13.symm, h.ext⟩
theorem R3.app1 {w0 W W' : World} {l1 l2 l3 : List Int} {v1 v2 v3 v' : Value} {n : Int} (h : R3 w0 W l1 l2 l3 v1 v2 v3) (hg : Grew w0 (W.alloc (.cells #[.int .i64 n] 3)) W' 3 1 (.int .i64 0) v1 v' (l1.length + 1) (iV l1 ++ [.int .i64 n])) :
    R3 w0 W' (l1 ++ [n]) l2 l3 v' v2 v3 := by
  obtain ⟨p2, q2⟩ := hg.others h.o2 h.a12.symm
  obtain ⟨p3, q3⟩ := hg.others h.o3 h.a13.symm
  refine ⟨?_, p2, p3, q2.symm, q3.symm, h.a23, hg.ext⟩
  have := hg.own
  rw [iV_snoc, List.length_append]; exact this
theorem R3.app2 {w0 W W' : World} {l1 l2 l3 : List Int} {v1 v2 v3 v' : Value} {n : Int} (h : R3 w0 W l1 l2 l3 v1 v2 v3) (hg : Grew w0 (W.alloc (.cells #[.int .i64 n] 3)) W' 3 1 (.int .i64 0) v2 v' (l2.length + 1) (iV l2 ++ [.int .i64 n])) :
    R3 w0 W' l1 (l2 ++ [n]) l3 v1 v' v3 := (h.rot.app1 hg).rot.rot
theorem R3.app3 {w0 W W' : World} {l1 l2 l3 : List Int} {v1 v2 v3 v' : Value} {n : Int} (h : R3 w0 W l1 l2 l3 v1 v2 v3) (hg : Grew w0 (W.alloc (.cells #[.int .i64 n] 3)) W' 3 1 (.int .i64 0) v3 v' (l3.length + 1) (iV l3 ++ [.int .i64 n])) :
    R3 w0 W' l1 l2 (l3 ++ [n]) v1 v2 v' := (h.rot.rot.app1 hg).rot
def RtRel (w0 : World) (l : List Tx) (v1 v2 v3 i : Value) (wr : World) : Prop :=
  ∃ k : Nat, k ≤ l.length ∧ i = .int .i64 (k : Int) ∧ R3 w0 wr ((l.take k).map Tx.t) ((l.take k).map Tx.x) ((l.take k).map Tx.v) v1 v2 v3
theorem sumI_05 (l : List Int) : (sumI l).2 = 0 ∨ (sumI l).2 = 5 := by
  unfold sumI
  split
  · exact .inl rfl
  · exact .inr rfl
theorem rsum_n (l : List Int) (n : Nat) (A : Option Addr) (cap : Nat) (w : World) (hn : l.length = n) (hr : Reads w w.heap.size 1 A n (iV l)) (hi : ∀ n ∈ l, 0 ≤ n ∧ n ≤ 4611686018427387904) (hm : n ≤ 1000000) (S1 S2 : Int) (hS : sumI l = (S1, S2)) :
    Calls Try.prog 89 #[.slice A n cap] w fun e w' => e = .returned (.tuple #[.int .i64 S1, .int .i64 S2]) ∧ Ext w w' := by
  subst hn
  have := rsum_any l A cap w hr hi hm
  rw [hS] at this
  exact this
set_option maxRecDepth 100000 in
set_option maxHeartbeats 4000000 in
theorem rtotal_any (l : List Tx) (A : Option Addr) (cap : Nat) (w : World) (hr : Reads w w.heap.size 6 A l.length (txCells l)) (hc0 : l.length ≤ cap) (hm : cap ≤ maxLen) :
    Calls Try.prog 35 #[.slice A l.length cap] w fun e w' => e = .returned (.tuple #[(totalI l).1.V, .int .i64 (totalI l).2]) ∧ Ext w w' := by
  have B2 := Lib.hid (Blk.new w 46 #[.int .i64 0, .int .i64 0, .int .i64 0, .int .i64 0, .int .i64 0, .int .i64 0])
  have RR := Lib.hid (fun W (h : Ext w W) => hr.ext h)
  clear hr
  obtain ⟨T, hT⟩ : ∃ T, totalI l = T := ⟨_, rfl⟩
  obtain ⟨⟨t1, t2, t3, t4, t5, t6⟩, te⟩ := T
  rw [hT]
  unfold Tx.V taxV
  have hm' := hm
  unfold maxLen at hm'
  by_cases h0 : (checkTax l).1 = 0
  case neg =>
    have hb : ((checkTax l).1 != 0) = true := by simpa using h0
    have hE := hT
    unfold totalI at hE
    rw [if_pos h0] at hE
    injection hE with hE1 hE2
    unfold Tx.zero at hE1
    injection hE1 with z1 z2 z3 z4 z5 z6
    subst z1 z2 z3 z4 z5 z6
    replace hE2 := Lib.hid hE2
    clear hT h0
    go_enter Try.func35, Try.ntmps35
    go_wp2_with fail
    refine (rcheckTax_any l A cap _ (RR.out _ ((Ext.refl w).alloc _)) hc0 hm).mono ?_
    rintro e W1 ⟨rfl, hx1⟩
    have C2 := B2.out.ext hx1
    have X1 := ((Ext.refl w).alloc (.cells #[.int .i64 0, .int .i64 0, .int .i64 0, .int .i64 0, .int .i64 0, .int .i64 0] 46)).trans hx1
    clear hx1 B2
    obtain ⟨q, q'⟩ := C2.cells
    go_wp2_with fail
    exact bodyPost_ret (results_ct rfl rfl (ld_tax (put6_blk (a := .int .i64 0) (b := .int .i64 0) (c := .int .i64 0) (d := .int .i64 0) (e := .int .i64 0) (f := .int .i64 0) C2))) rfl ⟨by rw [← hE2.out]; rfl, put6_ext X1 (Nat.le_refl _)⟩
  have hb : ((checkTax l).1 != 0) = false := by simp [h0]
  have hge : l.length ≤ 6400 := (checkTax_ok h0).1
  have hmem := checkTax_mem h0
  have hbt : ∀ n ∈ l.map Tx.t, 0 ≤ n ∧ n ≤ 4611686018427387904 := by
    intro n hn
    obtain ⟨x, hx, rfl⟩ := List.mem_map.1 hn
    exact (Tx.ok_bd (hmem x hx)).2.2.1
  have hbx : ∀ n ∈ l.map Tx.x, 0 ≤ n ∧ n ≤ 4611686018427387904 := by
    intro n hn
    obtain ⟨x, hx, rfl⟩ := List.mem_map.1 hn
    have := Tx.ok_bd (hmem x hx)
    omega
  have hbv : ∀ n ∈ l.map Tx.v, 0 ≤ n ∧ n ≤ 4611686018427387904 := by
    intro n hn
    obtain ⟨x, hx, rfl⟩ := List.mem_map.1 hn
    exact (Tx.ok_bd (hmem x hx)).2.2.2.2.2
  replace hbt := Lib.hid hbt
  replace hbx := Lib.hid hbx
  replace hbv := Lib.hid hbv
  have hE := hT
  unfold totalI at hE
  rw [if_neg (by simpa using h0)] at hE
  replace hE := Lib.hid hE
  replace h0 := Lib.hid h0
  clear hT hmem
  go_enter Try.func35, Try.ntmps35
  go_wp2_with fail
  refine (rcheckTax_any l A cap _ (RR.out _ ((Ext.refl w).alloc _)) hc0 hm).mono ?_
  rintro e W1 ⟨rfl, hx1⟩
  have C2 := B2.out.ext hx1
  have X1 := ((Ext.refl w).alloc (.cells #[.int .i64 0, .int .i64 0, .int .i64 0, .int .i64 0, .int .i64 0, .int .i64 0] 46)).trans hx1
  clear hx1 B2
  go_wp2_with fail
  have R0 : R3 W1 W1 [] [] [] (.slice none 0 0) (.slice none 0 0) (.slice none 0 0) :=
    ⟨World.ownsRow_nil _ _ _ _, World.ownsRow_nil _ _ _ _, World.ownsRow_nil _ _ _ _, Apart.nil _ _ _, Apart.nil _ _ _, Apart.nil _ _ _, Ext.refl _⟩
  go_loopw [6, 7, 8, 9] (fun v1 v2 v3 i wr => RtRel W1 l v1 v2 v3 i wr) (fun _ _ _ i _ => l.length - (intOf i).toNat)
  case atStart => exact ⟨0, by omega, rfl, R0⟩
  case round =>
    clear R0
    obtain ⟨k, hk, rfl, hR⟩ := hrel
    have hX := X1.trans hR.ext
    by_cases hlt : k < l.length
    · have hd : decide ((k : Int) < (l.length : Int)) = true := by simp; omega
      have kl : (k : Int) < (l.length : Int) := by omega
      have k0 : (0 : Int) ≤ (k : Int) := by omega
      obtain ⟨g, off, rfl, hg, hcl⟩ := (RR.out W1 X1).cellAt hlt
      obtain ⟨_, _, e3, e4, _, e6⟩ := txCells_at l k hlt
      have H6 := Lib.hid (fun W (h : Ext W1 W) => (show W.cell? ⟨g, off + k * 6 + 2, none⟩ = some (.int .i64 l[k].t) ∧ W.cell? ⟨g, off + k * 6 + 3, none⟩ = some (.int .i64 l[k].x) ∧ W.cell? ⟨g, off + k * 6 + 5, none⟩ = some (.int .i64 l[k].v) from
        ⟨(h.cell g _ none hg).trans (hcl _ _ e3), (h.cell g _ none hg).trans (hcl _ _ e4), (h.cell g _ none hg).trans (hcl _ _ e6)⟩))
      have HN := Lib.hid (fun (W : World) (v1 v2 v3 : Value) (h : R3 W1 W ((l.take k).map Tx.t ++ [l[k].t]) ((l.take k).map Tx.x ++ [l[k].x]) ((l.take k).map Tx.v ++ [l[k].v]) v1 v2 v3) => (show RtRel W1 l v1 v2 v3 (.int .i64 ((k + 1 : Nat) : Int)) W from ⟨k + 1, by omega, rfl, by rw [List.take_succ_eq_append_getElem hlt, List.map_append, List.map_append, List.map_append]; exact h⟩))
      clear e3 e4 e6 hcl
      have n1 : ((l.take k).map Tx.t).length ≤ 6400 := by simp; omega
      have n2 : ((l.take k).map Tx.x).length ≤ 6400 := by simp; omega
      have n3 : ((l.take k).map Tx.v).length ≤ 6400 := by simp; omega
      generalize (l.take k).map Tx.t = L1 at *
      generalize (l.take k).map Tx.x = L2 at *
      generalize (l.take k).map Tx.v = L3 at *
      generalize l[k] = x at *
      obtain ⟨xl, xj, xt, xx, xr, xv⟩ := x
      simp only at H6 HN
      have HR := Lib.hid hR
      obtain ⟨c3, c4, c6⟩ := H6.out wr hR.ext
      clear hR
      go_wp2_with (first
        | (at_builtin; refine wpl_app1 row_int W1 wr (.tmp 31) (.tmp 37) rfl rfl rfl HR.out.o1 HR.out.ext rfl rfl rfl (by simp [Value.oneCell']) (by omega) (by unfold maxLen; omega) ?_; intro v1 w2 hg2; have R2 := Lib.hid (HR.out.app1 hg2); clear hg2 c3 c4 c6; obtain ⟨d3, d4, d6⟩ := H6.out w2 R2.out.ext)
        | (at_builtin; refine wpl_app1 row_int W1 w2 (.tmp 39) (.tmp 45) rfl rfl rfl R2.out.o2 R2.out.ext rfl rfl rfl (by simp [Value.oneCell']) (by omega) (by unfold maxLen; omega) ?_; intro v2 w3 hg3; have R4 := Lib.hid (R2.out.app2 hg3); clear hg3 d3 d4 d6; obtain ⟨f3, f4, f6⟩ := H6.out w3 R4.out.ext)
        | (at_builtin; refine wpl_app1 row_int W1 w3 (.tmp 47) (.tmp 53) rfl rfl rfl R4.out.o3 R4.out.ext rfl rfl rfl (by simp [Value.oneCell']) (by omega) (by unfold maxLen; omega) ?_; intro v3 w4 hg4; have R5 := Lib.hid (R4.out.app3 hg4); clear hg4 f3 f4 f6))
      go_roundw
      case rel => exact HN.out _ _ _ _ R5.out
      case measure => simp [intOf]; omega
    · have hd : decide ((k : Int) < (l.length : Int)) = false := by simp; omega
      have hkl : k = l.length := by omega
      subst hkl
      rw [List.take_length] at hR
      obtain ⟨A1, c1, rfl, a1, b1, r1⟩ := own_slice hR.o1
      obtain ⟨A2, c2, rfl, a2, b2, r2⟩ := own_slice hR.o2
      obtain ⟨A3, c3, rfl, a3, b3, r3⟩ := own_slice hR.o3
      simp only [List.length_map] at r1 r2 r3 ⊢
      have HR1 := Lib.hid (fun W (h : Ext wr W) => r1.ext h)
      have HR2 := Lib.hid (fun W (h : Ext wr W) => r2.ext h)
      have HR3 := Lib.hid (fun W (h : Ext wr W) => r3.ext h)
      have C3 := C2.ext hR.ext
      clear r1 r2 r3 a1 a2 a3 b1 b2 b3 hR C2
      obtain ⟨⟨x1, y1⟩, hs1⟩ : ∃ S, sumI (l.map Tx.t) = S := ⟨_, rfl⟩
      obtain ⟨⟨x2, y2⟩, hs2⟩ : ∃ S, sumI (l.map Tx.x) = S := ⟨_, rfl⟩
      obtain ⟨⟨x3, y3⟩, hs3⟩ : ∃ S, sumI (l.map Tx.v) = S := ⟨_, rfl⟩
      have z1 := sumI_05 (l.map Tx.t)
      have z2 := sumI_05 (l.map Tx.x)
      have z3 := sumI_05 (l.map Tx.v)
      rw [hs1] at z1
      rw [hs2] at z2
      rw [hs3] at z3
      have hE2 := hE.out
      rw [hs1, hs2, hs3] at hE2
      simp only at z1 z2 z3 hE2
      replace hs1 := Lib.hid hs1
      replace hs2 := Lib.hid hs2
      replace hs3 := Lib.hid hs3
      replace hE2 := Lib.hid hE2
      go_wp2_with fail
      refine (rsum_n (l.map Tx.t) l.length A1 c1 _ (by simp) (HR1.out _ (Ext.refl wr)) hbt.out (by omega) x1 y1 hs1.out).mono ?_
      rintro e w5 ⟨rfl, hx5⟩
      go_wp2_with fail
      refine (rsum_n (l.map Tx.x) l.length A2 c2 _ (by simp) (HR2.out _ hx5) hbx.out (by omega) x2 y2 hs2.out).mono ?_
      rintro e w6 ⟨rfl, hx6⟩
      have hx56 := hx5.trans hx6
      go_wp2_with fail
      refine (rsum_n (l.map Tx.v) l.length A3 c3 _ (by simp) (HR3.out _ hx56) hbv.out (by omega) x3 y3 hs3.out).mono ?_
      rintro e w7 ⟨rfl, hx7⟩
      have C7 := C3.ext (hx56.trans hx7)
      have X7 := hX.trans (hx56.trans hx7)
      clear hx5 hx6 hx56 hx7 C3
      obtain ⟨q, q'⟩ := C7.cells
      by_cases g1 : y1 = 0
      case' neg =>
        have g1b : (y1 != 0) = true := by simpa using g1
        have hF := hE2.out
        rw [if_pos g1] at hF
        have hy : y1 = 5 := by omega
        rw [hy] at hF
      case' pos =>
        have g1b : (y1 != 0) = false := by simpa using g1
        by_cases g2 : y2 = 0
        case' neg =>
          have g2b : (y2 != 0) = true := by simpa using g2
          have hF := hE2.out
          rw [if_neg (by simpa using g1), if_pos g2] at hF
          have hy : y2 = 5 := by omega
          rw [hy] at hF
        case' pos =>
          have g2b : (y2 != 0) = false := by simpa using g2
          by_cases g3 : y3 = 0
          case' neg =>
            have g3b : (y3 != 0) = true := by simpa using g3
            have hF := hE2.out
            rw [if_neg (by simpa using g1), if_neg (by simpa using g2), if_pos g3] at hF
            have hy : y3 = 5 := by omega
            rw [hy] at hF
          case pos =>
            have g3b : (y3 != 0) = false := by simpa using g3
            have hF := hE2.out
            rw [if_neg (by simpa using g1), if_neg (by simpa using g2), if_neg (by simpa using g3)] at hF
            injection hF with hF1 hF2
            injection hF1 with k1 k2 k3 k4 k5 k6
            subst k1 k2 k3 k4 k5 k6 hF2
            replace g1 := Lib.hid g1
            replace g2 := Lib.hid g2
            replace g3 := Lib.hid g3
            clear z1 z2 z3
            go_wp2_with fail
            exact bodyPost_ret (results_ct rfl rfl (ld_tax (put6_blk (a := .int .i64 0) (b := .int .i64 0) (c := .int .i64 x1) (d := .int .i64 x2) (e := .int .i64 0) (f := .int .i64 x3) C7))) rfl ⟨rfl, put6_ext X7 (Nat.le_refl _)⟩
      all_goals
        injection hF with hF1 hF2
        unfold Tx.zero at hF1
        injection hF1 with k1 k2 k3 k4 k5 k6
        subst k1 k2 k3 k4 k5 k6 hF2
        replace hy := Lib.hid hy
        clear z1 z2 z3 hE2
        try replace g1 := Lib.hid g1
        try replace g2 := Lib.hid g2
        try replace g3 := Lib.hid g3
        go_wp2_with fail
        exact bodyPost_ret (results_ct rfl rfl (ld_tax (put6_blk (a := .int .i64 0) (b := .int .i64 0) (c := .int .i64 0) (d := .int .i64 0) (e := .int .i64 0) (f := .int .i64 0) C7))) rfl ⟨rfl, put6_ext X7 (Nat.le_refl _)⟩
end Go.Proofs.Ytehkmngbknbbaaa
