/-
  order.Total.
-/
import Derived.Test.YtehkmngbknbbaaaRk13
import Derived.Test.YtehkmngbknbbaaaRk14
set_option linter.unusedVariables false
namespace Go.Proofs.Ytehkmngbknbbaaa
open Go.RowKit

theorem iV_snoc (l : List Int) (n : Int) : iV (l ++ [n]) = iV l ++ [.int .i64 n] := by simp [iV]
theorem own_lt {w : World} {base : Nat} {e : TypeId} {size n : Nat} {v : Value} {xs : List Value} (h : w.ownsRow base e size v n xs) : ∀ g, v.ownBlock = some g → g < w.heap.size := by
  intro k hk
  rcases h.2 with ⟨rfl, _⟩ | ⟨g, cap, cur, rfl, _, hg, _⟩
  · simp [Value.ownBlock] at hk
  · have : g = k := by simpa [Value.ownBlock] using hk
    subst this
    exact (Array.getElem?_eq_some_iff.1 hg).1
/-- Two rows do not lie in one block. -/
def Apart (v v' : Value) : Prop := ∀ g, v.ownBlock = some g → v'.ownBlock ≠ some g
theorem Apart.symm {v v' : Value} (h : Apart v v') : Apart v' v := fun g h1 h2 => h g h2 h1
theorem Apart.nil (v : Value) (n c : Nat) : Apart (.slice none n c) v := fun g h => by simp [Value.ownBlock] at h
/-- Three rows that are appended to in turn; their slices lie in block g6. -/
structure Rows3 (w0 W : World) (g6 : Nat) (l1 l2 l3 : List Int) (v1 v2 v3 : Value) : Prop where
  blk : Blk W g6 130 #[v1, v2, v3]
  o1 : W.ownsRow w0.heap.size 3 1 v1 l1.length (iV l1)
  o2 : W.ownsRow w0.heap.size 3 1 v2 l2.length (iV l2)
  o3 : W.ownsRow w0.heap.size 3 1 v3 l3.length (iV l3)
  a12 : Apart v1 v2
  a13 : Apart v1 v3
  a21 : Apart v2 v1
  a23 : Apart v2 v3
  a31 : Apart v3 v1
  a32 : Apart v3 v2
  ext : Ext w0 W
  ge : w0.heap.size ≤ g6
theorem Rows3.app1 {w0 W W' : World} {g6 : Nat} {l1 l2 l3 : List Int} {v1 v2 v3 v' : Value} {n : Int} (h : Rows3 w0 W g6 l1 l2 l3 v1 v2 v3) (hg : Grew w0 (W.alloc (.cells #[.int .i64 n] 3)) W' 3 1 (.int .i64 0) v1 v' (l1.length + 1) (iV l1 ++ [.int .i64 n])) :
    Rows3 w0 (W'.setCell ⟨g6, 0, none⟩ v') g6 (l1 ++ [n]) l2 l3 v' v2 v3 := by
  have hB := hg.blk (h.o1.alloc _) (h.blk.alloc _) (by decide)
  have hfar : ∀ (v : Value) (m : Nat) (xs : List Value), W.ownsRow w0.heap.size 3 1 v m xs → Apart v v1 → W'.ownsRow w0.heap.size 3 1 v m xs := by
    intro v m xs ho ha
    refine (ho.alloc _).kept hg.grown ?_
    rcases hv : v.ownBlock with _ | g
    · exact .inl rfl
    · exact .inr (fun e => ha g hv e.symm)
  have hap : ∀ (v : Value) (m : Nat) (xs : List Value), W.ownsRow w0.heap.size 3 1 v m xs → Apart v v1 → Apart v v' := by
    intro v m xs ho ha g hv e
    rcases hg.at_ with h1 | h1
    · exact ha g hv (by rw [← h1]; exact e)
    · rw [h1] at e
      have hlt := own_lt ho g hv
      have := Option.some.inj e
      simp at this
      omega
  have p2 := hfar _ _ _ h.o2 h.a21
  have p3 := hfar _ _ _ h.o3 h.a31
  have q2 := hap _ _ _ h.o2 h.a21
  have q3 := hap _ _ _ h.o3 h.a31
  have ho : W'.ownsRow w0.heap.size 3 1 v' (l1 ++ [n]).length (iV (l1 ++ [n])) := by
    have := hg.own
    rw [iV_snoc, List.length_append]; exact this
  have nb : ∀ (v : Value) (m : Nat) (xs : List Value), W'.ownsRow w0.heap.size 3 1 v m xs → v.ownBlock ≠ some g6 := fun v m xs h1 => own_blk_ne h1 hB (by decide)
  exact ⟨hB.set_ 0 _, own_set ho (nb _ _ _ ho) _, own_set p2 (nb _ _ _ p2) _, own_set p3 (nb _ _ _ p3) _, q2.symm, q3.symm, q2, h.a23, q3, h.a32, hg.ext.set h.ge _, h.ge⟩
theorem Rows3.app2 {w0 W W' : World} {g6 : Nat} {l1 l2 l3 : List Int} {v1 v2 v3 v' : Value} {n : Int} (h : Rows3 w0 W g6 l1 l2 l3 v1 v2 v3) (hg : Grew w0 (W.alloc (.cells #[.int .i64 n] 3)) W' 3 1 (.int .i64 0) v2 v' (l2.length + 1) (iV l2 ++ [.int .i64 n])) :
    Rows3 w0 (W'.setCell ⟨g6, 1, none⟩ v') g6 l1 (l2 ++ [n]) l3 v1 v' v3 := by
  have hB := hg.blk (h.o2.alloc _) (h.blk.alloc _) (by decide)
  have hfar : ∀ (v : Value) (m : Nat) (xs : List Value), W.ownsRow w0.heap.size 3 1 v m xs → Apart v v2 → W'.ownsRow w0.heap.size 3 1 v m xs := by
    intro v m xs ho ha
    refine (ho.alloc _).kept hg.grown ?_
    rcases hv : v.ownBlock with _ | g
    · exact .inl rfl
    · exact .inr (fun e => ha g hv e.symm)
  have hap : ∀ (v : Value) (m : Nat) (xs : List Value), W.ownsRow w0.heap.size 3 1 v m xs → Apart v v2 → Apart v v' := by
    intro v m xs ho ha g hv e
    rcases hg.at_ with h1 | h1
    · exact ha g hv (by rw [← h1]; exact e)
    · rw [h1] at e
      have hlt := own_lt ho g hv
      have := Option.some.inj e
      simp at this
      omega
  have p1 := hfar _ _ _ h.o1 h.a12
  have p3 := hfar _ _ _ h.o3 h.a32
  have q1 := hap _ _ _ h.o1 h.a12
  have q3 := hap _ _ _ h.o3 h.a32
  have ho : W'.ownsRow w0.heap.size 3 1 v' (l2 ++ [n]).length (iV (l2 ++ [n])) := by
    have := hg.own
    rw [iV_snoc, List.length_append]; exact this
  have nb : ∀ (v : Value) (m : Nat) (xs : List Value), W'.ownsRow w0.heap.size 3 1 v m xs → v.ownBlock ≠ some g6 := fun v m xs h1 => own_blk_ne h1 hB (by decide)
  exact ⟨hB.set_ 1 _, own_set p1 (nb _ _ _ p1) _, own_set ho (nb _ _ _ ho) _, own_set p3 (nb _ _ _ p3) _, q1, h.a13, q1.symm, q3.symm, h.a31, q3, hg.ext.set h.ge _, h.ge⟩
theorem Rows3.app3 {w0 W W' : World} {g6 : Nat} {l1 l2 l3 : List Int} {v1 v2 v3 v' : Value} {n : Int} (h : Rows3 w0 W g6 l1 l2 l3 v1 v2 v3) (hg : Grew w0 (W.alloc (.cells #[.int .i64 n] 3)) W' 3 1 (.int .i64 0) v3 v' (l3.length + 1) (iV l3 ++ [.int .i64 n])) :
    Rows3 w0 (W'.setCell ⟨g6, 2, none⟩ v') g6 l1 l2 (l3 ++ [n]) v1 v2 v' := by
  have hB := hg.blk (h.o3.alloc _) (h.blk.alloc _) (by decide)
  have hfar : ∀ (v : Value) (m : Nat) (xs : List Value), W.ownsRow w0.heap.size 3 1 v m xs → Apart v v3 → W'.ownsRow w0.heap.size 3 1 v m xs := by
    intro v m xs ho ha
    refine (ho.alloc _).kept hg.grown ?_
    rcases hv : v.ownBlock with _ | g
    · exact .inl rfl
    · exact .inr (fun e => ha g hv e.symm)
  have hap : ∀ (v : Value) (m : Nat) (xs : List Value), W.ownsRow w0.heap.size 3 1 v m xs → Apart v v3 → Apart v v' := by
    intro v m xs ho ha g hv e
    rcases hg.at_ with h1 | h1
    · exact ha g hv (by rw [← h1]; exact e)
    · rw [h1] at e
      have hlt := own_lt ho g hv
      have := Option.some.inj e
      simp at this
      omega
  have p1 := hfar _ _ _ h.o1 h.a13
  have p2 := hfar _ _ _ h.o2 h.a23
  have q1 := hap _ _ _ h.o1 h.a13
  have q2 := hap _ _ _ h.o2 h.a23
  have ho : W'.ownsRow w0.heap.size 3 1 v' (l3 ++ [n]).length (iV (l3 ++ [n])) := by
    have := hg.own
    rw [iV_snoc, List.length_append]; exact this
  have nb : ∀ (v : Value) (m : Nat) (xs : List Value), W'.ownsRow w0.heap.size 3 1 v m xs → v.ownBlock ≠ some g6 := fun v m xs h1 => own_blk_ne h1 hB (by decide)
  exact ⟨hB.set_ 2 _, own_set p1 (nb _ _ _ p1) _, own_set p2 (nb _ _ _ p2) _, own_set ho (nb _ _ _ ho) _, h.a12, q1, h.a21, q2, q1.symm, q2.symm, hg.ext.set h.ge _, h.ge⟩
theorem Rows3.to {w0 W W' : World} {g6 : Nat} {l1 l2 l3 : List Int} {v1 v2 v3 : Value} (h : Rows3 w0 W g6 l1 l2 l3 v1 v2 v3) (hx : Ext W W') : Rows3 w0 W' g6 l1 l2 l3 v1 v2 v3 :=
  ⟨h.blk.ext hx, own_ext h.o1 hx, own_ext h.o2 hx, own_ext h.o3 hx, h.a12, h.a13, h.a21, h.a23, h.a31, h.a32, h.ext.trans hx, h.ge⟩
def TtRel (w0 : World) (g6 : Nat) (l : List Tx) (i : Value) (wr : World) : Prop :=
  ∃ (k : Nat) (v1 v2 v3 : Value), k ≤ l.length ∧ i = .int .i64 (k : Int) ∧ Rows3 w0 wr g6 ((l.take k).map Tx.t) ((l.take k).map Tx.x) ((l.take k).map Tx.v) v1 v2 v3
def TiRel (w0 : World) (g6 : Nat) (l : List Tx) (k : Nat) (x : Tx) (j : Value) (wr : World) : Prop :=
  ∃ v1 v2 v3, (j = .int .i64 0 ∧ Rows3 w0 wr g6 ((l.take k).map Tx.t) ((l.take k).map Tx.x) ((l.take k).map Tx.v) v1 v2 v3) ∨ (j = .int .i64 1 ∧ Rows3 w0 wr g6 ((l.take k).map Tx.t ++ [x.t]) ((l.take k).map Tx.x) ((l.take k).map Tx.v) v1 v2 v3) ∨
    (j = .int .i64 2 ∧ Rows3 w0 wr g6 ((l.take k).map Tx.t ++ [x.t]) ((l.take k).map Tx.x ++ [x.x]) ((l.take k).map Tx.v) v1 v2 v3) ∨ (j = .int .i64 3 ∧ Rows3 w0 wr g6 ((l.take k).map Tx.t ++ [x.t]) ((l.take k).map Tx.x ++ [x.x]) ((l.take k).map Tx.v ++ [x.v]) v1 v2 v3)
def ToRel (V : World) (g : Nat) (s1 s2 s3 : Int × Int) (j : Value) (wr : World) : Prop :=
  Ext V wr ∧ ((j = .int .i64 0 ∧ Blk wr g 131 #[.int .i64 0, .int .i64 0, .int .i64 0]) ∨ (j = .int .i64 1 ∧ s1.2 = 0 ∧ Blk wr g 131 #[.int .i64 s1.1, .int .i64 0, .int .i64 0]) ∨
    (j = .int .i64 2 ∧ s1.2 = 0 ∧ s2.2 = 0 ∧ Blk wr g 131 #[.int .i64 s1.1, .int .i64 s2.1, .int .i64 0]) ∨ (j = .int .i64 3 ∧ s1.2 = 0 ∧ s2.2 = 0 ∧ s3.2 = 0 ∧ Blk wr g 131 #[.int .i64 s1.1, .int .i64 s2.1, .int .i64 s3.1]))
/-- P25.4: the sums of tax lines, and the error. -/
def totalI (l : List Tx) : Tx × Int :=
  if (checkTax l).1 ≠ 0 then (Tx.zero, (checkTax l).1)
  else if (sumI (l.map Tx.t)).2 ≠ 0 then (Tx.zero, (sumI (l.map Tx.t)).2)
  else if (sumI (l.map Tx.x)).2 ≠ 0 then (Tx.zero, (sumI (l.map Tx.x)).2)
  else if (sumI (l.map Tx.v)).2 ≠ 0 then (Tx.zero, (sumI (l.map Tx.v)).2)
  else (⟨0, 0, (sumI (l.map Tx.t)).1, (sumI (l.map Tx.x)).1, 0, (sumI (l.map Tx.v)).1⟩, 0)

set_option maxRecDepth 100000 in
set_option maxHeartbeats 4000000 in
theorem total_any (l : List Tx) (A : Option Addr) (cap : Nat) (w : World) (hr : Reads w w.heap.size 6 A l.length (txCells l)) (hm : l.length ≤ 1000000) :
    Calls Try.prog 34 #[.slice A l.length cap] w fun e w' => e = .returned (.tuple #[(totalI l).1.V, .int .i64 (totalI l).2]) ∧ Ext w w' := by
  have B2 := Lib.hid (Blk.new w 46 #[.int .i64 0, .int .i64 0, .int .i64 0, .int .i64 0, .int .i64 0, .int .i64 0])
  have RR := Lib.hid (fun W (h : Ext w W) => hr.ext h)
  clear hr
  by_cases h0 : (checkTax l).1 = 0
  · have hb : ((checkTax l).1 != 0) = false := by simp [h0]
    have H0 := Lib.hid h0
    clear h0
    go_enter Try.func34, Try.ntmps34
    go_wp2_with fail
    refine (checkTax_any l A cap _ (RR.out _ ((Ext.refl w).alloc _)) (by unfold maxLen; omega)).mono ?_
    rintro e W1 ⟨rfl, hx1⟩
    have C2 := B2.out.ext hx1
    have X1 := ((Ext.refl w).alloc (.cells #[.int .i64 0, .int .i64 0, .int .i64 0, .int .i64 0, .int .i64 0, .int .i64 0] 46)).trans hx1
    clear hx1 B2
    go_wp2_with fail
    have hge : l.length ≤ 6400 := (checkTax_ok H0.out).1
    have B6 := Blk.new W1 130 #[.slice none 0 0, .slice none 0 0, .slice none 0 0]
    have hx6 : Ext W1 (W1.alloc (.cells #[.slice none 0 0, .slice none 0 0, .slice none 0 0] 130)) := (Ext.refl W1).alloc _
    have R0 : Rows3 W1 (W1.alloc (.cells #[.slice none 0 0, .slice none 0 0, .slice none 0 0] 130)) W1.heap.size [] [] [] (.slice none 0 0) (.slice none 0 0) (.slice none 0 0) :=
      ⟨B6, World.ownsRow_nil _ _ _ _, World.ownsRow_nil _ _ _ _, World.ownsRow_nil _ _ _ _, Apart.nil _ _ _, Apart.nil _ _ _, Apart.nil _ _ _, Apart.nil _ _ _, Apart.nil _ _ _, Apart.nil _ _ _, hx6, Nat.le_refl _⟩
    clear B6 hx6
    generalize (W1.alloc (.cells #[.slice none 0 0, .slice none 0 0, .slice none 0 0] 130)) = V at R0 ⊢
    go_loopw [27] (fun i wr => TtRel W1 W1.heap.size l i wr) (fun i _ => l.length - (intOf i).toNat)
    case atStart => exact ⟨0, _, _, _, by omega, rfl, R0⟩
    case round =>
      obtain ⟨k, v1, v2, v3, hk, rfl, hR⟩ := hrel
      clear R0
      by_cases hlt : k < l.length
      · have hd : decide ((k : Int) < (l.length : Int)) = true := by simp; omega
        obtain ⟨g, off, rfl, hg, hcl⟩ := (RR.out _ (X1.trans hR.ext)).cellAt hlt
        obtain ⟨e1, e2, e3, e4, e5, e6⟩ := txCells_at l k hlt
        have c1 := hcl _ _ e1
        have c2 : wr.cell? ⟨g, off + k * 6 + 1, none⟩ = _ := hcl _ _ e2
        have c3 : wr.cell? ⟨g, off + k * 6 + 2, none⟩ = _ := hcl _ _ e3
        have c4 : wr.cell? ⟨g, off + k * 6 + 3, none⟩ = _ := hcl _ _ e4
        have c5 : wr.cell? ⟨g, off + k * 6 + 4, none⟩ = _ := hcl _ _ e5
        have c6 : wr.cell? ⟨g, off + k * 6 + 5, none⟩ = _ := hcl _ _ e6
        clear e1 e2 e3 e4 e5 e6 hcl
        have hsn : l.take (k + 1) = l.take k ++ [l[k]] := List.take_succ_eq_append_getElem hlt
        generalize l[k] = x at *
        replace hsn := Lib.hid hsn
        go_wp2_with fail
        have hR2 := hR.to ((Ext.refl wr).alloc (.cells #[.int .i64 x.l, .int .i64 x.j, .int .i64 x.t, .int .i64 x.x, .int .i64 x.r, .int .i64 x.v] 46))
        clear hR c1 c2 c3 c4 c5 c6
        generalize wr.alloc (.cells #[.int .i64 x.l, .int .i64 x.j, .int .i64 x.t, .int .i64 x.x, .int .i64 x.r, .int .i64 x.v] 46) = W3 at hR2 ⊢
        have i0 : ∀ W, (Instr.index 131 (.agg #[.int .i64 x.t, .int .i64 x.x, .int .i64 x.v]) (.int .i64 0)).run Try.prog W = .ok (.int .i64 x.t) W := fun _ => by kernel_rfl
        have i1 : ∀ W, (Instr.index 131 (.agg #[.int .i64 x.t, .int .i64 x.x, .int .i64 x.v]) (.int .i64 1)).run Try.prog W = .ok (.int .i64 x.x) W := fun _ => by kernel_rfl
        have i2 : ∀ W, (Instr.index 131 (.agg #[.int .i64 x.t, .int .i64 x.x, .int .i64 x.v]) (.int .i64 2)).run Try.prog W = .ok (.int .i64 x.v) W := fun _ => by kernel_rfl
        go_loopw [38] (fun j wr2 => TiRel W1 W1.heap.size l k x j wr2) (fun j _ => 3 - (intOf j).toNat)
        case atStart => exact ⟨v1, v2, v3, .inl ⟨rfl, hR2⟩⟩
        case round =>
          clear hR2
          obtain ⟨v1, v2, v3, h⟩ := hrel
          rcases h with ⟨rfl, hR⟩ | ⟨rfl, hR⟩ | ⟨rfl, hR⟩ | ⟨rfl, hR⟩
          · obtain ⟨qa, qa'⟩ := hR.blk.cells
            have hl1 : ((l.take k).map Tx.t).length = k := by simp; omega
            have o1' := hR.o1
            rw [hl1] at o1'
            go_wp2_with (at_builtin; refine wpl_app1 row_int W1 wr (.tmp 45) (.tmp 47) rfl rfl rfl o1' hR.ext rfl rfl rfl (by simp [Value.oneCell']) (by omega) (by unfold maxLen; omega) ?_; intro v' w' hg; obtain ⟨A', c', rfl, _, _, _⟩ := own_slice hg.own; have hB' := hg.blk (o1'.alloc _) (hR.blk.alloc _) (by decide); obtain ⟨qb, qb'⟩ := hB'.cells)
            go_roundw
            case rel => exact ⟨_, v2, v3, .inr (.inl ⟨rfl, hR.app1 (by rw [hl1]; exact hg)⟩)⟩
            case measure => simp [intOf]
          · obtain ⟨qa, qa'⟩ := hR.blk.cells
            have hl2 : ((l.take k).map Tx.x).length = k := by simp; omega
            have o2' := hR.o2
            rw [hl2] at o2'
            go_wp2_with (at_builtin; refine wpl_app1 row_int W1 wr (.tmp 45) (.tmp 47) rfl rfl rfl o2' hR.ext rfl rfl rfl (by simp [Value.oneCell']) (by omega) (by unfold maxLen; omega) ?_; intro v' w' hg; obtain ⟨A', c', rfl, _, _, _⟩ := own_slice hg.own; have hB' := hg.blk (o2'.alloc _) (hR.blk.alloc _) (by decide); obtain ⟨qb, qb'⟩ := hB'.cells)
            go_roundw
            case rel => exact ⟨v1, _, v3, .inr (.inr (.inl ⟨rfl, hR.app2 (by rw [hl2]; exact hg)⟩))⟩
            case measure => simp [intOf]
          · obtain ⟨qa, qa'⟩ := hR.blk.cells
            have hl3 : ((l.take k).map Tx.v).length = k := by simp; omega
            have o3' := hR.o3
            rw [hl3] at o3'
            go_wp2_with (at_builtin; refine wpl_app1 row_int W1 wr (.tmp 45) (.tmp 47) rfl rfl rfl o3' hR.ext rfl rfl rfl (by simp [Value.oneCell']) (by omega) (by unfold maxLen; omega) ?_; intro v' w' hg; obtain ⟨A', c', rfl, _, _, _⟩ := own_slice hg.own; have hB' := hg.blk (o3'.alloc _) (hR.blk.alloc _) (by decide); obtain ⟨qb, qb'⟩ := hB'.cells)
            go_roundw
            case rel => exact ⟨v1, v2, _, .inr (.inr (.inr ⟨rfl, hR.app3 (by rw [hl3]; exact hg)⟩))⟩
            case measure => simp [intOf]
          · go_wp2_with fail
            go_roundw
            case rel => exact ⟨k + 1, v1, v2, v3, by omega, by go_num, by rw [hsn.out, List.map_append, List.map_append, List.map_append]; exact hR⟩
            case measure => simp [intOf]; omega
      · have hd : decide ((k : Int) < (l.length : Int)) = false := by simp; omega
        have hkl : l.take k = l := List.take_of_length_le (by omega)
        rw [hkl] at hR
        obtain ⟨A1, c1, rfl, _, _, hS1⟩ := own_slice hR.o1
        rw [List.length_map] at hS1
        obtain ⟨A2, c2, rfl, _, _, hS2⟩ := own_slice hR.o2
        rw [List.length_map] at hS2
        obtain ⟨A3, c3, rfl, _, _, hS3⟩ := own_slice hR.o3
        rw [List.length_map] at hS3
        obtain ⟨qa, qa'⟩ := hR.blk.cells
        have l6 := hR.blk.lt
        have X4 := X1.trans hR.ext
        replace C2 := C2.ext hR.ext
        have HJ : Hid (∀ f : Tx → Int, f = Tx.t ∨ f = Tx.x ∨ f = Tx.v → ∀ n ∈ l.map f, i64 n) := Lib.hid (by
          intro f hf n hn
          obtain ⟨x, hx, rfl⟩ := List.mem_map.1 hn
          obtain ⟨_, _, h3, h4, _, h6⟩ := Tx.i64s (checkTax_mem H0.out x hx)
          rcases hf with rfl | rfl | rfl
          · exact h3
          · exact h4
          · exact h6)
        obtain ⟨s1, hs1⟩ : ∃ s1, sumI (l.map Tx.t) = s1 := ⟨_, rfl⟩
        obtain ⟨s2, hs2⟩ : ∃ s2, sumI (l.map Tx.x) = s2 := ⟨_, rfl⟩
        obtain ⟨s3, hs3⟩ : ∃ s3, sumI (l.map Tx.v) = s3 := ⟨_, rfl⟩
        replace hs1 := Lib.hid hs1
        replace hs2 := Lib.hid hs2
        replace hs3 := Lib.hid hs3
        have BN := Blk.new wr 131 #[.int .i64 0, .int .i64 0, .int .i64 0]
        have j0 : ∀ W, (Instr.index 130 (.agg #[.slice A1 l.length c1, .slice A2 l.length c2, .slice A3 l.length c3]) (.int .i64 0)).run Try.prog W = .ok (.slice A1 l.length c1) W := fun _ => by kernel_rfl
        have j1 : ∀ W, (Instr.index 130 (.agg #[.slice A1 l.length c1, .slice A2 l.length c2, .slice A3 l.length c3]) (.int .i64 1)).run Try.prog W = .ok (.slice A2 l.length c2) W := fun _ => by kernel_rfl
        have j2 : ∀ W, (Instr.index 130 (.agg #[.slice A1 l.length c1, .slice A2 l.length c2, .slice A3 l.length c3]) (.int .i64 2)).run Try.prog W = .ok (.slice A3 l.length c3) W := fun _ => by kernel_rfl
        have hXN : Ext wr (wr.alloc (.cells #[.int .i64 0, .int .i64 0, .int .i64 0] 131)) := (Ext.refl wr).alloc _
        clear hR
        go_wp2_with fail
        clear qa qa'
        obtain ⟨g11, hg11⟩ : ∃ g, g = wr.heap.size := ⟨_, rfl⟩
        rw [← hg11] at BN ⊢
        have hgw : wr.heap.size ≤ g11 := by omega
        replace hg11 := Lib.hid hg11
        generalize wr.alloc (.cells #[.int .i64 0, .int .i64 0, .int .i64 0] 131) = W5 at BN hXN ⊢
        go_loopw [53] (fun j wr' => ToRel wr g11 s1 s2 s3 j wr') (fun j _ => 3 - (intOf j).toNat)
        case atStart => exact ⟨hXN, .inl ⟨rfl, BN⟩⟩
        case round =>
          clear BN hXN
          obtain ⟨hx, h⟩ := hrel
          rcases h with ⟨rfl, hB⟩ | ⟨rfl, z1, hB⟩ | ⟨rfl, z1, z2, hB⟩ | ⟨rfl, z1, z2, z3, hB⟩
          · obtain ⟨qb, qb'⟩ := hB.cells
            by_cases he : s1.2 = 0
            · have he' : (s1.2 != 0) = false := by simp [he]
              replace he := Lib.hid he
              go_wp2_with fail
              refine (sum_n (l.map Tx.t) l.length A1 c1 _ (List.length_map _) (hS1.ext hx) (HJ.out _ (by simp)) (by omega)).mono ?_
              rintro e w' ⟨rfl, rfl⟩
              rw [hs1.out]
              go_wp2_with fail
              go_roundw
              case rel => exact ⟨hx.set hgw _, .inr (.inl ⟨rfl, he.out, hB.set_ 0 _⟩)⟩
              case measure => simp [intOf]
            · have he' : (s1.2 != 0) = true := by simpa using he
              have HT : Hid (totalI l = (Tx.zero, s1.2)) := Lib.hid (by unfold totalI; rw [if_neg (by simp [H0.out])]; rw [if_pos (by rw [hs1.out]; simpa using he), hs1.out])
              replace he := Lib.hid he
              go_wp2_with fail
              refine (sum_n (l.map Tx.t) l.length A1 c1 _ (List.length_map _) (hS1.ext hx) (HJ.out _ (by simp)) (by omega)).mono ?_
              rintro e w' ⟨rfl, rfl⟩
              rw [hs1.out]
              obtain ⟨q2, q2'⟩ := (C2.ext hx).cells
              go_wp2_with fail
              exact bodyPost_ret (results_ct rfl rfl (ld_tax (put6_blk (a := .int .i64 0) (b := .int .i64 0) (c := .int .i64 0) (d := .int .i64 0) (e := .int .i64 0) (f := .int .i64 0) (C2.ext hx)))) rfl ⟨by rw [HT.out]; rfl, put6_ext (X4.trans hx) (Nat.le_refl _)⟩
          · obtain ⟨qb, qb'⟩ := hB.cells
            replace z1 := Lib.hid z1
            by_cases he : s2.2 = 0
            · have he' : (s2.2 != 0) = false := by simp [he]
              replace he := Lib.hid he
              go_wp2_with fail
              refine (sum_n (l.map Tx.x) l.length A2 c2 _ (List.length_map _) (hS2.ext hx) (HJ.out _ (by simp)) (by omega)).mono ?_
              rintro e w' ⟨rfl, rfl⟩
              rw [hs2.out]
              go_wp2_with fail
              go_roundw
              case rel => exact ⟨hx.set hgw _, .inr (.inr (.inl ⟨rfl, z1.out, he.out, hB.set_ 1 _⟩))⟩
              case measure => simp [intOf]
            · have he' : (s2.2 != 0) = true := by simpa using he
              have HT : Hid (totalI l = (Tx.zero, s2.2)) := Lib.hid (by unfold totalI; rw [if_neg (by simp [H0.out])]; rw [if_neg (by rw [hs1.out]; simpa using z1.out)]; rw [if_pos (by rw [hs2.out]; simpa using he), hs2.out])
              replace he := Lib.hid he
              go_wp2_with fail
              refine (sum_n (l.map Tx.x) l.length A2 c2 _ (List.length_map _) (hS2.ext hx) (HJ.out _ (by simp)) (by omega)).mono ?_
              rintro e w' ⟨rfl, rfl⟩
              rw [hs2.out]
              obtain ⟨q2, q2'⟩ := (C2.ext hx).cells
              go_wp2_with fail
              exact bodyPost_ret (results_ct rfl rfl (ld_tax (put6_blk (a := .int .i64 0) (b := .int .i64 0) (c := .int .i64 0) (d := .int .i64 0) (e := .int .i64 0) (f := .int .i64 0) (C2.ext hx)))) rfl ⟨by rw [HT.out]; rfl, put6_ext (X4.trans hx) (Nat.le_refl _)⟩
          · obtain ⟨qb, qb'⟩ := hB.cells
            replace z1 := Lib.hid z1
            replace z2 := Lib.hid z2
            by_cases he : s3.2 = 0
            · have he' : (s3.2 != 0) = false := by simp [he]
              replace he := Lib.hid he
              go_wp2_with fail
              refine (sum_n (l.map Tx.v) l.length A3 c3 _ (List.length_map _) (hS3.ext hx) (HJ.out _ (by simp)) (by omega)).mono ?_
              rintro e w' ⟨rfl, rfl⟩
              rw [hs3.out]
              go_wp2_with fail
              go_roundw
              case rel => exact ⟨hx.set hgw _, .inr (.inr (.inr ⟨rfl, z1.out, z2.out, he.out, hB.set_ 2 _⟩))⟩
              case measure => simp [intOf]
            · have he' : (s3.2 != 0) = true := by simpa using he
              have HT : Hid (totalI l = (Tx.zero, s3.2)) := Lib.hid (by unfold totalI; rw [if_neg (by simp [H0.out])]; rw [if_neg (by rw [hs1.out]; simpa using z1.out)]; rw [if_neg (by rw [hs2.out]; simpa using z2.out)]; rw [if_pos (by rw [hs3.out]; simpa using he), hs3.out])
              replace he := Lib.hid he
              go_wp2_with fail
              refine (sum_n (l.map Tx.v) l.length A3 c3 _ (List.length_map _) (hS3.ext hx) (HJ.out _ (by simp)) (by omega)).mono ?_
              rintro e w' ⟨rfl, rfl⟩
              rw [hs3.out]
              obtain ⟨q2, q2'⟩ := (C2.ext hx).cells
              go_wp2_with fail
              exact bodyPost_ret (results_ct rfl rfl (ld_tax (put6_blk (a := .int .i64 0) (b := .int .i64 0) (c := .int .i64 0) (d := .int .i64 0) (e := .int .i64 0) (f := .int .i64 0) (C2.ext hx)))) rfl ⟨by rw [HT.out]; rfl, put6_ext (X4.trans hx) (Nat.le_refl _)⟩
          · have HT : Hid (totalI l = (⟨0, 0, s1.1, s2.1, 0, s3.1⟩, 0)) := Lib.hid (by
              unfold totalI
              rw [if_neg (by simp [H0.out]), if_neg (by rw [hs1.out]; simpa using z1), if_neg (by rw [hs2.out]; simpa using z2), if_neg (by rw [hs3.out]; simpa using z3), hs1.out, hs2.out, hs3.out])
            replace z1 := Lib.hid z1
            replace z2 := Lib.hid z2
            replace z3 := Lib.hid z3
            obtain ⟨qb, qb'⟩ := hB.cells
            obtain ⟨q2, q2'⟩ := (C2.ext hx).cells
            go_wp2_with fail
            exact bodyPost_ret (results_ct rfl rfl (ld_tax (put6_blk (a := .int .i64 0) (b := .int .i64 0) (c := .int .i64 s1.1) (d := .int .i64 s2.1) (e := .int .i64 0) (f := .int .i64 s3.1) (C2.ext hx)))) rfl ⟨by rw [HT.out]; rfl, put6_ext (X4.trans hx) (Nat.le_refl _)⟩
  · have hb : ((checkTax l).1 != 0) = true := by simpa using h0
    have HT := Lib.hid (show totalI l = (Tx.zero, (checkTax l).1) by unfold totalI; rw [if_pos h0])
    clear h0
    go_enter Try.func34, Try.ntmps34
    go_wp2_with fail
    refine (checkTax_any l A cap _ (RR.out _ ((Ext.refl w).alloc _)) (by unfold maxLen; omega)).mono ?_
    rintro e W1 ⟨rfl, hx1⟩
    have C2 := B2.out.ext hx1
    have X1 := ((Ext.refl w).alloc (.cells #[.int .i64 0, .int .i64 0, .int .i64 0, .int .i64 0, .int .i64 0, .int .i64 0] 46)).trans hx1
    obtain ⟨q2, q2'⟩ := C2.cells
    go_wp2_with fail
    refine bodyPost_ret (results_ct rfl rfl (ld_tax (put6_blk (a := .int .i64 0) (b := .int .i64 0) (c := .int .i64 0) (d := .int .i64 0) (e := .int .i64 0) (f := .int .i64 0) C2))) rfl ⟨by rw [HT.out]; rfl, put6_ext X1 (Nat.le_refl _)⟩
end Go.Proofs.Ytehkmngbknbbaaa
