/-
  order.Read: the walk.
-/
import Derived.Test.YtehkmngbknbbaaaRk43
set_option linter.unusedVariables false
namespace Go.Proofs.Ytehkmngbknbbaaa
open Go.RowKit

def zOrd : Array Value := #[.int .i64 0, .int .i64 0, .int .i64 0, .int .i64 0, .slice none 0 0]
/-- How the world stands in order.Read. -/
structure St (w w1 W : World) (b5 : Nat) (s : RS) (cs : Array Value) : Prop where
  rd : RdO W w1.heap.size s
  h2 : Blk W w.heap.size 26 zOrd
  h3 : Blk W (w.heap.size + 1) 37 #[.int .i64 0, .int .i64 0]
  h5 : Blk W b5 26 cs
  ew : Ext w w1
  e1 : Ext w1 W
  lg : w.heap.size + 1 < w1.heap.size
  l5 : w1.heap.size < b5
theorem St.ext {w w1 W : World} {b5 : Nat} {s : RS} {cs : Array Value} (h : St w w1 W b5 s cs) : Ext w W := h.ew.trans h.e1
theorem St.call {w w1 W W' : World} {b5 : Nat} {s s' : RS} {cs : Array Value} (h : St w w1 W b5 s cs) (hR : RdO W' w1.heap.size s') (hG : W.grownBy W' (some w1.heap.size)) : St w w1 W' b5 s' cs := by
  have l := h.lg
  have l' := h.l5
  exact ⟨hR, h.h2.grown hG (by intro e; have := Option.some.inj e; omega), h.h3.grown hG (by intro e; have := Option.some.inj e; omega), h.h5.grown hG (by intro e; have := Option.some.inj e; omega), h.ew, h.e1.grown hG (by intro k e; have := Option.some.inj e; omega), h.lg, h.l5⟩
theorem St.to {w w1 W W' : World} {b5 : Nat} {s : RS} {cs : Array Value} (h : St w w1 W b5 s cs) (hx : Ext W W') : St w w1 W' b5 s cs :=
  ⟨h.rd.ext hx, h.h2.ext hx, h.h3.ext hx, h.h5.ext hx, h.ew, h.e1.trans hx, h.lg, h.l5⟩
theorem St.set {w w1 W : World} {b5 : Nat} {s : RS} {cs : Array Value} (h : St w w1 W b5 s cs) (i : Nat) (v : Value) : St w w1 (W.setCell ⟨b5, i, none⟩ v) b5 s (cs.setIfInBounds i v) := by
  have l := h.lg
  have l' := h.l5
  exact ⟨h.rd.set (p := ⟨b5, i, none⟩) l' v, h.h2.far (p := ⟨b5, i, none⟩) (show w.heap.size ≠ b5 by omega) v, h.h3.far (p := ⟨b5, i, none⟩) (show w.heap.size + 1 ≠ b5 by omega) v, h.h5.set_ i v, h.ew, h.e1.set (p := ⟨b5, i, none⟩) (show w1.heap.size ≤ b5 by omega) v, l, l'⟩
theorem St.app {w w1 W W1 : World} {b5 : Nat} {s : RS} {cs : Array Value} (h : St w w1 W b5 s cs) {z v v' : Value} {n n0 : Nat} {xs xs0 : List Value} (ho : W.ownsRow w1.heap.size 110 2 v n0 xs0) (hg : Grew w1 W W1 110 2 z v v' n xs) : St w w1 W1 b5 s cs := by
  refine ⟨?_, hg.blk ho h.h2 (by decide), hg.blk ho h.h3 (by decide), hg.blk ho h.h5 (by decide), h.ew, hg.ext, h.lg, h.l5⟩
  obtain ⟨A, cap, hB, hr, hc, hm⟩ := h.rd.ex
  exact ⟨⟨A, cap, hg.blk ho hB (by decide), hr.keep fun b o hb => (hg.ext.cell b o none hb).trans (h.e1.cell b o none hb).symm, hc, hm⟩, h.rd.ok⟩

def exitW (W : World) (n2 n3 : Nat) (v0 v1 v2 v3 v4 x y : Value) : World :=
  ((((((W.setCell ⟨n2, 0, none⟩ v0).setCell ⟨n2, 1, none⟩ v1).setCell ⟨n2, 2, none⟩ v2).setCell ⟨n2, 3, none⟩ v3).setCell ⟨n2, 4, none⟩ v4).setCell ⟨n3, 0, none⟩ x).setCell ⟨n3, 1, none⟩ y
theorem ld_order {w : World} {g : Nat} {a b c d e : Value} (h : Blk w g 26 #[a, b, c, d, e]) : (loadVar 26 ⟨g, 0, none⟩).run Try.prog w = .ok (.agg #[a, b, c, d, e]) w := by
  have q := h.cell
  simp [go_sem, q]
theorem exit_post {w w1 W : World} {b5 : Nat} {s : RS} {cs : Array Value} (h : St w w1 W b5 s cs) (o : Ord) (A : Option Addr) (c : Nat) (e a : Int)
    (hown : W.ownsRow w1.heap.size 110 2 (.slice A o.ls.length c) o.ls.length (lnCells o.ls)) (W' : World)
    (hW : Ext (exitW W w.heap.size (w.heap.size + 1) (.int .i64 o.cu) (.int .i64 o.day) (.int .i64 o.px) (.int .i64 o.py) (.slice A o.ls.length c) (.int .i64 e) (.int .i64 a)) W') :
    (loadVar 26 ⟨w.heap.size, 0, none⟩).run Try.prog W' = .ok (ordV o A c) W' ∧ (loadVar 37 ⟨w.heap.size + 1, 0, none⟩).run Try.prog W' = .ok (.agg #[.int .i64 e, .int .i64 a]) W' ∧
      W'.ownsRow w.heap.size 110 2 (.slice A o.ls.length c) o.ls.length (lnCells o.ls) ∧ Ext w W' := by
  unfold exitW at hW
  have n23 : w.heap.size ≠ w.heap.size + 1 := by omega
  have k2 : w.heap.size ≤ w.heap.size + 1 := by omega
  have o2 := own_blk_ne hown h.h2 (by decide)
  have o3 := own_blk_ne hown h.h3 (by decide)
  have B2 := ((((((h.h2.set_ 0 (.int .i64 o.cu)).set_ 1 (.int .i64 o.day)).set_ 2 (.int .i64 o.px)).set_ 3 (.int .i64 o.py)).set_ 4 (.slice A o.ls.length c)).far (p := ⟨w.heap.size + 1, 0, none⟩) n23 (.int .i64 e)).far (p := ⟨w.heap.size + 1, 1, none⟩) n23 (.int .i64 a)
  have B3 := fault_set (((((h.h3.far (p := ⟨w.heap.size, 0, none⟩) n23.symm (.int .i64 o.cu)).far (p := ⟨w.heap.size, 1, none⟩) n23.symm (.int .i64 o.day)).far (p := ⟨w.heap.size, 2, none⟩) n23.symm (.int .i64 o.px)).far (p := ⟨w.heap.size, 3, none⟩) n23.symm (.int .i64 o.py)).far (p := ⟨w.heap.size, 4, none⟩) n23.symm (.slice A o.ls.length c)) (.int .i64 e) (.int .i64 a)
  refine ⟨ld_order (B2.ext hW), ld_fault (B3.ext hW), own_base (own_ext (own_set (own_set (own_set (own_set (own_set (own_set (own_set hown o2 _) o2 _) o2 _) o2 _) o2 _) o3 _) o3 _) hW) h.ew.size, Ext.trans ?_ hW⟩
  exact ((((((h.ext.set (p := ⟨w.heap.size, 0, none⟩) (Nat.le_refl _) _).set (p := ⟨w.heap.size, 1, none⟩) (Nat.le_refl _) _).set (p := ⟨w.heap.size, 2, none⟩) (Nat.le_refl _) _).set (p := ⟨w.heap.size, 3, none⟩) (Nat.le_refl _) _).set (p := ⟨w.heap.size, 4, none⟩) (Nat.le_refl _) _).set (p := ⟨w.heap.size + 1, 0, none⟩) k2 _).set (p := ⟨w.heap.size + 1, 1, none⟩) k2 _

/-- Where the loop stands. -/
def RdRel (w w1 : World) (b5 : Nat) (z0 z1 z2 z3 : Int) (n : Nat) (s0 : RS) (i : Value) (wr : World) : Prop :=
  ∃ (k : Nat) (s : RS) (ls : List Ln) (A : Option Addr) (c : Nat), i = .int .i64 (k : Int) ∧ k ≤ n ∧ ls.length ≤ k ∧
    St w w1 wr b5 s #[.int .i64 z0, .int .i64 z1, .int .i64 z2, .int .i64 z3, .slice A ls.length c] ∧
    wr.ownsRow w1.heap.size 110 2 (.slice A ls.length c) ls.length (lnCells ls) ∧ (linesO n s0 = (ls ++ (linesO (n - k) s).1, (linesO (n - k) s).2))

theorem RdRel.next {w w1 W : World} {b5 : Nat} {z0 z1 z2 z3 : Int} {n k m : Nat} {s0 s s2 : RS} {ls : List Ln} {A1 A9 : Option Addr} {c1 c9 : Nat} {c a : Int} (hl : linesO n s0 = (ls ++ (linesO (m + 1) s).1, (linesO (m + 1) s).2)) (hm2 : n - (k + 1) = m) (hk : k < n) (hlk : ls.length ≤ k) (hf : s.fe = 0)
    (hc : (s.num 1 1099511627775 5).1 = c) (ha : ((s.num 1 1099511627775 5).2.num 0 1099511627775 5) = (a, s2))
    (T : St w w1 W b5 s2 #[.int .i64 z0, .int .i64 z1, .int .i64 z2, .int .i64 z3, .slice A1 ls.length c1])
    (hown : W.ownsRow w1.heap.size 110 2 (.slice A9 (ls.length + 1) c9) (ls.length + 1) (lnCells ls ++ [.int .i64 c, .int .i64 a])) :
    RdRel w w1 b5 z0 z1 z2 z3 n s0 (.int .i64 ((k + 1 : Nat) : Int)) (W.setCell ⟨b5, 4, none⟩ (.slice A9 (ls.length + 1) c9)) := by
  refine ⟨k + 1, s2, ls ++ [⟨c, a⟩], A9, c9, rfl, by omega, by simp; omega, ?_, ?_, ?_⟩
  · rw [List.length_append]; exact T.set 4 _
  · have := own_set hown (a := ⟨b5, 4, none⟩) (own_blk_ne hown T.h5 (by decide)) (.slice A9 (ls.length + 1) c9)
    rw [show lnCells (ls ++ [⟨c, a⟩]) = lnCells ls ++ [.int .i64 c, .int .i64 a] by simp [lnCells, Ln.cells], List.length_append]
    exact this
  · rw [hl, hm2, linesO, if_pos hf, ha, hc]; simp

set_option maxRecDepth 100000 in
set_option maxHeartbeats 2000000 in
theorem oreadOrder_any (b : List UInt8) (A : Option Addr) (cap : Nat) (w : World) (hr : Reads w w.heap.size 1 A b.length (bV b)) (hm : b.length ≤ 1000000) :
    Calls Try.prog 21 #[.slice A b.length cap] w fun e w' => ∃ A' c', e = .returned (.tuple #[ordV (readP b).1 A' c', .agg #[.int .i64 (readP b).2.1, .int .i64 ((readP b).2.2 : Int)]]) ∧ w'.ownsRow w.heap.size 110 2 (.slice A' (readP b).1.ls.length c') (readP b).1.ls.length (lnCells (readP b).1.ls) ∧ Ext w w' := by
  have HH := Lib.hid (rfl : headP b = headP b)
  have RR := Lib.hid (hr.ext (((Ext.refl w).alloc (.cells zOrd 26)).alloc (.cells #[.int .i64 0, .int .i64 0] 37)))
  have B2 : Blk ((w.alloc (.cells zOrd 26)).alloc (.cells #[.int .i64 0, .int .i64 0] 37)) w.heap.size 26 zOrd := (Blk.new w _ _).alloc _
  have B3 : Blk ((w.alloc (.cells zOrd 26)).alloc (.cells #[.int .i64 0, .int .i64 0] 37)) (w.heap.size + 1) 37 #[.int .i64 0, .int .i64 0] := by
    have := Blk.new (w.alloc (.cells zOrd 26)) 37 #[.int .i64 0, .int .i64 0]
    simpa using this
  have X0 : Ext w ((w.alloc (.cells zOrd 26)).alloc (.cells #[.int .i64 0, .int .i64 0] 37)) := ((Ext.refl w).alloc _).alloc _
  have Z0 : ((w.alloc (.cells zOrd 26)).alloc (.cells #[.int .i64 0, .int .i64 0] 37)).heap.size = w.heap.size + 2 := by simp
  unfold zOrd at RR B2 B3 X0 Z0
  clear hr
  replace B2 := Lib.hid B2
  replace B3 := Lib.hid B3
  replace X0 := Lib.hid X0
  replace Z0 := Lib.hid Z0
  go_enter Try.func21, Try.ntmps21
  go_wp2_with fail
  go_at_call 71
  refine (onew_any b A cap _ RR.out hm).mono ?_
  rintro e w2 ⟨w1, rfl, hew, hR1, hx1⟩
  go_wp2_with fail
  have S1 : St w w1 (w2.alloc (.cells zOrd 26)) w2.heap.size (RS.start b) zOrd := ⟨hR1.ext ((Ext.refl w2).alloc _), ((B2.out.ext hew).ext hx1).alloc _, ((B3.out.ext hew).ext hx1).alloc _, Blk.new w2 _ _, X0.out.trans hew, hx1.alloc _, by have := hew.size; rw [Z0.out] at this; omega, hR1.lt⟩
  unfold zOrd at S1
  clear B2 B3 X0 Z0 RR hR1 hx1 hew
  generalize w2.alloc (.cells #[.int .i64 0, .int .i64 0, .int .i64 0, .int .i64 0, .slice none 0 0] 26) = W at S1 ⊢
  generalize w2.heap.size = b5 at S1 ⊢
  refine (oint_any _ _ _ _ _ S1.rd).mono ?_
  rintro e v0 ⟨rfl, hR, hG⟩
  have T0 := S1.call hR hG
  clear S1 hR hG
  obtain ⟨q, q'⟩ := T0.h5.cells
  go_wp2_with fail
  have U0 : St w w1 (v0.setCell ⟨b5, 0, none⟩ (.int .i64 ((RS.start b).num 0 1099511627775 5).1)) b5 ((RS.start b).num 0 1099511627775 5).2 #[.int .i64 ((RS.start b).num 0 1099511627775 5).1, .int .i64 0, .int .i64 0, .int .i64 0, .slice none 0 0] := T0.set 0 _
  clear T0 q q'
  generalize v0.setCell ⟨b5, 0, none⟩ (.int .i64 ((RS.start b).num 0 1099511627775 5).1) = W0 at U0 ⊢
  generalize h0 : ((RS.start b).num 0 1099511627775 5) = p0 at U0 ⊢
  obtain ⟨z0, s0⟩ := p0
  replace h0 := Lib.hid h0
  simp only at U0
  refine (oint_any _ _ _ _ _ U0.rd).mono ?_
  rintro e v1 ⟨rfl, hR, hG⟩
  have T1 := U0.call hR hG
  clear U0 hR hG
  obtain ⟨q, q'⟩ := T1.h5.cells
  go_wp2_with fail
  have U1 : St w w1 (v1.setCell ⟨b5, 1, none⟩ (.int .i64 (s0.num 0 3652058 5).1)) b5 (s0.num 0 3652058 5).2 #[.int .i64 z0, .int .i64 (s0.num 0 3652058 5).1, .int .i64 0, .int .i64 0, .slice none 0 0] := T1.set 1 _
  clear T1 q q'
  generalize v1.setCell ⟨b5, 1, none⟩ (.int .i64 (s0.num 0 3652058 5).1) = W1 at U1 ⊢
  generalize h1 : (s0.num 0 3652058 5) = p1 at U1 ⊢
  obtain ⟨z1, s1⟩ := p1
  replace h1 := Lib.hid h1
  simp only at U1
  refine (oint_any _ _ _ _ _ U1.rd).mono ?_
  rintro e v2 ⟨rfl, hR, hG⟩
  have T2 := U1.call hR hG
  clear U1 hR hG
  obtain ⟨q, q'⟩ := T2.h5.cells
  go_wp2_with fail
  have U2 : St w w1 (v2.setCell ⟨b5, 2, none⟩ (.int .i64 (s1.num (-1099511627775) 1099511627775 5).1)) b5 (s1.num (-1099511627775) 1099511627775 5).2 #[.int .i64 z0, .int .i64 z1, .int .i64 (s1.num (-1099511627775) 1099511627775 5).1, .int .i64 0, .slice none 0 0] := T2.set 2 _
  clear T2 q q'
  generalize v2.setCell ⟨b5, 2, none⟩ (.int .i64 (s1.num (-1099511627775) 1099511627775 5).1) = W2 at U2 ⊢
  generalize h2 : (s1.num (-1099511627775) 1099511627775 5) = p2 at U2 ⊢
  obtain ⟨z2, s2⟩ := p2
  replace h2 := Lib.hid h2
  simp only at U2
  refine (oint_any _ _ _ _ _ U2.rd).mono ?_
  rintro e v3 ⟨rfl, hR, hG⟩
  have T3 := U2.call hR hG
  clear U2 hR hG
  obtain ⟨q, q'⟩ := T3.h5.cells
  go_wp2_with fail
  have U3 : St w w1 (v3.setCell ⟨b5, 3, none⟩ (.int .i64 (s2.num (-1099511627775) 1099511627775 5).1)) b5 (s2.num (-1099511627775) 1099511627775 5).2 #[.int .i64 z0, .int .i64 z1, .int .i64 z2, .int .i64 (s2.num (-1099511627775) 1099511627775 5).1, .slice none 0 0] := T3.set 3 _
  clear T3 q q'
  generalize v3.setCell ⟨b5, 3, none⟩ (.int .i64 (s2.num (-1099511627775) 1099511627775 5).1) = W3 at U3 ⊢
  generalize h3 : (s2.num (-1099511627775) 1099511627775 5) = p3 at U3 ⊢
  obtain ⟨z3, s3⟩ := p3
  replace h3 := Lib.hid h3
  simp only at U3
  refine (oat_any _ _ _ U3.rd).mono ?_
  rintro e v4 ⟨rfl, rfl⟩
  go_wp2_with fail
  refine (ocount_any _ _ _ _ U3.rd).mono ?_
  rintro e v5 ⟨rfl, hR, hG⟩
  have T5 := U3.call hR hG
  clear U3 hR hG
  generalize h5 : s3.num 0 100 3 = p5 at T5 ⊢
  obtain ⟨z5, s5⟩ := p5
  replace h5 := Lib.hid h5
  simp only at T5
  go_wp2_with fail
  refine (ofine_any _ _ _ T5.rd).mono ?_
  rintro e v6 ⟨rfl, hx⟩
  have T6 := T5.to hx
  clear T5 hx
  have HP : Hid (headP b = ⟨z0, z1, z2, z3, s3.at_, z5, s5⟩) := Lib.hid (by unfold headP; simp only [h0.out, h1.out, h2.out, h3.out, h5.out])
  have hn := head_n b
  rw [HP.out] at hn
  obtain ⟨hn0, hn1⟩ := hn
  simp only at hn0 hn1
  clear h0 h1 h2 h3 h5 HH
  obtain ⟨n, rfl⟩ : ∃ n : Nat, z5 = (n : Int) := ⟨z5.toNat, by omega⟩
  replace hn1 : n ≤ 100 := by omega
  clear hn0
  by_cases hA : s5.fe = 0 ∧ n = 0
  · have hb : (s5.fe == 0) = true := by simp [hA.1]
    have hz : ((n : Int) == 0) = true := by simp [hA.2]
    have HE := Lib.hid (show readP b = (⟨0, 0, 0, 0, []⟩, 2, s3.at_) by unfold readP; rw [HP.out]; simp only; rw [if_pos ⟨hA.1, by rw [hA.2]; rfl⟩])
    clear hA HP
    obtain ⟨q2, q2'⟩ := T6.h2.cells
    obtain ⟨q3, q3'⟩ := T6.h3.cells
    unfold zOrd at q2
    go_wp2_with fail
    obtain ⟨l1, l2, l3, l4⟩ := exit_post T6 ⟨0, 0, 0, 0, []⟩ none 0 2 s3.at_ (World.ownsRow_nil _ _ _ _) _ (Ext.refl _)
    unfold exitW at l1 l2 l3 l4
    dsimp only at l1 l2 l3 l4
    exact bodyPost_ret (results_cc rfl rfl l1 rfl l2) rfl ⟨none, 0, by rw [HE.out], by rw [HE.out]; exact l3, l4⟩
  · by_cases hB : s5.fe = 0
    case' pos =>
      have hb : (s5.fe == 0) = true := by simp [hB]
      have hz : ((n : Int) == 0) = false := by rw [beq_eq_false_iff_ne]; intro h; exact hA ⟨hB, by omega⟩
    case' neg =>
      have hb : (s5.fe == 0) = false := by simp [hB]
    all_goals
      clear hB
      go_wp2_with fail
      go_loopw [39] (fun i wr => RdRel w w1 b5 z0 z1 z2 z3 n s5 i wr) (fun i _ => n - (intOf i).toNat)
      case atStart => exact ⟨0, s5, [], none, 0, rfl, by omega, by simp, T6, World.ownsRow_nil _ _ _ _, by simp⟩
      case round =>
        obtain ⟨k, s, ls, A1, c1, rfl, hk, hlk, hS, hown, hl⟩ := hrel
        by_cases hlt : k < n
        · obtain ⟨m, hm1⟩ : ∃ m, n - k = m + 1 := ⟨n - k - 1, by omega⟩
          have hm2 : n - (k + 1) = m := by omega
          rw [hm1] at hl
          have hd : decide ((k : Int) < (n : Int)) = true := by simpa using hlt
          have HL := Lib.hid hl
          clear hl
          go_wp2_with fail
          refine (ofine_any _ _ _ hS.rd).mono ?_
          rintro e v7 ⟨rfl, hx⟩
          have T7 := hS.to hx
          have hown7 := own_ext hown hx
          clear hS hx hown
          by_cases hf : s.fe = 0
          · have hb2 : (s.fe == 0) = true := by simp [hf]
            replace hf := Lib.hid hf
            obtain ⟨q5, q5'⟩ := T7.h5.cells
            go_wp2_with fail
            go_region_law (first
              | (go_simp; go_at_call 76; refine (oline_any s w1.heap.size _ (T7.rd.ext (Ext.refl v7).drew)).mono ?_; rintro e v8 ⟨rfl, hR, hG⟩; have T8 := (T7.to (Ext.refl v7).drew).call hR hG; have hown8 := World.ownsRow.kept (own_ext hown7 (Ext.refl v7).drew) hG (.inr (own_blk_ne hown7 T7.rd.ex.choose_spec.choose_spec.1 (by decide))); have lb8 := T8.h5.lt; obtain ⟨q8, q8'⟩ := T8.h5.cells)
              | (refine step_app1 row_ln w1 v8 (.tmp 44) (.tmp 47) rfl rfl rfl hown8 T8.e1 rfl rfl rfl (by simp [Value.oneCell']) (by omega) (by unfold maxLen; omega) ?_; intro v9 w9 hg9; have T9 := (T8.to ((Ext.refl v8).alloc _)).app (own_ext hown8 ((Ext.refl v8).alloc _)) hg9; have hown9 := hg9.own; obtain ⟨A9, c9, rfl, hc9, hm9, hr9⟩ := own_slice hown9; obtain ⟨q9, q9'⟩ := T9.h5.cells))
            all_goals
              go_wp2_with fail
              go_roundw
              case rel =>
                have := RdRel.next (c := (s.num 1 1099511627775 5).1) (a := ((s.num 1 1099511627775 5).2.num 0 1099511627775 5).1) HL.out hm2 hlt hlk hf.out rfl rfl T9 hown9
                first | exact this | (have e : RowKit.wrap64 ((k : Int) + 1) = ((k + 1 : Nat) : Int) := by (unfold RowKit.wrap64; omega)); rw [e]; exact this
              case measure => simp [intOf]; omega
          · have hb2 : (s.fe == 0) = false := by simp [hf]
            replace hf := Lib.hid hf
            go_wp2_with fail
            go_roundw
            case rel => exact ⟨k + 1, s, ls, A1, c1, by go_num, by omega, by omega, T7, hown7, by rw [HL.out, hm2, linesO, if_neg hf.out]⟩
            case measure => simp [intOf]; omega
        · have hkn : k = n := by omega
          have hd : decide ((k : Int) < (n : Int)) = false := by simp; omega
          go_wp2_with fail
          refine (oend_any s w1.heap.size _ hS.rd).mono ?_
          rintro e v7 ⟨rfl, hx⟩
          have T7 := hS.to hx
          have hown7 := own_ext hown hx
          clear hS hx hown
          subst hkn
          have HL : Hid (linesO k s5 = (ls, s)) := Lib.hid (by rw [hl, Nat.sub_self, linesO]; simp)
          have HE : Hid (readP b = if s.fin.1 ≠ 0 then (⟨0, 0, 0, 0, []⟩, s.fin.1, s.fin.2) else (⟨z0, z1, z2, z3, ls⟩, 0, 0)) := Lib.hid (by
            unfold readP
            rw [HP.out]
            simp only
            rw [if_neg (fun h => hA ⟨h.1, by omega⟩), Int.toNat_natCast, HL.out])
          clear hl hA
          generalize s.fin = F at HE ⊢
          obtain ⟨F1, F2⟩ := F
          simp only at HE
          have y2 := T7.h2.lt
          have y3 := T7.h3.lt
          have y5 := T7.h5.lt
          obtain ⟨q2, q2'⟩ := T7.h2.cells
          obtain ⟨q3, q3'⟩ := T7.h3.cells
          obtain ⟨q5, q5'⟩ := T7.h5.cells
          unfold zOrd at q2
          by_cases hF : F1 = 0
          · have hb9 : (F1 != 0) = false := by simp [hF]
            have HE2 := Lib.hid (HE.out.trans (if_neg (by simpa using hF)))
            replace hF := Lib.hid hF
            go_wp2_with fail
            obtain ⟨l1, l2, l3, l4⟩ := exit_post T7 ⟨z0, z1, z2, z3, ls⟩ A1 c1 0 0 hown7 _ ((Ext.refl _).alloc (.cells #[.int .i64 F1, .int .i64 (F2 : Int)] 37))
            unfold exitW at l1 l2 l3 l4
            dsimp only at l1 l2 l3 l4
            refine bodyPost_ret (results_cc rfl rfl l1 rfl l2) rfl ⟨A1, c1, by rw [HE2.out]; rfl, by rw [HE2.out]; exact l3, l4⟩
          · have hb9 : (F1 != 0) = true := by simp [hF]
            have HE2 := Lib.hid (HE.out.trans (if_pos hF))
            replace hF := Lib.hid hF
            go_wp2_with fail
            go_region
            go_wp2_with fail
            obtain ⟨l1, l2, l3, l4⟩ := exit_post T7 ⟨0, 0, 0, 0, []⟩ none 0 F1 (F2 : Int) (World.ownsRow_nil _ _ _ _) _ (((Ext.refl _).alloc (.cells #[.int .i64 F1, .int .i64 (F2 : Int)] 37)).drew)
            unfold exitW at l1 l2 l3 l4
            dsimp only at l1 l2 l3 l4
            refine bodyPost_ret (results_cc rfl rfl l1 rfl l2) rfl ⟨none, 0, by rw [HE2.out], by rw [HE2.out]; exact l3, l4⟩
end Go.Proofs.Ytehkmngbknbbaaa
