/-
  order.ReadTax.
-/
import Derived.Test.YtehkmngbknbbaaaRi21
import Derived.Test.YtehkmngbknbbaaaRi22
set_option linter.unusedVariables false
namespace Go.Proofs.Ytehkmngbknbbaaa
open Go.RowKit Go.Maps

def lastL (out : List Tx) : Int := match out.getLast? with | some y => y.l | none => 0
/-- Tax lines read one behind the other, to the first fault. -/
def taxLoop : Nat → RS → List (Int × Int) → List Tx → Except (Int × Nat) (List Tx × RS)
  | 0, s, _, out => .ok (out, s)
  | n + 1, s, ks, out => if (taxLineP s ks (lastL out)).fe ≠ 0 then .error ((taxLineP s ks (lastL out)).fe, (taxLineP s ks (lastL out)).fa)
    else taxLoop n (taxLineP s ks (lastL out)).s (taxLineP s ks (lastL out)).ks (out ++ [(taxLineP s ks (lastL out)).x])
/-- What reading tax lines gives: the lines, the fault, its place. -/
def readTaxP (b : List UInt8) : List Tx × Int × Nat :=
  match taxLoop ((RS.start b).num 0 6400 3).1.toNat ((RS.start b).num 0 6400 3).2 [] [] with
  | .error (e, a) => ([], e, a)
  | .ok (out, s) => if s.fin.1 ≠ 0 then ([], s.fin.1, s.fin.2) else (out, 0, 0)
/-- How the world stands at a round's head. -/
structure TW (w W : World) (g B g3 k : Nat) (s : RS) (ks : List (Int × Int)) (out : List Tx) (v : Value) : Prop where
  rd : RdO W g s
  met : MetIs W B k ks
  b3 : Blk W g3 37 #[.int .i64 0, .int .i64 0]
  ext : Ext w W
  own : W.ownsRow w.heap.size 46 6 v k (txCells out)
  len : out.length = k
  hg : w.heap.size = g
  g3g : g3 < g
  gB : g < B
theorem TW.to {w W W' : World} {g B g3 k : Nat} {s : RS} {ks : List (Int × Int)} {out : List Tx} {v : Value} (h : TW w W g B g3 k s ks out v) (hx : Ext W W') : TW w W' g B g3 k s ks out v :=
  ⟨h.rd.ext hx, h.met.ext hx, h.b3.ext hx, h.ext.trans hx, own_ext h.own hx, h.len, h.hg, h.g3g, h.gB⟩
theorem TW.line {w W W' : World} {g B g3 k : Nat} {s : RS} {ks : List (Int × Int)} {out : List Tx} {v : Value} (h : TW w W g B g3 k s ks out v) {t : TL} (ho : TLOut W W' g B k t) :
    RdO W' g t.s ∧ MetIs W' B (k + 1) t.ks ∧ Blk W' g3 37 #[.int .i64 0, .int .i64 0] ∧ Ext w W' ∧ W'.ownsRow w.heap.size 46 6 v k (txCells out) := by
  have h1 := h.hg
  have h2 := h.g3g
  have h3 := h.gB
  refine ⟨ho.rd, ho.met, ho.chg.blk h.b3 (by simp; omega), Chg.to_ext h.ext ho.chg (fun k hk => by simp at hk; rcases hk with rfl | rfl <;> omega), ho.chg.own h.own (fun q hq hm => ?_)⟩
  simp only [List.mem_cons, List.not_mem_nil, or_false] at hm
  rcases hm with rfl | rfl
  · obtain ⟨A, cap, hB, _⟩ := h.rd.ex
    exact own_blk_ne h.own hB (by decide) hq
  · exact ownsMap_own_ne h.met.1 h.own hq
theorem RdO.grew {w W W' : World} {g : Nat} {s : RS} {e : TypeId} {size n : Nat} {v : Value} {xs : List Value} (h : RdO W g s) (hg : w.heap.size = g) (ho : W.ownsRow w.heap.size e size v n xs) (hne : e ≠ 156) (hgr : W.grownBy W' v.ownBlock) : RdO W' g s := by
  obtain ⟨A, cap, hB, hr, hc, hm⟩ := h.ex
  exact ⟨⟨A, cap, hB.grown hgr (fun e => own_blk_ne ho hB hne e.symm), hr.keep fun b o hb => World.cell?_of_block (a := ⟨b, o, none⟩) (hgr.block b (Nat.lt_trans hb hB.lt) (fun e => by have := (ho.lt b e.symm).1; omega)), hc, hm⟩, h.ok⟩
def TWRel (w : World) (g B g3 n : Nat) (R : Except (Int × Nat) (List Tx × RS)) (i v : Value) (W : World) : Prop :=
  ∃ (k : Nat) (s : RS) (ks : List (Int × Int)) (out : List Tx), k ≤ n ∧ i = .int .i64 (k : Int) ∧ TW w W g B g3 k s ks out v ∧ R = taxLoop (n - k) s ks out
theorem txCells_snoc'  (l : List Tx) (x : Tx) : txCells (l ++ [x]) = txCells l ++ x.cl := by simp [txCells]
set_option maxRecDepth 100000 in
set_option maxHeartbeats 8000000 in
theorem readTax_any (b : List UInt8) (A : Option Addr) (cap : Nat) (w : World) (hr : Reads w w.heap.size 1 A b.length (bV b)) (hm : b.length ≤ 1000000) :
    Calls Try.prog 61 #[.slice A b.length cap] w fun r W => ∃ A c, r = .returned (.tuple #[.slice A (readTaxP b).1.length c, .agg #[.int .i64 (readTaxP b).2.1, .int .i64 ((readTaxP b).2.2 : Int)]]) ∧ W.ownsRow w.heap.size 46 6 (.slice A (readTaxP b).1.length c) (readTaxP b).1.length (txCells (readTaxP b).1) ∧ Ext w W := by
  obtain ⟨n, s0, e0⟩ : ∃ n s0, (RS.start b).num 0 6400 3 = (n, s0) := ⟨_, _, rfl⟩
  have hbn := RS.num_any (RS.start b) 0 6400 3 (by omega) (by omega)
  rw [e0] at hbn
  simp only at hbn
  obtain ⟨m, rfl⟩ := Int.eq_ofNat_of_zero_le hbn.1
  have HP := Lib.hid (show readTaxP b = match taxLoop m s0 [] [] with | .error (e, a) => ([], e, a) | .ok (out, s) => if s.fin.1 ≠ 0 then ([], s.fin.1, s.fin.2) else (out, 0, 0) by
    unfold readTaxP
    rw [e0]
    rfl)
  generalize readTaxP b = T at *
  have X0 := (Ext.refl w).alloc (.cells #[.int .i64 0, .int .i64 0] 37)
  have B3 := Blk.new w 37 #[.int .i64 0, .int .i64 0]
  have HR := Lib.hid (hr.ext X0)
  replace e0 := Lib.hid e0
  have hmm := @run_makeMap Try.prog
  clear hr
  go_enter Try.func61, Try.ntmps61
  go_wp2_with fail
  refine (onew_any b A cap _ HR.out hm).mono ?_
  rintro r w2 ⟨w1, rfl, hx1, hrd2, hx2⟩
  have X2 := X0.trans (hx1.trans hx2)
  have XW1 := X0.trans hx1
  have X12 := hx2
  have B32 := B3.ext (hx1.trans hx2)
  have hs1 : w.heap.size + 1 ≤ w1.heap.size := by have := hx1.size; simpa using this
  have hgl := hrd2.lt
  clear X0 B3 hx1 hx2
  obtain ⟨g, hg⟩ : ∃ g, w1.heap.size = g := ⟨_, rfl⟩
  rw [hg] at hs1 hrd2 hgl ⊢
  go_wp2_with fail
  have hxm := (Ext.refl w2).alloc (.map #[] 0)
  have HM := MetIs.made w2
  have hrd3 := hrd2.ext hxm
  have B33 := B32.ext hxm
  have X3 := X12.trans hxm
  have hgB : g < w2.heap.size := hgl
  clear hrd2 B32 X2 X12 hxm hmm hgl
  generalize w2.alloc (.map #[] 0) = w3 at *
  generalize w2.heap.size = B at *
  refine (ocount_any (RS.start b) 6400 g _ hrd3).mono ?_
  rw [e0.out]
  rintro r w4 ⟨rfl, hR4, hG4⟩
  have H4 : TW w1 w4 g B w.heap.size 0 s0 [] [] (.slice none 0 0) := by
    refine ⟨hR4, HM.grown hG4 (by intro e; have := Option.some.inj e; omega), B33.grown hG4 (by intro e; have := Option.some.inj e; omega), X3.grown hG4 (by intro k e; have := Option.some.inj e; omega), by simpa [txCells] using World.ownsRow_nil _ _ _ _, rfl, hg, by omega, hgB⟩
  clear hR4 hG4 HM B33 X3 hrd3
  replace H4 := Lib.hid H4
  generalize hg3 : w.heap.size = g3 at *
  have hl3 : w.heap.size ≤ g3 := by omega
  replace hg3 := Lib.hid hg3
  replace hg := Lib.hid hg
  go_wp2_with fail
  go_loopw [18, 7] (fun i v wr => TWRel w1 g B g3 m (taxLoop m s0 [] []) i v wr) (fun i _ _ => m - (intOf i).toNat)
  case atStart => exact ⟨0, s0, [], [], by omega, rfl, H4.out, rfl⟩
  case round =>
    clear H4
    obtain ⟨k, s, ks, out, hk, rfl, hT, hRt⟩ := hrel
    have HT := Lib.hid hT
    have HRt := Lib.hid hRt
    obtain ⟨A5, c5, rfl, l1, l2, hr5⟩ := own_slice hT.own
    unfold maxLen at l2
    clear hRt
    by_cases hlt : k < m
    · have hd : decide ((k : Int) < (m : Int)) = true := by simp; omega
      have hk6 : k < 100000 := by omega
      obtain ⟨m2, hm2⟩ : ∃ m2, m - k = m2 + 1 := ⟨m - k - 1, by omega⟩
      have hm3 : m - (k + 1) = m2 := by omega
      have HL := Lib.hid (HRt.out.trans (by rw [hm2, taxLoop]))
      replace hm2 := Lib.hid hm2
      replace hm3 := Lib.hid hm3
      have hlen := Lib.hid hT.len
      clear HRt hT
      have HN := Lib.hid (fun (W : World) (t : TL) (v : Value) (e : taxLineP s ks (lastL out) = t) (h0 : t.fe = 0) h1 h2 h3 h4 h5 => (show TWRel w1 g B g3 m (taxLoop m s0 [] []) (.int .i64 ((k + 1 : Nat) : Int)) v W from
        ⟨k + 1, t.s, t.ks, out ++ [t.x], by omega, rfl, ⟨h1, h2, h3, h4, h5, by rw [List.length_append, hlen.out]; rfl, HT.out.hg, HT.out.g3g, HT.out.gB⟩, by rw [HL.out, e, if_neg (by simpa using h0), hm3.out]⟩))
      rcases Nat.eq_zero_or_pos k with hk0 | hk0
      case' inl =>
        have hz : decide ((0 : Int) < (k : Int)) = false := by simp; omega
        have hz' : decide (0 < k) = false := by simp; omega
        have HLL := Lib.hid (show lastL out = 0 by
          have : out = [] := List.eq_nil_of_length_eq_zero (by rw [hlen.out, hk0])
          rw [this]; rfl)
        clear hk0 hr5
        go_wp2_with fail
        refine (taxLine_any s ks 0 g B k _ HT.out.rd HT.out.met HT.out.gB hk6).mono ?_
        rw [← HLL.out]
      case' inr =>
        obtain ⟨k', rfl⟩ : ∃ k', k = k' + 1 := ⟨k - 1, by omega⟩
        have hz : decide ((0 : Int) < (k' : Int) + 1) = true := by rw [decide_eq_true_eq]; omega
        have hz' : decide (0 < k' + 1) = true := by rw [decide_eq_true_eq]; omega
        have hkl : k' < out.length := by have := hlen.out; omega
        obtain ⟨g5, o5, rfl, hg5, hc5⟩ := hr5.cellAt (k := k') (by omega)
        have c1 := hc5 _ _ (txCells_at out k' hkl).1
        have HLL := Lib.hid (show lastL out = out[k'].l by
          unfold lastL
          have : out.getLast? = some out[k'] := by
            rw [List.getLast?_eq_getElem?, List.getElem?_eq_getElem (by omega)]
            congr 2
            have := hlen.out
            omega
          rw [this])
        clear hc5 hr5
        generalize out[k'].l = last at *
        have hz0 : (0 : Int) ≤ (k' : Int) := Int.natCast_nonneg k'
        have hz1 : (k' : Int) < ((k' + 1 : Nat) : Int) := by omega
        go_wp2_with fail
        refine (taxLine_any s ks last g B (k' + 1) _ HT.out.rd HT.out.met HT.out.gB hk6).mono ?_
        rw [← HLL.out]
      all_goals
        rintro r w5 ⟨rfl, hO⟩
        obtain ⟨R1, R2, R3, R4, R5⟩ := HT.out.line hO
        replace R5 := Lib.hid R5
        generalize hte : taxLineP s ks (lastL out) = t at *
        replace hte := Lib.hid hte
        obtain ⟨⟨tl, tj, tt, tx, tr, tv⟩, tf, ta, ts, tk⟩ := t
        simp only [Tx.V, taxV] at R1 R2 ⊢
        have B9 := (Blk.new w5 46 #[.int .i64 tl, .int .i64 tj, .int .i64 tt, .int .i64 tx, .int .i64 tr, .int .i64 tv]).alloc (.cells #[.int .i64 tf, .int .i64 (ta : Int)] 37)
        have B10 : Blk ((w5.alloc (.cells #[.int .i64 tl, .int .i64 tj, .int .i64 tt, .int .i64 tx, .int .i64 tr, .int .i64 tv] 46)).alloc (.cells #[.int .i64 tf, .int .i64 (ta : Int)] 37)) (w5.heap.size + 1) 37 #[.int .i64 tf, .int .i64 (ta : Int)] := by
          have := Blk.new (w5.alloc (.cells #[.int .i64 tl, .int .i64 tj, .int .i64 tt, .int .i64 tx, .int .i64 tr, .int .i64 tv] 46)) 37 #[.int .i64 tf, .int .i64 (ta : Int)]
          simpa using this
        have Y := ((Ext.refl w5).alloc (.cells #[.int .i64 tl, .int .i64 tj, .int .i64 tt, .int .i64 tx, .int .i64 tr, .int .i64 tv] 46)).alloc (.cells #[.int .i64 tf, .int .i64 (ta : Int)] 37)
        clear hO
        by_cases hfe : tf = 0
        · subst hfe
          have E6 := R4.trans Y
          have O6 := Lib.hid (own_ext R5.out Y)
          have D6 := Lib.hid (R1.ext Y)
          have M6 := Lib.hid (R2.ext Y)
          have F6 := Lib.hid (R3.ext Y)
          clear R1 R2 R3 R4 R5 Y
          obtain ⟨q9, q9'⟩ := B9.cells
          obtain ⟨q10, q10'⟩ := B10.cells
          have HE6 := Lib.hid E6
          clear B9 B10 E6
          go_wp2_with (at_builtin; refine wpl_app1 row_tx w1 ((w5.alloc (.cells #[.int .i64 tl, .int .i64 tj, .int .i64 tt, .int .i64 tx, .int .i64 tr, .int .i64 tv] 46)).alloc (.cells #[.int .i64 0, .int .i64 (ta : Int)] 37)) (.tmp 41) (.tmp 43) rfl rfl rfl O6.out HE6.out rfl (by simp) rfl (cl_one ⟨tl, tj, tt, tx, tr, tv⟩) (by omega) (by unfold maxLen; omega) ?_; intro v7 w7 hg7; have HG7 := Lib.hid hg7; clear hg7)
          go_roundw
          case rel =>
            have o6 := O6.out.alloc (.cells #[.int .i64 tl, .int .i64 tj, .int .i64 tt, .int .i64 tx, .int .i64 tr, .int .i64 tv] 46)
            have x6 := (Ext.refl ((w5.alloc (.cells #[.int .i64 tl, .int .i64 tj, .int .i64 tt, .int .i64 tx, .int .i64 tr, .int .i64 tv] 46)).alloc (.cells #[.int .i64 0, .int .i64 (ta : Int)] 37))).alloc (.cells #[.int .i64 tl, .int .i64 tj, .int .i64 tt, .int .i64 tx, .int .i64 tr, .int .i64 tv] 46)
            have key := HN.out w7 ⟨⟨tl, tj, tt, tx, tr, tv⟩, 0, ta, ts, tk⟩ v7 rfl rfl ((D6.out.ext x6).grew HT.out.hg o6 (by decide) HG7.out.grown) ((M6.out.ext x6).grown HG7.out.grown (fun e => ownsMap_own_ne (M6.out.ext x6).1 o6 e.symm)) ((F6.out.ext x6).grown HG7.out.grown (fun e => own_blk_ne o6 (F6.out.ext x6) (by decide) e.symm)) HG7.out.ext (by rw [txCells_snoc']; exact HG7.out.own)
            first | exact key | (simpa using key)
          case measure => simp [intOf]; omega
        · have hb : (tf != 0) = true := by simpa using hfe
          have HTE := Lib.hid (show T = ([], tf, ta) from by rw [HP.out, HL.out, if_pos hfe])
          replace hfe := Lib.hid hfe
          obtain ⟨q10, q10'⟩ := B10.cells
          have RB := R3.ext Y
          obtain ⟨q3, q3'⟩ := RB.cells
          go_wp2_with fail
          go_region
          all_goals
            go_wp2_with fail
            refine bodyPost_ret (results_tc rfl rfl (ld_fault (Blk.ext ((RB.set_ 0 (.int .i64 tf)).set_ 1 (.int .i64 (ta : Int))) (Ext.refl _).drew))) rfl ⟨none, 0, by rw [HTE.out]; rfl, by rw [HTE.out]; exact World.ownsRow_nil _ _ _ _, ?_⟩
            exact (((XW1.trans (R4.trans Y)).set (p := ⟨g3, 0, none⟩) hl3 _).set (p := ⟨g3, 1, none⟩) hl3 _).drew
    · have hd : decide ((k : Int) < (m : Int)) = false := by simp; omega
      have hkm : m - k = 0 := by omega
      have hlk := hT.len
      obtain ⟨F, hF⟩ : ∃ F, s.fin = F := ⟨_, rfl⟩
      have HL := Lib.hid (show T = if F.1 ≠ 0 then ([], F.1, F.2) else (out, 0, 0) from by rw [HP.out, HRt.out, hkm, taxLoop, ← hF])
      replace hF := Lib.hid hF
      replace hlk := Lib.hid hlk
      clear HP HRt hkm hT hr5
      generalize wr = w4 at *
      go_wp2_with fail
      refine (oend_any s g _ HT.out.rd).mono ?_
      rw [hF.out]
      rintro r w5 ⟨rfl, hx5⟩
      obtain ⟨f1, f2⟩ := F
      have T5 := HT.out.to hx5
      have B11 := Blk.new w5 37 #[.int .i64 f1, .int .i64 (f2 : Int)]
      have Y := (Ext.refl w5).alloc (.cells #[.int .i64 f1, .int .i64 (f2 : Int)] 37)
      have RB := T5.b3.ext Y
      have EW := XW1.trans (T5.ext.trans Y)
      have OW := Lib.hid (own_base (own_ext T5.own Y) XW1.size)
      obtain ⟨q11, q11'⟩ := B11.cells
      obtain ⟨q3, q3'⟩ := RB.cells
      simp only at HL ⊢
      clear hx5 T5 Y
      by_cases hf : f1 = 0
      · subst hf
        have HTE := Lib.hid (show T = (out, 0, 0) from by rw [HL.out]; simp)
        go_wp2_with fail
        refine bodyPost_ret (results_tc rfl rfl (ld_fault ((RB.set_ 0 (.int .i64 0)).set_ 1 (.int .i64 0)))) rfl ⟨A5, c5, by rw [HTE.out]; simp only [hlk.out]; rfl, ?_, (EW.set (p := ⟨g3, 0, none⟩) hl3 _).set (p := ⟨g3, 1, none⟩) hl3 _⟩
        rw [HTE.out]
        simp only [hlk.out]
        exact own_set (own_set OW.out (a := ⟨g3, 0, none⟩) (own_blk_ne OW.out RB (by decide)) _) (a := ⟨g3, 1, none⟩) (own_blk_ne OW.out RB (by decide)) _
      · have hb : (f1 != 0) = true := by simpa using hf
        have HTE := Lib.hid (show T = ([], f1, f2) from by rw [HL.out]; simp [hf])
        replace hf := Lib.hid hf
        go_wp2_with fail
        go_region
        all_goals
          go_wp2_with fail
          refine bodyPost_ret (results_tc rfl rfl (ld_fault (Blk.ext ((RB.set_ 0 (.int .i64 f1)).set_ 1 (.int .i64 (f2 : Int))) (Ext.refl _).drew))) rfl ⟨none, 0, by rw [HTE.out]; rfl, by rw [HTE.out]; exact World.ownsRow_nil _ _ _ _, ?_⟩
          exact ((EW.set (p := ⟨g3, 0, none⟩) hl3 _).set (p := ⟨g3, 1, none⟩) hl3 _).drew
end Go.Proofs.Ytehkmngbknbbaaa
