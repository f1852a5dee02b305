/-
  The statement OrderBack: the walk.
-/
import Derived.Test.YtehkmngbknbbaaaPv
import Derived.Test.YtehkmngbknbbaaaDk
import Derived.Test.YtehkmngbknbbaaaAe
import Derived.Deep.DeepCutAuto
set_option linter.unusedVariables false
namespace Go.Proofs.Ytehkmngbknbbaaa
open Go.RowKit

theorem obytes_len {o : Ord} (h : o.check.1 = 0) : o.bytes.length ≤ 100000 := by
  obtain ⟨_, _, h2, _⟩ := Ord.check_ok h
  rw [Ord.bytes_eq h]
  have h3 := putsL_len (o.hd ++ lnInts o.ls)
  have h4 : (o.hd ++ lnInts o.ls).length = 5 + 2 * o.ls.length := by rw [List.length_append, lnInts_len]; rfl
  omega
theorem tbytes_len {l : List Tx} (h : (checkTax l).1 = 0) : (taxBytes l).length ≤ 1000000 := by
  have h2 := (checkTax_ok h).1
  unfold taxBytes
  rw [if_pos h]
  have := putsL_len ((l.length : Int) :: txInts l)
  rw [List.length_cons, txInts_len] at this
  omega
set_option maxRecDepth 100000 in
set_option maxHeartbeats 8000000 in
theorem orderBack_any (o : Ord) (A : Option Addr) (cap : Nat) (l : List Tx) (L : Option Addr) (cl : Nat) (b : List UInt8) (B : Option Addr) (cb : Nat) (w : World) (hr : Reads w w.heap.size 2 A o.ls.length (lnCells o.ls)) (hm : o.ls.length ≤ maxLen) (hl : Reads w w.heap.size 6 L l.length (txCells l)) (hlm : l.length ≤ maxLen) (hb : Reads w w.heap.size 1 B b.length (bV b)) (hbm : b.length ≤ maxLen) :
    Calls Try.prog 12 #[ordV o A cap, .slice L l.length cl, .slice B b.length cb] w fun e w' => e = .returned (.bool true) ∧ Ext w w' := by
  have hm' := hm
  unfold maxLen at hm' hlm hbm
  have X0 := (Ext.refl w).alloc (.cells #[.int .i64 o.cu, .int .i64 o.day, .int .i64 o.px, .int .i64 o.py, .slice A o.ls.length cap] 26)
  have B0 := Blk.new w 26 #[.int .i64 o.cu, .int .i64 o.day, .int .i64 o.px, .int .i64 o.py, .slice A o.ls.length cap]
  have HR := Lib.hid (fun W (h : Ext w W) => hr.extB (Nat.le_refl _) h |>.more h.size)
  have HL := Lib.hid (fun W (h : Ext w W) => hl.extB (Nat.le_refl _) h |>.more h.size)
  have HBy := Lib.hid (fun W (h : Ext w W) => hb.extB (Nat.le_refl _) h |>.more h.size)
  clear hr hl hb
  simp only [ordV]
  go_enter Try.func12, Try.ntmps12
  go_wp2_with fail
  refine (orderKnown_any _).mono ?_
  rintro e w1 ⟨rfl, hx1⟩
  have X1 := X0.trans hx1
  have B1 := B0.ext hx1
  clear X0 B0 hx1
  obtain ⟨q, q'⟩ := B1.cells
  by_cases g1 : 150 < o.ls.length
  · have d1 : decide ((150 : Int) < (o.ls.length : Int)) = true := by simp; omega
    go_wp2_with fail
    go_ret
    exact ⟨rfl, X1⟩
  have d1 : decide ((150 : Int) < (o.ls.length : Int)) = false := by simp; omega
  by_cases g2 : 150 < l.length
  · have d2 : decide ((150 : Int) < (l.length : Int)) = true := by simp; omega
    go_wp2_with fail
    go_ret
    exact ⟨rfl, X1⟩
  have d2 : decide ((150 : Int) < (l.length : Int)) = false := by simp; omega
  by_cases g3 : 3000 < b.length
  · have d3 : decide ((3000 : Int) < (b.length : Int)) = true := by simp; omega
    go_wp2_with fail
    go_ret
    exact ⟨rfl, X1⟩
  have d3 : decide ((3000 : Int) < (b.length : Int)) = false := by simp; omega
  go_wp2_with fail
  refine (obytes_any o A cap _ (HR.out _ X1) hm).mono ?_
  rintro e w2 ⟨v2, rfl, ho2, hx2, _⟩
  obtain ⟨A2, c2, rfl, l1, l2, hr2⟩ := own_slice ho2
  unfold maxLen at l2
  have X2 := X1.trans hx2
  have B2 := B1.ext hx2
  clear X1 B1 hx2 q q' ho2 d1 d2 d3
  go_upto_if 44 with (fail)
  go_cut [10, 11] (fun _ _ wx => Ext w wx)
  case first =>
    by_cases hc : o.check.1 = 0
    · have hcb : (o.check.1 == 0) = true := by simpa using hc
      have hn := obytes_len hc
      have hrd := Lib.hid (read_bytes hc)
      replace hc := Lib.hid hc
      go_wp2_with fail
      refine (oreadOrder_any o.bytes A2 c2 _ hr2 (by omega)).mono ?_
      rintro e w3 ⟨A3, c3, rfl, ho3, hx3⟩
      rw [hrd.out] at ho3 ⊢
      simp only [ordV]
      have X3 := X2.trans hx3
      have hr3 := Reads.of_own ho3
      have B3 := B2.ext hx3
      have Y := ((Ext.refl w3).alloc (.cells #[.int .i64 o.cu, .int .i64 o.day, .int .i64 o.px, .int .i64 o.py, .slice A3 o.ls.length c3] 26)).alloc (.cells #[.int .i64 0, .int .i64 0] 37)
      have B4 := B3.ext Y
      have X4 := X3.trans Y
      have hr4 := hr3.ext Y
      obtain ⟨q, q'⟩ := B3.cells
      have lw := B3.lt
      clear ho3 hx3
      go_wp2_with fail
      refine (sameOrder_any o o A3 A c3 cap _ hr4 (HR.out _ X4) hm hm).mono ?_
      rintro e w5 ⟨rfl, hx5⟩
      simp only [decide_true]
      have X5 := Lib.hid (X4.trans hx5)
      clear hx5
      go_wp2_with fail
      go_meet
      exact X5.out
    · have hcb : (o.check.1 == 0) = false := by simpa using hc
      go_wp2_with fail
      go_meet
      exact X2
  case rest =>
    have X6 := hcut
    clear hr2 X2 B2 l1 l2
    go_wp2_with fail
    refine (taxBytes_any l L cl _ (HL.out _ X6) (by unfold maxLen; omega)).mono ?_
    rintro e w7 ⟨v7, rfl, ho7, hx7, _⟩
    obtain ⟨A7, c7, rfl, l1, l2, hr7⟩ := own_slice ho7
    unfold maxLen at l2
    have X7 := X6.trans hx7
    clear X6 hx7 ho7 hcut
    go_upto_if 65 with (fail)
    go_cut [13, 14] (fun _ _ wx => Ext w wx)
    case first =>
      by_cases hc : (checkTax l).1 = 0
      · have hcb : ((checkTax l).1 == 0) = true := by simpa using hc
        have hn := tbytes_len hc
        have hrd := Lib.hid (readTax_put hc)
        replace hc := Lib.hid hc
        go_wp2_with fail
        refine (readTax_any (taxBytes l) A7 c7 _ hr7 (by omega)).mono ?_
        rintro e w8 ⟨A8, c8, rfl, ho8, hx8⟩
        rw [hrd.out] at ho8 ⊢
        have X8 := X7.trans hx8
        have hr8 := Reads.of_own ho8
        have Y := (Ext.refl w8).alloc (.cells #[.int .i64 0, .int .i64 0] 37)
        have X9 := X8.trans Y
        have hr9 := hr8.ext Y
        clear ho8 hx8
        go_wp2_with fail
        refine (sameTax_any l l A8 L l.length l.length c8 cl _ rfl rfl hr9 (HL.out _ X9) (by unfold maxLen; omega) (by unfold maxLen; omega)).mono ?_
        rintro e w10 ⟨rfl, hx10⟩
        simp only [decide_true]
        have X10 := Lib.hid (X9.trans hx10)
        clear hx10
        go_wp2_with fail
        go_meet
        exact X10.out
      · have hcb : ((checkTax l).1 == 0) = false := by simpa using hc
        go_wp2_with fail
        go_meet
        exact X7
    case rest =>
      have X8 := hcut
      clear hr7 X7 l1 l2 hcut
      go_wp2_with fail
      refine (oreadOrder_any b B cb _ (HBy.out _ X8) (by omega)).mono ?_
      rintro e w9 ⟨A9, c9, rfl, ho9, hx9⟩
      simp only [ordV]
      obtain ⟨_, _, _, m1, m2, hr9⟩ := own_slice ho9
      have hrr := Reads.of_own ho9
      have hinv := Lib.hid (fun h => bytes_read (b := b) h)
      generalize readP b = P at *
      obtain ⟨⟨pc, pd, px, py, pl⟩, pe, pa⟩ := P
      have X9 := X8.trans hx9
      have Y := ((Ext.refl w9).alloc (.cells #[.int .i64 pc, .int .i64 pd, .int .i64 px, .int .i64 py, .slice A9 pl.length c9] 26)).alloc (.cells #[.int .i64 pe, .int .i64 (pa : Int)] 37)
      have B15 := (Blk.new w9 26 #[.int .i64 pc, .int .i64 pd, .int .i64 px, .int .i64 py, .slice A9 pl.length c9]).alloc (.cells #[.int .i64 pe, .int .i64 (pa : Int)] 37)
      have B16 : Blk _ (w9.heap.size + 1) _ _ := Blk.two w9 26 37 #[.int .i64 pc, .int .i64 pd, .int .i64 px, .int .i64 py, .slice A9 pl.length c9] #[.int .i64 pe, .int .i64 (pa : Int)]
      simp only at hrr hinv m1
      have hplm : pl.length ≤ maxLen := Nat.le_trans m1 m2
      have X10 := X9.trans Y
      have hr10 := hrr.ext Y
      have hg16 : w.heap.size ≤ w9.heap.size + 1 := by have := X9.size; omega
      clear ho9 hx9 hr9 hrr m1 m2 Y X8 X9
      go_upto_if 87 with (fail)
      generalize (w9.alloc (.cells #[.int .i64 pc, .int .i64 pd, .int .i64 px, .int .i64 py, .slice A9 pl.length c9] 26)).alloc (.cells #[.int .i64 pe, .int .i64 (pa : Int)] 37) = W10 at *
      generalize w9.heap.size + 1 = g16 at *
      generalize w9.heap.size = g15 at *
      go_cut [17, 18] (fun _ _ wx => Ext w wx ∧ Blk wx g16 37 #[.int .i64 pe, .int .i64 (pa : Int)])
      case first =>
        by_cases hpe : pe = 0
        · obtain ⟨h1, h2, _⟩ := hinv.out hpe
          have hpb : (pe == 0) = true := by simpa using hpe
          have H1 := Lib.hid h1
          have H2 := Lib.hid h2
          have HB16 := Lib.hid B16
          replace hpe := Lib.hid hpe
          obtain ⟨q, q'⟩ := B15.cells
          clear h1 h2 B16 B15
          go_wp2_with fail
          refine (obytes_any ⟨pc, pd, px, py, pl⟩ A9 c9 _ hr10 hplm).mono ?_
          rintro e w11 ⟨v11, rfl, ho11, hx11, _⟩
          rw [H1.out]
          rw [H2.out] at ho11
          obtain ⟨A11, c11, rfl, _, _, hr11⟩ := own_slice ho11
          have X11 := X10.trans hx11
          go_wp2_with fail
          refine (sameBytes_any b b A11 B b.length b.length c11 cb _ hr11 (HBy.out _ X11)).mono ?_
          rintro e w12 ⟨rfl, rfl⟩
          simp only [beq_self_eq_true]
          have HX := Lib.hid (And.intro X11 (HB16.out.ext hx11))
          clear hx11 ho11 hr11 X11
          go_wp2_with fail
          go_meet
          exact HX.out
        · have hpb : (pe == 0) = false := by simpa using hpe
          have HX := Lib.hid (And.intro X10 B16)
          clear X10 B16 B15 hinv
          go_wp2_with fail
          go_meet
          exact HX.out
      case rest =>
        obtain ⟨X12, C16⟩ := hcut
        clear B16 B15 X10 hr10 hinv
        go_wp2_with fail
        refine (readTax_any b B cb _ (HBy.out _ X12) (by omega)).mono ?_
        rintro e w13 ⟨A13, c13, rfl, ho13, hx13⟩
        have hinv := Lib.hid (fun h => readTax_inv (b := b) h)
        generalize readTaxP b = Q at *
        obtain ⟨ql, qe, qa⟩ := Q
        simp only at ho13 hinv ⊢
        obtain ⟨_, _, _, m1, m2, _⟩ := own_slice ho13
        have hqm := Nat.le_trans m1 m2
        have hr13 := Reads.of_own ho13
        have D16 := C16.ext hx13
        have X13 := X12.trans hx13
        obtain ⟨q, q'⟩ := D16.cells
        clear hx13 X12 C16 m1 m2
        have n16 := own_blk_ne ho13 D16 (by decide)
        have O14 := Lib.hid (own_set (own_set ho13 (a := ⟨g16, 0, none⟩) n16 (.int .i64 qe)) (a := ⟨g16, 1, none⟩) n16 (.int .i64 (qa : Int)))
        have X14 := (X13.set (p := ⟨g16, 0, none⟩) hg16 (.int .i64 qe)).set (p := ⟨g16, 1, none⟩) hg16 (.int .i64 (qa : Int))
        clear ho13 hr13 n16 X13
        by_cases hqe : qe = 0
        · obtain ⟨h1, h2⟩ := hinv.out hqe
          have hqb : (qe == 0) = true := by simpa using hqe
          have H1 := Lib.hid h1
          have H2 := Lib.hid h2
          replace hqe := Lib.hid hqe
          clear h1 h2 hinv
          go_wp2_with fail
          refine (taxBytes_any ql A13 c13 _ (Reads.of_own O14.out) hqm).mono ?_
          rintro e w15 ⟨v15, rfl, ho15, hx15, _⟩
          rw [H1.out]
          rw [H2.out] at ho15
          obtain ⟨A15, c15, rfl, _, _, hr15⟩ := own_slice ho15
          have X15 := X14.trans hx15
          clear ho15 hx15 X14
          go_wp2_with fail
          refine (sameBytes_any b b A15 B b.length b.length c15 cb _ hr15 (HBy.out _ X15)).mono ?_
          rintro e w16 ⟨rfl, rfl⟩
          simp only [beq_self_eq_true]
          go_wp2_with fail
          go_ret
          exact ⟨rfl, X15⟩
        · have hqb : (qe == 0) = false := by simpa using hqe
          replace hqe := Lib.hid hqe
          clear hinv
          go_wp2_with fail
          go_ret
          exact ⟨rfl, X14⟩
end Go.Proofs.Ytehkmngbknbbaaa
