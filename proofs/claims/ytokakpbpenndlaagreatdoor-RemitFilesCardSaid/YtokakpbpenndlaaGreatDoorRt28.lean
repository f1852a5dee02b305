/-
  apportionref29: what an entry may be.
-/
import Derived.Test.YtokakpbpenndlaaGreatDoorRt13
import Derived.Test.YtokakpbpenndlaaGreatDoorRt27
set_option linter.unusedVariables false
namespace Go.Proofs.YtokakpbpenndlaaGreatDoor
open Go.RowKit Go.Maps

theorem rwithin29_any (n lo hi : Int) (w : World) :
    Calls Tryz.prog 146 #[.int .i64 n, .int .i64 lo, .int .i64 hi] w fun e w' => e = .returned (.bool (win n lo hi)) ∧ w = w' := by
  unfold win
  by_cases h1 : lo ≤ n <;> by_cases h2 : n ≤ hi
  all_goals
    go_enter Tryz.func146, Tryz.ntmps146
    go_wp2
    go_ret
    exact ⟨ret_bool (by simp [h1, h2]), rfl⟩
set_option maxRecDepth 100000 in
set_option maxHeartbeats 1000000 in
theorem rsome_any (l : List Int) (A : Option Addr) (cap : Nat) (w : World) (hr : Reads w w.heap.size 1 A l.length (iV l)) (hm : l.length ≤ maxLen) :
    Calls Tryz.prog 148 #[.slice A l.length cap] w fun e w' => e = .returned (.bool (l.any fun n => decide (n ≠ 0))) ∧ Ext w w' := by
  unfold maxLen at hm
  obtain ⟨T, hT⟩ : ∃ T, (l.any fun n => decide (n ≠ 0)) = T := ⟨_, rfl⟩
  rw [hT]
  replace hT := Lib.hid hT
  go_enter Tryz.func148, Tryz.ntmps148
  go_wp2_with fail
  go_loopw [3] (fun i wr => SameRel w l.length (fun j => ∀ h : j < l.length, l[j] = 0) i wr) (fun i _ => l.length - (intOf i).toNat)
  case atStart => exact ⟨0, by omega, rfl, Ext.refl _, fun j hj => by omega⟩
  case round =>
    obtain ⟨k, hk, rfl, hx, hP⟩ := hrel
    by_cases hlt : k < l.length
    · have hd : decide ((k : Int) < (l.length : Int)) = true := by simp; omega
      obtain ⟨g, off, rfl, hg, c1⟩ := reads_int (hr.extB (Nat.le_refl _) hx) hlt rfl
      have HN := Lib.hid (fun (h : l[k] = 0) => SameRel.next (P := fun j => ∀ h : j < l.length, l[j] = 0) (m := k + 1) hlt hx hP (fun _ => h) rfl)
      have HH := Lib.hid (fun (h : l[k] ≠ 0) => (show T = true from by rw [← hT.out, List.any_eq_true]; exact ⟨_, List.getElem_mem hlt, by simpa using h⟩))
      clear hr hP
      generalize l[k] = x at *
      by_cases h0 : x = 0
      · have HN2 := Lib.hid (HN.out h0)
        have hb : (x != 0) = false := by simpa using h0
        clear HN HH h0
        go_wp2_with fail
        go_roundw
        case rel => exact HN2.out
        case measure => simp [intOf]; omega
      · have HE := Lib.hid (HH.out h0)
        have hb : (x != 0) = true := by simpa using h0
        clear HN HH h0
        go_wp2_with fail
        go_ret
        exact ⟨by rw [HE.out]; rfl, hx⟩
    · have hd : decide ((k : Int) < (l.length : Int)) = false := by simp; omega
      have HE := Lib.hid (show T = false from by
        rw [← hT.out, List.any_eq_false]
        intro x hxm
        obtain ⟨j, hj, rfl⟩ := List.mem_iff_getElem.1 hxm
        simpa using hP j (by omega) hj)
      clear hr hP
      go_wp2_with fail
      go_ret
      exact ⟨by rw [HE.out]; rfl, hx⟩
set_option maxRecDepth 100000 in
set_option maxHeartbeats 2000000 in
theorem rbounds_any (e : Ent) (Aa At : Option Addr) (ca ct : Nat) (w : World) (h : EntR w e Aa At) :
    Calls Tryz.prog 145 #[entV e Aa At ca ct] w fun r w' => r = .returned (.bool (e.head && e.ams)) ∧ Ext w w' := by
  have la := h.la
  unfold maxLen at la
  have HH := Lib.hid (show e.head = (win e.id 1 1099511627775 && win e.of_ 0 1099511627775 && win e.day 0 3652058) by rfl)
  have B := Blk.new w 52 #[.int .i64 e.k, .int .i64 e.id, .int .i64 e.of_, .int .i64 e.day, .slice Aa e.am.length ca, .slice At e.tax.length ct]
  have X0 := (Ext.refl w).alloc (.cells #[.int .i64 e.k, .int .i64 e.id, .int .i64 e.of_, .int .i64 e.day, .slice Aa e.am.length ca, .slice At e.tax.length ct] 52)
  replace h := h.ext X0
  have hr := h.ra
  clear h
  by_cases hh : e.head = false
  · have HE := Lib.hid (show (e.head && e.ams) = false by rw [hh]; rfl)
    clear hr
    have HH1 := HH.out
    rw [hh] at HH1
    clear HH hh
    cases w1 : win e.id 1 1099511627775
    case' true =>
      cases w2 : win e.of_ 0 1099511627775
      case' true =>
        cases w3 : win e.day 0 3652058
        case' true => rw [w1, w2, w3] at HH1; cases HH1
    all_goals
      clear HH1
      go_enter Tryz.func145, Tryz.ntmps145
      go_wp2_with (go_at_call 146; refine (rwithin29_any _ _ _ _).mono ?_; rintro e w' ⟨rfl, rfl⟩)
      go_ret
      exact ⟨by rw [HE.out]; rfl, X0⟩
  have hh' : e.head = true := by simpa using hh
  have HH1 := HH.out
  rw [hh'] at HH1
  replace HH1 := HH1.symm
  rw [Bool.and_eq_true, Bool.and_eq_true] at HH1
  obtain ⟨⟨w1, w2⟩, w3⟩ := HH1
  have HT := Lib.hid (show (e.head && e.ams) = e.ams by rw [hh']; rfl)
  clear HH hh' hh
  go_enter Tryz.func145, Tryz.ntmps145
  go_wp2_with (go_at_call 146; refine (rwithin29_any _ _ _ _).mono ?_; rintro e w' ⟨rfl, rfl⟩)
  clear w1 w2 w3
  generalize w.alloc (.cells #[.int .i64 e.k, .int .i64 e.id, .int .i64 e.of_, .int .i64 e.day, .slice Aa e.am.length ca, .slice At e.tax.length ct] 52) = W0 at B X0 hr ⊢
  generalize w.heap.size = g0 at B ⊢
  have HB := Lib.hid (fun W (h : Ext W0 W) => B.ext h)
  clear B
  go_loopw [3] (fun i wr => SameRel W0 e.am.length (fun j => ∀ h : j < e.am.length, win e.am[j] 0 4611686018427387904 = true) i wr) (fun i _ => e.am.length - (intOf i).toNat)
  case atStart => exact ⟨0, by omega, rfl, Ext.refl _, fun j hj => by omega⟩
  case round =>
    obtain ⟨k, hk, rfl, hx, hP⟩ := hrel
    have HP := Lib.hid hP
    clear hP
    obtain ⟨q, q'⟩ := (HB.out _ hx).cells
    by_cases hlt : k < e.am.length
    · have hd : decide ((k : Int) < (e.am.length : Int)) = true := by simp; omega
      obtain ⟨g, off, rfl, hg, c1⟩ := reads_int (hr.extB (Nat.le_refl _) hx) hlt rfl
      have HK := Lib.hid (fun (W : World) (hW : Ext W0 W) (hf : win e.am[k] 0 4611686018427387904 = true) => SameRel.next (P := fun j => ∀ h : j < e.am.length, win e.am[j] 0 4611686018427387904 = true) (m := k + 1) hlt hW HP.out (fun _ => hf) rfl)
      have HN := Lib.hid (fun (hf : win e.am[k] 0 4611686018427387904 = false) => (show (e.head && e.ams) = false from by rw [HT.out]; unfold Ent.ams; rw [List.all_eq_false]; exact ⟨_, List.getElem_mem hlt, by simp [hf]⟩))
      clear hr HB HP
      generalize e.am[k] = x at *
      cases wx : win x 0 4611686018427387904
      · have HE := Lib.hid (HN.out wx)
        clear HK HN HT
        go_wp2_with (go_at_call 146; refine (rwithin29_any _ _ _ _).mono ?_; rintro e w' ⟨rfl, rfl⟩)
        go_ret
        exact ⟨by rw [HE.out]; rfl, X0.trans hx⟩
      · have HK2 := Lib.hid (fun W hW => HK.out W hW wx)
        clear HK HN HT
        go_wp2_with (go_at_call 146; refine (rwithin29_any _ _ _ _).mono ?_; rintro e w' ⟨rfl, rfl⟩)
        go_roundw
        case rel => exact HK2.out _ hx
        case measure => simp [intOf]; omega
    · have hd : decide ((k : Int) < (e.am.length : Int)) = false := by simp; omega
      have HE := Lib.hid (show (e.head && e.ams) = true from by
        rw [HT.out]
        unfold Ent.ams
        rw [List.all_eq_true]
        intro x hx
        obtain ⟨j, hj, rfl⟩ := List.mem_iff_getElem.1 hx
        exact HP.out j (by omega) hj)
      clear hr HB HP
      go_wp2_with fail
      go_ret
      exact ⟨by rw [HE.out]; rfl, X0.trans hx⟩

def fitsL (l : List Tx) (am : List Int) : Bool := decide ((checkTax l).1 = 0) && l.all (Tx.fits am)
set_option maxRecDepth 100000 in
set_option maxHeartbeats 4000000 in
theorem rfits_any (l : List Tx) (am : List Int) (At Aa : Option Addr) (ct ca : Nat) (w : World) (hr : Reads w w.heap.size 6 At l.length (txCells l)) (hc : l.length ≤ ct) (hm : ct ≤ maxLen) (ha : Reads w w.heap.size 1 Aa am.length (iV am)) (hma : am.length ≤ maxLen) :
    Calls Tryz.prog 147 #[.slice At l.length ct, .slice Aa am.length ca] w fun r w' => r = .returned (.bool (fitsL l am)) ∧ Ext w w' := by
  have lm : l.length ≤ maxLen := Nat.le_trans hc hm
  unfold maxLen at hma lm
  go_enter Tryz.func147, Tryz.ntmps147
  go_wp2_with fail
  refine (rcheckTax_any l At ct _ hr hc hm).mono ?_
  rintro e w1 ⟨rfl, X1⟩
  by_cases h0 : (checkTax l).1 = 0
  case neg =>
    have hb : ((checkTax l).1 != 0) = true := by simpa using h0
    have HE := Lib.hid (show fitsL l am = false by unfold fitsL; simp [h0])
    clear hr ha h0
    generalize checkTax l = C at *
    go_wp2_with fail
    go_ret
    exact ⟨by rw [HE.out]; rfl, X1⟩
  have hb : ((checkTax l).1 != 0) = false := by simpa using h0
  have HT := Lib.hid (show fitsL l am = l.all (Tx.fits am) by unfold fitsL; simp [h0])
  have HOK := Lib.hid (fun k (hk : k < l.length) => Tx.ok_bd (checkTax_mem h0 l[k] (List.getElem_mem hk)))
  replace h0 := Lib.hid h0
  have HRt := Lib.hid (fun W (hx : Ext w W) => hr.ext hx)
  have HRa := Lib.hid (fun W (hx : Ext w W) => ha.ext hx)
  clear hr ha
  generalize checkTax l = C at *
  go_wp2_with fail
  clear hb
  go_loopw [7] (fun i wr => SameRel w l.length (fun j => ∀ h : j < l.length, Tx.fits am l[j] = true) i wr) (fun i _ => l.length - (intOf i).toNat)
  case atStart => exact ⟨0, by omega, rfl, X1, fun j hj => by omega⟩
  case round =>
    obtain ⟨k, hk, rfl, hx, hP⟩ := hrel
    have HP := Lib.hid hP
    clear hP
    by_cases hlt : k < l.length
    · have hd : decide ((k : Int) < (l.length : Int)) = true := by simp; omega
      have kl : (k : Int) < (l.length : Int) := by omega
      have kz : (0 : Int) ≤ (k : Int) := by omega
      obtain ⟨g, off, rfl, hg, hcl⟩ := (HRt.out _ hx).cellAt hlt
      obtain ⟨e1, _, e3, e4, _, _⟩ := txCells_at l k hlt
      have c1 := hcl _ _ e1
      have c3 : wr.cell? ⟨g, off + k * 6 + 2, none⟩ = _ := hcl _ _ e3
      have c4 : wr.cell? ⟨g, off + k * 6 + 3, none⟩ = _ := hcl _ _ e4
      obtain ⟨b0, b1, b2, b3, _, _⟩ := HOK.out k hlt
      have HK := Lib.hid (fun (W : World) (hW : Ext w W) (hf : Tx.fits am l[k] = true) => SameRel.next (P := fun j => ∀ h : j < l.length, Tx.fits am l[j] = true) (m := k + 1) hlt hW HP.out (fun _ => hf) rfl)
      have HN := Lib.hid (fun (hf : Tx.fits am l[k] = false) => (show fitsL l am = false from by rw [HT.out, List.all_eq_false]; exact ⟨_, List.getElem_mem hlt, by simp [hf]⟩))
      have hf : Tx.fits am l[k] = (decide (l[k].l.toNat < am.length) && decide (l[k].t + l[k].x = am.getD l[k].l.toNat 0)) := rfl
      clear hcl e1 e3 e4 HP HOK
      generalize l[k] = x at *
      obtain ⟨xl, xj, xt, xx, xr, xv⟩ := x
      simp only at b0 b1 b2 b3 c1 c3 c4 hf
      obtain ⟨n, rfl⟩ : ∃ n : Nat, xl = (n : Int) := ⟨xl.toNat, by omega⟩
      rw [Int.toNat_natCast] at hf
      by_cases hn : n < am.length
      · have hbn : decide ((am.length : Int) ≤ (n : Int)) = false := by simp; omega
        have hbn' : decide (am.length ≤ n) = false := by simp; omega
        have nl : (n : Int) < (am.length : Int) := by omega
        have nz : (0 : Int) ≤ (n : Int) := by omega
        obtain ⟨ga, oa, rfl, hga, ca1⟩ := reads_int (HRa.out _ hx) hn rfl
        have hge : am.getD n 0 = am[n] := by simp [List.getD, hn]
        rw [hge] at hf
        have hw : IntKind.i64.wrap (xt + xx) = xt + xx := IntWalk.i64_in _ (by omega)
        have hw' : RowKit.wrap64 (xt + xx) = xt + xx := by unfold RowKit.wrap64; omega
        clear hge
        generalize am[n] = m at *
        by_cases he : xt + xx = m
        · have hq : (xt + xx != m) = false := by simpa using he
          have HK2 := Lib.hid (fun W hW => HK.out W hW (by rw [hf]; simp [hn, he]))
          clear HK HN HT hf he b1 b2 b3
          go_wp2_with fail
          go_quiet (fail)
          go_wp2_with fail
          go_roundw
          case rel => exact HK2.out _ (hx.drewN _)
          case measure => simp [intOf]; omega
        · have hq : (xt + xx != m) = true := by simpa using he
          have HE := Lib.hid (HN.out (by rw [hf]; simp [he]))
          clear HK HN HT hf he b1 b2 b3
          go_wp2_with fail
          go_quiet (fail)
          go_wp2_with fail
          go_ret
          exact ⟨by rw [HE.out]; rfl, hx.drewN _⟩
      · have hbn : decide ((am.length : Int) ≤ (n : Int)) = true := by simp; omega
        have hbn' : decide (am.length ≤ n) = true := by simp; omega
        have HE := Lib.hid (HN.out (by rw [hf]; simp [hn]))
        clear HK HN HT hf hn b1 b2 b3
        go_wp2_with fail
        go_quiet (fail)
        go_wp2_with fail
        go_ret
        exact ⟨by rw [HE.out]; rfl, hx.drewN _⟩
    · have hd : decide ((k : Int) < (l.length : Int)) = false := by simp; omega
      have HE := Lib.hid (show fitsL l am = true from by
        rw [HT.out, List.all_eq_true]
        intro x hx
        obtain ⟨j, hj, rfl⟩ := List.mem_iff_getElem.1 hx
        exact HP.out j (by omega) hj)
      clear HP HT
      go_wp2_with fail
      go_ret
      exact ⟨by rw [HE.out]; rfl, hx⟩

theorem Ent.fine_s {e : Ent} (h : e.k = 1) : e.fine = (decide (e.of_ = 0) && win (e.am.length : Int) 1 100 && fitsL e.tax e.am) := by
  have q1 : win (e.am.length : Int) 1 100 = manyI e.am.length := by unfold win manyI; congr 1 <;> (rw [decide_eq_decide]; omega)
  unfold Ent.fine Ent.saleFine fitsL
  rw [if_pos h, q1]
  cases decide ((checkTax e.tax).1 = 0) <;> simp
theorem Ent.fine_r {e : Ent} (h : e.k = 2) : e.fine = (decide (e.of_ ≠ 0) && win (e.am.length : Int) 1 100 && (e.am.any fun n => decide (n ≠ 0)) && decide ((e.tax.length : Int) = 0)) := by
  have q1 : win (e.am.length : Int) 1 100 = manyI e.am.length := by unfold win manyI; congr 1 <;> (rw [decide_eq_decide]; omega)
  have q2 : decide ((e.tax.length : Int) = 0) = decide (e.tax.length = 0) := by rw [decide_eq_decide]; omega
  unfold Ent.fine Ent.refundFine
  rw [if_neg (by omega), if_pos h, q1, q2]
theorem Ent.fine_v {e : Ent} (h : e.k = 3) : e.fine = (decide (e.of_ ≠ 0) && decide (e.day = 0) && decide ((e.am.length : Int) = 0) && decide ((e.tax.length : Int) = 0)) := by
  unfold Ent.fine Ent.voidFine
  rw [if_neg (by omega), if_neg (by omega), if_pos h, Bool.eq_iff_iff]
  simp only [Bool.and_eq_true, decide_eq_true_eq]
  omega
theorem Ent.fine_o {e : Ent} (h1 : e.k ≠ 1) (h2 : e.k ≠ 2) (h3 : e.k ≠ 3) : e.fine = false := by
  unfold Ent.fine
  rw [if_neg h1, if_neg h2, if_neg h3]
set_option maxRecDepth 100000 in
set_option maxHeartbeats 4000000 in
theorem rcheck29_any (e : Ent) (Aa At : Option Addr) (ca ct : Nat) (w : World) (h : EntR w e Aa At) (hc : e.tax.length ≤ ct) (hm : ct ≤ maxLen) :
    Calls Tryz.prog 106 #[entV e Aa At ca ct] w fun r w' => r = .returned (.int .i64 e.check) ∧ Ext w w' := by
  have la := h.la
  have lt := h.lt
  have la0 := h.la
  unfold maxLen at la lt
  have HR := Lib.hid (show e.check = if e.head = false ∨ e.ams = false then 5 else if e.fine = false then 2 else 0 by rfl)
  have B := Blk.new w 52 #[.int .i64 e.k, .int .i64 e.id, .int .i64 e.of_, .int .i64 e.day, .slice Aa e.am.length ca, .slice At e.tax.length ct]
  have X0 := (Ext.refl w).alloc (.cells #[.int .i64 e.k, .int .i64 e.id, .int .i64 e.of_, .int .i64 e.day, .slice Aa e.am.length ca, .slice At e.tax.length ct] 52)
  have HH := Lib.hid (fun W (hx : Ext w W) => h.ext hx)
  clear h
  obtain ⟨q0, q0'⟩ := B.cells
  go_enter Tryz.func106, Tryz.ntmps106
  go_wp2_with fail
  refine (rbounds_any e Aa At ca ct _ (HH.out _ X0)).mono ?_
  rintro r w1 ⟨rfl, hx1⟩
  have X1 := X0.trans hx1
  have B1 := B.ext hx1
  clear q0 q0'
  generalize w.heap.size = g0 at *
  clear B X0 hx1
  cases hb : (e.head && e.ams)
  · have HE := Lib.hid (HR.out.trans (if_pos (by cases h1 : e.head <;> simp_all)))
    clear HR hb
    go_wp2_with fail
    go_ret
    exact ⟨by rw [HE.out]; rfl, X1⟩
  have HE2 := Lib.hid (HR.out.trans (if_neg (by cases h1 : e.head <;> simp_all)))
  clear HR hb
  have HB := Lib.hid (fun W (h : Ext w1 W) => B1.ext h)
  obtain ⟨q, q'⟩ := B1.cells
  clear B1
  go_wp2_with fail
  refine (rwithin29_any _ _ _ _).mono ?_
  rintro r w2 ⟨rfl, rfl⟩
  obtain ⟨m, hm1⟩ : ∃ m, win (e.am.length : Int) 1 100 = m := ⟨_, rfl⟩
  rw [hm1]
  have HFin := Lib.hid (fun (f : Bool) (hf : e.fine = f) (v : Value) (hv : v = .int .i64 (if f = false then 2 else 0)) => (show Ending.returned v = .returned (.int .i64 e.check) from by rw [hv, HE2.out, hf]))
  have ra := HH.out _ X1
  clear HH HE2
  by_cases h1 : e.k = 1
  · have b1 : (e.k == 1) = true := by simpa using h1
    have hF := Ent.fine_s h1
    rw [hm1] at hF
    replace h1 := Lib.hid h1
    replace hm1 := Lib.hid hm1
    by_cases ho : e.of_ = 0
    · have bo : (e.of_ == 0) = true := by simpa using ho
      cases m
      · have HE := Lib.hid (HFin.out false (by rw [hF]; simp) _ rfl)
        clear HFin hF HB ra ho
        go_wp2_with fail
        go_ret
        exact ⟨HE.out, X1⟩
      · obtain ⟨f, hf⟩ : ∃ f, fitsL e.tax e.am = f := ⟨_, rfl⟩
        have HE := Lib.hid (HFin.out f (by rw [hF, hf]; simp [ho]))
        have HC := Lib.hid (rfits_any e.tax e.am At Aa ct ca _ ra.rt hc hm ra.ra la0)
        rw [hf] at HC
        clear HFin hF HB ra ho hf
        go_wp2_with fail
        refine HC.out.mono ?_
        rintro r w2 ⟨rfl, hx2⟩
        have X2 := X1.trans hx2
        clear q q' hx2 HC
        cases f
        all_goals
          go_wp2_with fail
          go_ret
          exact ⟨HE.out _ rfl, X2⟩
    · have bo : (e.of_ == 0) = false := by simpa using ho
      have HE := Lib.hid (HFin.out false (by rw [hF]; simp [ho]) _ rfl)
      clear HFin hF HB ra ho
      go_wp2_with fail
      go_ret
      exact ⟨HE.out, X1⟩
  have b1 : (e.k == 1) = false := by simpa using h1
  by_cases h2 : e.k = 2
  · have b2 : (e.k == 2) = true := by simpa using h2
    have hF := Ent.fine_r h2
    rw [hm1] at hF
    replace h1 := Lib.hid h1
    replace h2 := Lib.hid h2
    replace hm1 := Lib.hid hm1
    by_cases ho : e.of_ = 0
    · have bo : (e.of_ != 0) = false := by simpa using ho
      have HE := Lib.hid (HFin.out false (by rw [hF]; simp [ho]) _ rfl)
      clear HFin hF HB ra ho
      go_wp2_with fail
      go_ret
      exact ⟨HE.out, X1⟩
    · have bo : (e.of_ != 0) = true := by simpa using ho
      cases m
      · have HE := Lib.hid (HFin.out false (by rw [hF]; simp) _ rfl)
        clear HFin hF HB ra ho
        go_wp2_with fail
        go_ret
        exact ⟨HE.out, X1⟩
      · obtain ⟨f, hf⟩ : ∃ f, (e.am.any fun n => decide (n ≠ 0)) = f := ⟨_, rfl⟩
        have HC := Lib.hid (rsome_any e.am Aa ca _ ra.ra la0)
        rw [hf] at HC
        rw [hf] at hF
        clear ra hf
        go_wp2_with fail
        refine HC.out.mono ?_
        rintro r w2 ⟨rfl, hx2⟩
        have X2 := X1.trans hx2
        clear q q' HC
        obtain ⟨q, q'⟩ := (HB.out _ hx2).cells
        clear hx2 HB
        cases f
        · have HE := Lib.hid (HFin.out false (by rw [hF]; simp) _ rfl)
          clear HFin hF ho
          go_wp2_with fail
          go_ret
          exact ⟨HE.out, X2⟩
        · by_cases h0 : (e.tax.length : Int) = 0
          · have bt : ((e.tax.length : Int) == 0) = true := by simpa using h0
            have HE := Lib.hid (HFin.out true (by rw [hF]; simpa [ho] using h0) _ rfl)
            replace h0 := Lib.hid h0
            clear HFin hF ho
            go_wp2_with fail
            go_ret
            exact ⟨HE.out, X2⟩
          · have bt : ((e.tax.length : Int) == 0) = false := by simpa using h0
            have HE := Lib.hid (HFin.out false (by rw [hF]; simpa [ho] using h0) _ rfl)
            replace h0 := Lib.hid h0
            clear HFin hF ho
            go_wp2_with fail
            go_ret
            exact ⟨HE.out, X2⟩
  have b2 : (e.k == 2) = false := by simpa using h2
  clear ra HB
  replace hm1 := Lib.hid hm1
  by_cases h3 : e.k = 3
  · have b3 : (e.k == 3) = true := by simpa using h3
    have hF := Ent.fine_v h3
    replace h1 := Lib.hid h1
    replace h2 := Lib.hid h2
    replace h3 := Lib.hid h3
    by_cases ho : e.of_ = 0
    · have bo : (e.of_ != 0) = false := by simpa using ho
      have HE := Lib.hid (HFin.out false (by rw [hF]; simp [ho]) _ rfl)
      clear HFin hF ho
      go_wp2_with fail
      go_ret
      exact ⟨HE.out, X1⟩
    · have bo : (e.of_ != 0) = true := by simpa using ho
      by_cases hd : e.day = 0
      · have bd : (e.day == 0) = true := by simpa using hd
        by_cases ha : (e.am.length : Int) = 0
        · have ba : ((e.am.length : Int) == 0) = true := by simpa using ha
          by_cases h0 : (e.tax.length : Int) = 0
          · have bt : ((e.tax.length : Int) == 0) = true := by simpa using h0
            have HE := Lib.hid (HFin.out true (by rw [hF, hd, ha, h0]; simpa using ho) _ rfl)
            replace h0 := Lib.hid h0
            replace ha := Lib.hid ha
            clear HFin hF ho hd
            go_wp2_with fail
            go_ret
            exact ⟨HE.out, X1⟩
          · have bt : ((e.tax.length : Int) == 0) = false := by simpa using h0
            have HE := Lib.hid (HFin.out false (by rw [hF, decide_eq_false h0]; simp) _ rfl)
            replace h0 := Lib.hid h0
            replace ha := Lib.hid ha
            clear HFin hF ho hd
            go_wp2_with fail
            go_ret
            exact ⟨HE.out, X1⟩
        · have ba : ((e.am.length : Int) == 0) = false := by simpa using ha
          have HE := Lib.hid (HFin.out false (by rw [hF, decide_eq_false ha]; simp) _ rfl)
          replace ha := Lib.hid ha
          clear HFin hF ho hd
          go_wp2_with fail
          go_ret
          exact ⟨HE.out, X1⟩
      · have bd : (e.day == 0) = false := by simpa using hd
        have HE := Lib.hid (HFin.out false (by rw [hF]; simp [hd]) _ rfl)
        clear HFin hF ho hd
        go_wp2_with fail
        go_ret
        exact ⟨HE.out, X1⟩
  have b3 : (e.k == 3) = false := by simpa using h3
  have HE := Lib.hid (HFin.out false (Ent.fine_o h1 h2 h3) _ rfl)
  clear HFin h1 h2 h3
  go_wp2_with fail
  go_ret
  exact ⟨HE.out, X1⟩
end Go.Proofs.YtokakpbpenndlaaGreatDoor
