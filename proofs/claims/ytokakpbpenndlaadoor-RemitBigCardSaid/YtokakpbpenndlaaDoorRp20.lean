/-
  Is a sale fine?
-/
import Derived.Test.YtokakpbpenndlaaDoorRp19
set_option linter.unusedVariables false
namespace Go.Proofs.YtokakpbpenndlaaDoor
open Go.RowKit Go.Maps

set_option maxRecDepth 100000 in
set_option maxHeartbeats 2000000 in
theorem saleFine_any (e : Ent) (Aa At : Option Addr) (ca ct : Nat) (w : World) (h : EntR w e Aa At) :
    Calls Tryd.prog 108 #[entV e Aa At ca ct] w fun r w' => r = .returned (.bool e.saleFine) ∧ Ext w w' := by
  have la := h.la
  have lt := h.lt
  unfold maxLen at la lt
  have HR := Lib.hid (show e.saleFine = (decide ((checkTax e.tax).1 = 0) && decide (e.of_ = 0) && win (e.am.length : Int) 1 100 && e.tax.all (Tx.fits e.am)) by
    unfold Ent.saleFine
    have q1 : win (e.am.length : Int) 1 100 = manyI e.am.length := by unfold win manyI; congr 1 <;> (rw [decide_eq_decide]; omega)
    rw [q1])
  have B := Blk.new w 58 #[.int .i64 e.k, .int .i64 e.id, .int .i64 e.of_, .int .i64 e.day, .slice Aa e.am.length ca, .slice At e.tax.length ct]
  have X0 := (Ext.refl w).alloc (.cells #[.int .i64 e.k, .int .i64 e.id, .int .i64 e.of_, .int .i64 e.day, .slice Aa e.am.length ca, .slice At e.tax.length ct] 58)
  have hr := h.ra.ext X0
  have ht := h.rt.ext X0
  clear h
  go_enter Tryd.func108, Tryd.ntmps108
  go_wp2_with fail
  generalize w.alloc (.cells #[.int .i64 e.k, .int .i64 e.id, .int .i64 e.of_, .int .i64 e.day, .slice Aa e.am.length ca, .slice At e.tax.length ct] 58) = W0 at B X0 hr ht ⊢
  generalize w.heap.size = g0 at B ⊢
  refine (checkTax_any e.tax At ct _ ht (by unfold maxLen; omega)).mono ?_
  rintro r v1 ⟨rfl, hx1⟩
  have B1 := B.ext hx1
  have X1 := X0.trans hx1
  replace hr := hr.ext hx1
  replace ht := ht.ext hx1
  clear B hx1 X0
  obtain ⟨q, q'⟩ := B1.cells
  have HB := Lib.hid (fun W (h : Ext v1 W) => B1.ext h)
  clear B1
  have HC := Lib.hid (fun (h : (checkTax e.tax).1 = 0) => checkTax_mem h)
  generalize (checkTax e.tax).1 = c at *
  generalize (checkTax e.tax).2 = c2 at *
  have HR1 := HR.out
  clear HR
  by_cases d0 : c = 0
  case neg =>
    simp only [d0, decide_false, Bool.false_and] at HR1
    replace HR1 := Lib.hid HR1
    clear hr ht HB HC
    go_wp2_with fail
    go_ret
    exact ⟨by rw [HR1.out]; rfl, X1⟩
  subst d0
  by_cases d1 : e.of_ = 0
  case neg =>
    simp only [d1, decide_false, decide_true, Bool.false_and, Bool.and_false] at HR1
    replace HR1 := Lib.hid HR1
    clear hr ht HB HC
    go_wp2_with fail
    go_ret
    exact ⟨by rw [HR1.out]; rfl, X1⟩
  cases d2 : win (e.am.length : Int) 1 100
  case false =>
    simp only [d1, d2, decide_true, Bool.false_and, Bool.and_false] at HR1
    replace HR1 := Lib.hid HR1
    replace d2 := Lib.hid d2
    clear hr ht HB HC
    go_wp2_with fail
    refine (many_any e.am.length Aa ca _ (by omega)).mono ?_
    rintro r w' ⟨rfl, rfl⟩
    rw [d2.out]
    go_wp2_with fail
    go_ret
    exact ⟨by rw [HR1.out]; rfl, X1⟩
  simp only [d1, d2, decide_true, Bool.true_and] at HR1
  replace HR1 := Lib.hid HR1
  replace d2 := Lib.hid d2
  have hm := HC.out rfl
  replace hm := Lib.hid hm
  clear HC
  go_wp2_with fail
  refine (many_any e.am.length Aa ca _ (by omega)).mono ?_
  rintro r w' ⟨rfl, rfl⟩
  rw [d2.out]
  go_wp2_with fail
  clear q q'
  go_loopw [33] (fun i wr => SameRel v1 e.tax.length (fun j => ∀ h : j < e.tax.length, Tx.fits e.am e.tax[j] = true) i wr) (fun i _ => e.tax.length - (intOf i).toNat)
  case atStart => exact ⟨0, by omega, rfl, Ext.refl _, fun j hj => by omega⟩
  case round =>
    obtain ⟨k, hk, rfl, hx, hP⟩ := hrel
    have HP := Lib.hid hP
    clear hP
    obtain ⟨q, q'⟩ := (HB.out _ hx).cells
    have lg0 := (HB.out _ hx).lt
    by_cases hlt : k < e.tax.length
    · have hd : decide ((k : Int) < (e.tax.length : Int)) = true := by simp; omega
      obtain ⟨g, off, rfl, hg, hc⟩ := (ht.extB (Nat.le_refl _) hx).cellAt hlt
      obtain ⟨e1, e2, e3, e4, e5, e6⟩ := txCells_at e.tax k hlt
      have c1 := hc _ _ e1
      have c2 : wr.cell? ⟨g, off + k * 6 + 1, none⟩ = _ := hc _ _ e2
      have c3 : wr.cell? ⟨g, off + k * 6 + 2, none⟩ = _ := hc _ _ e3
      have c4 : wr.cell? ⟨g, off + k * 6 + 3, none⟩ = _ := hc _ _ e4
      have c5 : wr.cell? ⟨g, off + k * 6 + 4, none⟩ = _ := hc _ _ e5
      have c6 : wr.cell? ⟨g, off + k * 6 + 5, none⟩ = _ := hc _ _ e6
      have hgl : g < wr.heap.size := Nat.lt_of_lt_of_le hg hx.size
      clear hc e1 e2 e3 e4 e5 e6
      have hok := hm.out e.tax[k] (List.getElem_mem hlt)
      obtain ⟨b1, b2, b3, b4, b5, b6⟩ := Tx.ok_bd hok
      have HF := Lib.hid (rfl : Tx.fits e.am e.tax[k] = Tx.fits e.am e.tax[k])
      have HK := Lib.hid (fun (W : World) (hW : Ext v1 W) (hf : Tx.fits e.am e.tax[k] = true) => SameRel.next (P := fun j => ∀ h : j < e.tax.length, Tx.fits e.am e.tax[j] = true) (m := k + 1) hlt hW HP.out (fun _ => hf) rfl)
      have HN := Lib.hid (fun (hf : Tx.fits e.am e.tax[k] = false) => (show e.tax.all (Tx.fits e.am) = false from by rw [List.all_eq_false]; exact ⟨_, List.getElem_mem hlt, by simp [hf]⟩))
      generalize e.tax[k] = x at *
      obtain ⟨n, hn⟩ := Int.eq_ofNat_of_zero_le b1.1
      have hn' : x.l.toNat = n := by omega
      rw [hn] at c1
      have hz0 : (0 : Int) ≤ (n : Int) := Int.natCast_nonneg n
      have HX := Lib.hid (hx.alloc (.cells #[.int .i64 n, .int .i64 x.j, .int .i64 x.t, .int .i64 x.x, .int .i64 x.r, .int .i64 x.v] 27))
      by_cases hna : n < e.am.length
      · obtain ⟨ga, oa, rfl, hga, ca1⟩ := reads_int (hr.extB (Nat.le_refl _) hx) hna rfl
        have hga' : ga < wr.heap.size := Nat.lt_of_lt_of_le hga hx.size
        have hz1 : (n : Int) < (e.am.length : Int) := by omega
        have hge : decide ((e.am.length : Int) ≤ (n : Int)) = false := by simp; omega
        have hgeN : decide (e.am.length ≤ n) = false := by simp; omega
        have hget : e.am.getD n 0 = e.am[n] := by simp [List.getD, hna]
        have hfit : Tx.fits e.am x = decide (x.t + x.x = e.am[n]) := by unfold Tx.fits; rw [hn', hget]; simp [hna]
        have hs : RowKit.wrap64 (x.t + x.x) = x.t + x.x := by unfold RowKit.wrap64; omega
        rw [hfit] at HK HN
        generalize e.am[n] = y at *
        clear hr ht HB hok b1 b2 b5 b6 hn hn' hfit hget
        by_cases hy : x.t + x.x = y
        · have hq : (x.t + x.x != y) = false := by simp [hy]
          have HK2 := Lib.hid (fun W hW => HK.out W hW (by simpa using hy))
          clear HK HN hy
          go_wp2_with fail
          go_quiet (fail)
          go_wp2_with fail
          go_roundw
          case rel => exact HK2.out _ (HX.out.drewN _)
          case measure => simp [intOf]; omega
        · have hq : (x.t + x.x != y) = true := by simpa using hy
          have HN2 := Lib.hid (HN.out (by simpa using hy))
          clear HK HN hy
          go_wp2_with fail
          go_quiet (fail)
          go_wp2_with fail
          go_ret
          exact ⟨by rw [HR1.out, HN2.out]; rfl, X1.trans (HX.out.drewN _)⟩
      · have hge : decide ((e.am.length : Int) ≤ (n : Int)) = true := by simp; omega
        have hgeN : decide (e.am.length ≤ n) = true := by simp; omega
        have HN2 := Lib.hid (HN.out (by unfold Tx.fits; rw [hn']; simp [hna]))
        clear hr ht HB hok b1 b2 b5 b6 hn hn' HK HN
        go_wp2_with fail
        go_quiet (fail)
        go_wp2_with fail
        go_ret
        exact ⟨by rw [HR1.out, HN2.out]; rfl, X1.trans (HX.out.drewN _)⟩
    · have hd : decide ((k : Int) < (e.tax.length : Int)) = false := by simp; omega
      have HA := Lib.hid (show e.tax.all (Tx.fits e.am) = true by
        rw [List.all_eq_true]
        intro x hx
        obtain ⟨j, hj, rfl⟩ := List.mem_iff_getElem.1 hx
        exact HP.out j (by omega) hj)
      clear ht hr HB
      go_wp2_with fail
      go_ret
      exact ⟨by rw [HR1.out, HA.out]; rfl, X1.trans hx⟩
end Go.Proofs.YtokakpbpenndlaaDoor

set_option linter.unusedVariables false
namespace Go.Proofs.YtokakpbpenndlaaDoor
open Go.RowKit Go.Maps

/-- An entry by its kind. -/
def ofV (k : Int) (v : Value) : Value := if k = 1 then .iface 58 v else if k = 2 then .iface 59 v else if k = 3 then .iface 62 v else .nilIface
set_option maxRecDepth 100000 in
set_option maxHeartbeats 1000000 in
theorem of_any (e : Ent) (Aa At : Option Addr) (ca ct : Nat) (w : World) :
    Calls Tryd.prog 16 #[entV e Aa At ca ct] w fun r w' => r = .returned (ofV e.k (entV e Aa At ca ct)) ∧ Ext w w' := by
  unfold ofV
  obtain ⟨k, i, o, d, am, tx⟩ := e
  dsimp only
  by_cases h1 : k = 1
  · rw [if_pos h1]
    subst h1
    go_enter Tryd.func16, Tryd.ntmps16
    go_wp2
    go_ret
    exact ⟨rfl, (Ext.refl _).alloc _⟩
  rw [if_neg h1]
  by_cases h2 : k = 2
  · rw [if_pos h2]
    subst h2
    go_enter Tryd.func16, Tryd.ntmps16
    go_wp2
    go_ret
    exact ⟨rfl, (Ext.refl _).alloc _⟩
  rw [if_neg h2]
  by_cases h3 : k = 3
  · rw [if_pos h3]
    subst h3
    go_enter Tryd.func16, Tryd.ntmps16
    go_wp2
    go_ret
    exact ⟨rfl, (Ext.refl _).alloc _⟩
  rw [if_neg h3]
  have q1 : (k == 1) = false := by simpa using h1
  have q2 : (k == 2) = false := by simpa using h2
  have q3 : (k == 3) = false := by simpa using h3
  go_enter Tryd.func16, Tryd.ntmps16
  go_wp2
  go_ret
  exact ⟨rfl, (Ext.refl _).alloc _⟩
end Go.Proofs.YtokakpbpenndlaaDoor

set_option linter.unusedVariables false
namespace Go.Proofs.YtokakpbpenndlaaDoor
open Go.RowKit Go.Maps

set_option maxRecDepth 100000 in
set_option maxHeartbeats 2000000 in
theorem bcheck_any (e : Ent) (Aa At : Option Addr) (ca ct : Nat) (w : World) (h : EntR w e Aa At) :
    Calls Tryd.prog 33 #[entV e Aa At ca ct] w fun r w' => r = .returned (.int .i64 e.check) ∧ Ext w w' := by
  have la := h.la
  unfold maxLen at la
  have HR := Lib.hid (show e.check = if e.head = false ∨ e.ams = false then 5 else if e.fine = false then 2 else 0 by rfl)
  have HH := Lib.hid (show e.head = (win e.id 1 1099511627775 && win e.of_ 0 1099511627775 && win e.day 0 3652058) by rfl)
  have B := Blk.new w 30 #[.int .i64 e.k, .int .i64 e.id, .int .i64 e.of_, .int .i64 e.day, .slice Aa e.am.length ca, .slice At e.tax.length ct]
  have X0 := (Ext.refl w).alloc (.cells #[.int .i64 e.k, .int .i64 e.id, .int .i64 e.of_, .int .i64 e.day, .slice Aa e.am.length ca, .slice At e.tax.length ct] 30)
  replace h := h.ext X0
  have hr := h.ra
  replace h := Lib.hid h
  by_cases hh : e.head = false
  · have HE := Lib.hid (HR.out.trans (if_pos (.inl hh)))
    clear HR hr h
    have HH1 := HH.out
    rw [hh] at HH1
    clear HH hh
    cases w1 : win e.id 1 1099511627775
    case' true =>
      cases w2 : win e.of_ 0 1099511627775
      case' true =>
        cases w3 : win e.day 0 3652058
        case' true => rw [w1, w2, w3] at HH1; cases HH1
    all_goals
      clear HH1
      go_enter Tryd.func33, Tryd.ntmps33
      go_wp2_with (go_at_call 51; refine (bwithin_any _ _ _ _).mono ?_; rintro e w' ⟨rfl, rfl⟩)
      go_ret
      exact ⟨by rw [HE.out]; rfl, X0⟩
  have hh' : e.head = true := by simpa using hh
  have HH1 := HH.out
  rw [hh'] at HH1
  replace HH1 := HH1.symm
  rw [Bool.and_eq_true, Bool.and_eq_true] at HH1
  obtain ⟨⟨w1, w2⟩, w3⟩ := HH1
  replace hh := Lib.hid hh
  clear HH hh'
  go_enter Tryd.func33, Tryd.ntmps33
  go_wp2_with (go_at_call 51; refine (bwithin_any _ _ _ _).mono ?_; rintro e w' ⟨rfl, rfl⟩)
  clear w1 w2 w3
  generalize w.alloc (.cells #[.int .i64 e.k, .int .i64 e.id, .int .i64 e.of_, .int .i64 e.day, .slice Aa e.am.length ca, .slice At e.tax.length ct] 30) = W0 at B X0 hr h ⊢
  generalize w.heap.size = g0 at B ⊢
  have HB := Lib.hid (fun W (h : Ext W0 W) => B.ext h)
  clear B
  go_loopw [25] (fun i wr => SameRel W0 e.am.length (fun j => ∀ h : j < e.am.length, win e.am[j] 0 4611686018427387904 = true) i wr) (fun i _ => e.am.length - (intOf i).toNat)
  case atStart => exact ⟨0, by omega, rfl, Ext.refl _, fun j hj => by omega⟩
  case round =>
    obtain ⟨k, hk, rfl, hx, hP⟩ := hrel
    have HP := Lib.hid hP
    clear hP
    by_cases hlt : k < e.am.length
    · have hd : decide ((k : Int) < (e.am.length : Int)) = true := by simp; omega
      obtain ⟨g, off, rfl, hg, c1⟩ := reads_int (hr.extB (Nat.le_refl _) hx) hlt rfl
      have HK := Lib.hid (fun (W : World) (hW : Ext W0 W) (hf : win e.am[k] 0 4611686018427387904 = true) => SameRel.next (P := fun j => ∀ h : j < e.am.length, win e.am[j] 0 4611686018427387904 = true) (m := k + 1) hlt hW HP.out (fun _ => hf) rfl)
      have HN := Lib.hid (fun (hf : win e.am[k] 0 4611686018427387904 = false) => (show e.ams = false from by unfold Ent.ams; rw [List.all_eq_false]; exact ⟨_, List.getElem_mem hlt, by simp [hf]⟩))
      clear hr HB HP
      generalize e.am[k] = x at *
      cases wx : win x 0 4611686018427387904
      · have HE := Lib.hid (HR.out.trans (if_pos (.inr (HN.out wx))))
        clear HK HN HR
        go_wp2_with (go_at_call 51; refine (bwithin_any _ _ _ _).mono ?_; rintro e w' ⟨rfl, rfl⟩)
        go_ret
        exact ⟨by rw [HE.out]; rfl, X0.trans hx⟩
      · have HK2 := Lib.hid (fun W hW => HK.out W hW wx)
        clear HK HN HR
        go_wp2_with (go_at_call 51; refine (bwithin_any _ _ _ _).mono ?_; rintro e w' ⟨rfl, rfl⟩)
        go_roundw
        case rel => exact HK2.out _ hx
        case measure => simp [intOf]; omega
    · have hd : decide ((k : Int) < (e.am.length : Int)) = false := by simp; omega
      have ham : e.ams = true := by
        unfold Ent.ams
        rw [List.all_eq_true]
        intro x hx
        obtain ⟨j, hj, rfl⟩ := List.mem_iff_getElem.1 hx
        exact HP.out j (by omega) hj
      have HR2 := Lib.hid (HR.out.trans (if_neg (by rw [ham]; simpa using hh.out)))
      replace ham := Lib.hid ham
      obtain ⟨q, q'⟩ := (HB.out _ hx).cells
      have H1 := h.out.ext hx
      replace H1 := Lib.hid H1
      have X1 := X0.trans hx
      clear hr HB HP HR h hx X0
      go_wp2_with fail
      refine (of_any e Aa At ca ct _).mono ?_
      rintro r v1 ⟨rfl, hx1⟩
      have HV := Lib.hid hx1
      have HF := Lib.hid (show e.fine = if e.k = 1 then e.saleFine else if e.k = 2 then e.refundFine else if e.k = 3 then e.voidFine else false by rfl)
      have X2 := X1.trans hx1
      replace H1 := Lib.hid (H1.out.ext hx1)
      clear hx1 HV q q'
      have HR3 := HR2.out
      clear HR2
      by_cases h1 : e.k = 1
      · have hv : ofV e.k (entV e Aa At ca ct) = .iface 58 (entV e Aa At ca ct) := by unfold ofV; rw [if_pos h1]
        rw [hv]
        rw [HF.out, if_pos h1] at HR3
        replace HR3 := Lib.hid HR3
        have hm := fun W : World => (show (method 315 58 (entV e Aa At ca ct) "apportion/book.fine").run Tryd.prog W = .ok (108, entV e Aa At ca ct) W by kernel_rfl)
        clear hv HF h1
        go_wp2_with fail
        refine (saleFine_any e Aa At ca ct _ H1.out).mono ?_
        rintro r v2 ⟨rfl, hx2⟩
        have X3 := X2.trans hx2
        cases hb : e.saleFine
        · rw [hb] at HR3
          go_wp2_with fail
          go_ret
          exact ⟨by rw [HR3.out]; rfl, X3⟩
        · rw [hb] at HR3
          go_wp2_with fail
          go_ret
          exact ⟨by rw [HR3.out]; rfl, X3⟩
      by_cases h2 : e.k = 2
      · have hv : ofV e.k (entV e Aa At ca ct) = .iface 59 (entV e Aa At ca ct) := by unfold ofV; rw [if_neg h1, if_pos h2]
        rw [hv]
        rw [HF.out, if_neg h1, if_pos h2] at HR3
        replace HR3 := Lib.hid HR3
        have hm := fun W : World => (show (method 315 59 (entV e Aa At ca ct) "apportion/book.fine").run Tryd.prog W = .ok (112, entV e Aa At ca ct) W by kernel_rfl)
        clear hv HF h1 h2
        go_wp2_with fail
        refine (refundFine_any e Aa At ca ct _ H1.out).mono ?_
        rintro r v2 ⟨rfl, hx2⟩
        have X3 := X2.trans hx2
        cases hb : e.refundFine
        · rw [hb] at HR3
          go_wp2_with fail
          go_ret
          exact ⟨by rw [HR3.out]; rfl, X3⟩
        · rw [hb] at HR3
          go_wp2_with fail
          go_ret
          exact ⟨by rw [HR3.out]; rfl, X3⟩
      by_cases h3 : e.k = 3
      · have hv : ofV e.k (entV e Aa At ca ct) = .iface 62 (entV e Aa At ca ct) := by unfold ofV; rw [if_neg h1, if_neg h2, if_pos h3]
        rw [hv]
        rw [HF.out, if_neg h1, if_neg h2, if_pos h3] at HR3
        replace HR3 := Lib.hid HR3
        have hm := fun W : World => (show (method 315 62 (entV e Aa At ca ct) "apportion/book.fine").run Tryd.prog W = .ok (113, entV e Aa At ca ct) W by kernel_rfl)
        clear hv HF h1 h2 h3
        go_wp2_with fail
        refine (voidFine_any e Aa At ca ct _ H1.out).mono ?_
        rintro r v2 ⟨rfl, hx2⟩
        have X3 := X2.trans hx2
        cases hb : e.voidFine
        · rw [hb] at HR3
          go_wp2_with fail
          go_ret
          exact ⟨by rw [HR3.out]; rfl, X3⟩
        · rw [hb] at HR3
          go_wp2_with fail
          go_ret
          exact ⟨by rw [HR3.out]; rfl, X3⟩
      have hv : ofV e.k (entV e Aa At ca ct) = .nilIface := by unfold ofV; rw [if_neg h1, if_neg h2, if_neg h3]
      rw [hv]
      rw [HF.out, if_neg h1, if_neg h2, if_neg h3] at HR3
      replace HR3 := Lib.hid HR3
      clear hv HF h1 h2 h3
      go_wp2_with fail
      go_ret
      exact ⟨by rw [HR3.out]; rfl, X2⟩
end Go.Proofs.YtokakpbpenndlaaDoor
