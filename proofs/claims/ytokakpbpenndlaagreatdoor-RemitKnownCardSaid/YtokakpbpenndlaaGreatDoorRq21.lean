/-
  book.Check.
-/
import Derived.Test.YtokakpbpenndlaaGreatDoorRq20
set_option linter.unusedVariables false
namespace Go.Proofs.YtokakpbpenndlaaGreatDoor
open Go.RowKit Go.Maps

set_option maxRecDepth 100000 in
set_option maxHeartbeats 2000000 in
theorem bcheck_any (e : Ent) (Aa At : Option Addr) (ca ct : Nat) (w : World) (h : EntR w e Aa At) :
    Calls Tryz.prog 102 #[entV e Aa At ca ct] w fun r w' => r = .returned (.int .i64 e.check) ∧ Ext w w' := by
  have la := h.la
  unfold maxLen at la
  have HR := Lib.hid (show e.check = if e.head = false ∨ e.ams = false then 5 else if e.fine = false then 2 else 0 by rfl)
  have HH := Lib.hid (show e.head = (win e.id 1 1099511627775 && win e.of_ 0 1099511627775 && win e.day 0 3652058) by rfl)
  have B := Blk.new w 52 #[.int .i64 e.k, .int .i64 e.id, .int .i64 e.of_, .int .i64 e.day, .slice Aa e.am.length ca, .slice At e.tax.length ct]
  have X0 := (Ext.refl w).alloc (.cells #[.int .i64 e.k, .int .i64 e.id, .int .i64 e.of_, .int .i64 e.day, .slice Aa e.am.length ca, .slice At e.tax.length ct] 52)
  replace h := h.ext X0
  have hr := h.ra
  replace h := Lib.hid h
  by_cases hh : e.head = false
  · have HE := Lib.hid (HR.out.trans (if_pos (.inl hh)))
    clear HR hr h
    have HH1 := HH.out
    rw [hh] at HH1
    clear HH hh
    cases w1 : win e.id 1 1099511627775
    case' true =>
      cases w2 : win e.of_ 0 1099511627775
      case' true =>
        cases w3 : win e.day 0 3652058
        case' true => rw [w1, w2, w3] at HH1; cases HH1
    all_goals
      clear HH1
      go_enter Tryz.func102, Tryz.ntmps102
      go_wp2_with (go_at_call 140; refine (bwithin_any _ _ _ _).mono ?_; rintro e w' ⟨rfl, rfl⟩)
      go_ret
      exact ⟨by rw [HE.out]; rfl, X0⟩
  have hh' : e.head = true := by simpa using hh
  have HH1 := HH.out
  rw [hh'] at HH1
  replace HH1 := HH1.symm
  rw [Bool.and_eq_true, Bool.and_eq_true] at HH1
  obtain ⟨⟨w1, w2⟩, w3⟩ := HH1
  replace hh := Lib.hid hh
  clear HH hh'
  go_enter Tryz.func102, Tryz.ntmps102
  go_wp2_with (go_at_call 140; refine (bwithin_any _ _ _ _).mono ?_; rintro e w' ⟨rfl, rfl⟩)
  clear w1 w2 w3
  generalize w.alloc (.cells #[.int .i64 e.k, .int .i64 e.id, .int .i64 e.of_, .int .i64 e.day, .slice Aa e.am.length ca, .slice At e.tax.length ct] 52) = W0 at B X0 hr h ⊢
  generalize w.heap.size = g0 at B ⊢
  have HB := Lib.hid (fun W (h : Ext W0 W) => B.ext h)
  clear B
  go_loopw [25] (fun i wr => SameRel W0 e.am.length (fun j => ∀ h : j < e.am.length, win e.am[j] 0 4611686018427387904 = true) i wr) (fun i _ => e.am.length - (intOf i).toNat)
  case atStart => exact ⟨0, by omega, rfl, Ext.refl _, fun j hj => by omega⟩
  case round =>
    obtain ⟨k, hk, rfl, hx, hP⟩ := hrel
    have HP := Lib.hid hP
    clear hP
    by_cases hlt : k < e.am.length
    · have hd : decide ((k : Int) < (e.am.length : Int)) = true := by simp; omega
      obtain ⟨g, off, rfl, hg, c1⟩ := reads_int (hr.extB (Nat.le_refl _) hx) hlt rfl
      have HK := Lib.hid (fun (W : World) (hW : Ext W0 W) (hf : win e.am[k] 0 4611686018427387904 = true) => SameRel.next (P := fun j => ∀ h : j < e.am.length, win e.am[j] 0 4611686018427387904 = true) (m := k + 1) hlt hW HP.out (fun _ => hf) rfl)
      have HN := Lib.hid (fun (hf : win e.am[k] 0 4611686018427387904 = false) => (show e.ams = false from by unfold Ent.ams; rw [List.all_eq_false]; exact ⟨_, List.getElem_mem hlt, by simp [hf]⟩))
      clear hr HB HP
      generalize e.am[k] = x at *
      cases wx : win x 0 4611686018427387904
      · have HE := Lib.hid (HR.out.trans (if_pos (.inr (HN.out wx))))
        clear HK HN HR
        go_wp2_with (go_at_call 140; refine (bwithin_any _ _ _ _).mono ?_; rintro e w' ⟨rfl, rfl⟩)
        go_ret
        exact ⟨by rw [HE.out]; rfl, X0.trans hx⟩
      · have HK2 := Lib.hid (fun W hW => HK.out W hW wx)
        clear HK HN HR
        go_wp2_with (go_at_call 140; refine (bwithin_any _ _ _ _).mono ?_; rintro e w' ⟨rfl, rfl⟩)
        go_roundw
        case rel => exact HK2.out _ hx
        case measure => simp [intOf]; omega
    · have hd : decide ((k : Int) < (e.am.length : Int)) = false := by simp; omega
      have ham : e.ams = true := by
        unfold Ent.ams
        rw [List.all_eq_true]
        intro x hx
        obtain ⟨j, hj, rfl⟩ := List.mem_iff_getElem.1 hx
        exact HP.out j (by omega) hj
      have HR2 := Lib.hid (HR.out.trans (if_neg (by rw [ham]; simpa using hh.out)))
      replace ham := Lib.hid ham
      obtain ⟨q, q'⟩ := (HB.out _ hx).cells
      have H1 := h.out.ext hx
      replace H1 := Lib.hid H1
      have X1 := X0.trans hx
      clear hr HB HP HR h hx X0
      go_wp2_with fail
      refine (of_any e Aa At ca ct _).mono ?_
      rintro r v1 ⟨rfl, hx1⟩
      have HV := Lib.hid hx1
      have HF := Lib.hid (show e.fine = if e.k = 1 then e.saleFine else if e.k = 2 then e.refundFine else if e.k = 3 then e.voidFine else false by rfl)
      have X2 := X1.trans hx1
      replace H1 := Lib.hid (H1.out.ext hx1)
      clear hx1 HV q q'
      have HR3 := HR2.out
      clear HR2
      by_cases h1 : e.k = 1
      · have hv : ofV e.k (entV e Aa At ca ct) = .iface 122 (entV e Aa At ca ct) := by unfold ofV; rw [if_pos h1]
        rw [hv]
        rw [HF.out, if_pos h1] at HR3
        replace HR3 := Lib.hid HR3
        have hm := fun W : World => (show (method 315 122 (entV e Aa At ca ct) "apportion/book.fine").run Tryz.prog W = .ok (230, entV e Aa At ca ct) W by kernel_rfl)
        clear hv HF h1
        go_wp2_with fail
        refine (saleFine_any e Aa At ca ct _ H1.out).mono ?_
        rintro r v2 ⟨rfl, hx2⟩
        have X3 := X2.trans hx2
        cases hb : e.saleFine
        · rw [hb] at HR3
          go_wp2_with fail
          go_ret
          exact ⟨by rw [HR3.out]; rfl, X3⟩
        · rw [hb] at HR3
          go_wp2_with fail
          go_ret
          exact ⟨by rw [HR3.out]; rfl, X3⟩
      by_cases h2 : e.k = 2
      · have hv : ofV e.k (entV e Aa At ca ct) = .iface 123 (entV e Aa At ca ct) := by unfold ofV; rw [if_neg h1, if_pos h2]
        rw [hv]
        rw [HF.out, if_neg h1, if_pos h2] at HR3
        replace HR3 := Lib.hid HR3
        have hm := fun W : World => (show (method 315 123 (entV e Aa At ca ct) "apportion/book.fine").run Tryz.prog W = .ok (234, entV e Aa At ca ct) W by kernel_rfl)
        clear hv HF h1 h2
        go_wp2_with fail
        refine (refundFine_any e Aa At ca ct _ H1.out).mono ?_
        rintro r v2 ⟨rfl, hx2⟩
        have X3 := X2.trans hx2
        cases hb : e.refundFine
        · rw [hb] at HR3
          go_wp2_with fail
          go_ret
          exact ⟨by rw [HR3.out]; rfl, X3⟩
        · rw [hb] at HR3
          go_wp2_with fail
          go_ret
          exact ⟨by rw [HR3.out]; rfl, X3⟩
      by_cases h3 : e.k = 3
      · have hv : ofV e.k (entV e Aa At ca ct) = .iface 126 (entV e Aa At ca ct) := by unfold ofV; rw [if_neg h1, if_neg h2, if_pos h3]
        rw [hv]
        rw [HF.out, if_neg h1, if_neg h2, if_pos h3] at HR3
        replace HR3 := Lib.hid HR3
        have hm := fun W : World => (show (method 315 126 (entV e Aa At ca ct) "apportion/book.fine").run Tryz.prog W = .ok (235, entV e Aa At ca ct) W by kernel_rfl)
        clear hv HF h1 h2 h3
        go_wp2_with fail
        refine (voidFine_any e Aa At ca ct _ H1.out).mono ?_
        rintro r v2 ⟨rfl, hx2⟩
        have X3 := X2.trans hx2
        cases hb : e.voidFine
        · rw [hb] at HR3
          go_wp2_with fail
          go_ret
          exact ⟨by rw [HR3.out]; rfl, X3⟩
        · rw [hb] at HR3
          go_wp2_with fail
          go_ret
          exact ⟨by rw [HR3.out]; rfl, X3⟩
      have hv : ofV e.k (entV e Aa At ca ct) = .nilIface := by unfold ofV; rw [if_neg h1, if_neg h2, if_neg h3]
      rw [hv]
      rw [HF.out, if_neg h1, if_neg h2, if_neg h3] at HR3
      replace HR3 := Lib.hid HR3
      clear hv HF h1 h2 h3
      go_wp2_with fail
      go_ret
      exact ⟨by rw [HR3.out]; rfl, X2⟩
end Go.Proofs.YtokakpbpenndlaaGreatDoor
