/-
  apportionlaw30.filled: a book with entries of small amounts.
-/
import Derived.Test.YtokakpbpenndlaaGreatDoorRs28
import Derived.Test.YtokakpbpenndlaaGreatDoorRs41
import Derived.Test.YtokakpbpenndlaaGreatDoorRs20
import Derived.Test.YtokakpbpenndlaaGreatDoorRs36
import Derived.Test.YtokakpbpenndlaaGreatDoorRs05
import Derived.StillTailTactics
set_option linter.unusedVariables false
namespace Go.Proofs.YtokakpbpenndlaaGreatDoor
open Go.RowKit Go.Maps

theorem b40_b3 {B : Bk} (h : B.b40) : B.b3 := fun x hx l hl => by
  have := (h x hx).2 l hl
  unfold bd40 at this
  unfold b3T i64
  omega
/-- Where the filling stands. -/
def Fl3Rel (w : World) (bb mb : Nat) (l : List EV) (i : Value) (wr : World) : Prop :=
  ∃ (k : Nat) (v : Value) (M : BkM), k ≤ l.length ∧ i = .int .i64 (k : Int) ∧ BookAt w wr bb mb v M ∧ Ext w wr ∧ M.b.b40 ∧ M.b.small ∧ M.length ≤ k
def Fl3Tx (W : World) (tax : List Tx) (i : Value) (wr : World) : Prop :=
  ∃ k : Nat, k ≤ tax.length ∧ i = .int .i64 (k : Int) ∧ (∀ y ∈ tax.take k, y.v ≤ 1099511627776) ∧ W = wr
def Fl3Book (w w' : World) (pv : Value) : Prop := ∃ bb mb K, pv = .pointer (some ⟨bb, 0, none⟩) ∧ One w w' bb mb K ∧ K.b40 ∧ K.small ∧ K.length ≤ 25 ∧ ∀ x ∈ K, x.ok
def Fl3Out (w : World) (r : Ending) (w' : World) : Prop := ∃ pv b, r = .returned (.tuple #[pv, .bool b]) ∧ Ext w w' ∧ (b = true → Fl3Book w w' pv)
theorem Fl3Out.no {w w' : World} (h : Ext w w') : Fl3Out w (.returned (.tuple #[.pointer none, .bool false])) w' := ⟨_, false, rfl, h, fun e => by cases e⟩
set_option maxRecDepth 100000 in
set_option maxHeartbeats 4000000 in
theorem filled30_any (l : List EV) (A : Option Addr) (cap : Nat) (w : World) (hr : Reads w w.heap.size 6 A l.length (evCells l)) (hm : l.length ≤ maxLen) (hok : ∀ x ∈ l, x.ok w) :
    Calls Tryz.prog 40 #[.slice A l.length cap] w (Fl3Out w) := by
  have HOK := Lib.hid hok
  have HR := Lib.hid (fun W (hx : Ext w W) => hr.ext hx)
  have HC := Lib.hid (fun k hk => evCells_six' (W := w) (k := k) hr hk)
  clear hok hr
  go_enter Tryz.func40, Tryz.ntmps40
  go_wp2_with fail
  refine (newBook_any _).mono ?_
  rintro r w1 ⟨rfl, hB1, X1⟩
  generalize w.heap.size + 1 = bb at *
  obtain ⟨mb, hmb⟩ : ∃ mb, w.heap.size = mb := ⟨_, rfl⟩
  have HR0 := Lib.hid (show Fl3Rel w bb mb l (.int .i64 ((0 : Nat) : Int)) w1 from ⟨0, _, [], by omega, rfl, by rw [← hmb]; exact hB1, X1, Bk.b40_nil, fun p hp => absurd hp (by simp [BkM.b]), by simp⟩)
  clear hB1 hmb
  go_wp2_with fail
  refine (big_any l A cap 25 _ (HR.out _ X1) hm (by omega)).mono ?_
  rintro r w2 ⟨bg, rfl, hfit, rfl⟩
  cases bg
  case true =>
    go_wp2_with fail
    go_ret2
    exact Fl3Out.no X1
  have HFit := Lib.hid (hfit rfl)
  have hl25 := (hfit rfl).1
  clear hfit hm HR X1
  go_wp2_with fail
  go_loopw [5] (fun i wr => Fl3Rel w bb mb l i wr) (fun i _ => l.length - (intOf i).toNat)
  case atStart => exact HR0.out
  case round =>
    clear HR0
    obtain ⟨k, v, M, hk, rfl, hB, hX, h40, hS, hL⟩ := hrel
    by_cases hlt : k < l.length
    · have hd : decide ((k : Int) < (l.length : Int)) = true := by simp; omega
      have kl : (k : Int) < (l.length : Int) := by omega
      have kz : (0 : Int) ≤ (k : Int) := by omega
      obtain ⟨g, off, rfl, hg, hc⟩ := HC.out k hlt
      obtain ⟨c1, c2, c3, c4, c5, c6⟩ := hc wr hX
      have hx := (HOK.out l[k] (List.getElem_mem hlt)).ext hX
      have hml : M.length ≤ 100000 := by omega
      have hfx := HFit.out.2 l[k] (List.getElem_mem hlt)
      have HE := Lib.hid hx.r
      have hra := hx.r.ra
      have hrt := hx.r.rt
      have HN := Lib.hid (fun (W : World) (v' : Value) (M' : BkM) (hM : M'.b = (M.b.add l[k].e).1) (h1 : BookAt w W bb mb v' M') (h2 : Ext w W) (hb : l[k].e.b40) => (show Fl3Rel w bb mb l (.int .i64 ((k + 1 : Nat) : Int)) W from by
        have hL2 := add_len_le M.b l[k].e
        rw [BkM.len_b] at hL2
        exact ⟨k + 1, v', M', by omega, rfl, h1, h2, by rw [hM]; exact add_b40 h40 hb, by rw [hM]; exact add_small hS _, by rw [← BkM.len_b, hM]; omega⟩))
      have HB := Lib.hid hB
      have HS := Lib.hid hS
      have HX := Lib.hid hX
      clear hc hx hB hS hX h40
      generalize l[k] = x at *
      obtain ⟨⟨xk, xi, xo, xd, am, tx⟩, B, B', cb, cb'⟩ := x
      simp only at c1 c2 c3 c4 c5 c6 hra hrt HN HE hfx
      obtain ⟨f1, f2⟩ := hfx
      go_wp2_with fail
      go_loopw [6] (fun i wx => GdAm wr am i wx) (fun i _ => am.length - (intOf i).toNat)
      case atStart => exact ⟨0, by omega, rfl, by simp, rfl⟩
      case round =>
        obtain ⟨m, hm, rfl, hQ, rfl⟩ := hrel
        by_cases hlm : m < am.length
        · have hdm : decide ((m : Int) < (am.length : Int)) = true := by simp; omega
          have ml : (m : Int) < (am.length : Int) := by omega
          have mz : (0 : Int) ≤ (m : Int) := by omega
          obtain ⟨ga, oa, rfl, hga, ca⟩ := reads_int hra hlm rfl
          have HM := Lib.hid (fun (h : am[m] ≤ 1099511627776) => (show GdAm wr am (.int .i64 ((m + 1 : Nat) : Int)) wr from ⟨m + 1, by omega, rfl, fun n hn => by
            rw [List.take_succ_eq_append_getElem hlm] at hn
            rcases List.mem_append.1 hn with hn | hn
            · exact hQ n hn
            · rw [List.mem_singleton.1 hn]; exact h, rfl⟩))
          clear hQ
          generalize am[m] = n at *
          by_cases hbig : 1099511627776 < n
          · have hb : decide (1099511627776 < n) = true := by simpa using hbig
            clear HM
            go_wp2_with fail
            go_ret2
            exact Fl3Out.no HX.out
          · have hb : decide (1099511627776 < n) = false := by simpa using hbig
            have HM2 := Lib.hid (HM.out (by omega))
            clear HM
            go_wp2_with fail
            go_roundw
            case rel => exact HM2.out
            case measure => simp [intOf]; omega
        · have hdm : decide ((m : Int) < (am.length : Int)) = false := by simp; omega
          have HQ := Lib.hid (show ∀ n ∈ am, n ≤ 1099511627776 from fun n hn => hQ n (by rw [List.take_of_length_le (by omega)]; exact hn))
          clear hQ
          go_wp2_with fail
          go_loopw [7] (fun i wx => Fl3Tx wr tx i wx) (fun i _ => tx.length - (intOf i).toNat)
          case atStart => exact ⟨0, by omega, rfl, by simp, rfl⟩
          case round =>
            obtain ⟨q, hq, rfl, hV, rfl⟩ := hrel
            by_cases hlq : q < tx.length
            · have hdq : decide ((q : Int) < (tx.length : Int)) = true := by simp; omega
              have ql : (q : Int) < (tx.length : Int) := by omega
              have qz : (0 : Int) ≤ (q : Int) := by omega
              obtain ⟨gt, ot, rfl, hgt, hct⟩ := hrt.cellAt hlq
              have ct : wr.cell? ⟨gt, ot + q * 6 + 5, none⟩ = _ := hct _ _ (txCells_at tx q hlq).2.2.2.2.2
              have HT := Lib.hid (fun (h : tx[q].v ≤ 1099511627776) => (show Fl3Tx wr tx (.int .i64 ((q + 1 : Nat) : Int)) wr from ⟨q + 1, by omega, rfl, fun n hn => by
                rw [List.take_succ_eq_append_getElem hlq] at hn
                rcases List.mem_append.1 hn with hn | hn
                · exact hV n hn
                · rw [List.mem_singleton.1 hn]; exact h, rfl⟩))
              clear hct hV
              generalize tx[q].v = n at *
              by_cases hbig : 1099511627776 < n
              · have hb : decide (1099511627776 < n) = true := by simpa using hbig
                clear HT
                go_wp2_with fail
                go_ret2
                exact Fl3Out.no HX.out
              · have hb : decide (1099511627776 < n) = false := by simpa using hbig
                have HT2 := Lib.hid (HT.out (by omega))
                clear HT
                go_wp2_with fail
                go_roundw
                case rel => exact HT2.out
                case measure => simp [intOf]; omega
            · have hdq : decide ((q : Int) < (tx.length : Int)) = false := by simp; omega
              have HQ2 := Lib.hid (show Ent.b40 ⟨xk, xi, xo, xd, am, tx⟩ from ⟨HQ.out, fun y hy => hV y (by rw [List.take_of_length_le (by omega)]; exact hy)⟩)
              clear hV HQ hra hrt
              go_wp2_with fail
              refine (add_step HB.out HX.out ⟨xk, xi, xo, xd, am, tx⟩ B B' cb cb' HE.out hml HS.out).mono ?_
              rintro r w6 ⟨A6, c60, v6, M6, rfl, hB6, hM6, X6, _, _⟩
              have HN1 := Lib.hid (HN.out w6 v6 M6 hM6 hB6 X6 HQ2.out)
              clear HN hB6 hM6 X6 c1 c2 c3 c4 c5 c6
              go_wp2_with fail
              go_roundw
              case rel => exact HN1.out
              case measure => simp [intOf]; omega
    · have hd : decide ((k : Int) < (l.length : Int)) = false := by simp; omega
      have HF := Lib.hid (show Fl3Out w (.returned (.tuple #[.pointer (some ⟨bb, 0, none⟩), .bool true])) wr from ⟨_, true, rfl, hX, fun _ => ⟨bb, mb, M.b, rfl, ⟨v, M, hB, rfl, hX⟩, h40, hS, by rw [BkM.len_b]; omega, fun p hp => by
        obtain ⟨q, hq, rfl⟩ := List.mem_map.1 hp
        exact hB.ok q hq⟩⟩)
      clear hB hX h40 hS
      go_wp2_with fail
      go_ret2
      exact HF.out
end Go.Proofs.YtokakpbpenndlaaGreatDoor

set_option linter.unusedVariables false
namespace Go.Proofs.YtokakpbpenndlaaGreatDoor
open Go.RowKit

set_option maxRecDepth 100000 in
set_option maxHeartbeats 2000000 in
theorem rrcheck_any (r : Rep) (hk : i64 r.k) (w : World) : Calls Tryz.prog 18 #[r.V] w fun e w' => e = .returned (.int .i64 r.check) ∧ Ext w w' := by
  obtain ⟨j, k, p, t, x, v, s, b⟩ := r
  simp only at hk
  have X0 := (Ext.refl w).alloc (.cells #[.int .i64 j, .int .i64 k, .int .i64 p, .int .i64 t, .int .i64 x, .int .i64 v, .int .i64 s, .int .i64 b] 23)
  have B0 := Blk.new w 23 #[.int .i64 j, .int .i64 k, .int .i64 p, .int .i64 t, .int .i64 x, .int .i64 v, .int .i64 s, .int .i64 b]
  have HP := Lib.hid (pfirst_any k p hk)
  obtain ⟨C, hC⟩ : ∃ C, (⟨j, k, p, t, x, v, s, b⟩ : Rep).check = C := ⟨_, rfl⟩
  rw [hC]
  unfold Rep.check at hC
  simp only at hC
  obtain ⟨E, hE⟩ : ∃ E, perE k p = E := ⟨_, rfl⟩
  rw [hE] at hC HP
  replace hE := Lib.hid hE
  by_cases h0 : E = 0
  case neg =>
    rw [if_pos (.inl h0)] at hC
    have hb : (E != 0) = true := by simpa using h0
    subst hC
    clear h0
    go_enter Tryz.func18, Tryz.ntmps18
    go_wp2_with fail
    refine (HP.out _).mono ?_
    rintro e w1 ⟨n, rfl, hx⟩
    go_wp2_with fail
    go_ret
    exact ⟨rfl, X0.trans hx⟩
  have hb : (E != 0) = false := by simp [h0]
  by_cases hbad : j < 1 ∨ 1099511627775 < j ∨ s < 0 ∨ 2147483647 < s ∨ b < 0 ∨ 2147483647 < b
  · rw [if_pos (.inr hbad)] at hC
    subst hC
    replace h0 := Lib.hid h0
    rcases (show decide (j < 1) = true ∨ (decide (j < 1) = false ∧ decide (1099511627775 < j) = true) ∨ (decide (j < 1) = false ∧ decide (1099511627775 < j) = false ∧ decide (s < 0) = true) ∨ (decide (j < 1) = false ∧ decide (1099511627775 < j) = false ∧ decide (s < 0) = false ∧ decide (2147483647 < s) = true) ∨
      (decide (j < 1) = false ∧ decide (1099511627775 < j) = false ∧ decide (s < 0) = false ∧ decide (2147483647 < s) = false ∧ decide (b < 0) = true) ∨ (decide (j < 1) = false ∧ decide (1099511627775 < j) = false ∧ decide (s < 0) = false ∧ decide (2147483647 < s) = false ∧ decide (b < 0) = false ∧ decide (2147483647 < b) = true) by
      simp only [decide_eq_true_eq, decide_eq_false_iff_not]; omega) with h1 | ⟨h1, h2⟩ | ⟨h1, h2, h3⟩ | ⟨h1, h2, h3, h4⟩ | ⟨h1, h2, h3, h4, h5⟩ | ⟨h1, h2, h3, h4, h5, h6⟩
    all_goals
      clear hbad
      go_enter Tryz.func18, Tryz.ntmps18
      go_wp2_with fail
      refine (HP.out _).mono ?_
      rintro e w1 ⟨n, rfl, hx⟩
      have B1 := B0.ext hx
      obtain ⟨q, q'⟩ := B1.cells
      go_wp2_with fail
      go_ret
      exact ⟨rfl, X0.trans hx⟩
  · rw [if_neg (by omega)] at hC
    subst hC
    have h1 : decide (j < 1) = false := by simp; omega
    have h2 : decide (1099511627775 < j) = false := by simp; omega
    have h3 : decide (s < 0) = false := by simp; omega
    have h4 : decide (2147483647 < s) = false := by simp; omega
    have h5 : decide (b < 0) = false := by simp; omega
    have h6 : decide (2147483647 < b) = false := by simp; omega
    replace h0 := Lib.hid h0
    clear hbad
    go_enter Tryz.func18, Tryz.ntmps18
    go_wp2_with fail
    refine (HP.out _).mono ?_
    rintro e w1 ⟨n, rfl, hx⟩
    have B1 := B0.ext hx
    obtain ⟨q, q'⟩ := B1.cells
    go_wp2_with fail
    go_ret
    exact ⟨rfl, X0.trans hx⟩
abbrev fldsV (g : Nat) : Value := .agg #[.pointer (some ⟨g, 0, none⟩), .pointer (some ⟨g, 1, none⟩), .pointer (some ⟨g, 2, none⟩), .pointer (some ⟨g, 3, none⟩), .pointer (some ⟨g, 4, none⟩), .pointer (some ⟨g, 5, none⟩), .pointer (some ⟨g, 6, none⟩), .pointer (some ⟨g, 7, none⟩)]
theorem flds_at (g : Nat) : ∀ k : Nat, k < 8 → ∀ W, (Instr.index 88 (fldsV g) (.int .i64 (k : Int))).run Tryz.prog W = .ok (.pointer (some ⟨g, k, none⟩)) W
  | 0, _, _ => by kernel_rfl
  | 1, _, _ => by kernel_rfl
  | 2, _, _ => by kernel_rfl
  | 3, _, _ => by kernel_rfl
  | 4, _, _ => by kernel_rfl
  | 5, _, _ => by kernel_rfl
  | 6, _, _ => by kernel_rfl
  | 7, _, _ => by kernel_rfl
  | k + 8, h, _ => absurd h (by omega)
theorem ld_flds {w : World} {g : Nat} {a b c d e f i j : Value} (h : Blk w g 88 #[a, b, c, d, e, f, i, j]) : (loadVar 88 ⟨g, 0, none⟩).run Tryz.prog w = .ok (.agg #[a, b, c, d, e, f, i, j]) w := by
  have q := h.cell
  simp [go_sem, q]
set_option maxRecDepth 100000 in
set_option maxHeartbeats 400000 in
theorem rfields_any (g : Nat) (w : World) : Calls Tryz.prog 42 #[.pointer (some ⟨g, 0, none⟩)] w fun e w' => e = .returned (fldsV g) ∧ Ext w w' := by
  have X0 := (Ext.refl w).alloc (.cells #[.pointer none, .pointer none, .pointer none, .pointer none, .pointer none, .pointer none, .pointer none, .pointer none] 88)
  have B0 := Blk.new w 88 #[.pointer none, .pointer none, .pointer none, .pointer none, .pointer none, .pointer none, .pointer none, .pointer none]
  have hge := Nat.le_refl w.heap.size
  go_enter Tryz.func42, Tryz.ntmps42
  go_wp2_with fail
  generalize hg2 : w.heap.size = g2 at *
  generalize w.alloc (.cells #[.pointer none, .pointer none, .pointer none, .pointer none, .pointer none, .pointer none, .pointer none, .pointer none] 88) = W1 at *
  have hg3 : w.heap.size ≤ g2 := by omega
  replace hg2 := Lib.hid hg2
  obtain ⟨q, q'⟩ := B0.cells
  have lg := B0.lt
  go_still_tail 24, (by kernel_rfl)
  go_wp2_with fail
  exact bodyPost_ret (results_c rfl rfl (ld_flds (Blk.ext (put8 B0) (Ext.refl _).drew))) rfl ⟨rfl, (ext8 X0 hg3 _ _ _ _ _ _ _ _).drew⟩
end Go.Proofs.YtokakpbpenndlaaGreatDoor
