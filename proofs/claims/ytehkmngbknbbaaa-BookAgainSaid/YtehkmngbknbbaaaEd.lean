/-
  Is an entry fine? book.of, the methods fine.
-/
import Derived.Test.YtehkmngbknbbaaaEc
import Derived.Test.YtehkmngbknbbaaaDe
set_option linter.unusedVariables false
namespace Go.Proofs.Ytehkmngbknbbaaa
open Go.RowKit Go.Maps

/-- An entry as a value. -/
abbrev entV (e : Ent) (Aa At : Option Addr) (ca ct : Nat) : Value := .agg #[.int .i64 e.k, .int .i64 e.id, .int .i64 e.of_, .int .i64 e.day, .slice Aa e.am.length ca, .slice At e.tax.length ct]
/-- The memory behind it. -/
structure EntR (W : World) (e : Ent) (Aa At : Option Addr) : Prop where
  ra : Reads W W.heap.size 1 Aa e.am.length (iV e.am)
  rt : Reads W W.heap.size 6 At e.tax.length (txCells e.tax)
  la : e.am.length ≤ maxLen
  lt : e.tax.length ≤ maxLen
theorem EntR.ext {W W' : World} {e : Ent} {Aa At : Option Addr} (h : EntR W e Aa At) (hx : Ext W W') : EntR W' e Aa At := ⟨h.ra.ext hx, h.rt.ext hx, h.la, h.lt⟩

set_option maxRecDepth 100000 in
set_option maxHeartbeats 1000000 in
theorem voidFine_any (e : Ent) (Aa At : Option Addr) (ca ct : Nat) (w : World) (h : EntR w e Aa At) :
    Calls Try.prog 159 #[entV e Aa At ca ct] w fun r w' => r = .returned (.bool e.voidFine) ∧ Ext w w' := by
  have la := h.la
  have lt := h.lt
  unfold maxLen at la lt
  have hs : (RowKit.wrap64 ((e.am.length : Int) + (e.tax.length : Int)) = 0) = (e.am.length + e.tax.length = 0) := by unfold RowKit.wrap64; apply propext; omega
  obtain ⟨r0, hr0⟩ : ∃ r0, e.voidFine = r0 := ⟨_, rfl⟩
  rw [hr0]
  unfold Ent.voidFine at hr0
  clear h
  by_cases d1 : e.of_ = 0 <;> by_cases d2 : e.day = 0 <;> by_cases d3 : e.am.length + e.tax.length = 0
  all_goals
    simp only [ne_eq, d1, d2, d3, not_true, not_false_eq_true, decide_true, decide_false, Bool.and_true, Bool.and_false, Bool.false_and, Bool.true_and] at hr0
    subst hr0
    go_enter Try.func159, Try.ntmps159
    go_wp2
    try go_ret
    first | exact ⟨rfl, (Ext.refl _).alloc _⟩ | exact ⟨ret_bool (by rw [Bool.eq_iff_iff]; simp only [Bool.and_eq_true, bne_iff_ne, ne_eq, beq_iff_eq, hs, Bool.false_eq_true, eq_self, iff_true, iff_false, not_and]; omega), (Ext.refl _).alloc _⟩

/-- Where the search for an amount stands. -/
def AnyRel (w : World) (l : List Int) (i b : Value) (wr : World) : Prop := ∃ k : Nat, k ≤ l.length ∧ i = .int .i64 (k : Int) ∧ b = .bool ((l.take k).any fun n => decide (n ≠ 0)) ∧ Ext w wr
theorem AnyRel.next {w w1 : World} {l : List Int} {k m : Nat} {v : Value} (hk : k < l.length) (hx : Ext w w1) (hv : v = .bool (((l.take k).any fun n => decide (n ≠ 0)) || (l[k] != 0))) (e : m = k + 1) : AnyRel w l (.int .i64 (m : Int)) v w1 := by
  subst e
  refine ⟨k + 1, by omega, rfl, ?_, hx⟩
  rw [hv, List.take_succ_eq_append_getElem hk, List.any_append, show (l[k] != 0) = decide (l[k] ≠ 0) by rw [Bool.eq_iff_iff]; simp]
  rw [List.any_cons, List.any_nil, Bool.or_false]
set_option maxRecDepth 100000 in
set_option maxHeartbeats 1000000 in
theorem refundFine_any (e : Ent) (Aa At : Option Addr) (ca ct : Nat) (w : World) (h : EntR w e Aa At) :
    Calls Try.prog 158 #[entV e Aa At ca ct] w fun r w' => r = .returned (.bool e.refundFine) ∧ Ext w w' := by
  have la := h.la
  have lt := h.lt
  have hr := h.ra
  unfold maxLen at la lt
  have HR := Lib.hid (show e.refundFine = (decide (e.of_ ≠ 0) && win (e.am.length : Int) 1 100 && (e.am.any fun n => decide (n ≠ 0)) && decide ((e.tax.length : Int) = 0)) by
    have q1 : win (e.am.length : Int) 1 100 = manyI e.am.length := by unfold win manyI; congr 1 <;> (rw [decide_eq_decide]; omega)
    have q2 : decide ((e.tax.length : Int) = 0) = decide (e.tax.length = 0) := by rw [decide_eq_decide]; omega
    rw [q1, q2]; rfl)
  have B := Blk.new w 143 #[.int .i64 e.k, .int .i64 e.id, .int .i64 e.of_, .int .i64 e.day, .slice Aa e.am.length ca, .slice At e.tax.length ct]
  have X0 := (Ext.refl w).alloc (.cells #[.int .i64 e.k, .int .i64 e.id, .int .i64 e.of_, .int .i64 e.day, .slice Aa e.am.length ca, .slice At e.tax.length ct] 143)
  have hr := hr.ext X0
  clear h
  go_enter Try.func158, Try.ntmps158
  go_wp2_with fail
  generalize w.alloc (.cells #[.int .i64 e.k, .int .i64 e.id, .int .i64 e.of_, .int .i64 e.day, .slice Aa e.am.length ca, .slice At e.tax.length ct] 143) = W0 at B X0 hr ⊢
  generalize w.heap.size = g0 at B ⊢
  have HB := Lib.hid (fun W (h : Ext W0 W) => B.ext h)
  clear B
  go_loopw [10, 3] (fun i b wr => AnyRel W0 e.am i b wr) (fun i _ _ => e.am.length - (intOf i).toNat)
  case atStart => exact ⟨0, by omega, rfl, by simp, Ext.refl _⟩
  case round =>
    obtain ⟨k, hk, rfl, rfl, hx⟩ := hrel
    by_cases hlt : k < e.am.length
    · have hd : decide ((k : Int) < (e.am.length : Int)) = true := by simp; omega
      obtain ⟨g, off, rfl, hg, c1⟩ := reads_int (hr.extB (Nat.le_refl _) hx) hlt rfl
      have HN := Lib.hid (fun v => AnyRel.next (v := v) (m := k + 1) hlt hx)
      generalize ((e.am.take k).any fun n => decide (n ≠ 0)) = d at *
      clear hr HB
      generalize e.am[k] = x at *
      rcases d with _ | _
      all_goals
        go_wp2_with fail
        go_roundw
        case rel => exact HN.out _ (by rfl) (by simp)
        case measure => simp [intOf]; omega
    · have hd : decide ((k : Int) < (e.am.length : Int)) = false := by simp; omega
      have hk' : k = e.am.length := by omega
      subst hk'
      rw [List.take_length]
      obtain ⟨q, q'⟩ := (HB.out _ hx).cells
      have X1 := X0.trans hx
      generalize (e.am.any fun n => decide (n ≠ 0)) = d at *
      clear hr HB hx
      have HR1 := HR.out
      clear HR
      by_cases d1 : e.of_ = 0
      · simp only [ne_eq, d1, not_true, decide_false, Bool.false_and] at HR1
        replace HR1 := Lib.hid HR1
        go_wp2_with fail
        go_ret
        exact ⟨by rw [HR1.out]; rfl, X1⟩
      · cases d2 : win (e.am.length : Int) 1 100 <;> rcases d with _ | _ <;> by_cases d3 : (e.tax.length : Int) = 0
        all_goals
          simp only [ne_eq, d1, d2, d3, not_true, not_false_eq_true, decide_true, decide_false, Bool.and_true, Bool.and_false, Bool.false_and, Bool.true_and] at HR1
          replace HR1 := Lib.hid HR1
          replace d2 := Lib.hid d2
          go_wp2_with fail
          refine (many_any e.am.length Aa ca _ (by omega)).mono ?_
          rintro r w' ⟨rfl, rfl⟩
          rw [d2.out]
          go_wp2_with fail
          go_ret
          exact ⟨by rw [HR1.out]; first | rfl | exact ret_bool (by simpa using d1) | exact ret_bool (by rw [Bool.eq_iff_iff]; simp only [Bool.and_eq_true, bne_iff_ne, ne_eq, beq_iff_eq, Bool.false_eq_true, eq_self, iff_true, iff_false, not_and]; omega), X1⟩
end Go.Proofs.Ytehkmngbknbbaaa
