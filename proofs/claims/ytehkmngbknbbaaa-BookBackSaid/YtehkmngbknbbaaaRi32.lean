/-
  Is an entry fine? book.of, the methods fine.
-/
import Derived.Test.YtehkmngbknbbaaaRi31
import Derived.Test.YtehkmngbknbbaaaRi10
set_option linter.unusedVariables false
namespace Go.Proofs.Ytehkmngbknbbaaa
open Go.RowKit Go.Maps

/-- An entry as a value. -/
abbrev entV (e : Ent) (Aa At : Option Addr) (ca ct : Nat) : Value := .agg #[.int .i64 e.k, .int .i64 e.id, .int .i64 e.of_, .int .i64 e.day, .slice Aa e.am.length ca, .slice At e.tax.length ct]
/-- The memory behind it. -/
structure EntR (W : World) (e : Ent) (Aa At : Option Addr) : Prop where
  ra : Reads W W.heap.size 1 Aa e.am.length (iV e.am)
  rt : Reads W W.heap.size 6 At e.tax.length (txCells e.tax)
  la : e.am.length ≤ maxLen
  lt : e.tax.length ≤ maxLen
theorem EntR.ext {W W' : World} {e : Ent} {Aa At : Option Addr} (h : EntR W e Aa At) (hx : Ext W W') : EntR W' e Aa At := ⟨h.ra.ext hx, h.rt.ext hx, h.la, h.lt⟩

set_option maxRecDepth 100000 in
set_option maxHeartbeats 1000000 in
theorem voidFine_any (e : Ent) (Aa At : Option Addr) (ca ct : Nat) (w : World) (h : EntR w e Aa At) :
    Calls Try.prog 159 #[entV e Aa At ca ct] w fun r w' => r = .returned (.bool e.voidFine) ∧ Ext w w' := by
  have la := h.la
  have lt := h.lt
  unfold maxLen at la lt
  have hs : (RowKit.wrap64 ((e.am.length : Int) + (e.tax.length : Int)) = 0) = (e.am.length + e.tax.length = 0) := by unfold RowKit.wrap64; apply propext; omega
  obtain ⟨r0, hr0⟩ : ∃ r0, e.voidFine = r0 := ⟨_, rfl⟩
  rw [hr0]
  unfold Ent.voidFine at hr0
  clear h
  by_cases d1 : e.of_ = 0 <;> by_cases d2 : e.day = 0 <;> by_cases d3 : e.am.length + e.tax.length = 0
  all_goals
    simp only [ne_eq, d1, d2, d3, not_true, not_false_eq_true, decide_true, decide_false, Bool.and_true, Bool.and_false] at hr0
    subst hr0
    go_enter Try.func159, Try.ntmps159
    go_wp2
    try go_ret
    first | exact ⟨rfl, (Ext.refl _).alloc _⟩ | exact ⟨ret_bool (by rw [Bool.eq_iff_iff]; simp only [Bool.and_eq_true, bne_iff_ne, ne_eq, beq_iff_eq, hs, Bool.false_eq_true, eq_self, iff_true, iff_false, not_and]; omega), (Ext.refl _).alloc _⟩

/-- Where the search for an amount stands. -/
def AnyRel (w : World) (l : List Int) (i b : Value) (wr : World) : Prop := ∃ k : Nat, k ≤ l.length ∧ i = .int .i64 (k : Int) ∧ b = .bool ((l.take k).any fun n => decide (n ≠ 0)) ∧ Ext w wr
theorem AnyRel.next {w w1 : World} {l : List Int} {k m : Nat} {v : Value} (hk : k < l.length) (hx : Ext w w1) (hv : v = .bool (((l.take k).any fun n => decide (n ≠ 0)) || (l[k] != 0))) (e : m = k + 1) : AnyRel w l (.int .i64 (m : Int)) v w1 := by
  subst e
  refine ⟨k + 1, by omega, rfl, ?_, hx⟩
  rw [hv, List.take_succ_eq_append_getElem hk, List.any_append, show (l[k] != 0) = decide (l[k] ≠ 0) by rw [Bool.eq_iff_iff]; simp]
  rw [List.any_cons, List.any_nil, Bool.or_false]
set_option maxRecDepth 100000 in
set_option maxHeartbeats 1000000 in
theorem refundFine_any (e : Ent) (Aa At : Option Addr) (ca ct : Nat) (w : World) (h : EntR w e Aa At) :
    Calls Try.prog 158 #[entV e Aa At ca ct] w fun r w' => r = .returned (.bool e.refundFine) ∧ Ext w w' := by
  have la := h.la
  have lt := h.lt
  have hr := h.ra
  unfold maxLen at la lt
  have HR := Lib.hid (show e.refundFine = (decide (e.of_ ≠ 0) && win (e.am.length : Int) 1 100 && (e.am.any fun n => decide (n ≠ 0)) && decide ((e.tax.length : Int) = 0)) by
    have q1 : win (e.am.length : Int) 1 100 = manyI e.am.length := by unfold win manyI; congr 1 <;> (rw [decide_eq_decide]; omega)
    have q2 : decide ((e.tax.length : Int) = 0) = decide (e.tax.length = 0) := by rw [decide_eq_decide]; omega
    rw [q1, q2]; rfl)
  have B := Blk.new w 143 #[.int .i64 e.k, .int .i64 e.id, .int .i64 e.of_, .int .i64 e.day, .slice Aa e.am.length ca, .slice At e.tax.length ct]
  have X0 := (Ext.refl w).alloc (.cells #[.int .i64 e.k, .int .i64 e.id, .int .i64 e.of_, .int .i64 e.day, .slice Aa e.am.length ca, .slice At e.tax.length ct] 143)
  have hr := hr.ext X0
  clear h
  go_enter Try.func158, Try.ntmps158
  go_wp2_with fail
  generalize w.alloc (.cells #[.int .i64 e.k, .int .i64 e.id, .int .i64 e.of_, .int .i64 e.day, .slice Aa e.am.length ca, .slice At e.tax.length ct] 143) = W0 at B X0 hr ⊢
  generalize w.heap.size = g0 at B ⊢
  have HB := Lib.hid (fun W (h : Ext W0 W) => B.ext h)
  clear B
  go_loopw [10, 3] (fun i b wr => AnyRel W0 e.am i b wr) (fun i _ _ => e.am.length - (intOf i).toNat)
  case atStart => exact ⟨0, by omega, rfl, by simp, Ext.refl _⟩
  case round =>
    obtain ⟨k, hk, rfl, rfl, hx⟩ := hrel
    by_cases hlt : k < e.am.length
    · have hd : decide ((k : Int) < (e.am.length : Int)) = true := by simp; omega
      obtain ⟨g, off, rfl, hg, c1⟩ := reads_int (hr.extB (Nat.le_refl _) hx) hlt rfl
      have HN := Lib.hid (fun v => AnyRel.next (v := v) (m := k + 1) hlt hx)
      generalize ((e.am.take k).any fun n => decide (n ≠ 0)) = d at *
      clear hr HB
      generalize e.am[k] = x at *
      rcases d with _ | _
      all_goals
        go_wp2_with fail
        go_roundw
        case rel => exact HN.out _ (by rfl) (by simp)
        case measure => simp [intOf]; omega
    · have hd : decide ((k : Int) < (e.am.length : Int)) = false := by simp; omega
      have hk' : k = e.am.length := by omega
      subst hk'
      rw [List.take_length]
      obtain ⟨q, q'⟩ := (HB.out _ hx).cells
      have X1 := X0.trans hx
      generalize (e.am.any fun n => decide (n ≠ 0)) = d at *
      clear hr HB hx
      have HR1 := HR.out
      clear HR
      by_cases d1 : e.of_ = 0
      · simp only [ne_eq, d1, not_true, decide_false, Bool.false_and] at HR1
        replace HR1 := Lib.hid HR1
        go_wp2_with fail
        go_ret
        exact ⟨by rw [HR1.out]; rfl, X1⟩
      · cases d2 : win (e.am.length : Int) 1 100 <;> rcases d with _ | _ <;> by_cases d3 : (e.tax.length : Int) = 0
        all_goals
          simp only [ne_eq, d1, d2, d3, not_false_eq_true, decide_true, decide_false, Bool.and_true, Bool.and_false] at HR1
          replace HR1 := Lib.hid HR1
          replace d2 := Lib.hid d2
          go_wp2_with fail
          refine (many_any e.am.length Aa ca _ (by omega)).mono ?_
          rintro r w' ⟨rfl, rfl⟩
          rw [d2.out]
          go_wp2_with fail
          go_ret
          exact ⟨by rw [HR1.out]; first | rfl | exact ret_bool (by simpa using d1) | exact ret_bool (by rw [Bool.eq_iff_iff]; simp only [Bool.and_eq_true, bne_iff_ne, ne_eq, beq_iff_eq, Bool.false_eq_true, iff_false, not_and]; omega), X1⟩
end Go.Proofs.Ytehkmngbknbbaaa

set_option linter.unusedVariables false
namespace Go.Proofs.Ytehkmngbknbbaaa
open Go.RowKit Go.Maps

set_option maxRecDepth 100000 in
set_option maxHeartbeats 2000000 in
theorem saleFine_any (e : Ent) (Aa At : Option Addr) (ca ct : Nat) (w : World) (h : EntR w e Aa At) :
    Calls Try.prog 156 #[entV e Aa At ca ct] w fun r w' => r = .returned (.bool e.saleFine) ∧ Ext w w' := by
  have la := h.la
  have lt := h.lt
  unfold maxLen at la lt
  have HR := Lib.hid (show e.saleFine = (decide ((checkTax e.tax).1 = 0) && decide (e.of_ = 0) && win (e.am.length : Int) 1 100 && e.tax.all (Tx.fits e.am)) by
    unfold Ent.saleFine
    have q1 : win (e.am.length : Int) 1 100 = manyI e.am.length := by unfold win manyI; congr 1 <;> (rw [decide_eq_decide]; omega)
    rw [q1])
  have B := Blk.new w 142 #[.int .i64 e.k, .int .i64 e.id, .int .i64 e.of_, .int .i64 e.day, .slice Aa e.am.length ca, .slice At e.tax.length ct]
  have X0 := (Ext.refl w).alloc (.cells #[.int .i64 e.k, .int .i64 e.id, .int .i64 e.of_, .int .i64 e.day, .slice Aa e.am.length ca, .slice At e.tax.length ct] 142)
  have hr := h.ra.ext X0
  have ht := h.rt.ext X0
  clear h
  go_enter Try.func156, Try.ntmps156
  go_wp2_with fail
  generalize w.alloc (.cells #[.int .i64 e.k, .int .i64 e.id, .int .i64 e.of_, .int .i64 e.day, .slice Aa e.am.length ca, .slice At e.tax.length ct] 142) = W0 at B X0 hr ht ⊢
  generalize w.heap.size = g0 at B ⊢
  refine (checkTax_any e.tax At ct _ ht (by unfold maxLen; omega)).mono ?_
  rintro r v1 ⟨rfl, hx1⟩
  have B1 := B.ext hx1
  have X1 := X0.trans hx1
  replace hr := hr.ext hx1
  replace ht := ht.ext hx1
  clear B hx1 X0
  obtain ⟨q, q'⟩ := B1.cells
  have HB := Lib.hid (fun W (h : Ext v1 W) => B1.ext h)
  clear B1
  have HC := Lib.hid (fun (h : (checkTax e.tax).1 = 0) => checkTax_mem h)
  generalize (checkTax e.tax).1 = c at *
  generalize (checkTax e.tax).2 = c2 at *
  have HR1 := HR.out
  clear HR
  by_cases d0 : c = 0
  case neg =>
    simp only [d0, decide_false, Bool.false_and] at HR1
    replace HR1 := Lib.hid HR1
    clear hr ht HB HC
    go_wp2_with fail
    go_ret
    exact ⟨by rw [HR1.out]; rfl, X1⟩
  subst d0
  by_cases d1 : e.of_ = 0
  case neg =>
    simp only [d1, decide_false, decide_true, Bool.false_and, Bool.and_false] at HR1
    replace HR1 := Lib.hid HR1
    clear hr ht HB HC
    go_wp2_with fail
    go_ret
    exact ⟨by rw [HR1.out]; rfl, X1⟩
  cases d2 : win (e.am.length : Int) 1 100
  case false =>
    simp only [d1, d2, decide_true, Bool.false_and, Bool.and_false] at HR1
    replace HR1 := Lib.hid HR1
    replace d2 := Lib.hid d2
    clear hr ht HB HC
    go_wp2_with fail
    refine (many_any e.am.length Aa ca _ (by omega)).mono ?_
    rintro r w' ⟨rfl, rfl⟩
    rw [d2.out]
    go_wp2_with fail
    go_ret
    exact ⟨by rw [HR1.out]; rfl, X1⟩
  simp only [d1, d2, decide_true, Bool.true_and] at HR1
  replace HR1 := Lib.hid HR1
  replace d2 := Lib.hid d2
  have hm := HC.out rfl
  replace hm := Lib.hid hm
  clear HC
  go_wp2_with fail
  refine (many_any e.am.length Aa ca _ (by omega)).mono ?_
  rintro r w' ⟨rfl, rfl⟩
  rw [d2.out]
  go_wp2_with fail
  clear q q'
  go_loopw [33] (fun i wr => SameRel v1 e.tax.length (fun j => ∀ h : j < e.tax.length, Tx.fits e.am e.tax[j] = true) i wr) (fun i _ => e.tax.length - (intOf i).toNat)
  case atStart => exact ⟨0, by omega, rfl, Ext.refl _, fun j hj => by omega⟩
  case round =>
    obtain ⟨k, hk, rfl, hx, hP⟩ := hrel
    have HP := Lib.hid hP
    clear hP
    obtain ⟨q, q'⟩ := (HB.out _ hx).cells
    have lg0 := (HB.out _ hx).lt
    by_cases hlt : k < e.tax.length
    · have hd : decide ((k : Int) < (e.tax.length : Int)) = true := by simp; omega
      obtain ⟨g, off, rfl, hg, hc⟩ := (ht.extB (Nat.le_refl _) hx).cellAt hlt
      obtain ⟨e1, e2, e3, e4, e5, e6⟩ := txCells_at e.tax k hlt
      have c1 := hc _ _ e1
      have c2 : wr.cell? ⟨g, off + k * 6 + 1, none⟩ = _ := hc _ _ e2
      have c3 : wr.cell? ⟨g, off + k * 6 + 2, none⟩ = _ := hc _ _ e3
      have c4 : wr.cell? ⟨g, off + k * 6 + 3, none⟩ = _ := hc _ _ e4
      have c5 : wr.cell? ⟨g, off + k * 6 + 4, none⟩ = _ := hc _ _ e5
      have c6 : wr.cell? ⟨g, off + k * 6 + 5, none⟩ = _ := hc _ _ e6
      have hgl : g < wr.heap.size := Nat.lt_of_lt_of_le hg hx.size
      clear hc e1 e2 e3 e4 e5 e6
      have hok := hm.out e.tax[k] (List.getElem_mem hlt)
      obtain ⟨b1, b2, b3, b4, b5, b6⟩ := Tx.ok_bd hok
      have HF := Lib.hid (rfl : Tx.fits e.am e.tax[k] = Tx.fits e.am e.tax[k])
      have HK := Lib.hid (fun (W : World) (hW : Ext v1 W) (hf : Tx.fits e.am e.tax[k] = true) => SameRel.next (P := fun j => ∀ h : j < e.tax.length, Tx.fits e.am e.tax[j] = true) (m := k + 1) hlt hW HP.out (fun _ => hf) rfl)
      have HN := Lib.hid (fun (hf : Tx.fits e.am e.tax[k] = false) => (show e.tax.all (Tx.fits e.am) = false from by rw [List.all_eq_false]; exact ⟨_, List.getElem_mem hlt, by simp [hf]⟩))
      generalize e.tax[k] = x at *
      obtain ⟨n, hn⟩ := Int.eq_ofNat_of_zero_le b1.1
      have hn' : x.l.toNat = n := by omega
      rw [hn] at c1
      have hz0 : (0 : Int) ≤ (n : Int) := Int.natCast_nonneg n
      have HX := Lib.hid (hx.alloc (.cells #[.int .i64 n, .int .i64 x.j, .int .i64 x.t, .int .i64 x.x, .int .i64 x.r, .int .i64 x.v] 46))
      by_cases hna : n < e.am.length
      · obtain ⟨ga, oa, rfl, hga, ca1⟩ := reads_int (hr.extB (Nat.le_refl _) hx) hna rfl
        have hga' : ga < wr.heap.size := Nat.lt_of_lt_of_le hga hx.size
        have hz1 : (n : Int) < (e.am.length : Int) := by omega
        have hge : decide ((e.am.length : Int) ≤ (n : Int)) = false := by simp; omega
        have hgeN : decide (e.am.length ≤ n) = false := by simp; omega
        have hget : e.am.getD n 0 = e.am[n] := by simp [List.getD, hna]
        have hfit : Tx.fits e.am x = decide (x.t + x.x = e.am[n]) := by unfold Tx.fits; rw [hn', hget]; simp [hna]
        have hs : RowKit.wrap64 (x.t + x.x) = x.t + x.x := by unfold RowKit.wrap64; omega
        rw [hfit] at HK HN
        generalize e.am[n] = y at *
        clear hr ht HB hok b1 b2 b5 b6 hn hn' hfit hget
        by_cases hy : x.t + x.x = y
        · have hq : (x.t + x.x != y) = false := by simp [hy]
          have HK2 := Lib.hid (fun W hW => HK.out W hW (by simpa using hy))
          clear HK HN hy
          go_wp2_with fail
          go_quiet (fail)
          go_wp2_with fail
          go_roundw
          case rel => exact HK2.out _ (HX.out.drewN _)
          case measure => simp [intOf]; omega
        · have hq : (x.t + x.x != y) = true := by simpa using hy
          have HN2 := Lib.hid (HN.out (by simpa using hy))
          clear HK HN hy
          go_wp2_with fail
          go_quiet (fail)
          go_wp2_with fail
          go_ret
          exact ⟨by rw [HR1.out, HN2.out]; rfl, X1.trans (HX.out.drewN _)⟩
      · have hge : decide ((e.am.length : Int) ≤ (n : Int)) = true := by simp; omega
        have hgeN : decide (e.am.length ≤ n) = true := by simp; omega
        have HN2 := Lib.hid (HN.out (by unfold Tx.fits; rw [hn']; simp [hna]))
        clear hr ht HB hok b1 b2 b5 b6 hn hn' HK HN
        go_wp2_with fail
        go_quiet (fail)
        go_wp2_with fail
        go_ret
        exact ⟨by rw [HR1.out, HN2.out]; rfl, X1.trans (HX.out.drewN _)⟩
    · have hd : decide ((k : Int) < (e.tax.length : Int)) = false := by simp; omega
      have HA := Lib.hid (show e.tax.all (Tx.fits e.am) = true by
        rw [List.all_eq_true]
        intro x hx
        obtain ⟨j, hj, rfl⟩ := List.mem_iff_getElem.1 hx
        exact HP.out j (by omega) hj)
      clear ht hr HB
      go_wp2_with fail
      go_ret
      exact ⟨by rw [HR1.out, HA.out]; rfl, X1.trans hx⟩
end Go.Proofs.Ytehkmngbknbbaaa

set_option linter.unusedVariables false
namespace Go.Proofs.Ytehkmngbknbbaaa
open Go.RowKit Go.Maps

/-- An entry by its kind. -/
def ofV (k : Int) (v : Value) : Value := if k = 1 then .iface 142 v else if k = 2 then .iface 143 v else if k = 3 then .iface 146 v else .nilIface
set_option maxRecDepth 100000 in
set_option maxHeartbeats 1000000 in
theorem of_any (e : Ent) (Aa At : Option Addr) (ca ct : Nat) (w : World) :
    Calls Try.prog 92 #[entV e Aa At ca ct] w fun r w' => r = .returned (ofV e.k (entV e Aa At ca ct)) ∧ Ext w w' := by
  unfold ofV
  obtain ⟨k, i, o, d, am, tx⟩ := e
  dsimp only
  by_cases h1 : k = 1
  · rw [if_pos h1]
    subst h1
    go_enter Try.func92, Try.ntmps92
    go_wp2
    go_ret
    exact ⟨rfl, (Ext.refl _).alloc _⟩
  rw [if_neg h1]
  by_cases h2 : k = 2
  · rw [if_pos h2]
    subst h2
    go_enter Try.func92, Try.ntmps92
    go_wp2
    go_ret
    exact ⟨rfl, (Ext.refl _).alloc _⟩
  rw [if_neg h2]
  by_cases h3 : k = 3
  · rw [if_pos h3]
    subst h3
    go_enter Try.func92, Try.ntmps92
    go_wp2
    go_ret
    exact ⟨rfl, (Ext.refl _).alloc _⟩
  rw [if_neg h3]
  have q1 : (k == 1) = false := by simpa using h1
  have q2 : (k == 2) = false := by simpa using h2
  have q3 : (k == 3) = false := by simpa using h3
  go_enter Try.func92, Try.ntmps92
  go_wp2
  go_ret
  exact ⟨rfl, (Ext.refl _).alloc _⟩
end Go.Proofs.Ytehkmngbknbbaaa
