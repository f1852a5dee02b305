/-
  Is an entry fine? book.of, the methods fine.
-/
import Derived.Test.YtehkmngbknbbaaaRk19
import Derived.Test.YtehkmngbknbbaaaRk13
import Derived.Test.YtehkmngbknbbaaaRk12
import Derived.Test.YtehkmngbknbbaaaRk17
set_option linter.unusedVariables false
namespace Go.Proofs.Ytehkmngbknbbaaa
open Go.RowKit Go.Maps

/-- An entry as a value. -/
abbrev entV (e : Ent) (Aa At : Option Addr) (ca ct : Nat) : Value := .agg #[.int .i64 e.k, .int .i64 e.id, .int .i64 e.of_, .int .i64 e.day, .slice Aa e.am.length ca, .slice At e.tax.length ct]
/-- The memory behind it. -/
structure EntR (W : World) (e : Ent) (Aa At : Option Addr) : Prop where
  ra : Reads W W.heap.size 1 Aa e.am.length (iV e.am)
  rt : Reads W W.heap.size 6 At e.tax.length (txCells e.tax)
  la : e.am.length ≤ maxLen
  lt : e.tax.length ≤ maxLen
theorem EntR.ext {W W' : World} {e : Ent} {Aa At : Option Addr} (h : EntR W e Aa At) (hx : Ext W W') : EntR W' e Aa At := ⟨h.ra.ext hx, h.rt.ext hx, h.la, h.lt⟩

set_option maxRecDepth 100000 in
set_option maxHeartbeats 1000000 in
theorem voidFine_any (e : Ent) (Aa At : Option Addr) (ca ct : Nat) (w : World) (h : EntR w e Aa At) :
    Calls Try.prog 159 #[entV e Aa At ca ct] w fun r w' => r = .returned (.bool e.voidFine) ∧ Ext w w' := by
  have la := h.la
  have lt := h.lt
  unfold maxLen at la lt
  have hs : (RowKit.wrap64 ((e.am.length : Int) + (e.tax.length : Int)) = 0) = (e.am.length + e.tax.length = 0) := by unfold RowKit.wrap64; apply propext; omega
  obtain ⟨r0, hr0⟩ : ∃ r0, e.voidFine = r0 := ⟨_, rfl⟩
  rw [hr0]
  unfold Ent.voidFine at hr0
  clear h
  by_cases d1 : e.of_ = 0 <;> by_cases d2 : e.day = 0 <;> by_cases d3 : e.am.length + e.tax.length = 0
  all_goals
    simp only [ne_eq, d1, d2, d3, not_true, not_false_eq_true, decide_true, decide_false, Bool.and_true, Bool.and_false] at hr0
    subst hr0
    go_enter Try.func159, Try.ntmps159
    go_wp2
    try go_ret
    first | exact ⟨rfl, (Ext.refl _).alloc _⟩ | exact ⟨ret_bool (by rw [Bool.eq_iff_iff]; simp only [Bool.and_eq_true, bne_iff_ne, ne_eq, beq_iff_eq, hs, Bool.false_eq_true, eq_self, iff_true, iff_false, not_and]; omega), (Ext.refl _).alloc _⟩

/-- Where the search for an amount stands. -/
def AnyRel (w : World) (l : List Int) (i b : Value) (wr : World) : Prop := ∃ k : Nat, k ≤ l.length ∧ i = .int .i64 (k : Int) ∧ b = .bool ((l.take k).any fun n => decide (n ≠ 0)) ∧ Ext w wr
theorem AnyRel.next {w w1 : World} {l : List Int} {k m : Nat} {v : Value} (hk : k < l.length) (hx : Ext w w1) (hv : v = .bool (((l.take k).any fun n => decide (n ≠ 0)) || (l[k] != 0))) (e : m = k + 1) : AnyRel w l (.int .i64 (m : Int)) v w1 := by
  subst e
  refine ⟨k + 1, by omega, rfl, ?_, hx⟩
  rw [hv, List.take_succ_eq_append_getElem hk, List.any_append, show (l[k] != 0) = decide (l[k] ≠ 0) by rw [Bool.eq_iff_iff]; simp]
  rw [List.any_cons, List.any_nil, Bool.or_false]
set_option maxRecDepth 100000 in
set_option maxHeartbeats 1000000 in
theorem refundFine_any (e : Ent) (Aa At : Option Addr) (ca ct : Nat) (w : World) (h : EntR w e Aa At) :
    Calls Try.prog 158 #[entV e Aa At ca ct] w fun r w' => r = .returned (.bool e.refundFine) ∧ Ext w w' := by
  have la := h.la
  have lt := h.lt
  have hr := h.ra
  unfold maxLen at la lt
  have HR := Lib.hid (show e.refundFine = (decide (e.of_ ≠ 0) && win (e.am.length : Int) 1 100 && (e.am.any fun n => decide (n ≠ 0)) && decide ((e.tax.length : Int) = 0)) by
    have q1 : win (e.am.length : Int) 1 100 = manyI e.am.length := by unfold win manyI; congr 1 <;> (rw [decide_eq_decide]; omega)
    have q2 : decide ((e.tax.length : Int) = 0) = decide (e.tax.length = 0) := by rw [decide_eq_decide]; omega
    rw [q1, q2]; rfl)
  have B := Blk.new w 143 #[.int .i64 e.k, .int .i64 e.id, .int .i64 e.of_, .int .i64 e.day, .slice Aa e.am.length ca, .slice At e.tax.length ct]
  have X0 := (Ext.refl w).alloc (.cells #[.int .i64 e.k, .int .i64 e.id, .int .i64 e.of_, .int .i64 e.day, .slice Aa e.am.length ca, .slice At e.tax.length ct] 143)
  have hr := hr.ext X0
  clear h
  go_enter Try.func158, Try.ntmps158
  go_wp2_with fail
  generalize w.alloc (.cells #[.int .i64 e.k, .int .i64 e.id, .int .i64 e.of_, .int .i64 e.day, .slice Aa e.am.length ca, .slice At e.tax.length ct] 143) = W0 at B X0 hr ⊢
  generalize w.heap.size = g0 at B ⊢
  have HB := Lib.hid (fun W (h : Ext W0 W) => B.ext h)
  clear B
  go_loopw [10, 3] (fun i b wr => AnyRel W0 e.am i b wr) (fun i _ _ => e.am.length - (intOf i).toNat)
  case atStart => exact ⟨0, by omega, rfl, by simp, Ext.refl _⟩
  case round =>
    obtain ⟨k, hk, rfl, rfl, hx⟩ := hrel
    by_cases hlt : k < e.am.length
    · have hd : decide ((k : Int) < (e.am.length : Int)) = true := by simp; omega
      obtain ⟨g, off, rfl, hg, c1⟩ := reads_int (hr.extB (Nat.le_refl _) hx) hlt rfl
      have HN := Lib.hid (fun v => AnyRel.next (v := v) (m := k + 1) hlt hx)
      generalize ((e.am.take k).any fun n => decide (n ≠ 0)) = d at *
      clear hr HB
      generalize e.am[k] = x at *
      rcases d with _ | _
      all_goals
        go_wp2_with fail
        go_roundw
        case rel => exact HN.out _ (by rfl) (by simp)
        case measure => simp [intOf]; omega
    · have hd : decide ((k : Int) < (e.am.length : Int)) = false := by simp; omega
      have hk' : k = e.am.length := by omega
      subst hk'
      rw [List.take_length]
      obtain ⟨q, q'⟩ := (HB.out _ hx).cells
      have X1 := X0.trans hx
      generalize (e.am.any fun n => decide (n ≠ 0)) = d at *
      clear hr HB hx
      have HR1 := HR.out
      clear HR
      by_cases d1 : e.of_ = 0
      · simp only [ne_eq, d1, not_true, decide_false, Bool.false_and] at HR1
        replace HR1 := Lib.hid HR1
        go_wp2_with fail
        go_ret
        exact ⟨by rw [HR1.out]; rfl, X1⟩
      · cases d2 : win (e.am.length : Int) 1 100 <;> rcases d with _ | _ <;> by_cases d3 : (e.tax.length : Int) = 0
        all_goals
          simp only [ne_eq, d1, d2, d3, not_false_eq_true, decide_true, decide_false, Bool.and_true, Bool.and_false] at HR1
          replace HR1 := Lib.hid HR1
          replace d2 := Lib.hid d2
          go_wp2_with fail
          refine (many_any e.am.length Aa ca _ (by omega)).mono ?_
          rintro r w' ⟨rfl, rfl⟩
          rw [d2.out]
          go_wp2_with fail
          go_ret
          exact ⟨by rw [HR1.out]; first | rfl | exact ret_bool (by simpa using d1) | exact ret_bool (by rw [Bool.eq_iff_iff]; simp only [Bool.and_eq_true, bne_iff_ne, ne_eq, beq_iff_eq, Bool.false_eq_true, iff_false, not_and]; omega), X1⟩
end Go.Proofs.Ytehkmngbknbbaaa

set_option linter.unusedVariables false
namespace Go.Proofs.Ytehkmngbknbbaaa
open Go.RowKit Go.ChangeShapes Go.WideShapes Go.Deep

/-- An entry, and where its slices lie. -/
structure EV where
  e : Ent
  A : Option Addr
  A' : Option Addr
  c : Nat
  c' : Nat
def EV.cl (x : EV) : List Value := [.int .i64 x.e.k, .int .i64 x.e.id, .int .i64 x.e.of_, .int .i64 x.e.day, .slice x.A x.e.am.length x.c, .slice x.A' x.e.tax.length x.c']
theorem EV.cl_len (x : EV) : x.cl.length = 6 := rfl
def evCells (l : List EV) : List Value := l.flatMap EV.cl
structure EV.ok (W : World) (x : EV) : Prop where
  r : EntR W x.e x.A x.A'
  c1 : x.e.am.length ≤ x.c ∧ x.c ≤ maxLen
  c2 : x.e.tax.length ≤ x.c' ∧ x.c' ≤ maxLen
  ik : i64 x.e.k ∧ i64 x.e.id ∧ i64 x.e.of_ ∧ i64 x.e.day
  ia : ∀ n ∈ x.e.am, i64 n
  it : ∀ y ∈ x.e.tax, y.i64
theorem EV.ok.ext {W W' : World} {x : EV} (h : x.ok W) (hx : Ext W W') : x.ok W' := ⟨h.r.ext hx, h.c1, h.c2, h.ik, h.ia, h.it⟩
theorem opens_entry : Opens Try.prog 66 (fun w cs => ∃ x : EV, cs = x.cl ∧ x.ok w) :=
  (opens_fields Try.underlying66 (.cons 1 opens_i (by kernel_rfl) (.cons 1 opens_i (by kernel_rfl) (.cons 1 opens_i (by kernel_rfl) (.cons 1 opens_i (by kernel_rfl) (.cons 1 opens_ints (by kernel_rfl) (.cons 1 opens_taxs (by kernel_rfl) .nil)))))) (by kernel_rfl)).mono fun w cs h => by
    obtain ⟨_, _, rfl, _, ⟨a, rfl, h1⟩, _, _, rfl, _, ⟨b, rfl, h2⟩, _, _, rfl, _, ⟨c, rfl, h3⟩, _, _, rfl, _, ⟨d, rfl, h4⟩, _, _, rfl, _, ⟨A, ca, l, rfl, l1, l2, l3, l4⟩, _, _, rfl, _, ⟨B, cb, m, rfl, m1, m2, m3, m4⟩, rfl⟩ := h
    exact ⟨⟨⟨a, b, c, d, l, m⟩, A, B, ca, cb⟩, rfl, ⟨⟨l4, m4, Nat.le_trans l1 l2, Nat.le_trans m1 m2⟩, ⟨l1, l2⟩, ⟨m1, m2⟩, ⟨h1, h2, h3, h4⟩, l3, m3⟩⟩
theorem opens_entries : Opens Try.prog 82 (fun w cs => ∃ (A : Option Addr) (cap : Nat) (l : List EV), cs = [.slice A l.length cap] ∧ l.length ≤ cap ∧ cap ≤ maxLen ∧ (∀ x ∈ l, x.ok w) ∧ Reads w w.heap.size 6 A l.length (evCells l)) :=
  (opens_slice 6 Try.underlying82 (by kernel_rfl) (by decide) opens_entry).mono fun w cs h =>
    SliceOf.list (code := EV.cl) (p := fun x => x.ok w) h (fun x ⟨l, hl, hp⟩ => ⟨l, hl, hp⟩)
theorem evCells_at (l : List EV) (k : Nat) (h : k < l.length) : (evCells l)[k * 6]? = some (.int .i64 l[k].e.k) ∧ (evCells l)[k * 6 + 1]? = some (.int .i64 l[k].e.id) ∧ (evCells l)[k * 6 + 2]? = some (.int .i64 l[k].e.of_) ∧
    (evCells l)[k * 6 + 3]? = some (.int .i64 l[k].e.day) ∧ (evCells l)[k * 6 + 4]? = some (.slice l[k].A l[k].e.am.length l[k].c) ∧ (evCells l)[k * 6 + 5]? = some (.slice l[k].A' l[k].e.tax.length l[k].c') :=
  ⟨flat_get EV.cl_len l k 0 h (by decide), flat_get EV.cl_len l k 1 h (by decide), flat_get EV.cl_len l k 2 h (by decide), flat_get EV.cl_len l k 3 h (by decide), flat_get EV.cl_len l k 4 h (by decide), flat_get EV.cl_len l k 5 h (by decide)⟩
end Go.Proofs.Ytehkmngbknbbaaa

set_option linter.unusedVariables false
namespace Go.Proofs.Ytehkmngbknbbaaa
open Go.RowKit Go.Maps

theorem Blk.twoE (w : World) (t t' : TypeId) (cs cs' : Array Value) : Blk ((w.alloc (.cells cs t)).alloc (.cells cs' t')) (w.heap.size + 1) t' cs' := by
  have := Blk.new (w.alloc (.cells cs t)) t' cs'
  simpa using this
set_option maxRecDepth 100000 in
set_option maxHeartbeats 8000000 in
theorem sameEntry_any (a b : Ent) (A A' B B' : Option Addr) (ca ca' cb cb' : Nat) (w : World) (ha : EntR w a A A') (hb : EntR w b B B') :
    Calls Try.prog 54 #[entV a A A' ca ca', entV b B B' cb cb'] w fun r w' => r = .returned (.bool (decide (a = b))) ∧ Ext w w' := by
  have X := ((Ext.refl w).alloc (.cells #[.int .i64 a.k, .int .i64 a.id, .int .i64 a.of_, .int .i64 a.day, .slice A a.am.length ca, .slice A' a.tax.length ca'] 66)).alloc (.cells #[.int .i64 b.k, .int .i64 b.id, .int .i64 b.of_, .int .i64 b.day, .slice B b.am.length cb, .slice B' b.tax.length cb'] 66)
  have B1 := (Blk.new w 66 #[.int .i64 a.k, .int .i64 a.id, .int .i64 a.of_, .int .i64 a.day, .slice A a.am.length ca, .slice A' a.tax.length ca']).alloc (.cells #[.int .i64 b.k, .int .i64 b.id, .int .i64 b.of_, .int .i64 b.day, .slice B b.am.length cb, .slice B' b.tax.length cb'] 66)
  have B2 : Blk _ (w.heap.size + 1) _ _ := Blk.twoE w 66 66 #[.int .i64 a.k, .int .i64 a.id, .int .i64 a.of_, .int .i64 a.day, .slice A a.am.length ca, .slice A' a.tax.length ca'] #[.int .i64 b.k, .int .i64 b.id, .int .i64 b.of_, .int .i64 b.day, .slice B b.am.length cb, .slice B' b.tax.length cb']
  have HA := Lib.hid (ha.ext X)
  have HB := Lib.hid (hb.ext X)
  have HX := Lib.hid X
  have HB1 := Lib.hid B1
  have HB2 := Lib.hid B2
  have HE := Lib.hid (show ∀ x y : Ent, x = y ↔ x.k = y.k ∧ x.id = y.id ∧ x.of_ = y.of_ ∧ x.day = y.day ∧ x.am = y.am ∧ x.tax = y.tax from fun x y => by
    obtain ⟨_, _, _, _, _, _⟩ := x
    obtain ⟨_, _, _, _, _, _⟩ := y
    simp)
  clear ha hb X B1 B2
  have hF : ∀ {r : Bool}, (r = true ↔ a = b) → decide (a = b) = r := fun h => by
    rw [Bool.eq_iff_iff, h]; simp
  by_cases h1 : a.k = b.k
  case neg =>
    have hR := Lib.hid (hF (r := false) (by rw [HE.out]; simp [h1]))
    have q1 : (a.k == b.k) = false := by simpa using h1
    clear h1 hF
    go_enter Try.func54, Try.ntmps54
    go_wp2_with fail
    go_ret
    exact ⟨by rw [hR.out]; rfl, HX.out⟩
  have q1 : (a.k == b.k) = true := by simpa using h1
  by_cases h2 : a.id = b.id
  case neg =>
    have hR := Lib.hid (hF (r := false) (by rw [HE.out]; simp [h2]))
    have q2 : (a.id == b.id) = false := by simpa using h2
    clear h2 h1 hF
    go_enter Try.func54, Try.ntmps54
    go_wp2_with fail
    go_ret
    exact ⟨by rw [hR.out]; rfl, HX.out⟩
  have q2 : (a.id == b.id) = true := by simpa using h2
  by_cases h3 : a.of_ = b.of_
  case neg =>
    have hR := Lib.hid (hF (r := false) (by rw [HE.out]; simp [h3]))
    have q3 : (a.of_ == b.of_) = false := by simpa using h3
    clear h3 h2 h1 hF
    go_enter Try.func54, Try.ntmps54
    go_wp2_with fail
    go_ret
    exact ⟨by rw [hR.out]; rfl, HX.out⟩
  have q3 : (a.of_ == b.of_) = true := by simpa using h3
  by_cases h4 : a.day = b.day
  case neg =>
    have hR := Lib.hid (hF (r := false) (by rw [HE.out]; simp [h4]))
    have q4 : (a.day == b.day) = false := by simpa using h4
    clear h4 h3 h2 h1 hF
    go_enter Try.func54, Try.ntmps54
    go_wp2_with fail
    go_ret
    exact ⟨by rw [hR.out]; rfl, HX.out⟩
  have q4 : (a.day == b.day) = true := by simpa using h4
  have hG := Lib.hid (fun (r : Bool) (h : r = (decide (a.am = b.am) && decide (a.tax = b.tax))) => hF (r := r) (by rw [HE.out, h]; simp [h1, h2, h3, h4]))
  clear h1 h2 h3 h4 hF
  go_enter Try.func54, Try.ntmps54
  go_wp2_with fail
  refine (sameInts_any a.am b.am A B a.am.length b.am.length ca cb _ rfl rfl HA.out.ra HB.out.ra HA.out.la HB.out.la).mono ?_
  rintro r w1 ⟨rfl, hx1⟩
  obtain ⟨k1, k1'⟩ := (HB1.out.ext hx1).cells
  obtain ⟨k2, k2'⟩ := (HB2.out.ext hx1).cells
  have hG1 := hG.out
  cases hd : decide (a.am = b.am)
  · have hR := Lib.hid (hG1 false (by rw [hd]; rfl))
    clear hG1 hG
    go_wp2_with fail
    go_ret
    exact ⟨by rw [hR.out]; rfl, HX.out.trans hx1⟩
  · have hR := Lib.hid (hG1 (decide (a.tax = b.tax)) (by rw [hd]; simp))
    clear hG1 hG
    go_wp2_with fail
    refine (sameTax_any a.tax b.tax A' B' a.tax.length b.tax.length ca' cb' _ rfl rfl (HA.out.ext hx1).rt (HB.out.ext hx1).rt HA.out.lt HB.out.lt).mono ?_
    rintro r w2 ⟨rfl, hx2⟩
    replace hd := Lib.hid hd
    generalize decide (a.tax = b.tax) = d at *
    go_wp2_with fail
    go_ret
    exact ⟨by rw [hR.out]; rfl, HX.out.trans (hx1.trans hx2)⟩

/-- Not too large: at most so many entries, of at most 20 amounts and 60 tax lines. -/
def Fit (l : List EV) (most : Nat) : Prop := l.length ≤ most ∧ ∀ x ∈ l, x.e.am.length ≤ 20 ∧ x.e.tax.length ≤ 60
def BigRel (w : World) (l : List EV) (most : Nat) (i : Value) (wr : World) : Prop := ∃ k : Nat, k ≤ l.length ∧ k ≤ most + 1 ∧ i = .int .i64 (k : Int) ∧ (∀ x ∈ l.take k, x.e.am.length ≤ 20 ∧ x.e.tax.length ≤ 60) ∧ w = wr
def BigOut (l : List EV) (most : Nat) (w : World) (r : Ending) (w' : World) : Prop := ∃ b, r = .returned (.bool b) ∧ (b = false → Fit l most) ∧ w = w'
set_option maxRecDepth 100000 in
set_option maxHeartbeats 4000000 in
theorem big_any (l : List EV) (A : Option Addr) (cap : Nat) (most : Nat) (w : World) (hr : Reads w w.heap.size 6 A l.length (evCells l)) (hm : l.length ≤ maxLen) (hmo : most ≤ 1000) :
    Calls Try.prog 51 #[.slice A l.length cap, .int .i64 (most : Int)] w (BigOut l most w) := by
  unfold maxLen at hm
  go_enter Try.func51, Try.ntmps51
  go_wp2_with fail
  go_loopw [5] (fun i wr => BigRel w l most i wr) (fun i _ => l.length - (intOf i).toNat)
  case atStart => exact ⟨0, by omega, by omega, rfl, by simp, rfl⟩
  case round =>
    obtain ⟨k, hk, hkm, rfl, hP, rfl⟩ := hrel
    replace hP := Lib.hid hP
    by_cases hlt : k < l.length
    · have hd : decide ((k : Int) < (l.length : Int)) = true := by simp; omega
      by_cases hlm : k ≤ most
      · have hd2 : decide ((k : Int) ≤ (most : Int)) = true := by simp; omega
        have hd3 : decide (k ≤ most) = true := by simp; omega
        obtain ⟨g, off, rfl, hg, hc⟩ := hr.cellAt hlt
        obtain ⟨e1, e2, e3, e4, e5, e6⟩ := evCells_at l k hlt
        have c5 : w.cell? ⟨g, off + k * 6 + 4, none⟩ = _ := hc _ _ e5
        have c6 : w.cell? ⟨g, off + k * 6 + 5, none⟩ = _ := hc _ _ e6
        have HN := Lib.hid (fun (h1 : l[k].e.am.length ≤ 20) (h2 : l[k].e.tax.length ≤ 60) => (show BigRel w l most (.int .i64 ((k + 1 : Nat) : Int)) w from ⟨k + 1, by omega, by omega, rfl, by
          intro x hx
          rw [List.take_succ_eq_append_getElem hlt] at hx
          rcases List.mem_append.1 hx with hx | hx
          · exact hP.out x hx
          · rw [List.mem_singleton.1 hx]; exact ⟨h1, h2⟩, rfl⟩))
        clear hc e1 e2 e3 e4 e5 e6 hr
        generalize l[k] = x at *
        by_cases b1 : 20 < x.e.am.length
        · have t1 : decide ((20 : Int) < (x.e.am.length : Int)) = true := by simp; omega
          clear HN
          go_wp2_with fail
          go_ret
          exact ⟨true, rfl, (fun h => by cases h), rfl⟩
        have t1 : decide ((20 : Int) < (x.e.am.length : Int)) = false := by simp; omega
        by_cases b2 : 60 < x.e.tax.length
        · have t2 : decide ((60 : Int) < (x.e.tax.length : Int)) = true := by simp; omega
          clear HN
          go_wp2_with fail
          go_ret
          exact ⟨true, rfl, (fun h => by cases h), rfl⟩
        have t2 : decide ((60 : Int) < (x.e.tax.length : Int)) = false := by simp; omega
        have HN2 := Lib.hid (HN.out (by omega) (by omega))
        clear HN
        go_wp2_with fail
        go_roundw
        case rel => exact HN2.out
        case measure => simp [intOf]; omega
      · have hd2 : decide ((k : Int) ≤ (most : Int)) = false := by simp; omega
        have hd3 : decide (k ≤ most) = false := by simp; omega
        have hd4 : decide ((most : Int) < (l.length : Int)) = true := by simp; omega
        have hd5 : decide (most < l.length) = true := by simp; omega
        go_wp2_with fail
        go_ret
        exact ⟨true, rfl, (fun h => by cases h), rfl⟩
    · have hd : decide ((k : Int) < (l.length : Int)) = false := by simp; omega
      have HA := Lib.hid (show ∀ x ∈ l, x.e.am.length ≤ 20 ∧ x.e.tax.length ≤ 60 from fun x hx => hP.out x (by rw [List.take_of_length_le (by omega)]; exact hx))
      by_cases hml : most < l.length
      · have hd4 : decide ((most : Int) < (l.length : Int)) = true := by simp; omega
        have hd5 : decide (most < l.length) = true := by simp; omega
        go_wp2_with fail
        go_ret
        exact ⟨true, rfl, (fun h => by cases h), rfl⟩
      · have hd4 : decide ((most : Int) < (l.length : Int)) = false := by simp; omega
        have hd5 : decide (most < l.length) = false := by simp; omega
        go_wp2_with fail
        go_ret
        exact ⟨false, rfl, fun _ => ⟨by omega, HA.out⟩, rfl⟩
end Go.Proofs.Ytehkmngbknbbaaa
