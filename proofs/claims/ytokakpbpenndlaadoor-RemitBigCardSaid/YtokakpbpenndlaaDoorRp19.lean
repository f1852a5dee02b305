/-
  What a book tells: Voided, Left, IDs, Lines.
-/
import Derived.Test.YtokakpbpenndlaaDoorRp18
import Derived.Test.YtokakpbpenndlaaDoorRp13
import Derived.Test.YtokakpbpenndlaaDoorRp17
set_option linter.unusedVariables false
namespace Go.Proofs.YtokakpbpenndlaaDoor
open Go.RowKit Go.Maps

/-- An entry's slices, opened. -/
structure KpOpen (W : World) (m : Slot) (x : Kp) (Aa At Al Ab : Option Addr) (ca ct cl cb : Nat) : Prop where
  va : m.va = .slice Aa x.e.am.length ca
  vt : m.vt = .slice At x.e.tax.length ct
  vl : m.vl = .slice Al x.lines.length cl
  vb : m.vb = .slice Ab x.back.length cb
  blk : Blk W m.g 49 #[.int .i64 x.e.k, .int .i64 x.e.id, .int .i64 x.e.of_, .int .i64 x.e.day, .slice Aa x.e.am.length ca, .slice At x.e.tax.length ct, .slice Al x.lines.length cl, .slice Ab x.back.length cb, .bool x.voided]
  ra : Reads W W.heap.size 1 Aa x.e.am.length (iV x.e.am)
  rt : Reads W W.heap.size 6 At x.e.tax.length (txCells x.e.tax)
  rl : Reads W W.heap.size 6 Al x.lines.length (txCells x.lines)
  rb : Reads W W.heap.size 1 Ab x.back.length (iV x.back)
  la : x.e.am.length ≤ ca ∧ ca ≤ maxLen
  lt : x.e.tax.length ≤ ct ∧ ct ≤ maxLen
  ll : x.lines.length ≤ cl ∧ cl ≤ maxLen
  lb : x.back.length ≤ cb ∧ cb ≤ maxLen
theorem KpAt.open_ {w0 W : World} {m : Slot} {x : Kp} (h : KpAt w0 W m x) : ∃ Aa At Al Ab ca ct cl cb, KpOpen W m x Aa At Al Ab ca ct cl cb := by
  obtain ⟨Aa, ca, ea, la1, la2, ra⟩ := own_slice h.oa
  obtain ⟨At, ct, et, lt1, lt2, rt⟩ := own_slice h.ot
  obtain ⟨Al, cl, el, ll1, ll2, rl⟩ := own_slice h.ol
  obtain ⟨Ab, cb, eb, lb1, lb2, rb⟩ := own_slice h.ob
  have hb := h.blk
  rw [ea, et, el, eb] at hb
  exact ⟨Aa, At, Al, Ab, ca, ct, cl, cb, ea, et, el, eb, hb, ra, rt, rl, rb, ⟨la1, la2⟩, ⟨lt1, lt2⟩, ⟨ll1, ll2⟩, ⟨lb1, lb2⟩⟩

set_option maxRecDepth 100000 in
set_option maxHeartbeats 1000000 in
theorem lines_any {w0 W : World} {bb mb : Nat} {vids : Value} {M : BkM} (h : BookAt w0 W bb mb vids M) (id : Int) (hi : i64 id) (hm : (M.b.lines id).length ≤ 1000000) :
    Calls Tryd.prog 13 #[.pointer (some ⟨bb, 0, none⟩), .int .i64 id] W fun e w' => ∃ A c, e = .returned (.slice A (M.b.lines id).length c) ∧ w'.ownsRow W.heap.size 27 6 (.slice A (M.b.lines id).length c) (M.b.lines id).length (txCells (M.b.lines id)) ∧ Ext W w' := by
  have HB := Lib.hid h
  have hl := h.look id hi
  have hF := BkM.find_b M id
  obtain ⟨q, q'⟩ := h.blk.cells
  cases hf : M.find id with
  | none =>
    rw [hf] at hF
    have hR := Lib.hid (show M.b.lines id = [] by unfold Bk.lines; rw [hF]; rfl)
    have hp0 : M.ptr id = .pointer none := by unfold BkM.ptr; rw [hf]
    rw [hp0] at hl
    clear hF hf hp0 h
    go_enter Tryd.func13, Tryd.ntmps13
    go_wp2_with fail
    refine (none_any HB.out).mono ?_
    rintro e w' ⟨rfl, rfl⟩
    go_wp2_with fail
    go_ret
    exact ⟨none, 0, by rw [hR.out]; rfl, by rw [hR.out]; exact World.ownsRow_nil _ _ _ _, Ext.refl _⟩
  | some p =>
    rw [hf] at hF
    have hR := Lib.hid (show M.b.lines id = p.1.lines by unfold Bk.lines; rw [hF]; rfl)
    have hp0 : M.ptr id = .pointer (some ⟨p.2.g, 0, none⟩) := by unfold BkM.ptr; rw [hf]
    rw [hp0] at hl
    obtain ⟨Aa, At, Al, Ab, ca, ct, cl, cb, O⟩ := (h.all p (BkM.find_mem hf).1).open_
    obtain ⟨k, k'⟩ := O.blk.cells
    have hrl := Lib.hid O.rl
    have hlm : p.1.lines.length ≤ 1000000 := by rw [← hR.out]; exact hm
    clear hF hf hp0 h O hm
    go_enter Tryd.func13, Tryd.ntmps13
    go_wp2_with fail
    refine (none_any HB.out).mono ?_
    rintro e w' ⟨rfl, rfl⟩
    go_wp2_with fail
    refine (cloneTax_any p.1.lines p.1.lines.length Al cl _ rfl hrl.out hlm).mono ?_
    rintro e w' ⟨A', c', rfl, ho, hx⟩
    go_wp2_with fail
    go_ret
    exact ⟨A', c', by rw [hR.out]; rfl, by rw [hR.out]; exact ho, hx⟩

end Go.Proofs.YtokakpbpenndlaaDoor

set_option linter.unusedVariables false
namespace Go.Proofs.YtokakpbpenndlaaDoor
open Go.RowKit Go.Maps

/-- An entry as a value. -/
abbrev entV (e : Ent) (Aa At : Option Addr) (ca ct : Nat) : Value := .agg #[.int .i64 e.k, .int .i64 e.id, .int .i64 e.of_, .int .i64 e.day, .slice Aa e.am.length ca, .slice At e.tax.length ct]
/-- The memory behind it. -/
structure EntR (W : World) (e : Ent) (Aa At : Option Addr) : Prop where
  ra : Reads W W.heap.size 1 Aa e.am.length (iV e.am)
  rt : Reads W W.heap.size 6 At e.tax.length (txCells e.tax)
  la : e.am.length ≤ maxLen
  lt : e.tax.length ≤ maxLen
theorem EntR.ext {W W' : World} {e : Ent} {Aa At : Option Addr} (h : EntR W e Aa At) (hx : Ext W W') : EntR W' e Aa At := ⟨h.ra.ext hx, h.rt.ext hx, h.la, h.lt⟩

set_option maxRecDepth 100000 in
set_option maxHeartbeats 1000000 in
theorem voidFine_any (e : Ent) (Aa At : Option Addr) (ca ct : Nat) (w : World) (h : EntR w e Aa At) :
    Calls Tryd.prog 113 #[entV e Aa At ca ct] w fun r w' => r = .returned (.bool e.voidFine) ∧ Ext w w' := by
  have la := h.la
  have lt := h.lt
  unfold maxLen at la lt
  have hs : (RowKit.wrap64 ((e.am.length : Int) + (e.tax.length : Int)) = 0) = (e.am.length + e.tax.length = 0) := by unfold RowKit.wrap64; apply propext; omega
  obtain ⟨r0, hr0⟩ : ∃ r0, e.voidFine = r0 := ⟨_, rfl⟩
  rw [hr0]
  unfold Ent.voidFine at hr0
  clear h
  by_cases d1 : e.of_ = 0 <;> by_cases d2 : e.day = 0 <;> by_cases d3 : e.am.length + e.tax.length = 0
  all_goals
    simp only [ne_eq, d1, d2, d3, not_true, not_false_eq_true, decide_true, decide_false, Bool.and_true, Bool.and_false] at hr0
    subst hr0
    go_enter Tryd.func113, Tryd.ntmps113
    go_wp2
    try go_ret
    first | exact ⟨rfl, (Ext.refl _).alloc _⟩ | exact ⟨ret_bool (by rw [Bool.eq_iff_iff]; simp only [Bool.and_eq_true, bne_iff_ne, ne_eq, beq_iff_eq, hs, Bool.false_eq_true, eq_self, iff_true, iff_false, not_and]; omega), (Ext.refl _).alloc _⟩

/-- Where the search for an amount stands. -/
def AnyRel (w : World) (l : List Int) (i b : Value) (wr : World) : Prop := ∃ k : Nat, k ≤ l.length ∧ i = .int .i64 (k : Int) ∧ b = .bool ((l.take k).any fun n => decide (n ≠ 0)) ∧ Ext w wr
theorem AnyRel.next {w w1 : World} {l : List Int} {k m : Nat} {v : Value} (hk : k < l.length) (hx : Ext w w1) (hv : v = .bool (((l.take k).any fun n => decide (n ≠ 0)) || (l[k] != 0))) (e : m = k + 1) : AnyRel w l (.int .i64 (m : Int)) v w1 := by
  subst e
  refine ⟨k + 1, by omega, rfl, ?_, hx⟩
  rw [hv, List.take_succ_eq_append_getElem hk, List.any_append, show (l[k] != 0) = decide (l[k] ≠ 0) by rw [Bool.eq_iff_iff]; simp]
  rw [List.any_cons, List.any_nil, Bool.or_false]
set_option maxRecDepth 100000 in
set_option maxHeartbeats 1000000 in
theorem refundFine_any (e : Ent) (Aa At : Option Addr) (ca ct : Nat) (w : World) (h : EntR w e Aa At) :
    Calls Tryd.prog 112 #[entV e Aa At ca ct] w fun r w' => r = .returned (.bool e.refundFine) ∧ Ext w w' := by
  have la := h.la
  have lt := h.lt
  have hr := h.ra
  unfold maxLen at la lt
  have HR := Lib.hid (show e.refundFine = (decide (e.of_ ≠ 0) && win (e.am.length : Int) 1 100 && (e.am.any fun n => decide (n ≠ 0)) && decide ((e.tax.length : Int) = 0)) by
    have q1 : win (e.am.length : Int) 1 100 = manyI e.am.length := by unfold win manyI; congr 1 <;> (rw [decide_eq_decide]; omega)
    have q2 : decide ((e.tax.length : Int) = 0) = decide (e.tax.length = 0) := by rw [decide_eq_decide]; omega
    rw [q1, q2]; rfl)
  have B := Blk.new w 59 #[.int .i64 e.k, .int .i64 e.id, .int .i64 e.of_, .int .i64 e.day, .slice Aa e.am.length ca, .slice At e.tax.length ct]
  have X0 := (Ext.refl w).alloc (.cells #[.int .i64 e.k, .int .i64 e.id, .int .i64 e.of_, .int .i64 e.day, .slice Aa e.am.length ca, .slice At e.tax.length ct] 59)
  have hr := hr.ext X0
  clear h
  go_enter Tryd.func112, Tryd.ntmps112
  go_wp2_with fail
  generalize w.alloc (.cells #[.int .i64 e.k, .int .i64 e.id, .int .i64 e.of_, .int .i64 e.day, .slice Aa e.am.length ca, .slice At e.tax.length ct] 59) = W0 at B X0 hr ⊢
  generalize w.heap.size = g0 at B ⊢
  have HB := Lib.hid (fun W (h : Ext W0 W) => B.ext h)
  clear B
  go_loopw [10, 3] (fun i b wr => AnyRel W0 e.am i b wr) (fun i _ _ => e.am.length - (intOf i).toNat)
  case atStart => exact ⟨0, by omega, rfl, by simp, Ext.refl _⟩
  case round =>
    obtain ⟨k, hk, rfl, rfl, hx⟩ := hrel
    by_cases hlt : k < e.am.length
    · have hd : decide ((k : Int) < (e.am.length : Int)) = true := by simp; omega
      obtain ⟨g, off, rfl, hg, c1⟩ := reads_int (hr.extB (Nat.le_refl _) hx) hlt rfl
      have HN := Lib.hid (fun v => AnyRel.next (v := v) (m := k + 1) hlt hx)
      generalize ((e.am.take k).any fun n => decide (n ≠ 0)) = d at *
      clear hr HB
      generalize e.am[k] = x at *
      rcases d with _ | _
      all_goals
        go_wp2_with fail
        go_roundw
        case rel => exact HN.out _ (by rfl) (by simp)
        case measure => simp [intOf]; omega
    · have hd : decide ((k : Int) < (e.am.length : Int)) = false := by simp; omega
      have hk' : k = e.am.length := by omega
      subst hk'
      rw [List.take_length]
      obtain ⟨q, q'⟩ := (HB.out _ hx).cells
      have X1 := X0.trans hx
      generalize (e.am.any fun n => decide (n ≠ 0)) = d at *
      clear hr HB hx
      have HR1 := HR.out
      clear HR
      by_cases d1 : e.of_ = 0
      · simp only [ne_eq, d1, not_true, decide_false, Bool.false_and] at HR1
        replace HR1 := Lib.hid HR1
        go_wp2_with fail
        go_ret
        exact ⟨by rw [HR1.out]; rfl, X1⟩
      · cases d2 : win (e.am.length : Int) 1 100 <;> rcases d with _ | _ <;> by_cases d3 : (e.tax.length : Int) = 0
        all_goals
          simp only [ne_eq, d1, d2, d3, not_false_eq_true, decide_true, decide_false, Bool.and_true, Bool.and_false] at HR1
          replace HR1 := Lib.hid HR1
          replace d2 := Lib.hid d2
          go_wp2_with fail
          refine (many_any e.am.length Aa ca _ (by omega)).mono ?_
          rintro r w' ⟨rfl, rfl⟩
          rw [d2.out]
          go_wp2_with fail
          go_ret
          exact ⟨by rw [HR1.out]; first | rfl | exact ret_bool (by simpa using d1) | exact ret_bool (by rw [Bool.eq_iff_iff]; simp only [Bool.and_eq_true, bne_iff_ne, ne_eq, beq_iff_eq, Bool.false_eq_true, iff_false, not_and]; omega), X1⟩
end Go.Proofs.YtokakpbpenndlaaDoor

set_option linter.unusedVariables false
namespace Go.Proofs.YtokakpbpenndlaaDoor
open Go.RowKit Go.ChangeShapes Go.WideShapes Go.Deep

/-- An entry, and where its slices lie. -/
structure EV where
  e : Ent
  A : Option Addr
  A' : Option Addr
  c : Nat
  c' : Nat
def EV.cl (x : EV) : List Value := [.int .i64 x.e.k, .int .i64 x.e.id, .int .i64 x.e.of_, .int .i64 x.e.day, .slice x.A x.e.am.length x.c, .slice x.A' x.e.tax.length x.c']
theorem EV.cl_len (x : EV) : x.cl.length = 6 := rfl
def evCells (l : List EV) : List Value := l.flatMap EV.cl
structure EV.ok (W : World) (x : EV) : Prop where
  r : EntR W x.e x.A x.A'
  c1 : x.e.am.length ≤ x.c ∧ x.c ≤ maxLen
  c2 : x.e.tax.length ≤ x.c' ∧ x.c' ≤ maxLen
  ik : i64 x.e.k ∧ i64 x.e.id ∧ i64 x.e.of_ ∧ i64 x.e.day
  ia : ∀ n ∈ x.e.am, i64 n
  it : ∀ y ∈ x.e.tax, y.i64
theorem EV.ok.ext {W W' : World} {x : EV} (h : x.ok W) (hx : Ext W W') : x.ok W' := ⟨h.r.ext hx, h.c1, h.c2, h.ik, h.ia, h.it⟩
theorem opens_entry : Opens Tryd.prog 30 (fun w cs => ∃ x : EV, cs = x.cl ∧ x.ok w) :=
  (opens_fields Tryd.underlying30 (.cons 1 opens_i (by kernel_rfl) (.cons 1 opens_i (by kernel_rfl) (.cons 1 opens_i (by kernel_rfl) (.cons 1 opens_i (by kernel_rfl) (.cons 1 opens_ints (by kernel_rfl) (.cons 1 opens_taxs (by kernel_rfl) .nil)))))) (by kernel_rfl)).mono fun w cs h => by
    obtain ⟨_, _, rfl, _, ⟨a, rfl, h1⟩, _, _, rfl, _, ⟨b, rfl, h2⟩, _, _, rfl, _, ⟨c, rfl, h3⟩, _, _, rfl, _, ⟨d, rfl, h4⟩, _, _, rfl, _, ⟨A, ca, l, rfl, l1, l2, l3, l4⟩, _, _, rfl, _, ⟨B, cb, m, rfl, m1, m2, m3, m4⟩, rfl⟩ := h
    exact ⟨⟨⟨a, b, c, d, l, m⟩, A, B, ca, cb⟩, rfl, ⟨⟨l4, m4, Nat.le_trans l1 l2, Nat.le_trans m1 m2⟩, ⟨l1, l2⟩, ⟨m1, m2⟩, ⟨h1, h2, h3, h4⟩, l3, m3⟩⟩
theorem evCells_at (l : List EV) (k : Nat) (h : k < l.length) : (evCells l)[k * 6]? = some (.int .i64 l[k].e.k) ∧ (evCells l)[k * 6 + 1]? = some (.int .i64 l[k].e.id) ∧ (evCells l)[k * 6 + 2]? = some (.int .i64 l[k].e.of_) ∧
    (evCells l)[k * 6 + 3]? = some (.int .i64 l[k].e.day) ∧ (evCells l)[k * 6 + 4]? = some (.slice l[k].A l[k].e.am.length l[k].c) ∧ (evCells l)[k * 6 + 5]? = some (.slice l[k].A' l[k].e.tax.length l[k].c') :=
  ⟨flat_get EV.cl_len l k 0 h (by decide), flat_get EV.cl_len l k 1 h (by decide), flat_get EV.cl_len l k 2 h (by decide), flat_get EV.cl_len l k 3 h (by decide), flat_get EV.cl_len l k 4 h (by decide), flat_get EV.cl_len l k 5 h (by decide)⟩
end Go.Proofs.YtokakpbpenndlaaDoor

set_option linter.unusedVariables false
namespace Go.Proofs.YtokakpbpenndlaaDoor
open Go.RowKit Go.Maps

theorem Blk.twoE (w : World) (t t' : TypeId) (cs cs' : Array Value) : Blk ((w.alloc (.cells cs t)).alloc (.cells cs' t')) (w.heap.size + 1) t' cs' := by
  have := Blk.new (w.alloc (.cells cs t)) t' cs'
  simpa using this
/-- Not too large: at most so many entries, of at most 20 amounts and 60 tax lines. -/
def Fit (l : List EV) (most : Nat) : Prop := l.length ≤ most ∧ ∀ x ∈ l, x.e.am.length ≤ 20 ∧ x.e.tax.length ≤ 60
def BigRel (w : World) (l : List EV) (most : Nat) (i : Value) (wr : World) : Prop := ∃ k : Nat, k ≤ l.length ∧ k ≤ most + 1 ∧ i = .int .i64 (k : Int) ∧ (∀ x ∈ l.take k, x.e.am.length ≤ 20 ∧ x.e.tax.length ≤ 60) ∧ w = wr
def BigOut (l : List EV) (most : Nat) (w : World) (r : Ending) (w' : World) : Prop := ∃ b, r = .returned (.bool b) ∧ (b = false → Fit l most) ∧ w = w'
end Go.Proofs.YtokakpbpenndlaaDoor
