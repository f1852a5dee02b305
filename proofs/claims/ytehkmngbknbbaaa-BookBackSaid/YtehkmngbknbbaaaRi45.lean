/-
  Arguments opened: numbers, tax lines.
-/
import Derived.Test.YtehkmngbknbbaaaRi44
import Derived.Test.YtehkmngbknbbaaaRi15
import Derived.Test.YtehkmngbknbbaaaRi09
import Derived.Test.YtehkmngbknbbaaaRi32
import Derived.Test.YtehkmngbknbbaaaRi22
set_option linter.unusedVariables false
namespace Go.Proofs.Ytehkmngbknbbaaa
open Go.RowKit Go.ChangeShapes Go.WideShapes Go.Deep

theorem opens_i : Opens Try.prog 3 (fun _ cs => ∃ n : Int, cs = [.int .i64 n] ∧ i64 n) :=
  (opens_int Try.underlying3).mono fun _ cs ⟨n, h, hw⟩ => ⟨n, h, by
    simp [Lit.wf, IntKind.min, IntKind.max, IntKind.signed, IntKind.bits] at hw
    exact hw⟩
theorem opens_u8 : Opens Try.prog 5 (fun _ cs => ∃ b : UInt8, cs = [.int .u8 (b.toNat : Int)]) :=
  (opens_int Try.underlying5).mono fun _ cs ⟨n, h, hw⟩ => by
    simp [Lit.wf, IntKind.min, IntKind.max, IntKind.signed, IntKind.bits] at hw
    refine ⟨UInt8.ofNat n.toNat, ?_⟩
    rw [h]
    have : (UInt8.ofNat n.toNat).toNat = n.toNat := by rw [UInt8.toNat_ofNat']; omega
    rw [this]
    have : ((n.toNat : Nat) : Int) = n := by omega
    rw [this]
theorem bV_flat (l : List UInt8) : l.flatMap (fun b => [Value.int .u8 (b.toNat : Int)]) = bV l := by
  unfold bV
  induction l with
  | nil => rfl
  | cons a l ih => rw [List.flatMap_cons, ih]; rfl
theorem opens_bytes : Opens Try.prog 27 (fun w cs => ∃ (A : Option Addr) (cap : Nat) (l : List UInt8), cs = [.slice A l.length cap] ∧ l.length ≤ cap ∧ cap ≤ maxLen ∧ Reads w w.heap.size 1 A l.length (bV l)) :=
  (opens_slice 1 Try.underlying27 (by kernel_rfl) (by decide) opens_u8).mono fun w cs h => by
    obtain ⟨A, cap, l, h1, h2, h3, _, h4⟩ := SliceOf.list (code := fun b : UInt8 => [Value.int .u8 (b.toNat : Int)]) (p := fun _ => True) h (fun x ⟨b, hb⟩ => ⟨b, hb, trivial⟩)
    exact ⟨A, cap, l, h1, h2, h3, by rw [bV_flat] at h4; exact h4⟩
theorem opens_point : Opens Try.prog 23 (fun _ cs => ∃ x y : Int, cs = [.int .i64 x, .int .i64 y] ∧ i64 x ∧ i64 y) :=
  (opens_fields Try.underlying23 (.cons 1 opens_i (by kernel_rfl) (.cons 1 opens_i (by kernel_rfl) .nil)) (by kernel_rfl)).mono fun w cs h => by
    obtain ⟨_, _, rfl, _, ⟨x, rfl, hx⟩, _, _, rfl, _, ⟨y, rfl, hy⟩, rfl⟩ := h
    exact ⟨x, y, rfl, hx, hy⟩
theorem opens_line : Opens Try.prog 110 (fun _ cs => ∃ l : Ln, cs = l.cells ∧ (i64 l.c ∧ i64 l.a)) :=
  (opens_fields Try.underlying110 (.cons 1 opens_i (by kernel_rfl) (.cons 1 opens_i (by kernel_rfl) .nil)) (by kernel_rfl)).mono fun w cs h => by
    obtain ⟨_, _, rfl, _, ⟨x, rfl, hx⟩, _, _, rfl, _, ⟨y, rfl, hy⟩, rfl⟩ := h
    exact ⟨⟨x, y⟩, rfl, hx, hy⟩
theorem opens_lines : Opens Try.prog 24 (fun w cs => ∃ (A : Option Addr) (cap : Nat) (l : List Ln), cs = [.slice A l.length cap] ∧ l.length ≤ cap ∧ cap ≤ maxLen ∧ (∀ x ∈ l, i64 x.c ∧ i64 x.a) ∧ Reads w w.heap.size 2 A l.length (lnCells l)) :=
  (opens_slice 2 Try.underlying24 (by kernel_rfl) (by decide) opens_line).mono fun w cs h =>
    SliceOf.list (code := Ln.cells) (p := fun l => i64 l.c ∧ i64 l.a) h (fun x ⟨l, hl, hp⟩ => ⟨l, hl, hp⟩)
theorem opens_order : Opens Try.prog 26 (fun w cs => ∃ (o : Ord) (A : Option Addr) (cap : Nat), cs = [.int .i64 o.cu, .int .i64 o.day, .int .i64 o.px, .int .i64 o.py, .slice A o.ls.length cap] ∧ Reads w w.heap.size 2 A o.ls.length (lnCells o.ls) ∧ o.ls.length ≤ cap ∧ cap ≤ maxLen) :=
  (opens_fields Try.underlying26 (.cons 1 opens_i (by kernel_rfl) (.cons 1 opens_i (by kernel_rfl) (.cons 2 opens_point (by kernel_rfl) (.cons 1 opens_lines (by kernel_rfl) .nil)))) (by kernel_rfl)).mono fun w cs h => by
    obtain ⟨_, _, rfl, _, ⟨cu, rfl, _⟩, _, _, rfl, _, ⟨day, rfl, _⟩, _, _, rfl, _, ⟨px, py, rfl, _⟩, _, _, rfl, _, ⟨A, cap, l, rfl, h1, h2, _, h3⟩, rfl⟩ := h
    exact ⟨⟨cu, day, px, py, l⟩, A, cap, rfl, h3, h1, h2⟩
end Go.Proofs.Ytehkmngbknbbaaa

namespace Go.Proofs.Ytehkmngbknbbaaa
open Go.RowKit Go.ChangeShapes Go.WideShapes Go.Deep

theorem iV_flat (l : List Int) : l.flatMap (fun n => [Value.int .i64 n]) = iV l := by
  unfold iV
  induction l with
  | nil => rfl
  | cons a l ih => rw [List.flatMap_cons, ih]; rfl
theorem opens_ints : Opens Try.prog 47 (fun w cs => ∃ (A : Option Addr) (cap : Nat) (l : List Int), cs = [.slice A l.length cap] ∧ l.length ≤ cap ∧ cap ≤ maxLen ∧ (∀ n ∈ l, i64 n) ∧ Reads w w.heap.size 1 A l.length (iV l)) :=
  (opens_slice 1 Try.underlying47 (by kernel_rfl) (by decide) opens_i).mono fun w cs h => by
    obtain ⟨A, cap, l, h1, h2, h3, hp, h4⟩ := SliceOf.list (code := fun n : Int => [Value.int .i64 n]) (p := i64) h (fun x ⟨b, hb, hi⟩ => ⟨b, hb, hi⟩)
    exact ⟨A, cap, l, h1, h2, h3, hp, by rw [iV_flat] at h4; exact h4⟩
def Tx.i64 (x : Tx) : Prop := Go.Proofs.Ytehkmngbknbbaaa.i64 x.l ∧ Go.Proofs.Ytehkmngbknbbaaa.i64 x.j ∧ Go.Proofs.Ytehkmngbknbbaaa.i64 x.t ∧ Go.Proofs.Ytehkmngbknbbaaa.i64 x.x ∧ Go.Proofs.Ytehkmngbknbbaaa.i64 x.r ∧ Go.Proofs.Ytehkmngbknbbaaa.i64 x.v
theorem opens_tax : Opens Try.prog 46 (fun _ cs => ∃ x : Tx, cs = x.cl ∧ x.i64) :=
  (opens_fields Try.underlying46 (.cons 1 opens_i (by kernel_rfl) (.cons 1 opens_i (by kernel_rfl) (.cons 1 opens_i (by kernel_rfl) (.cons 1 opens_i (by kernel_rfl) (.cons 1 opens_i (by kernel_rfl) (.cons 1 opens_i (by kernel_rfl) .nil)))))) (by kernel_rfl)).mono fun w cs h => by
    obtain ⟨_, _, rfl, _, ⟨a, rfl, h1⟩, _, _, rfl, _, ⟨b, rfl, h2⟩, _, _, rfl, _, ⟨c, rfl, h3⟩, _, _, rfl, _, ⟨d, rfl, h4⟩, _, _, rfl, _, ⟨e, rfl, h5⟩, _, _, rfl, _, ⟨f, rfl, h6⟩, rfl⟩ := h
    exact ⟨⟨a, b, c, d, e, f⟩, rfl, h1, h2, h3, h4, h5, h6⟩
theorem opens_taxs : Opens Try.prog 49 (fun w cs => ∃ (A : Option Addr) (cap : Nat) (l : List Tx), cs = [.slice A l.length cap] ∧ l.length ≤ cap ∧ cap ≤ maxLen ∧ (∀ x ∈ l, x.i64) ∧ Reads w w.heap.size 6 A l.length (txCells l)) :=
  (opens_slice 6 Try.underlying49 (by kernel_rfl) (by decide) opens_tax).mono fun w cs h =>
    SliceOf.list (code := Tx.cl) (p := Tx.i64) h (fun x ⟨l, hl, hp⟩ => ⟨l, hl, hp⟩)
end Go.Proofs.Ytehkmngbknbbaaa

set_option linter.unusedVariables false
namespace Go.Proofs.Ytehkmngbknbbaaa
open Go.RowKit Go.ChangeShapes Go.WideShapes Go.Deep

/-- An entry, and where its slices lie. -/
structure EV where
  e : Ent
  A : Option Addr
  A' : Option Addr
  c : Nat
  c' : Nat
def EV.cl (x : EV) : List Value := [.int .i64 x.e.k, .int .i64 x.e.id, .int .i64 x.e.of_, .int .i64 x.e.day, .slice x.A x.e.am.length x.c, .slice x.A' x.e.tax.length x.c']
theorem EV.cl_len (x : EV) : x.cl.length = 6 := rfl
def evCells (l : List EV) : List Value := l.flatMap EV.cl
structure EV.ok (W : World) (x : EV) : Prop where
  r : EntR W x.e x.A x.A'
  c1 : x.e.am.length ≤ x.c ∧ x.c ≤ maxLen
  c2 : x.e.tax.length ≤ x.c' ∧ x.c' ≤ maxLen
  ik : i64 x.e.k ∧ i64 x.e.id ∧ i64 x.e.of_ ∧ i64 x.e.day
  ia : ∀ n ∈ x.e.am, i64 n
  it : ∀ y ∈ x.e.tax, y.i64
theorem EV.ok.ext {W W' : World} {x : EV} (h : x.ok W) (hx : Ext W W') : x.ok W' := ⟨h.r.ext hx, h.c1, h.c2, h.ik, h.ia, h.it⟩
theorem opens_entry : Opens Try.prog 66 (fun w cs => ∃ x : EV, cs = x.cl ∧ x.ok w) :=
  (opens_fields Try.underlying66 (.cons 1 opens_i (by kernel_rfl) (.cons 1 opens_i (by kernel_rfl) (.cons 1 opens_i (by kernel_rfl) (.cons 1 opens_i (by kernel_rfl) (.cons 1 opens_ints (by kernel_rfl) (.cons 1 opens_taxs (by kernel_rfl) .nil)))))) (by kernel_rfl)).mono fun w cs h => by
    obtain ⟨_, _, rfl, _, ⟨a, rfl, h1⟩, _, _, rfl, _, ⟨b, rfl, h2⟩, _, _, rfl, _, ⟨c, rfl, h3⟩, _, _, rfl, _, ⟨d, rfl, h4⟩, _, _, rfl, _, ⟨A, ca, l, rfl, l1, l2, l3, l4⟩, _, _, rfl, _, ⟨B, cb, m, rfl, m1, m2, m3, m4⟩, rfl⟩ := h
    exact ⟨⟨⟨a, b, c, d, l, m⟩, A, B, ca, cb⟩, rfl, ⟨⟨l4, m4, Nat.le_trans l1 l2, Nat.le_trans m1 m2⟩, ⟨l1, l2⟩, ⟨m1, m2⟩, ⟨h1, h2, h3, h4⟩, l3, m3⟩⟩
theorem opens_entries : Opens Try.prog 82 (fun w cs => ∃ (A : Option Addr) (cap : Nat) (l : List EV), cs = [.slice A l.length cap] ∧ l.length ≤ cap ∧ cap ≤ maxLen ∧ (∀ x ∈ l, x.ok w) ∧ Reads w w.heap.size 6 A l.length (evCells l)) :=
  (opens_slice 6 Try.underlying82 (by kernel_rfl) (by decide) opens_entry).mono fun w cs h =>
    SliceOf.list (code := EV.cl) (p := fun x => x.ok w) h (fun x ⟨l, hl, hp⟩ => ⟨l, hl, hp⟩)
theorem evCells_at (l : List EV) (k : Nat) (h : k < l.length) : (evCells l)[k * 6]? = some (.int .i64 l[k].e.k) ∧ (evCells l)[k * 6 + 1]? = some (.int .i64 l[k].e.id) ∧ (evCells l)[k * 6 + 2]? = some (.int .i64 l[k].e.of_) ∧
    (evCells l)[k * 6 + 3]? = some (.int .i64 l[k].e.day) ∧ (evCells l)[k * 6 + 4]? = some (.slice l[k].A l[k].e.am.length l[k].c) ∧ (evCells l)[k * 6 + 5]? = some (.slice l[k].A' l[k].e.tax.length l[k].c') :=
  ⟨flat_get EV.cl_len l k 0 h (by decide), flat_get EV.cl_len l k 1 h (by decide), flat_get EV.cl_len l k 2 h (by decide), flat_get EV.cl_len l k 3 h (by decide), flat_get EV.cl_len l k 4 h (by decide), flat_get EV.cl_len l k 5 h (by decide)⟩
end Go.Proofs.Ytehkmngbknbbaaa

set_option linter.unusedVariables false
namespace Go.Proofs.Ytehkmngbknbbaaa
open Go.RowKit Go.Maps

theorem Blk.twoE (w : World) (t t' : TypeId) (cs cs' : Array Value) : Blk ((w.alloc (.cells cs t)).alloc (.cells cs' t')) (w.heap.size + 1) t' cs' := by
  have := Blk.new (w.alloc (.cells cs t)) t' cs'
  simpa using this
set_option maxRecDepth 100000 in
set_option maxHeartbeats 8000000 in
theorem sameEntry_any (a b : Ent) (A A' B B' : Option Addr) (ca ca' cb cb' : Nat) (w : World) (ha : EntR w a A A') (hb : EntR w b B B') :
    Calls Try.prog 54 #[entV a A A' ca ca', entV b B B' cb cb'] w fun r w' => r = .returned (.bool (decide (a = b))) ∧ Ext w w' := by
  have X := ((Ext.refl w).alloc (.cells #[.int .i64 a.k, .int .i64 a.id, .int .i64 a.of_, .int .i64 a.day, .slice A a.am.length ca, .slice A' a.tax.length ca'] 66)).alloc (.cells #[.int .i64 b.k, .int .i64 b.id, .int .i64 b.of_, .int .i64 b.day, .slice B b.am.length cb, .slice B' b.tax.length cb'] 66)
  have B1 := (Blk.new w 66 #[.int .i64 a.k, .int .i64 a.id, .int .i64 a.of_, .int .i64 a.day, .slice A a.am.length ca, .slice A' a.tax.length ca']).alloc (.cells #[.int .i64 b.k, .int .i64 b.id, .int .i64 b.of_, .int .i64 b.day, .slice B b.am.length cb, .slice B' b.tax.length cb'] 66)
  have B2 : Blk _ (w.heap.size + 1) _ _ := Blk.twoE w 66 66 #[.int .i64 a.k, .int .i64 a.id, .int .i64 a.of_, .int .i64 a.day, .slice A a.am.length ca, .slice A' a.tax.length ca'] #[.int .i64 b.k, .int .i64 b.id, .int .i64 b.of_, .int .i64 b.day, .slice B b.am.length cb, .slice B' b.tax.length cb']
  have HA := Lib.hid (ha.ext X)
  have HB := Lib.hid (hb.ext X)
  have HX := Lib.hid X
  have HB1 := Lib.hid B1
  have HB2 := Lib.hid B2
  have HE := Lib.hid (show ∀ x y : Ent, x = y ↔ x.k = y.k ∧ x.id = y.id ∧ x.of_ = y.of_ ∧ x.day = y.day ∧ x.am = y.am ∧ x.tax = y.tax from fun x y => by
    obtain ⟨_, _, _, _, _, _⟩ := x
    obtain ⟨_, _, _, _, _, _⟩ := y
    simp)
  clear ha hb X B1 B2
  have hF : ∀ {r : Bool}, (r = true ↔ a = b) → decide (a = b) = r := fun h => by
    rw [Bool.eq_iff_iff, h]; simp
  by_cases h1 : a.k = b.k
  case neg =>
    have hR := Lib.hid (hF (r := false) (by rw [HE.out]; simp [h1]))
    have q1 : (a.k == b.k) = false := by simpa using h1
    clear h1 hF
    go_enter Try.func54, Try.ntmps54
    go_wp2_with fail
    go_ret
    exact ⟨by rw [hR.out]; rfl, HX.out⟩
  have q1 : (a.k == b.k) = true := by simpa using h1
  by_cases h2 : a.id = b.id
  case neg =>
    have hR := Lib.hid (hF (r := false) (by rw [HE.out]; simp [h2]))
    have q2 : (a.id == b.id) = false := by simpa using h2
    clear h2 h1 hF
    go_enter Try.func54, Try.ntmps54
    go_wp2_with fail
    go_ret
    exact ⟨by rw [hR.out]; rfl, HX.out⟩
  have q2 : (a.id == b.id) = true := by simpa using h2
  by_cases h3 : a.of_ = b.of_
  case neg =>
    have hR := Lib.hid (hF (r := false) (by rw [HE.out]; simp [h3]))
    have q3 : (a.of_ == b.of_) = false := by simpa using h3
    clear h3 h2 h1 hF
    go_enter Try.func54, Try.ntmps54
    go_wp2_with fail
    go_ret
    exact ⟨by rw [hR.out]; rfl, HX.out⟩
  have q3 : (a.of_ == b.of_) = true := by simpa using h3
  by_cases h4 : a.day = b.day
  case neg =>
    have hR := Lib.hid (hF (r := false) (by rw [HE.out]; simp [h4]))
    have q4 : (a.day == b.day) = false := by simpa using h4
    clear h4 h3 h2 h1 hF
    go_enter Try.func54, Try.ntmps54
    go_wp2_with fail
    go_ret
    exact ⟨by rw [hR.out]; rfl, HX.out⟩
  have q4 : (a.day == b.day) = true := by simpa using h4
  have hG := Lib.hid (fun (r : Bool) (h : r = (decide (a.am = b.am) && decide (a.tax = b.tax))) => hF (r := r) (by rw [HE.out, h]; simp [h1, h2, h3, h4]))
  clear h1 h2 h3 h4 hF
  go_enter Try.func54, Try.ntmps54
  go_wp2_with fail
  refine (sameInts_any a.am b.am A B a.am.length b.am.length ca cb _ rfl rfl HA.out.ra HB.out.ra HA.out.la HB.out.la).mono ?_
  rintro r w1 ⟨rfl, hx1⟩
  obtain ⟨k1, k1'⟩ := (HB1.out.ext hx1).cells
  obtain ⟨k2, k2'⟩ := (HB2.out.ext hx1).cells
  have hG1 := hG.out
  cases hd : decide (a.am = b.am)
  · have hR := Lib.hid (hG1 false (by rw [hd]; rfl))
    clear hG1 hG
    go_wp2_with fail
    go_ret
    exact ⟨by rw [hR.out]; rfl, HX.out.trans hx1⟩
  · have hR := Lib.hid (hG1 (decide (a.tax = b.tax)) (by rw [hd]; simp))
    clear hG1 hG
    go_wp2_with fail
    refine (sameTax_any a.tax b.tax A' B' a.tax.length b.tax.length ca' cb' _ rfl rfl (HA.out.ext hx1).rt (HB.out.ext hx1).rt HA.out.lt HB.out.lt).mono ?_
    rintro r w2 ⟨rfl, hx2⟩
    replace hd := Lib.hid hd
    generalize decide (a.tax = b.tax) = d at *
    go_wp2_with fail
    go_ret
    exact ⟨by rw [hR.out]; rfl, HX.out.trans (hx1.trans hx2)⟩

/-- Not too large: at most so many entries, of at most 20 amounts and 60 tax lines. -/
def Fit (l : List EV) (most : Nat) : Prop := l.length ≤ most ∧ ∀ x ∈ l, x.e.am.length ≤ 20 ∧ x.e.tax.length ≤ 60
def BigRel (w : World) (l : List EV) (most : Nat) (i : Value) (wr : World) : Prop := ∃ k : Nat, k ≤ l.length ∧ k ≤ most + 1 ∧ i = .int .i64 (k : Int) ∧ (∀ x ∈ l.take k, x.e.am.length ≤ 20 ∧ x.e.tax.length ≤ 60) ∧ w = wr
def BigOut (l : List EV) (most : Nat) (w : World) (r : Ending) (w' : World) : Prop := ∃ b, r = .returned (.bool b) ∧ (b = false → Fit l most) ∧ w = w'
set_option maxRecDepth 100000 in
set_option maxHeartbeats 4000000 in
theorem big_any (l : List EV) (A : Option Addr) (cap : Nat) (most : Nat) (w : World) (hr : Reads w w.heap.size 6 A l.length (evCells l)) (hm : l.length ≤ maxLen) (hmo : most ≤ 1000) :
    Calls Try.prog 51 #[.slice A l.length cap, .int .i64 (most : Int)] w (BigOut l most w) := by
  unfold maxLen at hm
  go_enter Try.func51, Try.ntmps51
  go_wp2_with fail
  go_loopw [5] (fun i wr => BigRel w l most i wr) (fun i _ => l.length - (intOf i).toNat)
  case atStart => exact ⟨0, by omega, by omega, rfl, by simp, rfl⟩
  case round =>
    obtain ⟨k, hk, hkm, rfl, hP, rfl⟩ := hrel
    replace hP := Lib.hid hP
    by_cases hlt : k < l.length
    · have hd : decide ((k : Int) < (l.length : Int)) = true := by simp; omega
      by_cases hlm : k ≤ most
      · have hd2 : decide ((k : Int) ≤ (most : Int)) = true := by simp; omega
        have hd3 : decide (k ≤ most) = true := by simp; omega
        obtain ⟨g, off, rfl, hg, hc⟩ := hr.cellAt hlt
        obtain ⟨e1, e2, e3, e4, e5, e6⟩ := evCells_at l k hlt
        have c5 : w.cell? ⟨g, off + k * 6 + 4, none⟩ = _ := hc _ _ e5
        have c6 : w.cell? ⟨g, off + k * 6 + 5, none⟩ = _ := hc _ _ e6
        have HN := Lib.hid (fun (h1 : l[k].e.am.length ≤ 20) (h2 : l[k].e.tax.length ≤ 60) => (show BigRel w l most (.int .i64 ((k + 1 : Nat) : Int)) w from ⟨k + 1, by omega, by omega, rfl, by
          intro x hx
          rw [List.take_succ_eq_append_getElem hlt] at hx
          rcases List.mem_append.1 hx with hx | hx
          · exact hP.out x hx
          · rw [List.mem_singleton.1 hx]; exact ⟨h1, h2⟩, rfl⟩))
        clear hc e1 e2 e3 e4 e5 e6 hr
        generalize l[k] = x at *
        by_cases b1 : 20 < x.e.am.length
        · have t1 : decide ((20 : Int) < (x.e.am.length : Int)) = true := by simp; omega
          clear HN
          go_wp2_with fail
          go_ret
          exact ⟨true, rfl, (fun h => by cases h), rfl⟩
        have t1 : decide ((20 : Int) < (x.e.am.length : Int)) = false := by simp; omega
        by_cases b2 : 60 < x.e.tax.length
        · have t2 : decide ((60 : Int) < (x.e.tax.length : Int)) = true := by simp; omega
          clear HN
          go_wp2_with fail
          go_ret
          exact ⟨true, rfl, (fun h => by cases h), rfl⟩
        have t2 : decide ((60 : Int) < (x.e.tax.length : Int)) = false := by simp; omega
        have HN2 := Lib.hid (HN.out (by omega) (by omega))
        clear HN
        go_wp2_with fail
        go_roundw
        case rel => exact HN2.out
        case measure => simp [intOf]; omega
      · have hd2 : decide ((k : Int) ≤ (most : Int)) = false := by simp; omega
        have hd3 : decide (k ≤ most) = false := by simp; omega
        have hd4 : decide ((most : Int) < (l.length : Int)) = true := by simp; omega
        have hd5 : decide (most < l.length) = true := by simp; omega
        go_wp2_with fail
        go_ret
        exact ⟨true, rfl, (fun h => by cases h), rfl⟩
    · have hd : decide ((k : Int) < (l.length : Int)) = false := by simp; omega
      have HA := Lib.hid (show ∀ x ∈ l, x.e.am.length ≤ 20 ∧ x.e.tax.length ≤ 60 from fun x hx => hP.out x (by rw [List.take_of_length_le (by omega)]; exact hx))
      by_cases hml : most < l.length
      · have hd4 : decide ((most : Int) < (l.length : Int)) = true := by simp; omega
        have hd5 : decide (most < l.length) = true := by simp; omega
        go_wp2_with fail
        go_ret
        exact ⟨true, rfl, (fun h => by cases h), rfl⟩
      · have hd4 : decide ((most : Int) < (l.length : Int)) = false := by simp; omega
        have hd5 : decide (most < l.length) = false := by simp; omega
        go_wp2_with fail
        go_ret
        exact ⟨false, rfl, fun _ => ⟨by omega, HA.out⟩, rfl⟩
end Go.Proofs.Ytehkmngbknbbaaa
