/-
  The statement RemitBack: the walk.
-/
import Derived.Test.YtokakpbpenndlaaGreatDoorRm40
import Derived.Test.YtokakpbpenndlaaGreatDoorRm41
import Derived.Test.YtokakpbpenndlaaGreatDoorRm45
import Derived.Test.YtokakpbpenndlaaGreatDoorRm05
import Derived.Deep.DeepCutAuto
import Derived.LaidEql
import Derived.Test.YtokakpbpenndlaaGreatDoorRm18
import Derived.Test.YtokakpbpenndlaaGreatDoorRm32
set_option linter.unusedVariables false
namespace Go.Proofs.YtokakpbpenndlaaGreatDoor
open Go.RowKit Go.Maps

theorem eql_rep (x y : Rep) (r : Bool) (h : r = decide (x = y)) (w : World) : (binOp .eql 23 x.V y.V).run Tryz.prog w = .ok (.bool r) w := by
  obtain ⟨a1, a2, a3, a4, a5, a6, a7, a8⟩ := x
  obtain ⟨b1, b2, b3, b4, b5, b6, b7, b8⟩ := y
  subst h
  by_cases h1 : a1 = b1
  case neg => simp [go_sem, h1]
  by_cases h2 : a2 = b2
  case neg => simp [go_sem, h1, h2]
  by_cases h3 : a3 = b3
  case neg => simp [go_sem, h1, h2, h3]
  by_cases h4 : a4 = b4
  case neg => simp [go_sem, h1, h2, h3, h4]
  by_cases h5 : a5 = b5
  case neg => simp [go_sem, h1, h2, h3, h4, h5]
  by_cases h6 : a6 = b6
  case neg => simp [go_sem, h1, h2, h3, h4, h5, h6]
  by_cases h7 : a7 = b7
  case neg => simp [go_sem, h1, h2, h3, h4, h5, h6, h7]
  by_cases h8 : a8 = b8
  case neg => simp [go_sem, h1, h2, h3, h4, h5, h6, h7, h8]
  subst h1 h2 h3 h4 h5 h6 h7 h8
  simp [go_sem]
theorem neq_rep (x y : Rep) (r : Bool) (h : r = decide (x ≠ y)) (w : World) : (binOp .neq 23 x.V y.V).run Tryz.prog w = .ok (.bool r) w := by
  obtain ⟨a1, a2, a3, a4, a5, a6, a7, a8⟩ := x
  obtain ⟨b1, b2, b3, b4, b5, b6, b7, b8⟩ := y
  subst h
  by_cases h1 : a1 = b1
  case neg => simp [go_sem, h1]
  by_cases h2 : a2 = b2
  case neg => simp [go_sem, h1, h2]
  by_cases h3 : a3 = b3
  case neg => simp [go_sem, h1, h2, h3]
  by_cases h4 : a4 = b4
  case neg => simp [go_sem, h1, h2, h3, h4]
  by_cases h5 : a5 = b5
  case neg => simp [go_sem, h1, h2, h3, h4, h5]
  by_cases h6 : a6 = b6
  case neg => simp [go_sem, h1, h2, h3, h4, h5, h6]
  by_cases h7 : a7 = b7
  case neg => simp [go_sem, h1, h2, h3, h4, h5, h6, h7]
  by_cases h8 : a8 = b8
  case neg => simp [go_sem, h1, h2, h3, h4, h5, h6, h7, h8]
  subst h1 h2 h3 h4 h5 h6 h7 h8
  simp [go_sem]
theorem rep_len {r : Rep} : r.bytes.length ≤ 1000 := by
  unfold Rep.bytes
  split
  · have := putsL_len r.ints
    have h8 : r.ints.length = 8 := rfl
    omega
  · simp
theorem readRep_cases (b : List UInt8) : ((readRep b).2 = 0 ∧ (readRep b).1 = (repP b).1) ∨ readRep b = (Rep.zero, 4) := by
  unfold readRep
  by_cases h : (repP b).2.fin.1 ≠ 0 ∨ (repP b).1.check ≠ 0
  · rw [if_pos h]; exact .inr rfl
  · rw [if_neg h]; exact .inl ⟨rfl, rfl⟩
set_option maxRecDepth 100000 in
set_option maxHeartbeats 4000000 in
theorem remitBack_any (r : Rep) (hi : r.i64s) (b : List UInt8) (B : Option Addr) (cb : Nat) (w : World) (hb : Reads w w.heap.size 1 B b.length (bV b)) (hbm : b.length ≤ maxLen) (ht : Tab10 w) :
    Calls Tryz.prog 4 #[r.V, .slice B b.length cb] w fun e w' => e = .returned (.bool true) ∧ Ext w w' := by
  have X0 := (Ext.refl w).alloc (.cells #[.int .i64 r.j, .int .i64 r.k, .int .i64 r.p, .int .i64 r.t, .int .i64 r.x, .int .i64 r.v, .int .i64 r.s, .int .i64 r.r] 23)
  have B0 := Blk.new w 23 #[.int .i64 r.j, .int .i64 r.k, .int .i64 r.p, .int .i64 r.t, .int .i64 r.x, .int .i64 r.v, .int .i64 r.s, .int .i64 r.r]
  have HI := Lib.hid hi
  have HBy := Lib.hid (fun W (h : Ext w W) => hb.extB (Nat.le_refl _) h |>.more h.size)
  have HT := Lib.hid (fun W (h : Ext w W) => ht.ext h)
  clear ht hb hi
  unfold maxLen at hbm
  go_enter Tryz.func4, Tryz.ntmps4
  go_wp2_with fail
  refine (awake30_any _ (HT.out _ X0)).mono ?_
  rintro e w1 ⟨rfl, hx1⟩
  have X1 := X0.trans hx1
  have B1 := B0.ext hx1
  clear X0 B0 hx1
  by_cases g1 : 200 < b.length
  · have d1 : decide ((200 : Int) < (b.length : Int)) = true := by simp; omega
    go_wp2_with fail
    go_ret
    exact ⟨rfl, X1⟩
  have d1 : decide ((200 : Int) < (b.length : Int)) = false := by simp; omega
  obtain ⟨q, q'⟩ := B1.cells
  go_wp2_with fail
  refine (rbytes30_any r HI.out _).mono ?_
  rintro e w2 ⟨v2, rfl, ho2, hx2, _⟩
  obtain ⟨A2, c2, rfl, l1, l2, hr2⟩ := own_slice ho2
  have X2 := X1.trans hx2
  have B2 := B1.ext hx2
  clear X1 B1 hx2 q q' ho2 d1
  obtain ⟨q, q'⟩ := B2.cells
  go_wp2_with fail
  refine (rrcheck_any r HI.out.k _).mono ?_
  rintro e w3 ⟨rfl, hx3⟩
  have hneq : (r.check != r.check) = false := by simp
  have X3 := X2.trans hx3
  have B3 := B2.ext hx3
  have hr3 := hr2.ext hx3
  clear q q' X2 B2 hr2 hx3
  obtain ⟨q, q'⟩ := B3.cells
  go_upto_if 29 with (fail)
  go_cut [8, 9] (fun _ _ wx => Ext w wx)
  case first =>
    by_cases hc : r.check = 0
    · have hcb : (r.check == 0) = true := by simpa using hc
      have hrd := Lib.hid (rep_put hc HI.out.t HI.out.x HI.out.v)
      have hn := rep_len (r := r)
      have hnq := neq_rep r r false (by simp)
      replace hc := Lib.hid hc
      go_wp2_with fail
      refine (rread30_any r.bytes A2 c2 _ hr3 (by omega)).mono ?_
      rintro e w4 ⟨rfl, hx4⟩
      rw [hrd.out]
      simp only
      have B4 := Blk.new w4 23 #[.int .i64 r.j, .int .i64 r.k, .int .i64 r.p, .int .i64 r.t, .int .i64 r.x, .int .i64 r.v, .int .i64 r.s, .int .i64 r.r]
      have X4 := (X3.trans hx4).alloc (.cells #[.int .i64 r.j, .int .i64 r.k, .int .i64 r.p, .int .i64 r.t, .int .i64 r.x, .int .i64 r.v, .int .i64 r.s, .int .i64 r.r] 23)
      have B34 := (B3.ext hx4).alloc (.cells #[.int .i64 r.j, .int .i64 r.k, .int .i64 r.p, .int .i64 r.t, .int .i64 r.x, .int .i64 r.v, .int .i64 r.s, .int .i64 r.r] 23)
      clear X3 B3 hx4 q q' hr3
      obtain ⟨p, p'⟩ := B34.cells
      go_wp2_with fail
      go_meet
      exact X4
    · have hcb : (r.check == 0) = false := by simpa using hc
      replace hc := Lib.hid hc
      go_wp2_with fail
      go_meet
      exact X3
  clear q q' hr3 B3 X3 l1 l2
  go_wp2_with fail
  refine (rread30_any b B cb _ (HBy.out _ hcut) (by omega)).mono ?_
  rintro e w5 ⟨rfl, hx5⟩
  have X5 := hcut.trans hx5
  rcases readRep_cases b with ⟨h0, h1⟩ | h4
  · obtain ⟨i1, i2⟩ := rep_inv h0
    have i3 : (readRep b).1.i64s := by rw [h1]; exact repP_i64 b
    generalize (readRep b).1 = z at *
    rw [h0]
    replace h0 := Lib.hid h0
    have B6 := Blk.new w5 23 #[.int .i64 z.j, .int .i64 z.k, .int .i64 z.p, .int .i64 z.t, .int .i64 z.x, .int .i64 z.v, .int .i64 z.s, .int .i64 z.r]
    have X6 := X5.alloc (.cells #[.int .i64 z.j, .int .i64 z.k, .int .i64 z.p, .int .i64 z.t, .int .i64 z.x, .int .i64 z.v, .int .i64 z.s, .int .i64 z.r] 23)
    obtain ⟨q, q'⟩ := B6.cells
    have HZ := Lib.hid (rbytes30_any z i3)
    rw [i1, i2] at HZ
    replace i1 := Lib.hid i1
    replace i2 := Lib.hid i2
    replace h1 := Lib.hid h1
    clear hcut hx5 X5
    go_wp2_with fail
    refine (HZ.out _).mono ?_
    rintro e w7 ⟨v7, rfl, ho7, hx7, _⟩
    obtain ⟨A7, c7, rfl, _, _, hr7⟩ := own_slice ho7
    have X7 := X6.trans hx7
    have HB7 := Lib.hid (HBy.out _ X7)
    clear q q' X6 B6 hx7 ho7
    go_wp2_with fail
    refine (sameBytes_any b b A7 B b.length b.length c7 cb _ hr7 HB7.out).mono ?_
    rintro e w8 ⟨rfl, rfl⟩
    have heq : (b == b) = true := by simp
    go_wp2_with fail
    go_ret
    exact ⟨rfl, X7⟩
  · rw [h4]
    have X6 := X5.alloc (.cells #[.int .i64 0, .int .i64 0, .int .i64 0, .int .i64 0, .int .i64 0, .int .i64 0, .int .i64 0, .int .i64 0] 23)
    have B6 := Blk.new w5 23 #[.int .i64 0, .int .i64 0, .int .i64 0, .int .i64 0, .int .i64 0, .int .i64 0, .int .i64 0, .int .i64 0]
    obtain ⟨q, q'⟩ := B6.cells
    have hez := eql_rep Rep.zero Rep.zero true (by simp)
    unfold Rep.V Rep.zero at hez
    unfold Rep.zero
    simp only at hez ⊢
    replace h4 := Lib.hid h4
    go_wp2_with fail
    go_ret
    exact ⟨rfl, X6⟩
end Go.Proofs.YtokakpbpenndlaaGreatDoor

set_option linter.unusedVariables false
namespace Go.Proofs.YtokakpbpenndlaaGreatDoor
open Go.RowKit

/-- A ring in memory. -/
structure Ring where
  A : Option Addr
  c : Nat
  pts : List (Int × Int)
def ptC (p : Int × Int) : List Value := [.int .i64 p.1, .int .i64 p.2]
def ptCells (l : List (Int × Int)) : List Value := l.flatMap ptC
def Ring.cl (r : Ring) : List Value := [.slice r.A r.pts.length r.c]
def ringCells (l : List Ring) : List Value := l.flatMap Ring.cl
structure Ring.ok (w : World) (r : Ring) : Prop where
  l1 : r.pts.length ≤ r.c
  l2 : r.c ≤ maxLen
  pi : ∀ p ∈ r.pts, i64 p.1 ∧ i64 p.2
  rd : Reads w w.heap.size 2 r.A r.pts.length (ptCells r.pts)
theorem Ring.ok.ext {w w' : World} {r : Ring} (h : r.ok w) (hx : Ext w w') : r.ok w' := ⟨h.l1, h.l2, h.pi, h.rd.ext hx⟩
/-- A jurisdiction in memory, with its rings. -/
structure JX where
  j : Jur
  A : Option Addr
  c : Nat
  rings : List Ring
def JX.jv (x : JX) : JV := ⟨x.j, x.A, x.rings.length, x.c⟩
def jvs (l : List JX) : List JV := l.map JX.jv
theorem jvs_len (l : List JX) : (jvs l).length = l.length := by simp [jvs]
structure JX.ok (w : World) (x : JX) : Prop where
  l1 : x.rings.length ≤ x.c
  l2 : x.c ≤ maxLen
  i1 : i64 x.j.id
  i2 : i64 x.j.k
  i3 : i64 x.j.par
  i4 : i64 x.j.f
  ro : ∀ r ∈ x.rings, r.ok w
  rd : Reads w w.heap.size 1 x.A x.rings.length (ringCells x.rings)
theorem JX.ok.ext {w w' : World} {x : JX} (h : x.ok w) (hx : Ext w w') : x.ok w' := ⟨h.l1, h.l2, h.i1, h.i2, h.i3, h.i4, fun r hr => (h.ro r hr).ext hx, h.rd.ext hx⟩
theorem opens_points : Opens Tryz.prog 108 (fun w cs => ∃ r : Ring, cs = r.cl ∧ r.ok w) :=
  (opens_slice 2 Tryz.underlying108 (by kernel_rfl) (by decide) opens_point).mono fun w cs h => by
    obtain ⟨A, cap, l, h1, h2, h3, hp, h4⟩ := SliceOf.list (code := ptC) (p := fun p => i64 p.1 ∧ i64 p.2) h (fun x ⟨a, b, hb, h1, h2⟩ => ⟨(a, b), hb, h1, h2⟩)
    exact ⟨⟨A, cap, l⟩, h1, h2, h3, hp, h4⟩
theorem opens_rings : Opens Tryz.prog 79 (fun w cs => ∃ (A : Option Addr) (cap : Nat) (l : List Ring), cs = [.slice A l.length cap] ∧ l.length ≤ cap ∧ cap ≤ maxLen ∧ (∀ r ∈ l, r.ok w) ∧ Reads w w.heap.size 1 A l.length (ringCells l)) :=
  (opens_slice 1 Tryz.underlying79 (by kernel_rfl) (by decide) opens_points).mono fun w cs h =>
    SliceOf.list (code := Ring.cl) (p := fun r => r.ok w) h (fun x ⟨l, hl, hp⟩ => ⟨l, hl, hp⟩)
theorem opens_region : Opens Tryz.prog 81 (fun w cs => ∃ (A : Option Addr) (cap : Nat) (l : List Ring), cs = [.slice A l.length cap] ∧ l.length ≤ cap ∧ cap ≤ maxLen ∧ (∀ r ∈ l, r.ok w) ∧ Reads w w.heap.size 1 A l.length (ringCells l)) :=
  (opens_fields Tryz.underlying81 (.cons 1 opens_rings (by kernel_rfl) .nil) (by kernel_rfl)).mono fun w cs h => by
    obtain ⟨_, _, rfl, _, ⟨A, cap, l, rfl, h1⟩, rfl⟩ := h
    exact ⟨A, cap, l, rfl, h1⟩
theorem opens_jur : Opens Tryz.prog 83 (fun w cs => ∃ x : JX, cs = x.jv.cl ∧ x.ok w) :=
  (opens_fields Tryz.underlying83 (.cons 1 opens_i (by kernel_rfl) (.cons 1 opens_i (by kernel_rfl) (.cons 1 opens_i (by kernel_rfl) (.cons 1 opens_i (by kernel_rfl) (.cons 1 opens_region (by kernel_rfl) .nil))))) (by kernel_rfl)).mono fun w cs h => by
    obtain ⟨_, _, rfl, _, ⟨a, rfl, h1⟩, _, _, rfl, _, ⟨b, rfl, h2⟩, _, _, rfl, _, ⟨c, rfl, h3⟩, _, _, rfl, _, ⟨d, rfl, h4⟩, _, _, rfl, _, ⟨A, cap, l, rfl, l1, l2, l3, l4⟩, rfl⟩ := h
    exact ⟨⟨⟨a, b, c, d⟩, A, cap, l⟩, rfl, ⟨l1, l2, h1, h2, h3, h4, l3, l4⟩⟩
theorem opens_juris : Opens Tryz.prog 39 (fun w cs => ∃ (A : Option Addr) (cap : Nat) (l : List JX), cs = [.slice A l.length cap] ∧ l.length ≤ cap ∧ cap ≤ maxLen ∧ (∀ x ∈ l, x.ok w) ∧ Reads w w.heap.size 5 A l.length (jvCells (jvs l))) :=
  (opens_slice 5 Tryz.underlying39 (by kernel_rfl) (by decide) opens_jur).mono fun w cs h => by
    obtain ⟨A, cap, l, h1, h2, h3, hp, h4⟩ := SliceOf.list (code := fun x : JX => x.jv.cl) (p := fun x => x.ok w) h (fun x ⟨l, hl, hp⟩ => ⟨l, hl, hp⟩)
    refine ⟨A, cap, l, h1, h2, h3, hp, ?_⟩
    unfold jvCells jvs
    rw [List.flatMap_map]
    exact h4
/-- The cells of the k-th jurisdiction. -/
theorem jx_at {w : World} {A : Option Addr} {l : List JX} (hr : Reads w w.heap.size 5 A l.length (jvCells (jvs l))) {k : Nat} (hk : k < l.length) : ∃ g off, A = some ⟨g, off, none⟩ ∧ g < w.heap.size ∧ ∀ W, Ext w W →
    W.cell? ⟨g, off + k * 5, none⟩ = some (.int .i64 l[k].j.id) ∧ W.cell? ⟨g, off + k * 5 + 1, none⟩ = some (.int .i64 l[k].j.k) ∧ W.cell? ⟨g, off + k * 5 + 2, none⟩ = some (.int .i64 l[k].j.par) ∧
    W.cell? ⟨g, off + k * 5 + 3, none⟩ = some (.int .i64 l[k].j.f) ∧ W.cell? ⟨g, off + k * 5 + 4, none⟩ = some (.slice l[k].A l[k].rings.length l[k].c) := by
  have hk' : k < (jvs l).length := by rw [jvs_len]; exact hk
  rw [← jvs_len l] at hr
  have e : (jvs l)[k] = l[k].jv := by simp [jvs]
  have := jv_at hr hk'
  rw [e] at this
  exact this
theorem ring_at {w : World} {B : Nat} {A : Option Addr} {l : List Ring} (hr : Reads w B 1 A l.length (ringCells l)) {k : Nat} (hk : k < l.length) : ∃ g off, A = some ⟨g, off, none⟩ ∧ g < B ∧ w.cell? ⟨g, off + k, none⟩ = some (.slice l[k].A l[k].pts.length l[k].c) := by
  obtain ⟨g, off, rfl, hg, hc⟩ := hr.cellAt hk
  refine ⟨g, off, rfl, hg, hc _ _ ?_⟩
  have := flat_get (f := Ring.cl) (c := 1) (fun _ => rfl) l k 0 hk (by decide)
  simpa [ringCells, Ring.cl] using this
def BigP (n : Nat) (most : Int) (w : World) (e : Ending) (w' : World) : Prop := ∃ b : Bool, e = .returned (.bool b) ∧ (b = false → (n : Int) ≤ most) ∧ w = w'
def BjRel (n : Nat) (i v5 : Value) : Prop := ∃ (k : Nat) (V : Int), k ≤ n ∧ i = .int .i64 (k : Int) ∧ v5 = .int .i64 V
set_option maxRecDepth 100000 in
set_option maxHeartbeats 2000000 in
theorem bigJuris_any (l : List JX) (A : Option Addr) (cap : Nat) (most : Int) (w : World) (hr : Reads w w.heap.size 5 A l.length (jvCells (jvs l))) (hm : l.length ≤ maxLen) (hok : ∀ x ∈ l, x.ok w) (hmost : 0 ≤ most) :
    Calls Tryz.prog 24 #[.slice A l.length cap, .int .i64 most] w (BigP l.length most w) := by
  have HOK := Lib.hid hok
  unfold maxLen at hm
  clear hok
  go_enter Tryz.func24, Tryz.ntmps24
  go_wp2_with fail
  go_loop [6, 5] (fun i v5 => BjRel l.length i v5) (fun i _ => l.length - (intOf i).toNat)
  case atStart => exact ⟨0, 0, by omega, rfl, rfl⟩
  case round =>
    obtain ⟨k, V, hk, rfl, rfl⟩ := hrel
    by_cases hlt : k < l.length
    · have hd : decide ((k : Int) < (l.length : Int)) = true := by simp; omega
      by_cases hV : V ≤ 400
      · have hdV : decide (V ≤ 400) = true := by simpa using hV
        obtain ⟨g, off, rfl, hg, hc⟩ := jx_at hr hlt
        obtain ⟨c1, c2, c3, c4, c5⟩ := hc w (Ext.refl w)
        have kl : (k : Int) < (l.length : Int) := by omega
        have kz : (0 : Int) ≤ (k : Int) := by omega
        have hx := HOK.out l[k] (List.getElem_mem hlt)
        have hrd := hx.rd
        have hrl : l[k].rings.length ≤ 9223372036854775807 := by have := hx.l1; have := hx.l2; unfold maxLen at this; omega
        clear hc c1 c2 c3 c4 hx
        generalize l[k] = x at *
        go_wp2_with fail
        go_loop [7, 5] (fun i v5 => BjRel x.rings.length i v5) (fun i _ => x.rings.length - (intOf i).toNat)
        case atStart => exact ⟨0, V, by omega, rfl, rfl⟩
        case round =>
          obtain ⟨q, U, hq, rfl, rfl⟩ := hrel
          by_cases hlq : q < x.rings.length
          · have hdq : decide ((q : Int) < (x.rings.length : Int)) = true := by simp; omega
            by_cases hU : U ≤ 400
            · have hdU : decide (U ≤ 400) = true := by simpa using hU
              obtain ⟨g2, o2, hA2, hg2, cr⟩ := ring_at hrd hlq
              rw [hA2] at c5
              have ql : (q : Int) < (x.rings.length : Int) := by omega
              have qz : (0 : Int) ≤ (q : Int) := by omega
              generalize x.rings[q] = y at *
              clear hA2 hU hV
              go_wp2_with fail
              go_round
              case rel => exact ⟨q + 1, _, by omega, by go_num, rfl⟩
              case measure => simp [intOf]; omega
            · have hdU : decide (U ≤ 400) = false := by simpa using hU
              go_wp2_with fail
              go_round
              case rel => exact ⟨k + 1, U, by omega, by go_num, rfl⟩
              case measure => simp [intOf]; omega
          · have hdq : decide ((q : Int) < (x.rings.length : Int)) = false := by simp; omega
            go_wp2_with fail
            go_round
            case rel => exact ⟨k + 1, U, by omega, by go_num, rfl⟩
            case measure => simp [intOf]; omega
      · have hdV : decide (V ≤ 400) = false := by simpa using hV
        have hdV2 : decide (400 < V) = true := by simp; omega
        by_cases hb : most < (l.length : Int)
        · have hdb : decide (most < (l.length : Int)) = true := by simpa using hb
          go_wp2_with fail
          go_ret
          exact ⟨true, rfl, (fun h => by cases h), rfl⟩
        · have hdb : decide (most < (l.length : Int)) = false := by simpa using hb
          go_wp2_with fail
          go_ret
          exact ⟨true, rfl, (fun h => by cases h), rfl⟩
    · have hd : decide ((k : Int) < (l.length : Int)) = false := by simp; omega
      by_cases hb : most < (l.length : Int)
      · have hdb : decide (most < (l.length : Int)) = true := by simpa using hb
        go_wp2_with fail
        go_ret
        exact ⟨true, rfl, (fun h => by cases h), rfl⟩
      · have hdb : decide (most < (l.length : Int)) = false := by simpa using hb
        have hle : (l.length : Int) ≤ most := by omega
        go_wp2_with fail
        go_ret
        exact ⟨_, rfl, fun _ => hle, rfl⟩
end Go.Proofs.YtokakpbpenndlaaGreatDoor
