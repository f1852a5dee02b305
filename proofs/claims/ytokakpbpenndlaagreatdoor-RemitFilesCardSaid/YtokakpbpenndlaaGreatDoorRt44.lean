/-
  Openers: jurisdictions with their rings. apportionkit.BigJuris.
-/
import Derived.Test.YtokakpbpenndlaaGreatDoorRt13
import Derived.Test.YtokakpbpenndlaaGreatDoorRt21
import Derived.Deep.DeepCutAuto
import Derived.Test.YtokakpbpenndlaaGreatDoorRt06
import Derived.Test.YtokakpbpenndlaaGreatDoorRt33
import Derived.Test.YtokakpbpenndlaaGreatDoorRt19
import Derived.Test.YtokakpbpenndlaaGreatDoorRt11
import Derived.Test.YtokakpbpenndlaaGreatDoorRt09
import Derived.Test.YtokakpbpenndlaaGreatDoorRt39
import Derived.Test.YtokakpbpenndlaaGreatDoorRt42
import Derived.Test.YtokakpbpenndlaaGreatDoorRt40
import Derived.BigRegion
import Derived.Deep.CutBlock
import Derived.Test.YtokakpbpenndlaaGreatDoorRt20
set_option linter.unusedVariables false
namespace Go.Proofs.YtokakpbpenndlaaGreatDoor
open Go.RowKit

/-- A ring in memory. -/
structure Ring where
  A : Option Addr
  c : Nat
  pts : List (Int × Int)
def ptC (p : Int × Int) : List Value := [.int .i64 p.1, .int .i64 p.2]
def ptCells (l : List (Int × Int)) : List Value := l.flatMap ptC
def Ring.cl (r : Ring) : List Value := [.slice r.A r.pts.length r.c]
def ringCells (l : List Ring) : List Value := l.flatMap Ring.cl
structure Ring.ok (w : World) (r : Ring) : Prop where
  l1 : r.pts.length ≤ r.c
  l2 : r.c ≤ maxLen
  pi : ∀ p ∈ r.pts, i64 p.1 ∧ i64 p.2
  rd : Reads w w.heap.size 2 r.A r.pts.length (ptCells r.pts)
theorem Ring.ok.ext {w w' : World} {r : Ring} (h : r.ok w) (hx : Ext w w') : r.ok w' := ⟨h.l1, h.l2, h.pi, h.rd.ext hx⟩
/-- A jurisdiction in memory, with its rings. -/
structure JX where
  j : Jur
  A : Option Addr
  c : Nat
  rings : List Ring
def JX.jv (x : JX) : JV := ⟨x.j, x.A, x.rings.length, x.c⟩
def jvs (l : List JX) : List JV := l.map JX.jv
theorem jvs_len (l : List JX) : (jvs l).length = l.length := by simp [jvs]
structure JX.ok (w : World) (x : JX) : Prop where
  l1 : x.rings.length ≤ x.c
  l2 : x.c ≤ maxLen
  i1 : i64 x.j.id
  i2 : i64 x.j.k
  i3 : i64 x.j.par
  i4 : i64 x.j.f
  ro : ∀ r ∈ x.rings, r.ok w
  rd : Reads w w.heap.size 1 x.A x.rings.length (ringCells x.rings)
theorem JX.ok.ext {w w' : World} {x : JX} (h : x.ok w) (hx : Ext w w') : x.ok w' := ⟨h.l1, h.l2, h.i1, h.i2, h.i3, h.i4, fun r hr => (h.ro r hr).ext hx, h.rd.ext hx⟩
/-- The cells of the k-th jurisdiction. -/
theorem jx_at {w : World} {A : Option Addr} {l : List JX} (hr : Reads w w.heap.size 5 A l.length (jvCells (jvs l))) {k : Nat} (hk : k < l.length) : ∃ g off, A = some ⟨g, off, none⟩ ∧ g < w.heap.size ∧ ∀ W, Ext w W →
    W.cell? ⟨g, off + k * 5, none⟩ = some (.int .i64 l[k].j.id) ∧ W.cell? ⟨g, off + k * 5 + 1, none⟩ = some (.int .i64 l[k].j.k) ∧ W.cell? ⟨g, off + k * 5 + 2, none⟩ = some (.int .i64 l[k].j.par) ∧
    W.cell? ⟨g, off + k * 5 + 3, none⟩ = some (.int .i64 l[k].j.f) ∧ W.cell? ⟨g, off + k * 5 + 4, none⟩ = some (.slice l[k].A l[k].rings.length l[k].c) := by
  have hk' : k < (jvs l).length := by rw [jvs_len]; exact hk
  rw [← jvs_len l] at hr
  have e : (jvs l)[k] = l[k].jv := by simp [jvs]
  have := jv_at hr hk'
  rw [e] at this
  exact this
theorem ring_at {w : World} {B : Nat} {A : Option Addr} {l : List Ring} (hr : Reads w B 1 A l.length (ringCells l)) {k : Nat} (hk : k < l.length) : ∃ g off, A = some ⟨g, off, none⟩ ∧ g < B ∧ w.cell? ⟨g, off + k, none⟩ = some (.slice l[k].A l[k].pts.length l[k].c) := by
  obtain ⟨g, off, rfl, hg, hc⟩ := hr.cellAt hk
  refine ⟨g, off, rfl, hg, hc _ _ ?_⟩
  have := flat_get (f := Ring.cl) (c := 1) (fun _ => rfl) l k 0 hk (by decide)
  simpa [ringCells, Ring.cl] using this
end Go.Proofs.YtokakpbpenndlaaGreatDoor

set_option linter.unusedVariables false
namespace Go.Proofs.YtokakpbpenndlaaGreatDoor
open Go.RowKit

theorem ptCells_at (l : List (Int × Int)) (k : Nat) (h : k < l.length) : (ptCells l)[k * 2]? = some (.int .i64 l[k].1) ∧ (ptCells l)[k * 2 + 1]? = some (.int .i64 l[k].2) :=
  ⟨flat_get (f := ptC) (c := 2) (fun _ => rfl) l k 0 h (by decide), flat_get (f := ptC) (c := 2) (fun _ => rfl) l k 1 h (by decide)⟩
theorem neq_pt (a b : Int) (w : World) : (binOp .neq 241 (.agg #[.int .i64 a, .int .i64 b]) (.agg #[.int .i64 a, .int .i64 b])).run Tryz.prog w = .ok (.bool false) w := by simp [go_sem]
set_option maxHeartbeats 1000000 in
theorem samePoints_any (l : List (Int × Int)) (n : Nat) (A A' : Option Addr) (c c' : Nat) (w : World) (hn : l.length = n) (h1 : Reads w w.heap.size 2 A n (ptCells l)) (h2 : Reads w w.heap.size 2 A' n (ptCells l)) (m1 : n ≤ maxLen) :
    Calls Tryz.prog 159 #[.slice A n c, .slice A' n c'] w fun e w' => e = .returned (.bool true) ∧ Ext w w' := by
  subst hn
  unfold maxLen at m1
  have hb : ((l.length : Int) != (l.length : Int)) = false := by simp
  go_enter Tryz.func159, Tryz.ntmps159
  go_wp2_with fail
  go_loopw [5] (fun i wr => SameRel w l.length (fun _ => True) i wr) (fun i _ => l.length - (intOf i).toNat)
  case atStart => exact ⟨0, by omega, rfl, Ext.refl _, fun j hj => trivial⟩
  case round =>
    obtain ⟨k, hk, rfl, hx, hP⟩ := hrel
    clear hP
    by_cases hlt : k < l.length
    · have hd : decide ((k : Int) < (l.length : Int)) = true := by simp; omega
      have kl : (k : Int) < (l.length : Int) := by omega
      have kz : (0 : Int) ≤ (k : Int) := by omega
      obtain ⟨g, off, rfl, hg, hc⟩ := (h1.extB (Nat.le_refl _) hx).cellAt hlt
      obtain ⟨g', off', rfl, hg', hc'⟩ := (h2.extB (Nat.le_refl _) hx).cellAt hlt
      obtain ⟨e1, e2⟩ := ptCells_at l k hlt
      have c1 := hc _ _ e1
      have c2 : wr.cell? ⟨g, off + k * 2 + 1, none⟩ = _ := hc _ _ e2
      have d1 := hc' _ _ e1
      have d2 : wr.cell? ⟨g', off' + k * 2 + 1, none⟩ = _ := hc' _ _ e2
      have hq := neq_pt l[k].1 l[k].2
      clear hc hc' e1 e2 h1 h2
      generalize l[k].1 = a at *
      generalize l[k].2 = b at *
      go_wp2_with fail
      go_quiet (fail)
      go_wp2_with fail
      go_roundw
      case rel => exact SameRel.next hlt (hx.drewN _) (fun _ _ => trivial) trivial rfl
      case measure => simp [intOf]; omega
    · have hd : decide ((k : Int) < (l.length : Int)) = false := by simp; omega
      clear h1 h2
      go_wp2_with fail
      go_ret
      exact ⟨rfl, hx⟩
/-- Rings of the same points. -/
def RingsEq (a b : List Ring) : Prop := a.map Ring.pts = b.map Ring.pts
theorem RingsEq.len {a b : List Ring} (h : RingsEq a b) : a.length = b.length := by have := congrArg List.length h; simpa using this
theorem RingsEq.at_ {a b : List Ring} (h : RingsEq a b) {k : Nat} (h1 : k < a.length) (h2 : k < b.length) : a[k].pts = b[k].pts := by
  have : (a.map Ring.pts)[k]? = (b.map Ring.pts)[k]? := by rw [show a.map Ring.pts = b.map Ring.pts from h]
  simpa [h1, h2] using this
theorem ring_at2 {w : World} {B : Nat} {A : Option Addr} {l : List Ring} (h : Reads w B 1 A l.length (ringCells l)) {k : Nat} (hk : k < l.length) : ∃ g off, A = some ⟨g, off, none⟩ ∧ g < B ∧ w.cell? ⟨g, off + k, none⟩ = some (.slice l[k].A l[k].pts.length l[k].c) := by
  obtain ⟨g, off, rfl, hg, hc⟩ := h.cellAt hk
  have e := flat_get (f := Ring.cl) (c := 1) (fun _ => rfl) l k 0 hk (by decide)
  refine ⟨g, off, rfl, hg, ?_⟩
  have := hc _ _ e
  simpa [Nat.mul_one] using this
set_option maxHeartbeats 1000000 in
theorem sameRings_any (a b : List Ring) (A A' : Option Addr) (n c c' : Nat) (w : World) (he : RingsEq a b) (ha : a.length = n) (hb : b.length = n) (h1 : Reads w w.heap.size 1 A n (ringCells a)) (h2 : Reads w w.heap.size 1 A' n (ringCells b)) (m1 : n ≤ maxLen) (o1 : ∀ r ∈ a, r.ok w) (o2 : ∀ r ∈ b, r.ok w) :
    Calls Tryz.prog 128 #[.slice A n c, .slice A' n c'] w fun e w' => e = .returned (.bool true) ∧ Ext w w' := by
  unfold maxLen at m1
  have hbn : ((n : Int) != (n : Int)) = false := by simp
  subst ha
  have HB := Lib.hid hb
  have H1 := Lib.hid (fun W (hx : Ext w W) k (hk : k < a.length) => ring_at2 (h1.extB (Nat.le_refl _) hx) hk)
  have H2 := Lib.hid (fun W (hx : Ext w W) k (hk : k < b.length) => ring_at2 (by rw [hb]; exact h2.extB (Nat.le_refl _) hx) hk)
  have HR := Lib.hid (fun W (hx : Ext w W) k (hk : k < a.length) (hk' : k < b.length) => (show Calls Tryz.prog 159 #[.slice a[k].A a[k].pts.length a[k].c, .slice b[k].A a[k].pts.length b[k].c] W fun e w' => e = .returned (.bool true) ∧ Ext W w' from by
    have r1 := (o1 a[k] (List.getElem_mem hk)).ext hx
    have r2 := (o2 b[k] (List.getElem_mem hk')).ext hx
    have e := he.at_ hk hk'
    exact samePoints_any a[k].pts a[k].pts.length a[k].A b[k].A a[k].c b[k].c W rfl r1.rd (by have := r2.rd; rw [← e] at this; exact this) (Nat.le_trans r1.l1 r1.l2)))
  have HE := Lib.hid (fun k (hk : k < a.length) (hk' : k < b.length) => he.at_ hk hk')
  clear h1 h2 o1 o2 he hb
  go_enter Tryz.func128, Tryz.ntmps128
  go_wp2_with fail
  go_loopw [5] (fun i wr => SameRel w a.length (fun _ => True) i wr) (fun i _ => a.length - (intOf i).toNat)
  case atStart => exact ⟨0, by omega, rfl, Ext.refl _, fun j hj => trivial⟩
  case round =>
    obtain ⟨k, hk, rfl, hx, hP⟩ := hrel
    clear hP
    by_cases hlt : k < a.length
    · have hlb : k < b.length := by rw [HB.out]; exact hlt
      have hd : decide ((k : Int) < (a.length : Int)) = true := by simp; omega
      have kl : (k : Int) < (a.length : Int) := by omega
      have kz : (0 : Int) ≤ (k : Int) := by omega
      obtain ⟨g, off, rfl, hg, c1⟩ := H1.out wr hx k hlt
      obtain ⟨g', off', rfl, hg', d1⟩ := H2.out wr hx k hlb
      have HX := Lib.hid (fun W2 (hy : Ext wr W2) => (show W2.cell? ⟨g, off + k, none⟩ = some (.slice a[k].A a[k].pts.length a[k].c) ∧ W2.cell? ⟨g', off' + k, none⟩ = some (.slice b[k].A a[k].pts.length b[k].c) from by
        obtain ⟨g2, o2, e2, _, c2⟩ := H1.out W2 (hx.trans hy) k hlt
        obtain ⟨g3, o3, e3, _, c3⟩ := H2.out W2 (hx.trans hy) k hlb
        injection e2 with e2
        injection e2 with e2a e2b _
        injection e3 with e3
        injection e3 with e3a e3b _
        subst e2a e2b e3a e3b
        rw [HE.out k hlt hlb]
        rw [HE.out k hlt hlb] at c2
        exact ⟨c2, c3⟩))
      have HC := Lib.hid (fun W2 (hy : Ext wr W2) => HR.out W2 (hx.trans hy) k hlt hlb)
      clear c1 d1 HR HE H1 H2
      generalize a[k].A = Ra at *
      generalize a[k].pts.length = rn at *
      generalize a[k].c = rc at *
      generalize b[k].A = Rb at *
      generalize b[k].c = rd at *
      obtain ⟨k0, k1⟩ := HX.out wr (Ext.refl _)
      go_upto_region 6 with (fail)
      go_region_held3 (fun w' => w'.cell? ⟨g, off + k, none⟩ = some (.slice Ra rn rc) ∧ w'.cell? ⟨g', off' + k, none⟩ = some (.slice Rb rn rd))
        (first | (with_reducible exact HX.out _ (Ext.refl wr).drew) | (with_reducible exact HX.out _ X2))
        (first | (go_at_call 159; refine (HC.out _ (by first | with_reducible exact (Ext.refl wr).drew | with_reducible exact Ext.refl wr)).mono ?_; rintro e w9 ⟨rfl, hx9⟩; have X2 : Ext wr w9 := Ext.trans (by first | with_reducible exact (Ext.refl wr).drew | with_reducible exact Ext.refl wr) hx9))
      all_goals
        have HN := Lib.hid (SameRel.next (P := fun _ => True) (m := k + 1) hlt (hx.trans X2) (fun _ _ => trivial) trivial rfl)
        clear k0 k1 hx9 X2
        go_wp2_with fail
        go_roundw
        case rel => exact HN.out
        case measure => simp [intOf]; omega
    · have hd : decide ((k : Int) < (a.length : Int)) = false := by simp; omega
      go_wp2_with fail
      go_ret
      exact ⟨rfl, hx⟩
end Go.Proofs.YtokakpbpenndlaaGreatDoor

set_option linter.unusedVariables false
namespace Go.Proofs.YtokakpbpenndlaaGreatDoor
open Go.RowKit

set_option maxRecDepth 100000 in
set_option maxHeartbeats 1000000 in
theorem sameOne_any (x y : JX) (w : World) (hj : x.j = y.j) (he : RingsEq x.rings y.rings) (hx : x.ok w) (hy : y.ok w) :
    Calls Tryz.prog 84 #[.agg #[.int .i64 x.j.id, .int .i64 x.j.k, .int .i64 x.j.par, .int .i64 x.j.f, .slice x.A x.rings.length x.c], .agg #[.int .i64 y.j.id, .int .i64 y.j.k, .int .i64 y.j.par, .int .i64 y.j.f, .slice y.A y.rings.length y.c]] w fun e w' => e = .returned (.bool true) ∧ Ext w w' := by
  have hl := he.len
  have HC := Lib.hid (fun W (h : Ext w W) => sameRings_any x.rings y.rings x.A y.A x.rings.length x.c y.c W he rfl hl.symm (hx.ext h).rd (by have := (hy.ext h).rd; rw [← hl] at this; exact this) (Nat.le_trans hx.l1 hx.l2) (fun r hr => (hx.ro r hr).ext h) (fun r hr => (hy.ro r hr).ext h))
  rw [← hj, ← hl]
  clear hx hy he hj hl
  obtain ⟨⟨id, k, par, f⟩, A, c, rings⟩ := x
  obtain ⟨j', A', c', rings'⟩ := y
  simp only at HC ⊢
  generalize rings.length = n at *
  have X0 := ((Ext.refl w).alloc (.cells #[.int .i64 id, .int .i64 k, .int .i64 par, .int .i64 f, .slice A n c] 83)).alloc (.cells #[.int .i64 id, .int .i64 k, .int .i64 par, .int .i64 f, .slice A' n c'] 83)
  go_enter Tryz.func84, Tryz.ntmps84
  go_wp2_with fail
  refine (HC.out _ X0).mono ?_
  rintro e w1 ⟨rfl, hx1⟩
  go_wp2_with fail
  go_ret
  exact ⟨rfl, X0.trans hx1⟩
structure JurisEq (a b : List JX) : Prop where
  j : a.map JX.j = b.map JX.j
  r : ∀ k (h1 : k < a.length) (h2 : k < b.length), RingsEq a[k].rings b[k].rings
theorem JurisEq.len {a b : List JX} (h : JurisEq a b) : a.length = b.length := by have := congrArg List.length h.j; simpa using this
theorem JurisEq.at_ {a b : List JX} (h : JurisEq a b) {k : Nat} (h1 : k < a.length) (h2 : k < b.length) : a[k].j = b[k].j := by
  have : (a.map JX.j)[k]? = (b.map JX.j)[k]? := by rw [h.j]
  simpa [h1, h2] using this
set_option maxRecDepth 100000 in
set_option maxHeartbeats 2000000 in
theorem sameJuris_any (a b : List JX) (A A' : Option Addr) (n c c' : Nat) (w : World) (he : JurisEq a b) (ha : a.length = n) (hb : b.length = n) (h1 : Reads w w.heap.size 5 A n (jvCells (jvs a))) (h2 : Reads w w.heap.size 5 A' n (jvCells (jvs b))) (m1 : n ≤ maxLen) (o1 : ∀ r ∈ a, r.ok w) (o2 : ∀ r ∈ b, r.ok w) :
    Calls Tryz.prog 34 #[.slice A n c, .slice A' n c'] w fun e w' => e = .returned (.bool true) ∧ Ext w w' := by
  unfold maxLen at m1
  have hbn : ((n : Int) != (n : Int)) = false := by simp
  subst ha
  have HB := Lib.hid hb
  have H1 := Lib.hid (fun k (hk : k < a.length) => jx_at h1 hk)
  have H2 := Lib.hid (fun k (hk : k < b.length) => jx_at (by rw [hb]; exact h2) hk)
  have HR := Lib.hid (fun W (hx : Ext w W) k (hk : k < a.length) (hk' : k < b.length) => sameOne_any a[k] b[k] W (he.at_ hk hk') (he.r k hk hk') ((o1 a[k] (List.getElem_mem hk)).ext hx) ((o2 b[k] (List.getElem_mem hk')).ext hx))
  clear h1 h2 o1 o2 he hb
  go_enter Tryz.func34, Tryz.ntmps34
  go_wp2_with fail
  go_loopw [5] (fun i wr => SameRel w a.length (fun _ => True) i wr) (fun i _ => a.length - (intOf i).toNat)
  case atStart => exact ⟨0, by omega, rfl, Ext.refl _, fun j hj => trivial⟩
  case round =>
    obtain ⟨k, hk, rfl, hx, hP⟩ := hrel
    clear hP
    by_cases hlt : k < a.length
    · have hlb : k < b.length := by rw [HB.out]; exact hlt
      have hd : decide ((k : Int) < (a.length : Int)) = true := by simp; omega
      have kl : (k : Int) < (a.length : Int) := by omega
      have kz : (0 : Int) ≤ (k : Int) := by omega
      obtain ⟨g, off, rfl, hg, hc⟩ := H1.out k hlt
      obtain ⟨g', off', rfl, hg', hc'⟩ := H2.out k hlb
      have hgl : g < wr.heap.size := Nat.lt_of_lt_of_le hg hx.size
      have hgl' : g' < wr.heap.size := Nat.lt_of_lt_of_le hg' hx.size
      have HX := Lib.hid (fun W2 (hy : Ext wr W2) => And.intro (hc W2 (hx.trans hy)) (hc' W2 (hx.trans hy)))
      have HC := Lib.hid (fun W2 (hy : Ext wr W2) => HR.out W2 (hx.trans hy) k hlt hlb)
      clear hc hc' HR H1 H2
      generalize a[k] = x at *
      generalize b[k] = y at *
      obtain ⟨⟨x1, x2, x3, x4⟩, xA, xc, xr⟩ := x
      obtain ⟨⟨y1, y2, y3, y4⟩, yA, yc, yr⟩ := y
      simp only at HX HC
      generalize xr.length = xn at *
      generalize yr.length = yn at *
      go_upto_region 6 with (fail)
      obtain ⟨⟨k0, k1, k2, k3, k4⟩, l0, l1, l2, l3, l4⟩ := HX.out wr (Ext.refl _)
      go_region_law (first | (go_simp; go_at_call 84; refine (HC.out _ (Ext.refl wr).drew).mono ?_; rintro e w9 ⟨rfl, hx9⟩))
      all_goals
        have HN := Lib.hid (SameRel.next (P := fun _ => True) (m := k + 1) hlt (hx.trans ((Ext.refl wr).drew.trans hx9)) (fun _ _ => trivial) trivial rfl)
        clear k0 k1 k2 k3 k4 l0 l1 l2 l3 l4 hx9
        go_wp2_with fail
        go_roundw
        case rel => exact HN.out
        case measure => simp [intOf]; omega
    · have hd : decide ((k : Int) < (a.length : Int)) = false := by simp; omega
      go_wp2_with fail
      go_ret
      exact ⟨rfl, hx⟩
end Go.Proofs.YtokakpbpenndlaaGreatDoor

set_option linter.unusedVariables false
namespace Go.Proofs.YtokakpbpenndlaaGreatDoor
open Go.RowKit Go.Maps

theorem row_pt : RowT Tryz.prog 108 241 2 16 (.agg #[.int .i64 0, .int .i64 0]) := rowT_mk Tryz.underlying108 (by kernel_rfl) rfl (by decide)
theorem row_pp : RowT Tryz.prog 79 108 1 24 (.slice none 0 0) := rowT_mk Tryz.underlying79 (by kernel_rfl) rfl (by decide)
theorem ptCells_one (l : List (Int × Int)) : ∀ u ∈ ptCells l, u.oneCell' = true := by
  intro u hu
  simp only [ptCells, List.mem_flatMap] at hu
  obtain ⟨x, _, hx⟩ := hu
  simp [ptC] at hx
  rcases hx with rfl | rfl <;> rfl
/-- Rings of one's own. -/
def RingsOwn (base : Nat) (W : World) (rs : List Ring) : Prop := ∀ r ∈ rs, W.ownsRow base 241 2 (.slice r.A r.pts.length r.c) r.pts.length (ptCells r.pts)
def CrRel (w : World) (l : List Ring) (i v : Value) (wr : World) : Prop :=
  ∃ (k : Nat) (rs : List Ring), k ≤ l.length ∧ i = .int .i64 (k : Int) ∧ rs.map Ring.pts = (l.take k).map Ring.pts ∧ RingsOwn w.heap.size wr rs ∧ wr.ownsRow w.heap.size 108 1 v k (ringCells rs) ∧ Ext w wr
set_option maxRecDepth 100000 in
set_option maxHeartbeats 2000000 in
theorem copyRings_any (l : List Ring) (A : Option Addr) (n cap : Nat) (w : World) (hn : l.length = n) (hr : Reads w w.heap.size 1 A n (ringCells l)) (hm : n ≤ 1000) (ho : ∀ r ∈ l, r.ok w) (hp : ∀ r ∈ l, r.pts.length ≤ 1000) :
    Calls Tryz.prog 67 #[.slice A n cap] w fun e w' => ∃ A' c' rs, e = .returned (.slice A' n c') ∧ RingsEq rs l ∧ RingsOwn w.heap.size w' rs ∧ w'.ownsRow w.heap.size 108 1 (.slice A' n c') n (ringCells rs) ∧ Ext w w' := by
  subst hn
  have H1 := Lib.hid (fun W (hx : Ext w W) k (hk : k < l.length) => ring_at2 (hr.extB (Nat.le_refl _) hx) hk)
  have HO := Lib.hid (fun W (hx : Ext w W) k (hk : k < l.length) => ((ho l[k] (List.getElem_mem hk)).ext hx).rd)
  have HP := Lib.hid (fun k (hk : k < l.length) => hp l[k] (List.getElem_mem hk))
  clear hr ho hp
  go_enter Tryz.func67, Tryz.ntmps67
  go_wp2_with fail
  go_loopw [4, 3] (fun i v wr => CrRel w l i v wr) (fun i _ _ => l.length - (intOf i).toNat)
  case atStart => exact ⟨0, [], by omega, rfl, rfl, fun r hr => absurd hr (by simp), by simpa [ringCells] using World.ownsRow_nil _ _ _ _, Ext.refl _⟩
  case round =>
    obtain ⟨k, rs, hk, rfl, hE, hR, hO, hx⟩ := hrel
    by_cases hlt : k < l.length
    · have hd : decide ((k : Int) < (l.length : Int)) = true := by simp; omega
      have kl : (k : Int) < (l.length : Int) := by omega
      have kz : (0 : Int) ≤ (k : Int) := by omega
      obtain ⟨g, off, rfl, hg, c1⟩ := H1.out wr hx k hlt
      have hgl : g < wr.heap.size := Nat.lt_of_lt_of_le hg hx.size
      have hpl := HP.out k hlt
      have HN := Lib.hid (fun (W2 : World) (v : Value) (A2 : Option Addr) (c2 : Nat) (h1 : RingsOwn w.heap.size W2 (rs ++ [Ring.mk A2 c2 l[k].pts])) (h2 : W2.ownsRow w.heap.size 108 1 v (k + 1) (ringCells rs ++ [Value.slice A2 l[k].pts.length c2])) (h3 : Ext w W2) => (show CrRel w l (.int .i64 ((k + 1 : Nat) : Int)) v W2 from ⟨k + 1, rs ++ [Ring.mk A2 c2 l[k].pts], by omega, rfl, by rw [List.map_append, hE, List.take_succ_eq_append_getElem hlt, List.map_append]; rfl, h1, by simpa [ringCells, Ring.cl] using h2, h3⟩))
      have HRd := Lib.hid (fun W2 (hy : Ext wr W2) => HO.out W2 (hx.trans hy) k hlt)
      have HR := Lib.hid hR
      have HOw := Lib.hid hO
      have HX := Lib.hid hx
      clear hE hR hO H1 HO HP
      generalize l[k].pts = pts at *
      generalize l[k].A = Ra at *
      generalize l[k].c = rc at *
      go_wp2_with (at_builtin; first
        | (refine wpl_app row_pt wr _ (.tmp 12) (.tmp 16) rfl rfl rfl (own_lit (Ext.refl wr) #[] _ 0 2 rfl (by simp [maxLen]) rfl) ((Ext.refl wr).alloc _) rfl (HRd.out _ ((Ext.refl wr).alloc _)) (ptCells_one _) (by omega) (by unfold maxLen; omega) ?_; intro v4 W4 hg4; obtain ⟨A4, c4, rfl, _, _, _⟩ := own_slice hg4.own; have HG4 := Lib.hid hg4; clear hg4)
        | (refine wpl_app1 row_pp w W4 (.tmp 11) (.tmp 18) rfl rfl rfl (own_ext HOw.out HG4.out.ext) (HX.out.trans HG4.out.ext) rfl rfl rfl (by simp [Value.oneCell']) (by omega) (by unfold maxLen; omega) ?_; intro v5 W5 hg5; have HG5 := Lib.hid hg5; clear hg5))
      have hA4 := HG4.out.own
      simp only [Nat.zero_add] at hA4
      have hmine : W4.ownsRow w.heap.size 241 2 (.slice A4 pts.length c4) pts.length (ptCells pts) := own_base (by simpa using hA4) HX.out.size
      have hR5 : RingsOwn w.heap.size W5 (rs ++ [Ring.mk A4 c4 pts]) := fun r hr => by
        rcases List.mem_append.1 hr with h | h
        · exact Grew.other HG5.out (own_ext HOw.out HG4.out.ext |>.alloc _) ((own_ext (HR.out r h) HG4.out.ext).alloc _) (by decide)
        · rw [List.mem_singleton.1 h]
          exact Grew.other HG5.out (own_ext HOw.out HG4.out.ext |>.alloc _) (hmine.alloc _) (by decide)
      have HE := Lib.hid (HN.out W5 v5 A4 c4 hR5 (by simpa using HG5.out.own) HG5.out.ext)
      clear hA4 hmine hR5
      go_roundw
      case rel => exact HE.out
      case measure => simp [intOf]; omega
    · obtain rfl : k = l.length := by omega
      have hd : decide ((l.length : Int) < (l.length : Int)) = false := by simp
      rw [List.take_length] at hE
      obtain ⟨A4, c4, rfl, _⟩ := own_slice hO
      have HF := Lib.hid (And.intro hE (And.intro hR (And.intro hO hx)))
      clear hE hR hO hx
      go_wp2_with fail
      go_ret
      exact ⟨A4, c4, rs, rfl, HF.out.1, HF.out.2.1, HF.out.2.2.1, HF.out.2.2.2⟩
end Go.Proofs.YtokakpbpenndlaaGreatDoor

set_option linter.unusedVariables false
namespace Go.Proofs.YtokakpbpenndlaaGreatDoor
open Go.RowKit Go.Maps

def Slot.far (S : List Nat) (m : Slot) : Prop := m.g ∉ S ∧ (∀ g, m.va.ownBlock = some g → g ∉ S) ∧ (∀ g, m.vt.ownBlock = some g → g ∉ S) ∧ (∀ g, m.vl.ownBlock = some g → g ∉ S) ∧ (∀ g, m.vb.ownBlock = some g → g ∉ S)
/-- Nothing of a book lies in these blocks. -/
structure BkM.far (S : List Nat) (bb mb : Nat) (vids : Value) (M : BkM) : Prop where
  b : bb ∉ S
  m : mb ∉ S
  v : ∀ g, vids.ownBlock = some g → g ∉ S
  all : ∀ p ∈ M, p.2.far S
theorem KpAt.far {w0 w w' : World} {m : Slot} {x : Kp} {S : List Nat} (h : KpAt w0 w m x) (hc : Chg S w w') (hf : m.far S) : KpAt w0 w' m x :=
  ⟨hc.blk h.blk hf.1, hc.own h.oa hf.2.1, hc.own h.ot hf.2.2.1, hc.own h.ol hf.2.2.2.1, hc.own h.ob hf.2.2.2.2, h.ge⟩
theorem BookAt.far {w0 W W' : World} {cb mc : Nat} {v : Value} {M : BkM} {S : List Nat} (h : BookAt w0 W cb mc v M) (hc : Chg S W W') (hf : BkM.far S cb mc v M) : BookAt w0 W' cb mc v M := by
  refine ⟨hc.blk h.blk hf.b, ?_, hc.own h.ids hf.v, fun p hp => (h.all p hp).far hc (hf.all p hp), h.nodup, h.gnd, h.apart, h.ok, h.geb, h.gem⟩
  obtain ⟨es, clock, hb, r⟩ := h.map
  exact ⟨es, clock, by rw [hc.block mc (Array.getElem?_eq_some_iff.1 hb).1 hf.m]; exact hb, r⟩
theorem BkM.far.foot_ {S : List Nat} {bb mb : Nat} {v : Value} {M : BkM} (h : BkM.far S bb mb v M) : ∀ g ∈ foot bb mb v M, g ∉ S := by
  intro g hg
  simp only [foot, List.mem_cons, List.mem_append, List.mem_flatMap, Option.mem_toList] at hg
  rcases hg with rfl | rfl | hg | ⟨p, hp, rfl | hg⟩
  · exact h.b
  · exact h.m
  · exact h.v g hg
  · exact (h.all p hp).1
  · exact (h.all p hp).2.2.2.2 g hg
/-- A slot's blocks lie in the world. -/
theorem BookAt.slot_lt {w0 W : World} {bb mb : Nat} {v : Value} {M : BkM} (h : BookAt w0 W bb mb v M) : ∀ p ∈ M, p.2.lt W.heap.size := fun p hp => (h.all p hp).lt
/-- Nothing of a book lies in blocks that are new or another's. -/
theorem BookAt.far_new {w0 W : World} {cb mc : Nat} {v : Value} {M : BkM} {S T : List Nat} (h : BookAt w0 W cb mc v M) (hf : BkM.far S cb mc v M) (hT : ∀ g ∈ T, g ∈ S ∨ W.heap.size ≤ g) : BkM.far T cb mc v M := by
  have hn : ∀ g, g < W.heap.size → g ∉ S → g ∉ T := fun g h1 h2 h3 => by
    rcases hT g h3 with h | h
    · exact h2 h
    · omega
  have hl := h.foot_ge
  refine ⟨hn _ (hl cb (by simp [foot])).2 hf.b, hn _ (hl mc (by simp [foot])).2 hf.m, fun g hg => hn g (hl g (foot_vids hg)).2 (hf.v g hg), fun p hp => ?_⟩
  obtain ⟨l1, l2, l3, l4, l5⟩ := h.slot_lt p hp
  obtain ⟨f1, f2, f3, f4, f5⟩ := hf.all p hp
  exact ⟨hn _ l1 f1, fun g hg => hn g (l2 g hg) (f2 g hg), fun g hg => hn g (l3 g hg) (f3 g hg), fun g hg => hn g (l4 g hg) (f4 g hg), fun g hg => hn g (l5 g hg) (f5 g hg)⟩
/-- Two books in use. -/
def Both (w W : World) (bb mb cb mc : Nat) (K L : Bk) : Prop := ∃ v M u N, BookAt w W bb mb v M ∧ M.b = K ∧ BookAt w W cb mc u N ∧ N.b = L ∧ Ext w W ∧ BkM.far (foot bb mb v M) cb mc u N ∧ BkM.far (foot cb mc u N) bb mb v M
theorem Both.to {w W W' : World} {bb mb cb mc : Nat} {K L : Bk} (h : Both w W bb mb cb mc K L) (hx : Ext W W') : Both w W' bb mb cb mc K L := by
  obtain ⟨v, M, u, N, h1, h2, h3, h4, h5, h6, h7⟩ := h
  exact ⟨v, M, u, N, h1.ext hx, h2, h3.ext hx, h4, h5.trans hx, h6, h7⟩
theorem Both.one {w W : World} {bb mb cb mc : Nat} {K L : Bk} (h : Both w W bb mb cb mc K L) : One w W bb mb K := by
  obtain ⟨v, M, u, N, h1, h2, h3, h4, h5, h6, h7⟩ := h
  exact ⟨v, M, h1, h2, h5⟩
theorem Both.add {w W : World} {bb mb cb mc : Nat} {K L : Bk} (h : Both w W bb mb cb mc K L) (e : Ent) (Aa At : Option Addr) (ca ct : Nat) (he : EntR W e Aa At) (hs : K.small) (hk : K.length ≤ 100000) :
    Calls Tryz.prog 26 #[.pointer (some ⟨bb, 0, none⟩), entV e Aa At ca ct] W fun r W' => ∃ A c, r = .returned (.tuple #[.slice A (K.add e).2.1.length c, .int .i64 (K.add e).2.2]) ∧ Both w W' bb mb cb mc (K.add e).1 L := by
  obtain ⟨v, M, u, N, h1, rfl, h3, rfl, h5, h6, h7⟩ := h
  refine (add_any h1 h5 e Aa At ca ct he (by rw [← BkM.len_b]; exact hk) hs).mono ?_
  rintro r W' ⟨A, c, v', M', B1, rfl, hA⟩
  have hlt := h3.foot_ge
  have hnc : ∀ g, W.heap.size ≤ g → g ∉ foot cb mc u N := fun g h1 h2 => by have := (hlt g h2).2; omega
  have hfo : ∀ g ∈ foot bb mb v' M', g ∉ foot cb mc u N := fun g hg => by
    rcases hA.foot g hg with h | h
    · exact h7.foot_ g h
    · exact hnc g h.1
  refine ⟨A, c, rfl, v', M', u, N, hA.at_, hA.b, h3.far hA.chg h6, rfl, Chg.to_ext h5 hA.chg (fun k hk => (h1.foot_ge k hk).1), h3.far_new h6 (fun g hg => (hA.foot g hg).imp id And.left), ⟨hfo bb (by simp [foot]), hfo mb (by simp [foot]), fun g hg => hfo g (foot_vids hg), fun p hp => ?_⟩⟩
  rcases hA.slots p hp with ⟨q, hq, e⟩ | hge
  · rw [← e]; exact h7.all q hq
  · exact ⟨hnc _ hge.1, fun g hg => hnc g (hge.2.1 g hg), fun g hg => hnc g (hge.2.2.1 g hg), fun g hg => hnc g (hge.2.2.2.1 g hg), fun g hg => hnc g (hge.2.2.2.2 g hg)⟩
end Go.Proofs.YtokakpbpenndlaaGreatDoor

set_option linter.unusedVariables false
namespace Go.Proofs.YtokakpbpenndlaaGreatDoor
open Go.RowKit
end Go.Proofs.YtokakpbpenndlaaGreatDoor

set_option linter.unusedVariables false
namespace Go.Proofs.YtokakpbpenndlaaGreatDoor
open Go.RowKit
/-- A cell stored into a row of one's own. -/
theorem own_put {w : World} {base g n c size : Nat} {e : TypeId} {xs : List Value} (h : w.ownsRow base e size (.slice (some ⟨g, 0, none⟩) n c) n xs) {k : Nat} (hk : k < n * size) (u : Value) : (w.setCell ⟨g, k, none⟩ u).ownsRow base e size (.slice (some ⟨g, 0, none⟩) n c) n (xs.set k u) := by
  rcases h.2 with ⟨e1, _⟩ | ⟨g', c', cur, e1, hb, hg, r1, r2, r3, r4⟩
  · cases e1
  · have hl := h.1
    injection e1 with ea en ec
    injection ea with ea
    injection ea with ea
    subst ea ec
    have hblk : Blk w g e cur := hg
    refine ⟨by simpa using hl, .inr ⟨g, c, cur.setIfInBounds k u, rfl, hb, (hblk.set_ k u), r1, r2, by simpa using r3, ?_⟩⟩
    rw [Array.toList_setIfInBounds, List.take_set, r4]
end Go.Proofs.YtokakpbpenndlaaGreatDoor

set_option linter.unusedVariables false
namespace Go.Proofs.YtokakpbpenndlaaGreatDoor
open Go.RowKit Go.Maps Go.Sort Go.Shelf

/-- Two new books. -/
theorem Both.new {w w1 w2 : World} (h1 : BookAt w w1 (w.heap.size + 1) w.heap.size (.slice none 0 0) []) (x1 : Ext w w1) (h2 : BookAt w1 w2 (w1.heap.size + 1) w1.heap.size (.slice none 0 0) []) (x2 : Ext w1 w2) : Both w w2 (w.heap.size + 1) w.heap.size (w1.heap.size + 1) w1.heap.size [] [] := by
  have hlt := h1.lts
  have h2' : BookAt w w2 (w1.heap.size + 1) w1.heap.size (.slice none 0 0) [] := by
    refine BookAt.empty h2.blk ?_ (by have := x1.size; omega) x1.size
    exact h2.map
  refine ⟨_, _, _, _, h1.ext x2, rfl, h2', rfl, x1.trans x2, ⟨?_, ?_, fun g hg => by simp [Value.ownBlock] at hg, fun p hp => absurd hp List.not_mem_nil⟩, ⟨?_, ?_, fun g hg => by simp [Value.ownBlock] at hg, fun p hp => absurd hp List.not_mem_nil⟩⟩ <;> simp [foot, Value.ownBlock] <;> omega
theorem own_at {w : World} {base n c size : Nat} {e : TypeId} {A : Option Addr} {xs : List Value} (h : w.ownsRow base e size (.slice A n c) n xs) (hn : 0 < n) : ∃ g, A = some ⟨g, 0, none⟩ ∧ base ≤ g ∧ g < w.heap.size ∧ (∀ k, k < n * size → w.cell? ⟨g, k, none⟩ = xs[k]?) ∧ ∀ k, w.frozen? ⟨g, k, none⟩ = false := by
  rcases h.2 with ⟨e1, _⟩ | ⟨g', c', cur, e1, hb, hg, r1, r2, r3, r4⟩
  · injection e1 with _ e2 _
    omega
  · injection e1 with ea en ec
    subst ea ec
    have hblk : Blk w g' e cur := hg
    refine ⟨g', rfl, hb, hblk.lt, fun k hk => ?_, hblk.frozen⟩
    rw [hblk.cell, ← r4, List.getElem?_take_of_lt hk, Array.getElem?_toList]
theorem Both.x {w W : World} {bb mb cb mc : Nat} {K L : Bk} (h : Both w W bb mb cb mc K L) : Ext w W := by
  obtain ⟨v, M, u, N, h1, h2, h3, h4, h5, h6, h7⟩ := h
  exact h5
theorem addAll_len {B : Bk} : ∀ l : List Ent, (B.addAll l).length ≤ B.length + l.length
  | [] => by simp [Bk.addAll]
  | e :: l => by
    have h1 := addAll_len (B := (B.add e).1) l
    have h2 := add_len_le B e
    show (Bk.addAll (B.add e).1 l).length ≤ _
    simp only [List.length_cons]
    omega
theorem addAll_take {l : List Ent} {k : Nat} (hk : k < l.length) : Bk.addAll [] (l.take (k + 1)) = ((Bk.addAll [] (l.take k)).add l[k]).1 := by
  rw [List.take_succ_eq_append_getElem hk, addAll_app]
end Go.Proofs.YtokakpbpenndlaaGreatDoor
