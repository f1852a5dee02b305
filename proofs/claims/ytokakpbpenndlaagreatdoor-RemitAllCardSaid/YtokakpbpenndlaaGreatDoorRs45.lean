/-
  The statements' sameDue; the statement RemitKnown: the walk.
-/
import Derived.Test.YtokakpbpenndlaaGreatDoorRs40
import Derived.Test.YtokakpbpenndlaaGreatDoorRs44
import Derived.Test.YtokakpbpenndlaaGreatDoorRs19
import Derived.Test.YtokakpbpenndlaaGreatDoorRs27
import Derived.Test.YtokakpbpenndlaaGreatDoorRs12
import Derived.Test.YtokakpbpenndlaaGreatDoorRs33
import Derived.Deep.DeepCutAuto
set_option linter.unusedVariables false
namespace Go.Proofs.YtokakpbpenndlaaGreatDoor
open Go.RowKit Go.Maps Go.Sort Go.Shelf

theorem dueCl_at (l : List (Int × Int)) (k : Nat) (h : k < l.length) : (dueCl l)[k * 2]? = some (.int .i64 l[k].1) ∧ (dueCl l)[k * 2 + 1]? = some (.int .i64 l[k].2) :=
  ⟨flat_get (f := fun p : Int × Int => dueE p) (c := 2) (fun _ => rfl) l k 0 h (by decide), flat_get (f := fun p : Int × Int => dueE p) (c := 2) (fun _ => rfl) l k 1 h (by decide)⟩
theorem neq_due (x y : Int × Int) (r : Bool) (h : r = decide (x ≠ y)) (w : World) : (binOp .neq 62 (.agg #[.int .i64 x.1, .int .i64 x.2]) (.agg #[.int .i64 y.1, .int .i64 y.2])).run Tryz.prog w = .ok (.bool r) w := by
  subst h
  obtain ⟨a, b⟩ := x
  obtain ⟨a', b'⟩ := y
  by_cases h1 : a = a'
  · by_cases h2 : b = b' <;> simp [go_sem, h1, h2]
  · simp [go_sem, h1]
set_option maxHeartbeats 1000000 in
theorem sameDue_any (a b : List (Int × Int)) (A A' : Option Addr) (n n' c c' : Nat) (w : World) (hn : a.length = n) (hn' : b.length = n') (h1 : Reads w w.heap.size 2 A n (dueCl a)) (h2 : Reads w w.heap.size 2 A' n' (dueCl b)) (m1 : n ≤ maxLen) (m2 : n' ≤ maxLen) :
    Calls Tryz.prog 33 #[.slice A n c, .slice A' n' c'] w fun e w' => e = .returned (.bool (decide (a = b))) ∧ Ext w w' := by
  subst hn hn'
  unfold maxLen at m1 m2
  by_cases hl : a.length = b.length
  · have hb : ((a.length : Int) != (b.length : Int)) = false := by simp; omega
    have HL := Lib.hid hl
    clear hl
    go_enter Tryz.func33, Tryz.ntmps33
    go_wp2
    go_loopw [5] (fun i wr => SameRel w a.length (fun j => a[j]? = b[j]?) i wr) (fun i _ => a.length - (intOf i).toNat)
    case atStart => exact ⟨0, by omega, rfl, Ext.refl _, fun j hj => by omega⟩
    case round =>
      obtain ⟨k, hk, rfl, hx, hP⟩ := hrel
      have HP := Lib.hid hP
      clear hP
      by_cases hlt : k < a.length
      · have hlt2 : k < b.length := by have := HL.out; omega
        have hd : decide ((k : Int) < (a.length : Int)) = true := by simp; omega
        obtain ⟨g, off, rfl, hg, hc⟩ := (h1.extB (Nat.le_refl _) hx).cellAt hlt
        obtain ⟨g', off', rfl, hg', hc'⟩ := (h2.extB (Nat.le_refl _) hx).cellAt hlt2
        obtain ⟨e1, e2⟩ := dueCl_at a k hlt
        obtain ⟨f1, f2⟩ := dueCl_at b k hlt2
        have c1 := hc _ _ e1
        have c2 : wr.cell? ⟨g, off + k * 2 + 1, none⟩ = _ := hc _ _ e2
        have d1 := hc' _ _ f1
        have d2 : wr.cell? ⟨g', off' + k * 2 + 1, none⟩ = _ := hc' _ _ f2
        clear hc hc' e1 e2 f1 f2 h1 h2
        by_cases he : a[k] = b[k]
        · have hq := neq_due a[k] b[k] false (by simp [he])
          have HE := Lib.hid (show a[k]? = b[k]? by simp [hlt, hlt2, he])
          clear he
          go_wp2_with fail
          go_quiet (fail)
          go_wp2_with fail
          go_roundw
          case rel => exact SameRel.next hlt (hx.drewN _) HP.out HE.out rfl
          case measure => simp [intOf]; omega
        · have hq := neq_due a[k] b[k] true (by simp [he])
          have HE := Lib.hid (show decide (a = b) = false by simp; rintro rfl; exact he rfl)
          clear he
          go_wp2_with fail
          go_quiet (fail)
          go_wp2_with fail
          go_ret
          exact ⟨by rw [HE.out]; rfl, hx.drewN _⟩
      · have hd : decide ((k : Int) < (a.length : Int)) = false := by simp; omega
        have HE := Lib.hid (show decide (a = b) = true by simpa using SameRel.done (w := w) (wr := wr) (by omega) HL.out HP.out)
        go_wp2_with fail
        go_ret
        exact ⟨by rw [HE.out]; rfl, hx⟩
  · have hb : ((a.length : Int) != (b.length : Int)) = true := by rw [bne_iff_ne]; omega
    have HE := Lib.hid (show decide (a = b) = false by simp; rintro rfl; exact hl rfl)
    clear hl
    go_enter Tryz.func33, Tryz.ntmps33
    go_wp2
    go_ret
    exact ⟨by rw [HE.out]; rfl, Ext.refl _⟩
/-- All of a book in use. -/
theorem One.all {w W : World} {bb mb : Nat} {K : Bk} (h : One w W bb mb K) (hs : K.small) (h3 : K.b3) (hk : K.length ≤ 100000) (l : List JV) (A : Option Addr) (cap n : Nat) (hn : l.length = n) (hr : Reads W W.heap.size 5 A n (jvCells l)) (hm : n ≤ maxLen) :
    Calls Tryz.prog 31 #[.pointer (some ⟨bb, 0, none⟩), .slice A n cap] W fun r W' => ∃ v ss, r = .returned v ∧ DueAll (K.dues (jsOf l)) ss ∧ W'.ownsRow W.heap.size 62 2 v ss.length (dueCl (sortD ss)) ∧ One w W' bb mb K ∧ Ext W W' := by
  subst hn
  obtain ⟨v, M, hB, rfl, hx⟩ := h
  refine (rall_any hB (by rw [← BkM.len_b]; exact hk) hs h3 l A cap hr hm).mono ?_
  rintro r W' ⟨u, ss, rfl, hS, ho, hx2⟩
  exact ⟨u, ss, rfl, hS, ho, ⟨v, M, hB.ext hx2, rfl, hx.trans hx2⟩, hx2⟩
/-- What is due is one. -/
theorem due_one {ks ss : List (Int × Int)} {p : Int × Int} (hk : ∀ q, q ∈ ks ↔ q = p) (h : DueAll ks ss) : ss = [p] := by
  obtain ⟨hn, hm⟩ := h
  have h1 : ∀ q, q ∈ ss ↔ q = p := fun q => (hm q).trans (hk q)
  match ss, hn, h1 with
  | [], _, h1 => exact absurd ((h1 p).2 rfl) List.not_mem_nil
  | [a], _, h1 => rw [(h1 a).1 (by simp)]
  | a :: b :: r, hn, h1 =>
    have ha := (h1 a).1 (by simp)
    have hb := (h1 b).1 (by simp)
    simp [ha, hb] at hn
theorem known_dues (q : Int × Int) : q ∈ Bk.dues bk1 [⟨7, 1, 0, 1⟩] ↔ q = (7, 0) := by
  have h : Bk.dues bk1 [⟨7, 1, 0, 1⟩] = [(7, 0), (7, 0), (7, 0)] := by
    unfold Bk.dues
    rw [if_neg (by decide)]
    show dueM ⟨7, 1, 0, 1⟩ (bk1.moves 7) ++ [] = _
    rw [k_mv]
    simp [dueM, mv3, of10, of12]
  rw [h]
  simp
theorem known_none : Bk.file bk1 [⟨7, 1, 0, 1⟩] 7 1 = (⟨7, 1, 1, 0, 0, 0, 0, 0⟩, 0) := by
  unfold Bk.file
  rw [if_neg (by decide), show findJ [⟨7, 1, 0, 1⟩] 7 = some ⟨7, 1, 0, 1⟩ by decide]
  simp only
  rw [if_neg (by decide), k_mv]
  have hp : perM 1 1 mv3 = [] := by
    unfold perM mv3 inP
    simp [of10, of12]
  have : repOf 7 1 1 mv3 = ⟨7, 1, 1, 0, 0, 0, 0, 0⟩ := by unfold repOf; rw [hp]; rfl
  rw [this, if_pos (by decide)]
theorem known_eight : Bk.file bk1 [⟨7, 1, 0, 1⟩] 8 0 = (Rep.zero, 6) := by
  unfold Bk.file
  rw [if_neg (by decide), show findJ [⟨7, 1, 0, 1⟩] 8 = none by decide]
theorem first_bytes : repFirst.bytes = [14, 2, 0, 200, 1, 0, 14, 4, 2] := by decide
def repKnown : Rep := ⟨7, 1, 1, 0, 0, 0, 0, 0⟩
set_option maxRecDepth 100000 in
set_option maxHeartbeats 4000000 in
theorem remitKnown_any (w : World) (ht : Tab10 w) : Calls Tryz.prog 8 #[] w fun r w' => r = .returned (.bool true) ∧ Ext w w' := by
  have HT := Lib.hid (fun W (hx : Ext w W) => ht.ext hx)
  clear ht
  go_enter Tryz.func8, Tryz.ntmps8
  go_wp2_with fail
  refine (sample30_any _).mono ?_
  rintro r w1 ⟨bb, mb, rfl, O1⟩
  go_wp2_with fail
  refine (seven30_any _).mono ?_
  rintro r w2 ⟨A2, rfl, R2, hx2⟩
  have O2 := O1.to hx2
  have OF : Calls Tryz.prog 29 #[.pointer (some ⟨bb, 0, none⟩), .slice A2 1 1, .int .i64 7, .int .i64 1] w2 fun r W' => r = .returned (.tuple #[.agg #[.int .i64 7, .int .i64 1, .int .i64 1, .int .i64 0, .int .i64 0, .int .i64 0, .int .i64 0, .int .i64 0], .int .i64 0]) ∧ One w W' bb mb bk1 ∧ Ext w2 W' :=
    O2.file small_b1 b3_bk1 (by simp [bk1]) [jSeven] A2 1 1 rfl R2 (by simp [maxLen]) 7 1 known_none
  replace OF := Lib.hid OF
  go_wp2_with fail
  refine OF.out.mono ?_
  rintro r w3 ⟨rfl, O3, hx3⟩
  clear O1 O2 R2 hx2 hx3 OF
  have B2 := Blk.new w3 23 #[.int .i64 7, .int .i64 1, .int .i64 1, .int .i64 0, .int .i64 0, .int .i64 0, .int .i64 0, .int .i64 0]
  have X4 := (Ext.refl w3).alloc (.cells #[.int .i64 7, .int .i64 1, .int .i64 1, .int .i64 0, .int .i64 0, .int .i64 0, .int .i64 0, .int .i64 0] 23)
  have O4 := O3.to X4
  clear O3 X4
  go_wp2_with fail
  generalize w3.alloc (.cells #[.int .i64 7, .int .i64 1, .int .i64 1, .int .i64 0, .int .i64 0, .int .i64 0, .int .i64 0, .int .i64 0] 23) = w4 at *
  generalize w3.heap.size = g2 at *
  refine (seven30_any _).mono ?_
  rintro r w5 ⟨A5, rfl, R5, hx5⟩
  have O5 := O4.to hx5
  have B5 := B2.ext hx5
  have OF := Lib.hid (O5.file small_b1 b3_bk1 (by simp [bk1]) [jSeven] A5 1 1 rfl R5 (by simp [maxLen]) 8 0 known_eight)
  clear O4 B2 hx5
  go_wp2_with fail
  refine OF.out.mono ?_
  rintro r w6 ⟨rfl, O6, hx6⟩
  have B6 := B5.ext hx6
  clear O5 B5 hx6 OF R5
  have X7 := (Ext.refl w6).alloc (.cells #[.int .i64 Rep.zero.j, .int .i64 Rep.zero.k, .int .i64 Rep.zero.p, .int .i64 Rep.zero.t, .int .i64 Rep.zero.x, .int .i64 Rep.zero.v, .int .i64 Rep.zero.s, .int .i64 Rep.zero.r] 23)
  have O7 := O6.to X7
  have B7 := B6.ext X7
  clear O6 B6 X7
  go_wp2_with fail
  generalize w6.alloc (.cells #[.int .i64 Rep.zero.j, .int .i64 Rep.zero.k, .int .i64 Rep.zero.p, .int .i64 Rep.zero.t, .int .i64 Rep.zero.x, .int .i64 Rep.zero.v, .int .i64 Rep.zero.s, .int .i64 Rep.zero.r] 23) = w7 at *
  generalize w6.heap.size = g4 at *
  refine (first30_any _).mono ?_
  rintro r w8 ⟨rfl, hx8⟩
  have O8 := O7.to hx8
  have B8 := B7.ext hx8
  have HBy := Lib.hid (rbytes30_any repFirst first_i64 w8)
  rw [first_check, first_bytes] at HBy
  clear O7 B7 hx8
  go_wp2_with fail
  refine HBy.out.mono ?_
  rintro r w9 ⟨v9, rfl, ho9, hx9, _⟩
  obtain ⟨A9, c9, rfl, _, _, R9⟩ := own_slice ho9
  have O9 := O8.to hx9
  have B9 := B8.ext hx9
  clear O8 B8 hx9 ho9 HBy
  go_wp2_with fail
  refine (awake30_any _ (HT.out _ O9.x)).mono ?_
  rintro r w10 ⟨rfl, hx10⟩
  have O10 := O9.to hx10
  have B10 := B9.ext hx10
  have R10 := R9.ext hx10
  clear O9 B9 R9 hx10
  obtain ⟨q, q'⟩ := B10.cells
  have heq : ∀ W, (binOp .eql 23 (.agg #[.int .i64 7, .int .i64 1, .int .i64 1, .int .i64 0, .int .i64 0, .int .i64 0, .int .i64 0, .int .i64 0]) (.agg #[.int .i64 7, .int .i64 1, .int .i64 1, .int .i64 0, .int .i64 0, .int .i64 0, .int .i64 0, .int .i64 0])).run Tryz.prog W = .ok (.bool true) W := eql_rep repKnown repKnown true (by simp)
  go_wp2_with fail
  refine (seven30_any _).mono ?_
  rintro r w11 ⟨A11, rfl, R11, hx11⟩
  have O11 := O10.to hx11
  have R11b := R10.ext hx11
  have OA := Lib.hid (O11.all small_b1 b3_bk1 (by simp [bk1]) [jSeven] A11 1 1 rfl R11 (by simp [maxLen]))
  clear O10 R10 hx11 q q' B10
  go_wp2_with fail
  refine OA.out.mono ?_
  rintro r w12 ⟨v12, ss, rfl, hS, ho12, O12, hx12⟩
  obtain rfl : ss = [(7, 0)] := due_one known_dues hS
  obtain ⟨A12, c12, rfl, _, _, R12⟩ := own_slice ho12
  have R12b := R11b.ext hx12
  have hs1 : sortD [(7, 0)] = [(7, 0)] := by simp [sortD]
  rw [hs1] at R12
  clear OA R11 R11b hS ho12 hx12 O11 hs1
  have X13 := (Ext.refl w12).alloc (.cells #[.int .i64 7, .int .i64 0] 62)
  have R13 := reads_c w12 #[.int .i64 7, .int .i64 0] 62 1 2 (dueCl [(7, 0)]) rfl rfl
  go_wp2_with fail
  have R12c := R12.ext X13
  have R12d := R12b.ext X13
  have O13 := O12.to X13
  clear R12 R12b O12 X13
  generalize w12.alloc (.cells #[.int .i64 7, .int .i64 0] 62) = w13 at *
  generalize w12.heap.size = g13 at *
  refine (sameDue_any [(7, 0)] [(7, 0)] A12 (some ⟨g13, 0, none⟩) 1 1 c12 1 w13 rfl rfl R12c R13 (by simp [maxLen]) (by simp [maxLen])).mono ?_
  rintro r w14 ⟨rfl, hx14⟩
  have O14 := O13.to hx14
  have R14 := R12d.ext hx14
  clear O13 R12c R12d R13 hx14
  have X15 := (Ext.refl w14).alloc (.cells #[.int .u8 14, .int .u8 2, .int .u8 0, .int .u8 200, .int .u8 1, .int .u8 0, .int .u8 14, .int .u8 4, .int .u8 2] 5)
  have R15 := reads_c w14 #[.int .u8 14, .int .u8 2, .int .u8 0, .int .u8 200, .int .u8 1, .int .u8 0, .int .u8 14, .int .u8 4, .int .u8 2] 5 9 1 (bV [14, 2, 0, 200, 1, 0, 14, 4, 2]) rfl rfl
  have HSB := Lib.hid (sameBytes_t [14, 2, 0, 200, 1, 0, 14, 4, 2] A9 (some ⟨w14.heap.size, 0, none⟩) 9 9 c9 9 _ (R14.ext X15) R15)
  have O15 := Lib.hid (O14.to X15)
  clear O14 R14 R15 X15
  go_wp2_with fail
  refine HSB.out.mono ?_
  rintro r w15 ⟨rfl, rfl⟩
  go_wp2_with fail
  go_ret
  exact ⟨rfl, O15.out.x⟩
end Go.Proofs.YtokakpbpenndlaaGreatDoor

set_option linter.unusedVariables false
namespace Go.Proofs.YtokakpbpenndlaaGreatDoor
open Go.RowKit

/-- A ring in memory. -/
structure Ring where
  A : Option Addr
  c : Nat
  pts : List (Int × Int)
def ptC (p : Int × Int) : List Value := [.int .i64 p.1, .int .i64 p.2]
def ptCells (l : List (Int × Int)) : List Value := l.flatMap ptC
def Ring.cl (r : Ring) : List Value := [.slice r.A r.pts.length r.c]
def ringCells (l : List Ring) : List Value := l.flatMap Ring.cl
structure Ring.ok (w : World) (r : Ring) : Prop where
  l1 : r.pts.length ≤ r.c
  l2 : r.c ≤ maxLen
  pi : ∀ p ∈ r.pts, i64 p.1 ∧ i64 p.2
  rd : Reads w w.heap.size 2 r.A r.pts.length (ptCells r.pts)
theorem Ring.ok.ext {w w' : World} {r : Ring} (h : r.ok w) (hx : Ext w w') : r.ok w' := ⟨h.l1, h.l2, h.pi, h.rd.ext hx⟩
/-- A jurisdiction in memory, with its rings. -/
structure JX where
  j : Jur
  A : Option Addr
  c : Nat
  rings : List Ring
def JX.jv (x : JX) : JV := ⟨x.j, x.A, x.rings.length, x.c⟩
def jvs (l : List JX) : List JV := l.map JX.jv
theorem jvs_len (l : List JX) : (jvs l).length = l.length := by simp [jvs]
structure JX.ok (w : World) (x : JX) : Prop where
  l1 : x.rings.length ≤ x.c
  l2 : x.c ≤ maxLen
  i1 : i64 x.j.id
  i2 : i64 x.j.k
  i3 : i64 x.j.par
  i4 : i64 x.j.f
  ro : ∀ r ∈ x.rings, r.ok w
  rd : Reads w w.heap.size 1 x.A x.rings.length (ringCells x.rings)
theorem JX.ok.ext {w w' : World} {x : JX} (h : x.ok w) (hx : Ext w w') : x.ok w' := ⟨h.l1, h.l2, h.i1, h.i2, h.i3, h.i4, fun r hr => (h.ro r hr).ext hx, h.rd.ext hx⟩
theorem opens_points : Opens Tryz.prog 108 (fun w cs => ∃ r : Ring, cs = r.cl ∧ r.ok w) :=
  (opens_slice 2 Tryz.underlying108 (by kernel_rfl) (by decide) opens_point).mono fun w cs h => by
    obtain ⟨A, cap, l, h1, h2, h3, hp, h4⟩ := SliceOf.list (code := ptC) (p := fun p => i64 p.1 ∧ i64 p.2) h (fun x ⟨a, b, hb, h1, h2⟩ => ⟨(a, b), hb, h1, h2⟩)
    exact ⟨⟨A, cap, l⟩, h1, h2, h3, hp, h4⟩
theorem opens_rings : Opens Tryz.prog 79 (fun w cs => ∃ (A : Option Addr) (cap : Nat) (l : List Ring), cs = [.slice A l.length cap] ∧ l.length ≤ cap ∧ cap ≤ maxLen ∧ (∀ r ∈ l, r.ok w) ∧ Reads w w.heap.size 1 A l.length (ringCells l)) :=
  (opens_slice 1 Tryz.underlying79 (by kernel_rfl) (by decide) opens_points).mono fun w cs h =>
    SliceOf.list (code := Ring.cl) (p := fun r => r.ok w) h (fun x ⟨l, hl, hp⟩ => ⟨l, hl, hp⟩)
theorem opens_region : Opens Tryz.prog 81 (fun w cs => ∃ (A : Option Addr) (cap : Nat) (l : List Ring), cs = [.slice A l.length cap] ∧ l.length ≤ cap ∧ cap ≤ maxLen ∧ (∀ r ∈ l, r.ok w) ∧ Reads w w.heap.size 1 A l.length (ringCells l)) :=
  (opens_fields Tryz.underlying81 (.cons 1 opens_rings (by kernel_rfl) .nil) (by kernel_rfl)).mono fun w cs h => by
    obtain ⟨_, _, rfl, _, ⟨A, cap, l, rfl, h1⟩, rfl⟩ := h
    exact ⟨A, cap, l, rfl, h1⟩
theorem opens_jur : Opens Tryz.prog 83 (fun w cs => ∃ x : JX, cs = x.jv.cl ∧ x.ok w) :=
  (opens_fields Tryz.underlying83 (.cons 1 opens_i (by kernel_rfl) (.cons 1 opens_i (by kernel_rfl) (.cons 1 opens_i (by kernel_rfl) (.cons 1 opens_i (by kernel_rfl) (.cons 1 opens_region (by kernel_rfl) .nil))))) (by kernel_rfl)).mono fun w cs h => by
    obtain ⟨_, _, rfl, _, ⟨a, rfl, h1⟩, _, _, rfl, _, ⟨b, rfl, h2⟩, _, _, rfl, _, ⟨c, rfl, h3⟩, _, _, rfl, _, ⟨d, rfl, h4⟩, _, _, rfl, _, ⟨A, cap, l, rfl, l1, l2, l3, l4⟩, rfl⟩ := h
    exact ⟨⟨⟨a, b, c, d⟩, A, cap, l⟩, rfl, ⟨l1, l2, h1, h2, h3, h4, l3, l4⟩⟩
theorem opens_juris : Opens Tryz.prog 39 (fun w cs => ∃ (A : Option Addr) (cap : Nat) (l : List JX), cs = [.slice A l.length cap] ∧ l.length ≤ cap ∧ cap ≤ maxLen ∧ (∀ x ∈ l, x.ok w) ∧ Reads w w.heap.size 5 A l.length (jvCells (jvs l))) :=
  (opens_slice 5 Tryz.underlying39 (by kernel_rfl) (by decide) opens_jur).mono fun w cs h => by
    obtain ⟨A, cap, l, h1, h2, h3, hp, h4⟩ := SliceOf.list (code := fun x : JX => x.jv.cl) (p := fun x => x.ok w) h (fun x ⟨l, hl, hp⟩ => ⟨l, hl, hp⟩)
    refine ⟨A, cap, l, h1, h2, h3, hp, ?_⟩
    unfold jvCells jvs
    rw [List.flatMap_map]
    exact h4
/-- The cells of the k-th jurisdiction. -/
theorem jx_at {w : World} {A : Option Addr} {l : List JX} (hr : Reads w w.heap.size 5 A l.length (jvCells (jvs l))) {k : Nat} (hk : k < l.length) : ∃ g off, A = some ⟨g, off, none⟩ ∧ g < w.heap.size ∧ ∀ W, Ext w W →
    W.cell? ⟨g, off + k * 5, none⟩ = some (.int .i64 l[k].j.id) ∧ W.cell? ⟨g, off + k * 5 + 1, none⟩ = some (.int .i64 l[k].j.k) ∧ W.cell? ⟨g, off + k * 5 + 2, none⟩ = some (.int .i64 l[k].j.par) ∧
    W.cell? ⟨g, off + k * 5 + 3, none⟩ = some (.int .i64 l[k].j.f) ∧ W.cell? ⟨g, off + k * 5 + 4, none⟩ = some (.slice l[k].A l[k].rings.length l[k].c) := by
  have hk' : k < (jvs l).length := by rw [jvs_len]; exact hk
  rw [← jvs_len l] at hr
  have e : (jvs l)[k] = l[k].jv := by simp [jvs]
  have := jv_at hr hk'
  rw [e] at this
  exact this
theorem ring_at {w : World} {B : Nat} {A : Option Addr} {l : List Ring} (hr : Reads w B 1 A l.length (ringCells l)) {k : Nat} (hk : k < l.length) : ∃ g off, A = some ⟨g, off, none⟩ ∧ g < B ∧ w.cell? ⟨g, off + k, none⟩ = some (.slice l[k].A l[k].pts.length l[k].c) := by
  obtain ⟨g, off, rfl, hg, hc⟩ := hr.cellAt hk
  refine ⟨g, off, rfl, hg, hc _ _ ?_⟩
  have := flat_get (f := Ring.cl) (c := 1) (fun _ => rfl) l k 0 hk (by decide)
  simpa [ringCells, Ring.cl] using this
def BigP (n : Nat) (most : Int) (w : World) (e : Ending) (w' : World) : Prop := ∃ b : Bool, e = .returned (.bool b) ∧ (b = false → (n : Int) ≤ most) ∧ w = w'
def BjRel (n : Nat) (i v5 : Value) : Prop := ∃ (k : Nat) (V : Int), k ≤ n ∧ i = .int .i64 (k : Int) ∧ v5 = .int .i64 V
set_option maxRecDepth 100000 in
set_option maxHeartbeats 2000000 in
theorem bigJuris_any (l : List JX) (A : Option Addr) (cap : Nat) (most : Int) (w : World) (hr : Reads w w.heap.size 5 A l.length (jvCells (jvs l))) (hm : l.length ≤ maxLen) (hok : ∀ x ∈ l, x.ok w) (hmost : 0 ≤ most) :
    Calls Tryz.prog 24 #[.slice A l.length cap, .int .i64 most] w (BigP l.length most w) := by
  have HOK := Lib.hid hok
  unfold maxLen at hm
  clear hok
  go_enter Tryz.func24, Tryz.ntmps24
  go_wp2_with fail
  go_loop [6, 5] (fun i v5 => BjRel l.length i v5) (fun i _ => l.length - (intOf i).toNat)
  case atStart => exact ⟨0, 0, by omega, rfl, rfl⟩
  case round =>
    obtain ⟨k, V, hk, rfl, rfl⟩ := hrel
    by_cases hlt : k < l.length
    · have hd : decide ((k : Int) < (l.length : Int)) = true := by simp; omega
      by_cases hV : V ≤ 400
      · have hdV : decide (V ≤ 400) = true := by simpa using hV
        obtain ⟨g, off, rfl, hg, hc⟩ := jx_at hr hlt
        obtain ⟨c1, c2, c3, c4, c5⟩ := hc w (Ext.refl w)
        have kl : (k : Int) < (l.length : Int) := by omega
        have kz : (0 : Int) ≤ (k : Int) := by omega
        have hx := HOK.out l[k] (List.getElem_mem hlt)
        have hrd := hx.rd
        have hrl : l[k].rings.length ≤ 9223372036854775807 := by have := hx.l1; have := hx.l2; unfold maxLen at this; omega
        clear hc c1 c2 c3 c4 hx
        generalize l[k] = x at *
        go_wp2_with fail
        go_loop [7, 5] (fun i v5 => BjRel x.rings.length i v5) (fun i _ => x.rings.length - (intOf i).toNat)
        case atStart => exact ⟨0, V, by omega, rfl, rfl⟩
        case round =>
          obtain ⟨q, U, hq, rfl, rfl⟩ := hrel
          by_cases hlq : q < x.rings.length
          · have hdq : decide ((q : Int) < (x.rings.length : Int)) = true := by simp; omega
            by_cases hU : U ≤ 400
            · have hdU : decide (U ≤ 400) = true := by simpa using hU
              obtain ⟨g2, o2, hA2, hg2, cr⟩ := ring_at hrd hlq
              rw [hA2] at c5
              have ql : (q : Int) < (x.rings.length : Int) := by omega
              have qz : (0 : Int) ≤ (q : Int) := by omega
              generalize x.rings[q] = y at *
              clear hA2 hU hV
              go_wp2_with fail
              go_round
              case rel => exact ⟨q + 1, _, by omega, by go_num, rfl⟩
              case measure => simp [intOf]; omega
            · have hdU : decide (U ≤ 400) = false := by simpa using hU
              go_wp2_with fail
              go_round
              case rel => exact ⟨k + 1, U, by omega, by go_num, rfl⟩
              case measure => simp [intOf]; omega
          · have hdq : decide ((q : Int) < (x.rings.length : Int)) = false := by simp; omega
            go_wp2_with fail
            go_round
            case rel => exact ⟨k + 1, U, by omega, by go_num, rfl⟩
            case measure => simp [intOf]; omega
      · have hdV : decide (V ≤ 400) = false := by simpa using hV
        have hdV2 : decide (400 < V) = true := by simp; omega
        by_cases hb : most < (l.length : Int)
        · have hdb : decide (most < (l.length : Int)) = true := by simpa using hb
          go_wp2_with fail
          go_ret
          exact ⟨true, rfl, (fun h => by cases h), rfl⟩
        · have hdb : decide (most < (l.length : Int)) = false := by simpa using hb
          go_wp2_with fail
          go_ret
          exact ⟨true, rfl, (fun h => by cases h), rfl⟩
    · have hd : decide ((k : Int) < (l.length : Int)) = false := by simp; omega
      by_cases hb : most < (l.length : Int)
      · have hdb : decide (most < (l.length : Int)) = true := by simpa using hb
        go_wp2_with fail
        go_ret
        exact ⟨true, rfl, (fun h => by cases h), rfl⟩
      · have hdb : decide (most < (l.length : Int)) = false := by simpa using hb
        have hle : (l.length : Int) ≤ most := by omega
        go_wp2_with fail
        go_ret
        exact ⟨_, rfl, fun _ => hle, rfl⟩
end Go.Proofs.YtokakpbpenndlaaGreatDoor
