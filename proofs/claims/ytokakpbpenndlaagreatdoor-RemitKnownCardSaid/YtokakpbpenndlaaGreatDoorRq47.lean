/-
  The statements' sameDue; the statement RemitKnown: the walk.
-/
import Derived.Test.YtokakpbpenndlaaGreatDoorRq43
import Derived.Test.YtokakpbpenndlaaGreatDoorRq46
import Derived.Test.YtokakpbpenndlaaGreatDoorRq28
import Derived.Test.YtokakpbpenndlaaGreatDoorRq41
import Derived.Test.YtokakpbpenndlaaGreatDoorRows
import Derived.ProofKit
import Derived.Test.YtokakpbpenndlaaGreatDoorRq20
import Derived.Test.YtokakpbpenndlaaGreatDoorRq45
import Derived.Test.YtokakpbpenndlaaGreatDoorTie
import Derived.Test.YtokakpbpenndlaaGreatDoorCards
import Derived.LaidMore
import Derived.Stop.Joined
import Derived.Lib.LaidTab
set_option linter.unusedVariables false
namespace Go.Proofs.YtokakpbpenndlaaGreatDoor
open Go.RowKit Go.Maps Go.Sort Go.Shelf

theorem dueCl_at (l : List (Int × Int)) (k : Nat) (h : k < l.length) : (dueCl l)[k * 2]? = some (.int .i64 l[k].1) ∧ (dueCl l)[k * 2 + 1]? = some (.int .i64 l[k].2) :=
  ⟨flat_get (f := fun p : Int × Int => dueE p) (c := 2) (fun _ => rfl) l k 0 h (by decide), flat_get (f := fun p : Int × Int => dueE p) (c := 2) (fun _ => rfl) l k 1 h (by decide)⟩
theorem neq_due (x y : Int × Int) (r : Bool) (h : r = decide (x ≠ y)) (w : World) : (binOp .neq 62 (.agg #[.int .i64 x.1, .int .i64 x.2]) (.agg #[.int .i64 y.1, .int .i64 y.2])).run Tryz.prog w = .ok (.bool r) w := by
  subst h
  obtain ⟨a, b⟩ := x
  obtain ⟨a', b'⟩ := y
  by_cases h1 : a = a'
  · by_cases h2 : b = b' <;> simp [go_sem, h1, h2]
  · simp [go_sem, h1]
set_option maxHeartbeats 1000000 in
theorem sameDue_any (a b : List (Int × Int)) (A A' : Option Addr) (n n' c c' : Nat) (w : World) (hn : a.length = n) (hn' : b.length = n') (h1 : Reads w w.heap.size 2 A n (dueCl a)) (h2 : Reads w w.heap.size 2 A' n' (dueCl b)) (m1 : n ≤ maxLen) (m2 : n' ≤ maxLen) :
    Calls Tryz.prog 33 #[.slice A n c, .slice A' n' c'] w fun e w' => e = .returned (.bool (decide (a = b))) ∧ Ext w w' := by
  subst hn hn'
  unfold maxLen at m1 m2
  by_cases hl : a.length = b.length
  · have hb : ((a.length : Int) != (b.length : Int)) = false := by simp; omega
    have HL := Lib.hid hl
    clear hl
    go_enter Tryz.func33, Tryz.ntmps33
    go_wp2
    go_loopw [5] (fun i wr => SameRel w a.length (fun j => a[j]? = b[j]?) i wr) (fun i _ => a.length - (intOf i).toNat)
    case atStart => exact ⟨0, by omega, rfl, Ext.refl _, fun j hj => by omega⟩
    case round =>
      obtain ⟨k, hk, rfl, hx, hP⟩ := hrel
      have HP := Lib.hid hP
      clear hP
      by_cases hlt : k < a.length
      · have hlt2 : k < b.length := by have := HL.out; omega
        have hd : decide ((k : Int) < (a.length : Int)) = true := by simp; omega
        obtain ⟨g, off, rfl, hg, hc⟩ := (h1.extB (Nat.le_refl _) hx).cellAt hlt
        obtain ⟨g', off', rfl, hg', hc'⟩ := (h2.extB (Nat.le_refl _) hx).cellAt hlt2
        obtain ⟨e1, e2⟩ := dueCl_at a k hlt
        obtain ⟨f1, f2⟩ := dueCl_at b k hlt2
        have c1 := hc _ _ e1
        have c2 : wr.cell? ⟨g, off + k * 2 + 1, none⟩ = _ := hc _ _ e2
        have d1 := hc' _ _ f1
        have d2 : wr.cell? ⟨g', off' + k * 2 + 1, none⟩ = _ := hc' _ _ f2
        clear hc hc' e1 e2 f1 f2 h1 h2
        by_cases he : a[k] = b[k]
        · have hq := neq_due a[k] b[k] false (by simp [he])
          have HE := Lib.hid (show a[k]? = b[k]? by simp [hlt, hlt2, he])
          clear he
          go_wp2_with fail
          go_quiet (fail)
          go_wp2_with fail
          go_roundw
          case rel => exact SameRel.next hlt (hx.drewN _) HP.out HE.out rfl
          case measure => simp [intOf]; omega
        · have hq := neq_due a[k] b[k] true (by simp [he])
          have HE := Lib.hid (show decide (a = b) = false by simp; rintro rfl; exact he rfl)
          clear he
          go_wp2_with fail
          go_quiet (fail)
          go_wp2_with fail
          go_ret
          exact ⟨by rw [HE.out]; rfl, hx.drewN _⟩
      · have hd : decide ((k : Int) < (a.length : Int)) = false := by simp; omega
        have HE := Lib.hid (show decide (a = b) = true by simpa using SameRel.done (w := w) (wr := wr) (by omega) HL.out HP.out)
        go_wp2_with fail
        go_ret
        exact ⟨by rw [HE.out]; rfl, hx⟩
  · have hb : ((a.length : Int) != (b.length : Int)) = true := by rw [bne_iff_ne]; omega
    have HE := Lib.hid (show decide (a = b) = false by simp; rintro rfl; exact hl rfl)
    clear hl
    go_enter Tryz.func33, Tryz.ntmps33
    go_wp2
    go_ret
    exact ⟨by rw [HE.out]; rfl, Ext.refl _⟩
/-- All of a book in use. -/
theorem One.all {w W : World} {bb mb : Nat} {K : Bk} (h : One w W bb mb K) (hs : K.small) (h3 : K.b3) (hk : K.length ≤ 100000) (l : List JV) (A : Option Addr) (cap n : Nat) (hn : l.length = n) (hr : Reads W W.heap.size 5 A n (jvCells l)) (hm : n ≤ maxLen) :
    Calls Tryz.prog 31 #[.pointer (some ⟨bb, 0, none⟩), .slice A n cap] W fun r W' => ∃ v ss, r = .returned v ∧ DueAll (K.dues (jsOf l)) ss ∧ W'.ownsRow W.heap.size 62 2 v ss.length (dueCl (sortD ss)) ∧ One w W' bb mb K ∧ Ext W W' := by
  subst hn
  obtain ⟨v, M, hB, rfl, hx⟩ := h
  refine (rall_any hB (by rw [← BkM.len_b]; exact hk) hs h3 l A cap hr hm).mono ?_
  rintro r W' ⟨u, ss, rfl, hS, ho, hx2⟩
  exact ⟨u, ss, rfl, hS, ho, ⟨v, M, hB.ext hx2, rfl, hx.trans hx2⟩, hx2⟩
/-- What is due is one. -/
theorem due_one {ks ss : List (Int × Int)} {p : Int × Int} (hk : ∀ q, q ∈ ks ↔ q = p) (h : DueAll ks ss) : ss = [p] := by
  obtain ⟨hn, hm⟩ := h
  have h1 : ∀ q, q ∈ ss ↔ q = p := fun q => (hm q).trans (hk q)
  match ss, hn, h1 with
  | [], _, h1 => exact absurd ((h1 p).2 rfl) List.not_mem_nil
  | [a], _, h1 => rw [(h1 a).1 (by simp)]
  | a :: b :: r, hn, h1 =>
    have ha := (h1 a).1 (by simp)
    have hb := (h1 b).1 (by simp)
    simp [ha, hb] at hn
theorem known_dues (q : Int × Int) : q ∈ Bk.dues bk1 [⟨7, 1, 0, 1⟩] ↔ q = (7, 0) := by
  have h : Bk.dues bk1 [⟨7, 1, 0, 1⟩] = [(7, 0), (7, 0), (7, 0)] := by
    unfold Bk.dues
    rw [if_neg (by decide)]
    show dueM ⟨7, 1, 0, 1⟩ (bk1.moves 7) ++ [] = _
    rw [k_mv]
    simp [dueM, mv3, of10, of12]
  rw [h]
  simp
theorem known_none : Bk.file bk1 [⟨7, 1, 0, 1⟩] 7 1 = (⟨7, 1, 1, 0, 0, 0, 0, 0⟩, 0) := by
  unfold Bk.file
  rw [if_neg (by decide), show findJ [⟨7, 1, 0, 1⟩] 7 = some ⟨7, 1, 0, 1⟩ by decide]
  simp only
  rw [if_neg (by decide), k_mv]
  have hp : perM 1 1 mv3 = [] := by
    unfold perM mv3 inP
    simp [of10, of12]
  have : repOf 7 1 1 mv3 = ⟨7, 1, 1, 0, 0, 0, 0, 0⟩ := by unfold repOf; rw [hp]; rfl
  rw [this, if_pos (by decide)]
theorem known_eight : Bk.file bk1 [⟨7, 1, 0, 1⟩] 8 0 = (Rep.zero, 6) := by
  unfold Bk.file
  rw [if_neg (by decide), show findJ [⟨7, 1, 0, 1⟩] 8 = none by decide]
theorem first_bytes : repFirst.bytes = [14, 2, 0, 200, 1, 0, 14, 4, 2] := by decide
def repKnown : Rep := ⟨7, 1, 1, 0, 0, 0, 0, 0⟩
set_option maxRecDepth 100000 in
set_option maxHeartbeats 4000000 in
theorem remitKnown_any (w : World) (ht : Tab10 w) : Calls Tryz.prog 8 #[] w fun r w' => r = .returned (.bool true) ∧ Ext w w' := by
  have HT := Lib.hid (fun W (hx : Ext w W) => ht.ext hx)
  clear ht
  go_enter Tryz.func8, Tryz.ntmps8
  go_wp2_with fail
  refine (sample30_any _).mono ?_
  rintro r w1 ⟨bb, mb, rfl, O1⟩
  go_wp2_with fail
  refine (seven30_any _).mono ?_
  rintro r w2 ⟨A2, rfl, R2, hx2⟩
  have O2 := O1.to hx2
  have OF : Calls Tryz.prog 29 #[.pointer (some ⟨bb, 0, none⟩), .slice A2 1 1, .int .i64 7, .int .i64 1] w2 fun r W' => r = .returned (.tuple #[.agg #[.int .i64 7, .int .i64 1, .int .i64 1, .int .i64 0, .int .i64 0, .int .i64 0, .int .i64 0, .int .i64 0], .int .i64 0]) ∧ One w W' bb mb bk1 ∧ Ext w2 W' :=
    O2.file small_b1 b3_bk1 (by simp [bk1]) [jSeven] A2 1 1 rfl R2 (by simp [maxLen]) 7 1 known_none
  replace OF := Lib.hid OF
  go_wp2_with fail
  refine OF.out.mono ?_
  rintro r w3 ⟨rfl, O3, hx3⟩
  clear O1 O2 R2 hx2 hx3 OF
  have B2 := Blk.new w3 23 #[.int .i64 7, .int .i64 1, .int .i64 1, .int .i64 0, .int .i64 0, .int .i64 0, .int .i64 0, .int .i64 0]
  have X4 := (Ext.refl w3).alloc (.cells #[.int .i64 7, .int .i64 1, .int .i64 1, .int .i64 0, .int .i64 0, .int .i64 0, .int .i64 0, .int .i64 0] 23)
  have O4 := O3.to X4
  clear O3 X4
  go_wp2_with fail
  generalize w3.alloc (.cells #[.int .i64 7, .int .i64 1, .int .i64 1, .int .i64 0, .int .i64 0, .int .i64 0, .int .i64 0, .int .i64 0] 23) = w4 at *
  generalize w3.heap.size = g2 at *
  refine (seven30_any _).mono ?_
  rintro r w5 ⟨A5, rfl, R5, hx5⟩
  have O5 := O4.to hx5
  have B5 := B2.ext hx5
  have OF := Lib.hid (O5.file small_b1 b3_bk1 (by simp [bk1]) [jSeven] A5 1 1 rfl R5 (by simp [maxLen]) 8 0 known_eight)
  clear O4 B2 hx5
  go_wp2_with fail
  refine OF.out.mono ?_
  rintro r w6 ⟨rfl, O6, hx6⟩
  have B6 := B5.ext hx6
  clear O5 B5 hx6 OF R5
  have X7 := (Ext.refl w6).alloc (.cells #[.int .i64 Rep.zero.j, .int .i64 Rep.zero.k, .int .i64 Rep.zero.p, .int .i64 Rep.zero.t, .int .i64 Rep.zero.x, .int .i64 Rep.zero.v, .int .i64 Rep.zero.s, .int .i64 Rep.zero.r] 23)
  have O7 := O6.to X7
  have B7 := B6.ext X7
  clear O6 B6 X7
  go_wp2_with fail
  generalize w6.alloc (.cells #[.int .i64 Rep.zero.j, .int .i64 Rep.zero.k, .int .i64 Rep.zero.p, .int .i64 Rep.zero.t, .int .i64 Rep.zero.x, .int .i64 Rep.zero.v, .int .i64 Rep.zero.s, .int .i64 Rep.zero.r] 23) = w7 at *
  generalize w6.heap.size = g4 at *
  refine (first30_any _).mono ?_
  rintro r w8 ⟨rfl, hx8⟩
  have O8 := O7.to hx8
  have B8 := B7.ext hx8
  have HBy := Lib.hid (rbytes30_any repFirst first_i64 w8)
  rw [first_check, first_bytes] at HBy
  clear O7 B7 hx8
  go_wp2_with fail
  refine HBy.out.mono ?_
  rintro r w9 ⟨v9, rfl, ho9, hx9, _⟩
  obtain ⟨A9, c9, rfl, _, _, R9⟩ := own_slice ho9
  have O9 := O8.to hx9
  have B9 := B8.ext hx9
  clear O8 B8 hx9 ho9 HBy
  go_wp2_with fail
  refine (awake30_any _ (HT.out _ O9.x)).mono ?_
  rintro r w10 ⟨rfl, hx10⟩
  have O10 := O9.to hx10
  have B10 := B9.ext hx10
  have R10 := R9.ext hx10
  clear O9 B9 R9 hx10
  obtain ⟨q, q'⟩ := B10.cells
  have heq : ∀ W, (binOp .eql 23 (.agg #[.int .i64 7, .int .i64 1, .int .i64 1, .int .i64 0, .int .i64 0, .int .i64 0, .int .i64 0, .int .i64 0]) (.agg #[.int .i64 7, .int .i64 1, .int .i64 1, .int .i64 0, .int .i64 0, .int .i64 0, .int .i64 0, .int .i64 0])).run Tryz.prog W = .ok (.bool true) W := eql_rep repKnown repKnown true (by simp)
  go_wp2_with fail
  refine (seven30_any _).mono ?_
  rintro r w11 ⟨A11, rfl, R11, hx11⟩
  have O11 := O10.to hx11
  have R11b := R10.ext hx11
  have OA := Lib.hid (O11.all small_b1 b3_bk1 (by simp [bk1]) [jSeven] A11 1 1 rfl R11 (by simp [maxLen]))
  clear O10 R10 hx11 q q' B10
  go_wp2_with fail
  refine OA.out.mono ?_
  rintro r w12 ⟨v12, ss, rfl, hS, ho12, O12, hx12⟩
  obtain rfl : ss = [(7, 0)] := due_one known_dues hS
  obtain ⟨A12, c12, rfl, _, _, R12⟩ := own_slice ho12
  have R12b := R11b.ext hx12
  have hs1 : sortD [(7, 0)] = [(7, 0)] := by simp [sortD]
  rw [hs1] at R12
  clear OA R11 R11b hS ho12 hx12 O11 hs1
  have X13 := (Ext.refl w12).alloc (.cells #[.int .i64 7, .int .i64 0] 62)
  have R13 := reads_c w12 #[.int .i64 7, .int .i64 0] 62 1 2 (dueCl [(7, 0)]) rfl rfl
  go_wp2_with fail
  have R12c := R12.ext X13
  have R12d := R12b.ext X13
  have O13 := O12.to X13
  clear R12 R12b O12 X13
  generalize w12.alloc (.cells #[.int .i64 7, .int .i64 0] 62) = w13 at *
  generalize w12.heap.size = g13 at *
  refine (sameDue_any [(7, 0)] [(7, 0)] A12 (some ⟨g13, 0, none⟩) 1 1 c12 1 w13 rfl rfl R12c R13 (by simp [maxLen]) (by simp [maxLen])).mono ?_
  rintro r w14 ⟨rfl, hx14⟩
  have O14 := O13.to hx14
  have R14 := R12d.ext hx14
  clear O13 R12c R12d R13 hx14
  have X15 := (Ext.refl w14).alloc (.cells #[.int .u8 14, .int .u8 2, .int .u8 0, .int .u8 200, .int .u8 1, .int .u8 0, .int .u8 14, .int .u8 4, .int .u8 2] 5)
  have R15 := reads_c w14 #[.int .u8 14, .int .u8 2, .int .u8 0, .int .u8 200, .int .u8 1, .int .u8 0, .int .u8 14, .int .u8 4, .int .u8 2] 5 9 1 (bV [14, 2, 0, 200, 1, 0, 14, 4, 2]) rfl rfl
  have HSB := Lib.hid (sameBytes_t [14, 2, 0, 200, 1, 0, 14, 4, 2] A9 (some ⟨w14.heap.size, 0, none⟩) 9 9 c9 9 _ (R14.ext X15) R15)
  have O15 := Lib.hid (O14.to X15)
  clear O14 R14 R15 X15
  go_wp2_with fail
  refine HSB.out.mono ?_
  rintro r w15 ⟨rfl, rfl⟩
  go_wp2_with fail
  go_ret
  exact ⟨rfl, O15.out.x⟩
end Go.Proofs.YtokakpbpenndlaaGreatDoor

set_option linter.unusedVariables false
namespace Go.Proofs.YtokakpbpenndlaaGreatDoor
theorem Tryz.own : ownKnob Tryz.prog.godebug = none := by kernel_rfl
theorem Tryz.laidOut : laidOutB Tryz.prog = true := by kernel_rfl
end Go.Proofs.YtokakpbpenndlaaGreatDoor

set_option linter.unusedVariables false
namespace Go.Proofs.YtokakpbpenndlaaGreatDoor
open Go.RowKit

theorem opens_rep : Opens Tryz.prog 23 (fun _ cs => ∃ r : Rep, cs = [.int .i64 r.j, .int .i64 r.k, .int .i64 r.p, .int .i64 r.t, .int .i64 r.x, .int .i64 r.v, .int .i64 r.s, .int .i64 r.r] ∧ r.i64s) :=
  (opens_fields Tryz.underlying23 (.cons 1 opens_i (by kernel_rfl) (.cons 1 opens_i (by kernel_rfl) (.cons 1 opens_i (by kernel_rfl) (.cons 1 opens_i (by kernel_rfl) (.cons 1 opens_i (by kernel_rfl) (.cons 1 opens_i (by kernel_rfl) (.cons 1 opens_i (by kernel_rfl) (.cons 1 opens_i (by kernel_rfl) .nil)))))))) (by kernel_rfl)).mono fun w cs h => by
    obtain ⟨_, _, rfl, _, ⟨a, rfl, h1⟩, _, _, rfl, _, ⟨b, rfl, h2⟩, _, _, rfl, _, ⟨c, rfl, h3⟩, _, _, rfl, _, ⟨d, rfl, h4⟩, _, _, rfl, _, ⟨e, rfl, h5⟩, _, _, rfl, _, ⟨f, rfl, h6⟩, _, _, rfl, _, ⟨g, rfl, h7⟩, _, _, rfl, _, ⟨i, rfl, h8⟩, rfl⟩ := h
    exact ⟨⟨a, b, c, d, e, f, g, i⟩, rfl, ⟨h1, h2, h3, h4, h5, h6, h7, h8⟩⟩
/-- The row's list. -/
def laid3 {H : Type} : List (String × DataW H) := [("math/bits.deBruijn32tab", Rows.laid_math_bits_deBruijn32tab), ("math/bits.deBruijn64tab", Rows.laid_math_bits_deBruijn64tab), ("internal/strconv.uint64pow10", Rows.laid_internal_strconv_uint64pow10)]
theorem door_met (os : Os) (args : Array Value) : laidMetH Tryz.prog laid3 ((World.doorLaid Tryz.prog 24 os).forCall (fun _ _ => 0) ⟨#[], args, []⟩).memory :=
  laidMetH_of_parts3 (fuel := 8) (laidMet_of_run' 8 (by kernel_rfl) (by kernel_rfl)) (by kernel_rfl) (by kernel_rfl)
/-- The table of powers, out of the condition. -/
theorem tab_of_laid {W : World} (h : laidMetH Tryz.prog laid3 W) : Tab10 W := by
  rw [MakeChecks.laidMetH_plain _ _ _ (by kernel_rfl)] at h
  obtain ⟨ps, ⟨_, _, _, _, _, _, _, _, _, _, ⟨_, _, _, _, _, _, _, _, _, _, ⟨g', t', cs, fuel, p, q, hg', ht', hvar, hd, _, _⟩, _⟩, _⟩, _⟩ := h
  have hg : Tryz.prog.globalNamed "internal/strconv.uint64pow10" = some 0 := by kernel_rfl
  have hty : (Tryz.prog.globals[0]?).map (·.type) = some 243 := by kernel_rfl
  obtain rfl := Option.some.inj (hg.symm.trans hg')
  obtain rfl := Option.some.inj (hty.symm.trans ht')
  unfold Tab10 Lib.TabIs
  rw [hvar, ← Lib.cells_of_tab (zs := Lib.pow10Tab) Tryz.underlying243 Tryz.underlying132 (by kernel_rfl) (by kernel_rfl) hd]
end Go.Proofs.YtokakpbpenndlaaGreatDoor
