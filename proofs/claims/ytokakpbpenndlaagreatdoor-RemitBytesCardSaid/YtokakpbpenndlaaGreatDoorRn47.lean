/-
  The statement RemitBytes: the walk.
-/
import Derived.Test.YtokakpbpenndlaaGreatDoorRn42
import Derived.Test.YtokakpbpenndlaaGreatDoorRn44
import Derived.Test.YtokakpbpenndlaaGreatDoorRn46
import Derived.Test.YtokakpbpenndlaaGreatDoorRn38
import Derived.Test.YtokakpbpenndlaaGreatDoorRows
import Derived.ProofKit
import Derived.Test.YtokakpbpenndlaaGreatDoorRn16
import Derived.Test.YtokakpbpenndlaaGreatDoorRn35
import Derived.Test.YtokakpbpenndlaaGreatDoorTie
import Derived.Test.YtokakpbpenndlaaGreatDoorCards
import Derived.LaidMore
import Derived.Stop.Joined
import Derived.Lib.LaidTab
set_option linter.unusedVariables false
namespace Go.Proofs.YtokakpbpenndlaaGreatDoor
open Go.RowKit Go.Maps

set_option maxRecDepth 100000 in
set_option maxHeartbeats 4000000 in
theorem remitBytes_in (r : Rep) (hi : r.i64s) (b : List UInt8) (B : Option Addr) (cb : Nat) (w : World) (hb : Reads w w.heap.size 1 B b.length (bV b)) (hbc : b.length ≤ cb) (hcm : cb ≤ maxLen) (ht : Tab10 w) (g1 : ¬ 200 < b.length) :
    Calls Tryz.prog 3 #[r.V, .slice B b.length cb] w fun e w' => e = .returned (.bool true) ∧ Ext w w' := by
  have X0 := (Ext.refl w).alloc (.cells #[.int .i64 r.j, .int .i64 r.k, .int .i64 r.p, .int .i64 r.t, .int .i64 r.x, .int .i64 r.v, .int .i64 r.s, .int .i64 r.r] 23)
  have B0 := Blk.new w 23 #[.int .i64 r.j, .int .i64 r.k, .int .i64 r.p, .int .i64 r.t, .int .i64 r.x, .int .i64 r.v, .int .i64 r.s, .int .i64 r.r]
  have HI := Lib.hid hi
  have HBy := Lib.hid (fun W (h : Ext w W) => hb.extB (Nat.le_refl _) h |>.more h.size)
  have HT := Lib.hid (fun W (h : Ext w W) => ht.ext h)
  clear ht hb hi
  have d1 : decide ((200 : Int) < (b.length : Int)) = false := by simp; omega
  go_enter Tryz.func3, Tryz.ntmps3
  go_wp2_with fail
  refine (lent_any b B cb _ (HBy.out _ X0) (by omega)).mono ?_
  rintro e v1 ⟨gl, rfl, hgl, hBL, hx1⟩
  have XW := X0.trans hx1
  have B1 := B0.ext hx1
  have RB := Lib.hid (fun W (hx : Ext v1 W) => HBy.out W (XW.trans hx))
  have RL := Lib.hid (fun W (hx : Ext v1 W) => lent_reads (hBL.ext hx))
  have BL := Lib.hid (fun W (hx : Ext v1 W) => hBL.ext hx)
  have HTb := Lib.hid (fun W (hx : Ext v1 W) => HT.out W (XW.trans hx))
  clear X0 B0 hx1 d1 HBy HT hBL hgl
  generalize w.heap.size = g2 at *
  have C2 := Lib.hid (fun W (hx : Ext v1 W) => (B1.ext hx).cells)
  obtain ⟨q, q'⟩ := B1.cells
  go_wp2_with fail
  refine (rbytes30_any r HI.out _).mono ?_
  rintro e v2 ⟨x2, rfl, ox, X2, ax⟩
  generalize hN : r.bytes.length = N at *
  replace hN := Lib.hid hN
  clear q q'
  obtain ⟨q, q'⟩ := C2.out _ X2
  obtain ⟨Ax, cx, rfl, _, _, rx⟩ := own_slice ox
  go_wp2_with fail
  refine (refbytes30_any r HI.out _).mono ?_
  rintro e v3 ⟨y3, rfl, oy, hx, _⟩
  rw [hN.out] at oy
  obtain ⟨Ay, cy, rfl, _, _, ry⟩ := own_slice oy
  have X3 := X2.trans hx
  have ox3 := own_ext ox hx
  have ax3 := ax.ext hx
  have rx3 := rx.ext hx
  clear ox oy ax rx hx X2 q q'
  obtain ⟨q, q'⟩ := C2.out _ X3
  go_wp2_with fail
  refine (rtext_any r HI.out _ (HTb.out _ X3)).mono ?_
  rintro e v4 ⟨rfl, hx⟩
  have X4 := X3.trans hx
  have ox4 := own_ext ox3 hx
  have ax4 := ax3.ext hx
  have rx4 := rx3.ext hx
  have ry4 := ry.ext hx
  clear ox3 ax3 rx3 ry hx X3 q q'
  obtain ⟨q, q'⟩ := C2.out _ X4
  generalize hT : (⟨r.textO.toArray⟩ : ByteArray) = T
  replace hT := Lib.hid hT
  go_wp2_with fail
  refine (reftext30_any r HI.out _ (HTb.out _ X4)).mono ?_
  rintro e v5 ⟨rfl, hx⟩
  rw [hT.out]
  have X5 := X4.trans hx
  have ox5 := own_ext ox4 hx
  have ax5 := ax4.ext hx
  have rx5 := rx4.ext hx
  have ry5 := ry4.ext hx
  clear ox4 ax4 rx4 ry4 hx X4 q q'
  go_wp2_with fail
  refine (rread30_any b (some ⟨gl, 0, none⟩) (b.length + 3) _ (RL.out _ X5) (by omega)).mono ?_
  rintro e v6 ⟨rfl, hx⟩
  have X6 := X5.trans hx
  have ox6 := own_ext ox5 hx
  have ax6 := ax5.ext hx
  have rx6 := rx5.ext hx
  have ry6 := ry5.ext hx
  clear ox5 ax5 rx5 ry5 hx X5
  generalize hz : (readRep b).1 = z
  generalize hf : (readRep b).2 = f
  replace hz := Lib.hid hz
  replace hf := Lib.hid hf
  have Bz := Blk.new v6 23 #[.int .i64 z.j, .int .i64 z.k, .int .i64 z.p, .int .i64 z.t, .int .i64 z.x, .int .i64 z.v, .int .i64 z.s, .int .i64 z.r]
  have hx := (Ext.refl v6).alloc (.cells #[.int .i64 z.j, .int .i64 z.k, .int .i64 z.p, .int .i64 z.t, .int .i64 z.x, .int .i64 z.v, .int .i64 z.s, .int .i64 z.r] 23)
  go_wp2_with fail
  generalize v6.alloc (.cells #[.int .i64 z.j, .int .i64 z.k, .int .i64 z.p, .int .i64 z.t, .int .i64 z.x, .int .i64 z.v, .int .i64 z.s, .int .i64 z.r] 23) = v7 at *
  generalize v6.heap.size = gz at Bz ⊢
  have X7 := X6.trans hx
  have ox7 := own_ext ox6 hx
  have ax7 := ax6.ext hx
  have rx7 := rx6.ext hx
  have ry7 := ry6.ext hx
  clear ox6 ax6 rx6 ry6 hx X6
  refine (refread30_any b B cb _ (RB.out _ X7) (by omega) hbc hcm).mono ?_
  rintro e v8 ⟨rfl, hx⟩
  rw [hz.out, hf.out]
  have X8 := X7.trans hx
  have ox8 := own_ext ox7 hx
  have ax8 := ax7.ext hx
  have rx8 := rx7.ext hx
  have ry8 := ry7.ext hx
  have Bz8 := Bz.ext hx
  clear ox7 ax7 rx7 ry7 hx X7 Bz
  have Bw := Blk.new v8 23 #[.int .i64 z.j, .int .i64 z.k, .int .i64 z.p, .int .i64 z.t, .int .i64 z.x, .int .i64 z.v, .int .i64 z.s, .int .i64 z.r]
  have hx := (Ext.refl v8).alloc (.cells #[.int .i64 z.j, .int .i64 z.k, .int .i64 z.p, .int .i64 z.t, .int .i64 z.x, .int .i64 z.v, .int .i64 z.s, .int .i64 z.r] 23)
  go_wp2_with fail
  generalize v8.alloc (.cells #[.int .i64 z.j, .int .i64 z.k, .int .i64 z.p, .int .i64 z.t, .int .i64 z.x, .int .i64 z.v, .int .i64 z.s, .int .i64 z.r] 23) = v9 at *
  generalize v8.heap.size = gw at Bw ⊢
  have X9 := X8.trans hx
  have ox9 := own_ext ox8 hx
  have ax9 := ax8.ext hx
  have rx9 := Lib.hid (fun W (h : Ext v9 W) => (rx8.ext hx).ext h)
  have ry9 := Lib.hid (fun W (h : Ext v9 W) => (ry8.ext hx).ext h)
  have Bz9 := Bz8.ext hx
  clear ox8 ax8 rx8 ry8 hx X8 Bz8
  have HS := Lib.hid (fun (w' : World) (hx : Ext v9 w') => (show w'.cell? ⟨g2, 0, none⟩ = some (.int .i64 r.j) ∧ w'.cell? ⟨g2, 1, none⟩ = some (.int .i64 r.k) ∧ w'.cell? ⟨g2, 2, none⟩ = some (.int .i64 r.p) ∧ w'.cell? ⟨g2, 3, none⟩ = some (.int .i64 r.t) ∧ w'.cell? ⟨g2, 4, none⟩ = some (.int .i64 r.x) ∧ w'.cell? ⟨g2, 5, none⟩ = some (.int .i64 r.v) ∧ w'.cell? ⟨g2, 6, none⟩ = some (.int .i64 r.s) ∧ w'.cell? ⟨g2, 7, none⟩ = some (.int .i64 r.r) ∧ w'.cell? ⟨gz, 0, none⟩ = some (.int .i64 z.j) ∧ w'.cell? ⟨gz, 1, none⟩ = some (.int .i64 z.k) ∧ w'.cell? ⟨gz, 2, none⟩ = some (.int .i64 z.p) ∧ w'.cell? ⟨gz, 3, none⟩ = some (.int .i64 z.t) ∧ w'.cell? ⟨gz, 4, none⟩ = some (.int .i64 z.x) ∧ w'.cell? ⟨gz, 5, none⟩ = some (.int .i64 z.v) ∧ w'.cell? ⟨gz, 6, none⟩ = some (.int .i64 z.s) ∧ w'.cell? ⟨gz, 7, none⟩ = some (.int .i64 z.r) ∧ w'.cell? ⟨gw, 0, none⟩ = some (.int .i64 z.j) ∧ w'.cell? ⟨gw, 1, none⟩ = some (.int .i64 z.k) ∧ w'.cell? ⟨gw, 2, none⟩ = some (.int .i64 z.p) ∧ w'.cell? ⟨gw, 3, none⟩ = some (.int .i64 z.t) ∧ w'.cell? ⟨gw, 4, none⟩ = some (.int .i64 z.x) ∧ w'.cell? ⟨gw, 5, none⟩ = some (.int .i64 z.v) ∧ w'.cell? ⟨gw, 6, none⟩ = some (.int .i64 z.s) ∧ w'.cell? ⟨gw, 7, none⟩ = some (.int .i64 z.r) from
    have B := B1.ext (X9.trans hx)
    have C := Bz9.ext hx
    have D := Bw.ext hx
    ⟨B.cell 0, B.cell 1, B.cell 2, B.cell 3, B.cell 4, B.cell 5, B.cell 6, B.cell 7, C.cell 0, C.cell 1, C.cell 2, C.cell 3, C.cell 4, C.cell 5, C.cell 6, C.cell 7, D.cell 0, D.cell 1, D.cell 2, D.cell 3, D.cell 4, D.cell 5, D.cell 6, D.cell 7⟩))
  obtain ⟨s0, s1, s2, s3, s4, s5, s6, s7, s8, s9, s10, s11, s12, s13, s14, s15, s16, s17, s18, s19, s20, s21, s22, s23⟩ := HS.out v9 (Ext.refl _)
  have heq := eql_rep z z true (by simp)
  replace Bz9 := Lib.hid Bz9
  replace Bw := Lib.hid Bw
  replace B1 := Lib.hid B1
  have hbc' := Lib.hid hbc
  have hcm' := Lib.hid hcm
  clear hbc hcm
  generalize hC : r.check = C at *
  replace hC := Lib.hid hC
  have hCC : (C == C) = true := by simp
  have hff : (f == f) = true := by simp
  go_region_held3 (fun w' => w'.cell? ⟨g2, 0, none⟩ = some (.int .i64 r.j) ∧ w'.cell? ⟨g2, 1, none⟩ = some (.int .i64 r.k) ∧ w'.cell? ⟨g2, 2, none⟩ = some (.int .i64 r.p) ∧ w'.cell? ⟨g2, 3, none⟩ = some (.int .i64 r.t) ∧ w'.cell? ⟨g2, 4, none⟩ = some (.int .i64 r.x) ∧ w'.cell? ⟨g2, 5, none⟩ = some (.int .i64 r.v) ∧ w'.cell? ⟨g2, 6, none⟩ = some (.int .i64 r.s) ∧ w'.cell? ⟨g2, 7, none⟩ = some (.int .i64 r.r) ∧ w'.cell? ⟨gz, 0, none⟩ = some (.int .i64 z.j) ∧ w'.cell? ⟨gz, 1, none⟩ = some (.int .i64 z.k) ∧ w'.cell? ⟨gz, 2, none⟩ = some (.int .i64 z.p) ∧ w'.cell? ⟨gz, 3, none⟩ = some (.int .i64 z.t) ∧ w'.cell? ⟨gz, 4, none⟩ = some (.int .i64 z.x) ∧ w'.cell? ⟨gz, 5, none⟩ = some (.int .i64 z.v) ∧ w'.cell? ⟨gz, 6, none⟩ = some (.int .i64 z.s) ∧ w'.cell? ⟨gz, 7, none⟩ = some (.int .i64 z.r) ∧ w'.cell? ⟨gw, 0, none⟩ = some (.int .i64 z.j) ∧ w'.cell? ⟨gw, 1, none⟩ = some (.int .i64 z.k) ∧ w'.cell? ⟨gw, 2, none⟩ = some (.int .i64 z.p) ∧ w'.cell? ⟨gw, 3, none⟩ = some (.int .i64 z.t) ∧ w'.cell? ⟨gw, 4, none⟩ = some (.int .i64 z.x) ∧ w'.cell? ⟨gw, 5, none⟩ = some (.int .i64 z.v) ∧ w'.cell? ⟨gw, 6, none⟩ = some (.int .i64 z.s) ∧ w'.cell? ⟨gw, 7, none⟩ = some (.int .i64 z.r))
    (first | (with_reducible exact HS.out _ (Ext.refl v9).drew) | (with_reducible exact HS.out _ hy1.out) | (with_reducible exact HS.out _ hy2.out))
    (first
    | (go_at_call 18; refine (rrcheck_any r HI.out.k _).mono ?_; rintro e w1 ⟨rfl, hy1⟩; rw [hC.out]; have hy1 := Lib.hid (Ext.trans (Ext.refl v9).drew hy1))
    | (go_at_call 19; refine (refcheck_any r _).mono ?_; rintro e w2 ⟨rfl, hy2⟩; rw [hC.out]; have hy2 := Lib.hid (hy1.out.trans hy2))
    | (go_at_call 20; refine (sameBytes_t r.bytes Ax Ay N N cx cy _ (rx9.out _ hy2.out) (ry9.out _ hy2.out)).mono ?_; rintro e w3 ⟨rfl, rfl⟩))
  all_goals
    clear s0 s1 s2 s3 s4 s5 s6 s7 s8 s9 s10 s11 s12 s13 s14 s15 s16 s17 s18 s19 s20 s21 s22 s23
    go_wp2_with fail
    have ox10 := own_ext ox9 hy2.out
    refine (overBytes_any ox10 (ax9.ext hy2.out)).mono ?_
    rintro e W11 ⟨rfl, hG⟩
    have X11 := (X9.trans hy2.out).grown hG (own_above ox10)
    clear hG ox10 ox9 ax9 X9
    go_wp2_with fail
    refine (kept_any b gl B cb _ (BL.out _ X11) (RB.out _ X11) (by omega)).mono ?_
    rintro e W14 ⟨rfl, hx⟩
    have X14 := X11.trans hx
    clear X11 hx
    go_wp2_with fail
    refine (awake30_any _ (HTb.out _ X14)).mono ?_
    rintro e W15 ⟨rfl, hx⟩
    have X15 := X14.trans hx
    go_wp2_with fail
    go_ret
    exact ⟨rfl, XW.trans X15⟩
set_option maxRecDepth 100000 in
set_option maxHeartbeats 1000000 in
theorem remitBytes_any (r : Rep) (hi : r.i64s) (b : List UInt8) (B : Option Addr) (cb : Nat) (w : World) (hb : Reads w w.heap.size 1 B b.length (bV b)) (hbc : b.length ≤ cb) (hcm : cb ≤ maxLen) (ht : Tab10 w) :
    Calls Tryz.prog 3 #[r.V, .slice B b.length cb] w fun e w' => e = .returned (.bool true) ∧ Ext w w' := by
  by_cases g1 : 200 < b.length
  · have d1 : decide ((200 : Int) < (b.length : Int)) = true := by simp; omega
    have X0 := (Ext.refl w).alloc (.cells #[.int .i64 r.j, .int .i64 r.k, .int .i64 r.p, .int .i64 r.t, .int .i64 r.x, .int .i64 r.v, .int .i64 r.s, .int .i64 r.r] 23)
    have HT := Lib.hid (ht.ext X0)
    clear ht hb
    go_enter Tryz.func3, Tryz.ntmps3
    go_wp2_with fail
    refine (awake30_any _ HT.out).mono ?_
    rintro e w1 ⟨rfl, hx1⟩
    go_wp2_with fail
    go_ret
    exact ⟨rfl, X0.trans hx1⟩
  · exact remitBytes_in r hi b B cb w hb hbc hcm ht g1
end Go.Proofs.YtokakpbpenndlaaGreatDoor

set_option linter.unusedVariables false
namespace Go.Proofs.YtokakpbpenndlaaGreatDoor
theorem Tryz.own : ownKnob Tryz.prog.godebug = none := by kernel_rfl
theorem Tryz.laidOut : laidOutB Tryz.prog = true := by kernel_rfl
end Go.Proofs.YtokakpbpenndlaaGreatDoor

set_option linter.unusedVariables false
namespace Go.Proofs.YtokakpbpenndlaaGreatDoor
open Go.RowKit

theorem opens_rep : Opens Tryz.prog 23 (fun _ cs => ∃ r : Rep, cs = [.int .i64 r.j, .int .i64 r.k, .int .i64 r.p, .int .i64 r.t, .int .i64 r.x, .int .i64 r.v, .int .i64 r.s, .int .i64 r.r] ∧ r.i64s) :=
  (opens_fields Tryz.underlying23 (.cons 1 opens_i (by kernel_rfl) (.cons 1 opens_i (by kernel_rfl) (.cons 1 opens_i (by kernel_rfl) (.cons 1 opens_i (by kernel_rfl) (.cons 1 opens_i (by kernel_rfl) (.cons 1 opens_i (by kernel_rfl) (.cons 1 opens_i (by kernel_rfl) (.cons 1 opens_i (by kernel_rfl) .nil)))))))) (by kernel_rfl)).mono fun w cs h => by
    obtain ⟨_, _, rfl, _, ⟨a, rfl, h1⟩, _, _, rfl, _, ⟨b, rfl, h2⟩, _, _, rfl, _, ⟨c, rfl, h3⟩, _, _, rfl, _, ⟨d, rfl, h4⟩, _, _, rfl, _, ⟨e, rfl, h5⟩, _, _, rfl, _, ⟨f, rfl, h6⟩, _, _, rfl, _, ⟨g, rfl, h7⟩, _, _, rfl, _, ⟨i, rfl, h8⟩, rfl⟩ := h
    exact ⟨⟨a, b, c, d, e, f, g, i⟩, rfl, ⟨h1, h2, h3, h4, h5, h6, h7, h8⟩⟩
/-- The row's list. -/
def laid3 {H : Type} : List (String × DataW H) := [("math/bits.deBruijn32tab", Rows.laid_math_bits_deBruijn32tab), ("math/bits.deBruijn64tab", Rows.laid_math_bits_deBruijn64tab), ("internal/strconv.uint64pow10", Rows.laid_internal_strconv_uint64pow10)]
theorem door_met (os : Os) (args : Array Value) : laidMetH Tryz.prog laid3 ((World.doorLaid Tryz.prog 24 os).forCall (fun _ _ => 0) ⟨#[], args, []⟩).memory :=
  laidMetH_of_parts3 (fuel := 8) (laidMet_of_run' 8 (by kernel_rfl) (by kernel_rfl)) (by kernel_rfl) (by kernel_rfl)
/-- The table of powers, out of the condition. -/
theorem tab_of_laid {W : World} (h : laidMetH Tryz.prog laid3 W) : Tab10 W := by
  rw [MakeChecks.laidMetH_plain _ _ _ (by kernel_rfl)] at h
  obtain ⟨ps, ⟨_, _, _, _, _, _, _, _, _, _, ⟨_, _, _, _, _, _, _, _, _, _, ⟨g', t', cs, fuel, p, q, hg', ht', hvar, hd, _, _⟩, _⟩, _⟩, _⟩ := h
  have hg : Tryz.prog.globalNamed "internal/strconv.uint64pow10" = some 0 := by kernel_rfl
  have hty : (Tryz.prog.globals[0]?).map (·.type) = some 243 := by kernel_rfl
  obtain rfl := Option.some.inj (hg.symm.trans hg')
  obtain rfl := Option.some.inj (hty.symm.trans ht')
  unfold Tab10 Lib.TabIs
  rw [hvar, ← Lib.cells_of_tab (zs := Lib.pow10Tab) Tryz.underlying243 Tryz.underlying132 (by kernel_rfl) (by kernel_rfl) hd]
end Go.Proofs.YtokakpbpenndlaaGreatDoor
