/-
  (book.refund).lines: a refund's tax lines; what comes back has come back then.
-/
import Derived.Test.YtokakpbpenndlaaGreatDoorRt14
import Derived.Deep.RegionHeld3
import Derived.IntWalk
set_option linter.unusedVariables false
namespace Go.Proofs.YtokakpbpenndlaaGreatDoor
open Go.RowKit Go.Maps

theorem Blk.newD' (w : World) (t : TypeId) (cs : Array Value) : Blk (w.drew.alloc (.cells cs t)) w.heap.size t cs := Blk.new w.drew t cs
theorem set6' {w v : World} {q : Nat} (h : Ext w v) (hq : w.heap.size ≤ q) (a b c d e f : Value) : Ext w ((((((v.setCell ⟨q, 0, none⟩ a).setCell ⟨q, 1, none⟩ b).setCell ⟨q, 2, none⟩ c).setCell ⟨q, 3, none⟩ d).setCell ⟨q, 4, none⟩ e).setCell ⟨q, 5, none⟩ f) :=
  (((((h.set (p := ⟨q, 0, none⟩) hq a).set (p := ⟨q, 1, none⟩) hq b).set (p := ⟨q, 2, none⟩) hq c).set (p := ⟨q, 3, none⟩) hq d).set (p := ⟨q, 4, none⟩) hq e).set (p := ⟨q, 5, none⟩) hq f
theorem addL_nil (a : List Int) : addL a [] = a := by cases a <;> rfl
theorem addL_len : ∀ (a b : List Int), (addL a b).length = a.length
  | [], _ => by simp [addL]
  | _ :: _, [] => by simp [addL]
  | _ :: r, _ :: s => by simp [addL, addL_len r s]
theorem addL_get : ∀ (a b : List Int) (k : Nat), b.length ≤ k → (addL a b)[k]? = a[k]?
  | [], _, _, _ => by simp [addL]
  | _ :: _, [], _, _ => by simp [addL]
  | _ :: r, _ :: s, 0, h => by simp at h
  | _ :: r, _ :: s, k + 1, h => by simpa [addL] using addL_get r s k (by simpa using h)
theorem addL_step : ∀ (a b : List Int) (k : Nat) (ha : k < a.length) (hb : k < b.length), addL a (b.take (k + 1)) = (addL a (b.take k)).set k (a[k] + b[k])
  | x :: r, y :: s, 0, _, _ => by simp [addL, addL_nil]
  | x :: r, y :: s, k + 1, ha, hb => by
    have := addL_step r s k (by simpa using ha) (by simpa using hb)
    simp only [List.take_succ_cons, addL, List.set_cons_succ, List.getElem_cons_succ]
    rw [this]
theorem iV_set (l : List Int) (k : Nat) (n : Int) : (iV l).set k (.int .i64 n) = iV (l.set k n) := by simp [iV, List.map_set]

/-- What of the tax lines has been told. -/
def LnRel (w : World) (x : Kp) (am : List Int) (i v : Value) (wr : World) : Prop :=
  ∃ k : Nat, k ≤ x.lines.length ∧ i = .int .i64 (k : Int) ∧ Ext w wr ∧ wr.ownsRow w.heap.size 117 6 v ((x.lines.take k).flatMap (x.refLine am)).length (txCells ((x.lines.take k).flatMap (x.refLine am)))
theorem LnRel.skip {w wr : World} {x : Kp} {am : List Int} {v : Value} {k m : Nat} (hk : k < x.lines.length) (hx : Ext w wr) (h : wr.ownsRow w.heap.size 117 6 v ((x.lines.take k).flatMap (x.refLine am)).length (txCells ((x.lines.take k).flatMap (x.refLine am)))) (h0 : x.refLine am x.lines[k] = []) (e : m = k + 1) : LnRel w x am (.int .i64 (m : Int)) v wr := by
  subst e
  refine ⟨k + 1, by omega, rfl, hx, ?_⟩
  rw [List.take_succ_eq_append_getElem hk, List.flatMap_append, List.flatMap_cons, h0]
  simpa using h
theorem LnRel.put {w wr : World} {x : Kp} {am : List Int} {v : Value} {y : Tx} {k m n : Nat} (hk : k < x.lines.length) (hx : Ext w wr) (hn : n = ((x.lines.take k).flatMap (x.refLine am)).length + 1) (h : wr.ownsRow w.heap.size 117 6 v n (txCells ((x.lines.take k).flatMap (x.refLine am)) ++ y.cl)) (h0 : x.refLine am x.lines[k] = [y]) (e : m = k + 1) : LnRel w x am (.int .i64 (m : Int)) v wr := by
  subst e hn
  refine ⟨k + 1, by omega, rfl, hx, ?_⟩
  rw [List.take_succ_eq_append_getElem hk, List.flatMap_append, List.flatMap_cons, h0]
  simpa [txCells] using h
theorem LnRel.len (x : Kp) (am : List Int) (k : Nat) : ((x.lines.take k).flatMap (x.refLine am)).length ≤ x.lines.length := by
  have : ∀ l : List Tx, (l.flatMap (x.refLine am)).length ≤ l.length := by
    intro l
    induction l with
    | nil => simp
    | cons a l ih =>
      rw [List.flatMap_cons, List.length_append, List.length_cons]
      have : (x.refLine am a).length ≤ 1 := by unfold Kp.refLine; split <;> simp
      omega
  exact Nat.le_trans (this _) (List.length_take_le' _ _)

/-- What of the amounts has come back. -/
def BackRel (w0 w : World) (vb : Value) (back am : List Int) (i : Value) (wr : World) : Prop :=
  ∃ k : Nat, k ≤ am.length ∧ i = .int .i64 (k : Int) ∧ w.grownBy wr vb.ownBlock ∧ wr.ownsRow w0.heap.size 3 1 vb back.length (iV (addL back (am.take k)))

set_option maxRecDepth 100000 in
set_option maxHeartbeats 8000000 in
theorem refLines_any {w0 W : World} {m : Slot} {x : Kp} (hk : KpAt w0 W m x) (e : Ent) (Aa At : Option Addr) (ca ct : Nat)
    (hre : ∀ W', W.grownBy W' m.vb.ownBlock → Reads W' W'.heap.size 1 Aa e.am.length (iV e.am))
    (hbl : x.back.length = e.am.length) (hll : x.lines.length ≤ 6400) (hlm : e.am.length ≤ 100)
    (hfit : ∀ y ∈ x.lines, 0 ≤ y.l ∧ y.l.toNat < e.am.length)
    (hbd : ∀ i (h : i < e.am.length) (h2 : i < x.back.length), 0 ≤ x.back[i] ∧ 0 ≤ e.am[i] ∧ x.back[i] + e.am[i] ≤ 4611686018427387904) :
    Calls Tryz.prog 62 #[entV e Aa At ca ct, .pointer (some ⟨m.g, 0, none⟩)] W fun r W' => ∃ A c, r = .returned (.slice A (x.refLines e.am).length c) ∧ W'.ownsRow W.heap.size 117 6 (.slice A (x.refLines e.am).length c) (x.refLines e.am).length (txCells (x.refLines e.am)) ∧
      W'.ownsRow w0.heap.size 3 1 m.vb x.back.length (iV (addL x.back e.am)) ∧ W.grownBy W' m.vb.ownBlock := by
  have HRE := Lib.hid hre
  have HBD := Lib.hid hbd
  have HFIT := Lib.hid hfit
  replace hbl := Lib.hid hbl
  obtain ⟨Aa', At', Al, Ab, ca', ct', cl, cb, O⟩ := hk.open_
  have hlb := O.lb
  unfold maxLen at hlb
  have hvb := Lib.hid O.vb
  have hob := Lib.hid hk.ob
  have X0 := (Ext.refl W).alloc (.cells #[.int .i64 e.k, .int .i64 e.id, .int .i64 e.of_, .int .i64 e.day, .slice Aa e.am.length ca, .slice At e.tax.length ct] 123)
  have B := Blk.new W 123 #[.int .i64 e.k, .int .i64 e.id, .int .i64 e.of_, .int .i64 e.day, .slice Aa e.am.length ca, .slice At e.tax.length ct]
  have OB := O.blk.ext X0
  have hrl := O.rl.ext X0
  have hrb := O.rb.ext X0
  have hra := (hre W (World.grownBy.refl W _)).ext X0
  obtain ⟨q, q'⟩ := OB.cells
  clear hre hbd hfit O hk
  go_enter Tryz.func62, Tryz.ntmps62
  go_wp2_with fail
  clear q q'
  generalize W.alloc (.cells #[.int .i64 e.k, .int .i64 e.id, .int .i64 e.of_, .int .i64 e.day, .slice Aa e.am.length ca, .slice At e.tax.length ct] 123) = W0 at *
  generalize W.heap.size = g0 at B ⊢
  have HO := Lib.hid (fun W2 (h : Ext W0 W2) => And.intro (OB.ext h) (B.ext h))
  clear OB B
  go_loopw [18, 5] (fun i v wr => LnRel W0 x e.am i v wr) (fun i _ _ => x.lines.length - (intOf i).toNat)
  case atStart => exact ⟨0, by omega, rfl, Ext.refl _, by simpa [txCells] using World.ownsRow_nil _ _ _ _⟩
  case round =>
    obtain ⟨k, hk, rfl, hx, hown⟩ := hrel
    by_cases hlt : k < x.lines.length
    · have hd : decide ((k : Int) < (x.lines.length : Int)) = true := by simp; omega
      obtain ⟨g, off, rfl, hg, hc⟩ := (hrl.extB (Nat.le_refl _) hx).cellAt hlt
      obtain ⟨e1, e2, e3, e4, e5, e6⟩ := txCells_at x.lines k hlt
      have c1 := hc _ _ e1
      have c2 : wr.cell? ⟨g, off + k * 6 + 1, none⟩ = _ := hc _ _ e2
      have c3 : wr.cell? ⟨g, off + k * 6 + 2, none⟩ = _ := hc _ _ e3
      have c4 : wr.cell? ⟨g, off + k * 6 + 3, none⟩ = _ := hc _ _ e4
      have c5 : wr.cell? ⟨g, off + k * 6 + 4, none⟩ = _ := hc _ _ e5
      have c6 : wr.cell? ⟨g, off + k * 6 + 5, none⟩ = _ := hc _ _ e6
      have hgl : g < wr.heap.size := Nat.lt_of_lt_of_le hg hx.size
      clear hc e1 e2 e3 e4 e5 e6
      obtain ⟨f1, f2⟩ := HFIT.out x.lines[k] (List.getElem_mem hlt)
      have HS := Lib.hid (fun W2 (hW : Ext W0 W2) v h h0 => LnRel.skip (w := W0) (x := x) (am := e.am) (v := v) (wr := W2) (m := k + 1) hlt hW h h0 rfl)
      have HP := Lib.hid (fun W2 (hW : Ext W0 W2) y v n hn h h0 => LnRel.put (w := W0) (x := x) (am := e.am) (y := y) (v := v) (n := n) (wr := W2) (m := k + 1) hlt hW hn h h0 rfl)
      have hlen := LnRel.len x e.am k
      have HR := Lib.hid (show x.refLine e.am x.lines[k] = if e.am.getD x.lines[k].l.toNat 0 = 0 then [] else [(x.lines[k].ret (x.back.getD x.lines[k].l.toNat 0) (x.back.getD x.lines[k].l.toNat 0 + e.am.getD x.lines[k].l.toNat 0)).1] by rfl)
      generalize x.lines[k] = y at *
      obtain ⟨n, hn⟩ := Int.eq_ofNat_of_zero_le f1
      have hn' : y.l.toNat = n := by omega
      rw [hn'] at f2
      have hnb : n < x.back.length := by have := hbl.out; omega
      have hget : e.am.getD n 0 = e.am[n] := by simp [List.getD, f2]
      have hgetb : x.back.getD n 0 = x.back[n] := by simp [List.getD, hnb]
      have HR1 := HR.out
      rw [hn', hget, hgetb] at HR1
      have hb := HBD.out n f2 hnb
      obtain ⟨ga, oa, rfl, hga, ca1⟩ := reads_int (hra.extB (Nat.le_refl _) hx) f2 rfl
      obtain ⟨gb, ob, rfl, hgb, cb1⟩ := reads_int (hrb.extB (Nat.le_refl _) hx) hnb rfl
      have hga' : ga < wr.heap.size := Nat.lt_of_lt_of_le hga hx.size
      have hgb' : gb < wr.heap.size := Nat.lt_of_lt_of_le hgb hx.size
      obtain ⟨OB, B⟩ := HO.out _ hx
      have hgm := OB.lt
      have hg0 := B.lt
      obtain ⟨q, q'⟩ := OB.cells
      obtain ⟨p, p'⟩ := B.cells
      have hz0 : (0 : Int) ≤ (n : Int) := Int.natCast_nonneg n
      have hz1 : (n : Int) < (e.am.length : Int) := by omega
      have hz2 : (n : Int) < (x.back.length : Int) := by omega
      replace HR1 := Lib.hid HR1
      generalize e.am[n] = a at *
      generalize x.back[n] = b at *
      clear HR hget hgetb hn' hra hrb hrl HO HBD HFIT HRE OB B f1
      obtain ⟨yl, yj, yt, yx, yr, yv⟩ := y
      dsimp only at hn HR1 HS HP c1 c2 c3 c4 c5 c6
      subst hn
      by_cases h0 : a = 0
      · have HS2 := Lib.hid (HR1.out.trans (if_pos h0))
        have hx1 := Lib.hid (hx.alloc (.cells #[.int .i64 n, .int .i64 yj, .int .i64 yt, .int .i64 yx, .int .i64 yr, .int .i64 yv] 117))
        clear HR1
        subst h0
        go_wp2_with fail
        go_roundw
        case rel => exact HS.out _ hx1.out _ (hown.alloc _) HS2.out
        case measure => simp [intOf]; omega
      · have HS2 := Lib.hid (HR1.out.trans (if_neg h0))
        have h0b : (a == 0) = false := by simpa using h0
        have hx1 := hx.alloc (.cells #[.int .i64 n, .int .i64 yj, .int .i64 yt, .int .i64 yx, .int .i64 yr, .int .i64 yv] 117)
        have Y1 := (Ext.refl wr).alloc (.cells #[.int .i64 n, .int .i64 yj, .int .i64 yt, .int .i64 yx, .int .i64 yr, .int .i64 yv] 117)
        have B7 := Blk.new wr 117 #[.int .i64 n, .int .i64 yj, .int .i64 yt, .int .i64 yx, .int .i64 yr, .int .i64 yv]
        clear HR1 HS
        replace h0 := Lib.hid h0
        go_wp2_with fail
        have hs1 : wr.heap.size < (wr.alloc (.cells #[.int .i64 n, .int .i64 yj, .int .i64 yt, .int .i64 yx, .int .i64 yr, .int .i64 yv] 117)).heap.size := B7.lt
        have HX := Lib.hid (fun W2 (h : Ext (wr.alloc (.cells #[.int .i64 n, .int .i64 yj, .int .i64 yt, .int .i64 yx, .int .i64 yr, .int .i64 yv] 117)) W2) => (show W2.cell? ⟨wr.heap.size, 0, none⟩ = some (.int .i64 n) ∧ W2.cell? ⟨wr.heap.size, 1, none⟩ = some (.int .i64 yj) ∧ W2.cell? ⟨wr.heap.size, 2, none⟩ = some (.int .i64 yt) ∧ W2.cell? ⟨wr.heap.size, 3, none⟩ = some (.int .i64 yx) ∧ W2.cell? ⟨wr.heap.size, 4, none⟩ = some (.int .i64 yr) ∧ W2.cell? ⟨wr.heap.size, 5, none⟩ = some (.int .i64 yv) ∧ W2.cell? ⟨m.g, 7, none⟩ = some (.slice (some ⟨gb, ob, none⟩) x.back.length cb) ∧ W2.cell? ⟨gb, ob + n, none⟩ = some (.int .i64 b) from
          ⟨(B7.ext h).cell 0, (B7.ext h).cell 1, (B7.ext h).cell 2, (B7.ext h).cell 3, (B7.ext h).cell 4, (B7.ext h).cell 5, ((Y1.trans h).cell _ _ _ hgm).trans (q 7), ((Y1.trans h).cell _ _ _ hgb').trans cb1⟩))
        have HOWN := Lib.hid (fun W2 (h : Ext (wr.alloc (.cells #[.int .i64 n, .int .i64 yj, .int .i64 yt, .int .i64 yx, .int .i64 yr, .int .i64 yv] 117)) W2) => own_ext hown (Y1.trans h))
        replace hx1 := Lib.hid hx1
        clear hown c1 c2 c3 c4 c5 c6 ca1 cb1 q q' p p' B7 Y1 hx
        generalize wr.alloc (.cells #[.int .i64 n, .int .i64 yj, .int .i64 yt, .int .i64 yx, .int .i64 yr, .int .i64 yv] 117) = W1 at *
        generalize wr.heap.size = g7 at *
        obtain ⟨k0, k1, k2, k3, k4, k5, k6, k7⟩ := HX.out W1 (Ext.refl _)
        generalize hlr : (⟨(n : Int), yj, yt, yx, yr, yv⟩ : Tx).ret b (b + a) = R at *
        replace hlr := Lib.hid hlr
        have hw1 : IntKind.i64.wrap (b + a) = b + a := IntWalk.i64_in _ (by omega)
        have hw2 : RowKit.wrap64 (b + a) = b + a := by unfold RowKit.wrap64; omega
        go_region_held3 (fun w' => w'.cell? ⟨g7, 0, none⟩ = some (.int .i64 n) ∧ w'.cell? ⟨g7, 1, none⟩ = some (.int .i64 yj) ∧ w'.cell? ⟨g7, 2, none⟩ = some (.int .i64 yt) ∧ w'.cell? ⟨g7, 3, none⟩ = some (.int .i64 yx) ∧ w'.cell? ⟨g7, 4, none⟩ = some (.int .i64 yr) ∧ w'.cell? ⟨g7, 5, none⟩ = some (.int .i64 yv) ∧ w'.cell? ⟨m.g, 7, none⟩ = some (.slice (some ⟨gb, ob, none⟩) x.back.length cb) ∧ w'.cell? ⟨gb, ob + n, none⟩ = some (.int .i64 b))
          (first | (with_reducible exact HX.out _ (Ext.refl W1).drew) | (with_reducible exact HX.out _ ((Ext.refl W1).alloc _)) | (with_reducible exact HX.out _ ((Ext.refl W1).drew.alloc _)) | (with_reducible exact HX.out _ ((Ext.refl W1).alloc _).drew) | (with_reducible exact HX.out _ X2) | (with_reducible exact HX.out _ (X2.alloc _)) | (with_reducible exact HX.out _ (set6' X2 (Nat.le_refl _) _ _ _ _ _ _)) | (with_reducible exact HX.out _ (set6' (X2.alloc _) X2.size _ _ _ _ _ _)))
          (first
          | (go_at_call 105; refine (return_any ⟨(n : Int), yj, yt, yx, yr, yv⟩ b (b + a) _).mono ?_; rintro r v2 ⟨rfl, hx2⟩; rw [hlr.out]; unfold Tx.V taxV; have X2 : Ext W1 v2 := Ext.trans (by first | with_reducible exact (Ext.refl W1).drew | with_reducible exact ((Ext.refl W1).drew).alloc _ | with_reducible exact (Ext.refl W1).alloc _ | with_reducible exact ((Ext.refl W1).alloc _).drew | with_reducible exact Ext.refl W1) hx2; (first | (with_reducible have C9 : Blk v2 W1.heap.size 117 #[.int .i64 0, .int .i64 0, .int .i64 0, .int .i64 0, .int .i64 0, .int .i64 0] := Blk.ext (Blk.newD' W1 117 #[.int .i64 0, .int .i64 0, .int .i64 0, .int .i64 0, .int .i64 0, .int .i64 0]) hx2) | (with_reducible have C9 : Blk v2 W1.heap.size 117 #[.int .i64 0, .int .i64 0, .int .i64 0, .int .i64 0, .int .i64 0, .int .i64 0] := Blk.ext (Blk.new W1 117 #[.int .i64 0, .int .i64 0, .int .i64 0, .int .i64 0, .int .i64 0, .int .i64 0]) hx2) | (with_reducible have C9 : Blk v2 W1.heap.size 117 #[.int .i64 0, .int .i64 0, .int .i64 0, .int .i64 0, .int .i64 0, .int .i64 0] := Blk.ext (Blk.ext (Blk.new W1 117 #[.int .i64 0, .int .i64 0, .int .i64 0, .int .i64 0, .int .i64 0, .int .i64 0]) (Ext.refl _).drew) hx2) | skip); (first | (obtain ⟨k9, k9'⟩ := C9.cells) | skip)))
        · have D9 := Blk.new v2 117 #[.int .i64 R.1.l, .int .i64 R.1.j, .int .i64 R.1.t, .int .i64 R.1.x, .int .i64 R.1.r, .int .i64 R.1.v]
          have X3 := X2.alloc (.cells #[.int .i64 R.1.l, .int .i64 R.1.j, .int .i64 R.1.t, .int .i64 R.1.x, .int .i64 R.1.r, .int .i64 R.1.v] 117)
          generalize v2.alloc (.cells #[.int .i64 R.1.l, .int .i64 R.1.j, .int .i64 R.1.t, .int .i64 R.1.x, .int .i64 R.1.r, .int .i64 R.1.v] 117) = W3 at *
          generalize v2.heap.size = g9 at *
          have HO2 := Lib.hid (HOWN.out _ X3)
          have HX3 := Lib.hid (hx1.out.trans X3)
          replace hlr := hlr.out
          clear hlr HOWN HX X3 X2 hx1 k0 k1 k2 k3 k4 k5 k6 k7 hw1 hw2 hx2
          obtain ⟨z, z'⟩ := D9.cells
          clear D9
          go_wp2_with (at_builtin; refine wpl_app1 row_tx W0 W3 (.tmp 54) (.tmp 56) rfl rfl rfl HO2.out HX3.out rfl rfl rfl (cl_one R.1) (by omega) (by unfold maxLen; omega) ?_; intro v4 W4 hg4; have HG4 := Lib.hid hg4; clear hg4)
          go_roundw
          case rel => exact HP.out W4 HG4.out.ext R.1 _ _ rfl HG4.out.own HS2.out
          case measure => simp [intOf]; omega
        · have D9 := put6_blk (a := .int .i64 R.1.l) (b := .int .i64 R.1.j) (c := .int .i64 R.1.t) (d := .int .i64 R.1.x) (e := .int .i64 R.1.r) (f := .int .i64 R.1.v) C9
          have X3 := set6' X2 (Nat.le_refl _) (.int .i64 R.1.l) (.int .i64 R.1.j) (.int .i64 R.1.t) (.int .i64 R.1.x) (.int .i64 R.1.r) (.int .i64 R.1.v)
          unfold put6 at D9
          clear C9 k9 k9'
          generalize ((((((v2.setCell ⟨W1.heap.size, 0, none⟩ (.int .i64 R.1.l)).setCell ⟨W1.heap.size, 1, none⟩ (.int .i64 R.1.j)).setCell ⟨W1.heap.size, 2, none⟩ (.int .i64 R.1.t)).setCell ⟨W1.heap.size, 3, none⟩ (.int .i64 R.1.x)).setCell ⟨W1.heap.size, 4, none⟩ (.int .i64 R.1.r)).setCell ⟨W1.heap.size, 5, none⟩ (.int .i64 R.1.v)) = W3 at D9 X3 ⊢
          generalize W1.heap.size = g9 at D9 ⊢
          have HO2 := Lib.hid (HOWN.out _ X3)
          have HX3 := Lib.hid (hx1.out.trans X3)
          replace hlr := hlr.out
          clear hlr HOWN HX X3 X2 hx1 k0 k1 k2 k3 k4 k5 k6 k7 hw1 hw2 hx2
          obtain ⟨z, z'⟩ := D9.cells
          clear D9
          go_wp2_with (at_builtin; refine wpl_app1 row_tx W0 W3 (.tmp 54) (.tmp 56) rfl rfl rfl HO2.out HX3.out rfl rfl rfl (cl_one R.1) (by omega) (by unfold maxLen; omega) ?_; intro v4 W4 hg4; have HG4 := Lib.hid hg4; clear hg4)
          go_roundw
          case rel => exact HP.out W4 HG4.out.ext R.1 _ _ rfl HG4.out.own HS2.out
          case measure => simp [intOf]; omega
    · have hd : decide ((k : Int) < (x.lines.length : Int)) = false := by simp; omega
      have hkl : k = x.lines.length := by omega
      subst hkl
      rw [List.take_length] at hown
      obtain ⟨OB, B⟩ := HO.out _ hx
      obtain ⟨p, p'⟩ := B.cells
      have hown1 : wr.ownsRow W0.heap.size 117 6 u5 (x.refLines e.am).length (txCells (x.refLines e.am)) := hown
      have HW := Lib.hid hown1
      clear hown hown1 hd B
      have X1 := X0.trans hx
      have hob1 := own_ext hob.out X1
      have HO2 := Lib.hid (fun W2 (h : wr.grownBy W2 m.vb.ownBlock) => (OB.grown h (fun he => own_blk_ne hob1 OB (by decide) he.symm)).cells)
      clear HO OB
      go_wp2_with fail
      clear p p'
      have hXW := Lib.hid (fun W2 (h : wr.grownBy W2 m.vb.ownBlock) => only_trans (only_ext (World.grownBy.refl W m.vb.ownBlock) X1) h)
      have hlo : ∀ g, u5.ownBlock = some g → m.vb.ownBlock ≠ some g := fun g h1 h2 => by
        have a1 := (HW.out.lt g h1).1
        have a2 := (hob.out.lt g h2).2
        have a3 := X0.size
        omega
      have HW2 := Lib.hid (fun W2 (h : wr.grownBy W2 m.vb.ownBlock) => HW.out.kept h (by
        cases hu : u5.ownBlock with
        | none => exact .inl rfl
        | some g => exact .inr (fun e => hlo g hu e.symm)))
      clear HW hlo hx X1
      generalize wr = W5 at *
      have hob2 := Lib.hid hob1
      clear hob1 hra hrb hrl
      go_loopw [63] (fun i wr => BackRel w0 W5 m.vb x.back e.am i wr) (fun i _ => e.am.length - (intOf i).toNat)
      case atStart => exact ⟨0, by omega, rfl, World.grownBy.refl _ _, by simpa [addL_nil] using hob2.out⟩
      case round =>
        obtain ⟨k, hk, rfl, hg, hown⟩ := hrel
        by_cases hlt : k < e.am.length
        · have hd : decide ((k : Int) < (e.am.length : Int)) = true := by simp; omega
          have hlt2 : k < x.back.length := by have := hbl.out; omega
          obtain ⟨q, q'⟩ := HO2.out _ hg
          obtain ⟨ga, oa, rfl, _, ca1⟩ := reads_int (HRE.out _ (hXW.out _ hg)) hlt rfl
          obtain ⟨gv, cv, hv, _⟩ := hown.form (by omega)
          have hvb1 := hvb.out
          rw [hv] at hvb1
          injection hvb1 with hA hN hC
          subst hA hC
          have hownv := hown
          rw [hv] at hownv
          have c1 := hownv.cellAt k (by omega)
          have c1' := hownv.frozenAt k
          obtain ⟨s1, s2⟩ := hownv.stored k (.int .i64 (x.back[k] + e.am[k]))
          have hgb : (addL x.back (e.am.take k))[k]? = some x.back[k] := by rw [addL_get _ _ _ (List.length_take_le _ _)]; simp [hlt2]
          have c2 : (iV (addL x.back (e.am.take k)))[k]? = some (.int .i64 x.back[k]) := by simp [iV, hgb]
          rw [c2] at c1
          have HS := Lib.hid (show BackRel w0 W5 m.vb x.back e.am (.int .i64 ((k + 1 : Nat) : Int)) (wr.setCell ⟨gv, k, none⟩ (.int .i64 (x.back[k] + e.am[k]))) from by
            refine ⟨k + 1, by omega, rfl, ?_, ?_⟩
            · refine only_trans hg ?_
              rw [hv]
              exact s2
            · rw [addL_step _ _ _ hlt2 hlt, ← iV_set, hv]
              exact s1)
          have hb := HBD.out k hlt hlt2
          have hw2 : RowKit.wrap64 (x.back[k] + e.am[k]) = x.back[k] + e.am[k] := by unfold RowKit.wrap64; omega
          have hz0 : (0 : Int) ≤ (k : Int) := Int.natCast_nonneg k
          have hz1 : (k : Int) < (x.back.length : Int) := by omega
          clear s1 s2 hownv hown hgb c2 HRE HBD HFIT HO2 hXW HW2 hg
          generalize e.am[k] = a at *
          generalize x.back[k] = b at *
          replace hv := Lib.hid hv
          go_wp2_with fail
          go_roundw
          case rel => exact HS.out
          case measure => simp [intOf]; omega
        · have hd : decide ((k : Int) < (e.am.length : Int)) = false := by simp; omega
          have hkl : k = e.am.length := by omega
          subst hkl
          rw [List.take_length] at hown
          have HF := Lib.hid (And.intro (HW2.out _ hg) (And.intro hown (hXW.out _ hg)))
          clear HW2 hown hXW hg HRE HO2 hd
          go_wp2_with fail
          go_ret
          obtain ⟨h1, h2, h3⟩ := HF.out
          obtain ⟨A, c, rfl, _⟩ := own_slice h1
          exact ⟨A, c, rfl, own_base h1 X0.size, h2, h3⟩
end Go.Proofs.YtokakpbpenndlaaGreatDoor
