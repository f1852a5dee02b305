/-
  The reference's book: Moves.
-/
import Derived.Test.YtokakpbpenndlaaGreatDoorRt32
import Derived.Test.YtokakpbpenndlaaGreatDoorRt18
set_option linter.unusedVariables false
namespace Go.Proofs.YtokakpbpenndlaaGreatDoor
open Go.RowKit Go.Maps

theorem Grew.other {w0 w w' : World} {e e2 : TypeId} {size s2 n n1 m b2 : Nat} {z v v' u : Value} {xs xs1 ys : List Value} (hg : Grew w0 w w' e size z v v' n xs) (hv : w.ownsRow w0.heap.size e size v n1 xs1) (hu : w.ownsRow b2 e2 s2 u m ys) (hne : e ≠ e2) : w'.ownsRow b2 e2 s2 u m ys := by
  refine hu.kept hg.grown ?_
  cases hvb : v.ownBlock with
  | none => cases hub : u.ownBlock with
    | none => exact .inl rfl
    | some g => exact .inr (by simp)
  | some g => exact .inr (own_own_ne hv hu hne hvb)
/-- The moves of some of an entry's lines. -/
def mvsOf (x : Kp) (j : Int) (l : List Tx) : List Mv := if x.voided then [] else (l.filter fun l => decide (l.j = j)).map (mvOf x)
theorem mvsOf_all (x : Kp) (j : Int) : mvsOf x j x.lines = x.moves j := by
  unfold mvsOf Kp.moves
  rfl
theorem mvsOf_skip {x : Kp} {j : Int} {k : Nat} (hk : k < x.lines.length) (h : x.lines[k].j ≠ j ∨ x.voided = true) : mvsOf x j (x.lines.take (k + 1)) = mvsOf x j (x.lines.take k) := by
  unfold mvsOf
  rcases h with h | h
  · rw [List.take_succ_eq_append_getElem hk, List.filter_append]
    simp [h]
  · rw [if_pos h, if_pos h]
theorem mvsOf_put {x : Kp} {j : Int} {k : Nat} (hk : k < x.lines.length) (h : x.lines[k].j = j) (hv : x.voided = false) : mvsOf x j (x.lines.take (k + 1)) = mvsOf x j (x.lines.take k) ++ [mvOf x x.lines[k]] := by
  unfold mvsOf
  rw [if_neg (by simp [hv]), if_neg (by simp [hv]), List.take_succ_eq_append_getElem hk, List.filter_append]
  simp [h]
theorem mvsOf_len (x : Kp) (j : Int) (l : List Tx) : (mvsOf x j l).length ≤ l.length := by
  unfold mvsOf
  split
  · simp
  · rw [List.length_map]; exact List.length_filter_le _ _
/-- Where the loop over an entry's lines stands. -/
def Mv3 (W : World) (x : Kp) (pre : List Mv) (j : Int) (g7 bl : Nat) (va vt vl : Value) (i v : Value) (wr : World) : Prop :=
  ∃ k : Nat, k ≤ x.lines.length ∧ i = .int .i64 (k : Int) ∧ MvOut W v (pre ++ mvsOf x j (x.lines.take k)) wr ∧ Blk wr g7 52 (entC x.e va vt) ∧ wr.ownsRow bl 117 6 vl x.lines.length (txCells x.lines)
def MvR (W : World) (B : Bk) (j : Int) (i v : Value) (wr : World) : Prop := ∃ k : Nat, k ≤ B.length ∧ i = .int .i64 (k : Int) ∧ MvOut W v ((B.take k).flatMap fun x => x.moves j) wr
theorem MvR.next {W wr : World} {B : Bk} {j : Int} {v : Value} {k m : Nat} (hk : k < B.length) (h : MvOut W v ((B.take k).flatMap (fun x => x.moves j) ++ B[k].moves j) wr) (e : m = k + 1) : MvR W B j (.int .i64 (m : Int)) v wr := by
  subst e
  refine ⟨k + 1, by omega, rfl, ?_⟩
  rw [List.take_succ_eq_append_getElem hk, List.flatMap_append]
  simpa using h
theorem RP.sale_self {R : List RE} {B : Bk} (hp : RP R B) {x : Kp} (hx : x ∈ B) (h1 : x.e.k = 1) : B.sale x.e.id = some x := by
  rcases find_cases B x.e.id with ⟨_, b⟩ | ⟨k, hk, _, b, c⟩
  · exfalso
    unfold Bk.find at b
    rw [List.find?_eq_none] at b
    exact b x hx (by simp)
  · have : B[k] = x := hp.uniq (List.getElem_mem hk) hx c
    unfold Bk.sale
    rw [b, this]
    simp [Option.filter, h1]
theorem tx_own {W : World} {B gl ol c : Nat} {l : List Tx} (h : W.ownsRow B 117 6 (.slice (some ⟨gl, ol, none⟩) l.length c) l.length (txCells l)) {k : Nat} (hk : k < l.length) : gl < W.heap.size ∧ W.cell? ⟨gl, ol + k * 6, none⟩ = some (.int .i64 l[k].l) ∧ W.cell? ⟨gl, ol + k * 6 + 1, none⟩ = some (.int .i64 l[k].j) ∧ W.cell? ⟨gl, ol + k * 6 + 2, none⟩ = some (.int .i64 l[k].t) ∧
    W.cell? ⟨gl, ol + k * 6 + 3, none⟩ = some (.int .i64 l[k].x) ∧ W.cell? ⟨gl, ol + k * 6 + 4, none⟩ = some (.int .i64 l[k].r) ∧ W.cell? ⟨gl, ol + k * 6 + 5, none⟩ = some (.int .i64 l[k].v) := by
  obtain ⟨g, off, e, hg, hc⟩ := (Reads.of_own h).cellAt hk
  injection e with e
  injection e with e1 e2 _
  subst e1 e2
  obtain ⟨e1, e2, e3, e4, e5, e6⟩ := txCells_at l k hk
  exact ⟨hg, hc _ _ e1, hc _ _ e2, hc _ _ e3, hc _ _ e4, hc _ _ e5, hc _ _ e6⟩
set_option maxRecDepth 100000 in
set_option maxHeartbeats 4000000 in
theorem rmoves29_any {w0 W : World} {rb : Nat} {v : Value} {R : List RE} {B : Bk} (h : RBook w0 W rb v R) (hp : RP R B) (hsm : B.small) (hl : B.length ≤ 100000) (j : Int) :
    Calls Tryz.prog 75 #[.pointer (some ⟨rb, 0, none⟩), .int .i64 j] W fun r W' => ∃ A c, r = .returned (.slice A (B.moves j).length c) ∧ W'.ownsRow W.heap.size 85 6 (.slice A (B.moves j).length c) (B.moves j).length (mvCells (B.moves j)) ∧ Ext W W' := by
  have HRB := Lib.hid (fun W' (hx : Ext W W') => h.to hx)
  have lb := h.blk.lt
  have HQ := Lib.hid (fun W' (hx : Ext W W') => (h.to hx).blk.cells)
  have HS := Lib.hid hsm
  obtain ⟨A, c, hv, hml, _⟩ := h.sl
  have hlen := hp.len
  have HEn := Lib.hid (fun k (hk : k < R.length) => h.entR hk)
  subst hv
  replace hlen := Lib.hid hlen
  unfold maxLen at hml
  clear h hsm
  go_enter Tryz.func75, Tryz.ntmps75
  obtain ⟨q, q'⟩ := HQ.out W (Ext.refl W)
  go_wp2_with fail
  clear q q'
  go_loopw [6, 5] (fun i v wr => MvR W B j i v wr) (fun i _ _ => B.length - (intOf i).toNat)
  case atStart => exact ⟨0, by omega, rfl, Ext.refl _, by simpa [mvCells] using World.ownsRow_nil _ _ _ _⟩
  case round =>
    obtain ⟨k, hk, rfl, hO⟩ := hrel
    obtain ⟨q, q'⟩ := HQ.out _ hO.1
    have lbr : rb < wr.heap.size := Nat.lt_of_lt_of_le lb hO.1.size
    by_cases hlt : k < B.length
    · have hkR : k < R.length := by rw [hlen.out]; exact hlt
      have hd : decide ((k : Int) < (R.length : Int)) = true := by simp; omega
      have kl : (k : Int) < (R.length : Int) := by omega
      have kz : (0 : Int) ≤ (k : Int) := by omega
      obtain ⟨g, off, c', Aa, ca, At, ct, hv, _, hg, _, _, _, _, _, HR⟩ := HEn.out k hkR
      injection hv with hv _ ec
      subst hv ec
      rw [hp.at_ hkR hlt] at HR
      obtain ⟨k0, k1, k2, k3, k4, k5, k6⟩ := (HR wr hO.1).1
      have hgr : g < wr.heap.size := Nat.lt_of_lt_of_le hg hO.1.size
      have hmem : B[k] ∈ B := List.getElem_mem hlt
      have HVo := Lib.hid (fun W' (hx : Ext W W') (h1 : B[k].e.k = 1) => (HRB.out _ hx).voided_ hp (hp.sale_self hmem h1) rfl)
      have HLi := Lib.hid (fun W' (hx : Ext W W') => rlines29_any (HRB.out _ hx) hp k hkR hlt rfl)
      have hsx := HS.out B[k] hmem
      have hvo : B[k].e.k ≠ 1 → B[k].voided = false := fun h1 => ((hp.ok B[k] hmem).oth h1).2
      have hpre := allmoves_len HS.out j (B.take k) (fun x hx => List.mem_of_mem_take hx)
      have hpl : (B.take k).length ≤ 100000 := by rw [List.length_take]; omega
      have HN := Lib.hid (fun W2 v h => MvR.next (W := W) (wr := W2) (j := j) (v := v) (m := k + 1) hlt h rfl)
      have HEq := Lib.hid (mvsOf_all B[k] j)
      generalize B[k] = x at *
      generalize (B.take k).flatMap (fun x => x.moves j) = pre at *
      have X1 := hO.1.alloc (.cells (entC x.e (.slice Aa x.e.am.length ca) (.slice At x.e.tax.length ct)) 52)
      have O1 : (wr.alloc (.cells (entC x.e (.slice Aa x.e.am.length ca) (.slice At x.e.tax.length ct)) 52)).ownsRow W.heap.size 85 6 u5 pre.length (mvCells pre) := hO.2.alloc _
      have B7 := Blk.new wr 52 (entC x.e (.slice Aa x.e.am.length ca) (.slice At x.e.tax.length ct))
      replace hvo := Lib.hid hvo
      clear HR hO hmem hp
      go_wp2_with fail
      clear k0 k1 k2 k3 k4 k5 k6 q q'
      generalize wr.alloc (.cells (entC x.e (.slice Aa x.e.am.length ca) (.slice At x.e.tax.length ct)) 52) = w7 at *
      generalize wr.heap.size = g7 at *
      refine (HLi.out _ X1).mono ?_
      rintro r w8 ⟨Al, cl, rfl, hol, hx8⟩
      have X8 := X1.trans hx8
      have O8 := own_ext O1 hx8
      have B8 := B7.ext hx8
      have HS0 := Lib.hid (show Mv3 W x pre j g7 w7.heap.size (.slice Aa x.e.am.length ca) (.slice At x.e.tax.length ct) (.slice Al x.lines.length cl) (.int .i64 ((0 : Nat) : Int)) u5 w8 from ⟨0, by omega, rfl, ⟨X8, by simpa [mvsOf] using O8⟩, B8, hol⟩)
      obtain ⟨_, _, rl⟩ := own_slice' hol
      clear X1 hx8 O1 B7 X8 O8 B8 HLi hol
      generalize w7.heap.size = b7 at *
      have hll : x.lines.length ≤ 9223372036854775807 := by omega
      have hkB : k < B.length := hlt
      go_wp2_with fail
      go_loopw [9, 5] (fun i v wr => Mv3 W x pre j g7 b7 (.slice Aa x.e.am.length ca) (.slice At x.e.tax.length ct) (.slice Al x.lines.length cl) i v wr) (fun i _ _ => x.lines.length - (intOf i).toNat)
      case atStart => exact HS0.out
      case round =>
        clear HS0 rl hgr lbr hd hlt
        obtain ⟨n, hn, rfl, hO, hB7, hLR⟩ := hrel
        obtain ⟨q, q'⟩ := hB7.cells
        have l7 := hB7.lt
        by_cases hlt : n < x.lines.length
        · have hd : decide ((n : Int) < (x.lines.length : Int)) = true := by simp; omega
          have nl : (n : Int) < (x.lines.length : Int) := by omega
          have nz : (0 : Int) ≤ (n : Int) := by omega
          obtain ⟨gl, ol, rfl, _, _⟩ := (Reads.of_own hLR).cellAt hlt
          obtain ⟨hgl, c1, c2, c3, c4, c5, c6⟩ := tx_own hLR hlt
          have HSk := Lib.hid (fun (h : x.lines[n].j ≠ j ∨ x.voided = true) (v : Value) (W2 : World) (h1 : Ext W W2) (h2 : W2.ownsRow W.heap.size 85 6 v (pre ++ mvsOf x j (x.lines.take n)).length (mvCells (pre ++ mvsOf x j (x.lines.take n)))) h3 h4 => (show Mv3 W x pre j g7 b7 (.slice Aa x.e.am.length ca) (.slice At x.e.tax.length ct) (.slice (some ⟨gl, ol, none⟩) x.lines.length cl) (.int .i64 ((n + 1 : Nat) : Int)) v W2 from ⟨n + 1, by omega, rfl, by rw [mvsOf_skip hlt h]; exact ⟨h1, h2⟩, h3, h4⟩))
          have HPt := Lib.hid (fun (hv : x.voided = false) (h : x.lines[n].j = j) (W2 : World) (v : Value) (h1 : Ext W W2) (h2 : W2.ownsRow W.heap.size 85 6 v ((pre ++ mvsOf x j (x.lines.take n)).length + 1) (mvCells (pre ++ mvsOf x j (x.lines.take n)) ++ (mvOf x x.lines[n]).cl)) h3 h4 => (show Mv3 W x pre j g7 b7 (.slice Aa x.e.am.length ca) (.slice At x.e.tax.length ct) (.slice (some ⟨gl, ol, none⟩) x.lines.length cl) (.int .i64 ((n + 1 : Nat) : Int)) v W2 from ⟨n + 1, by omega, rfl, by
            rw [mvsOf_put hlt h hv, ← List.append_assoc]
            exact ⟨h1, by simpa [mvCells, Nat.add_assoc] using h2⟩, h3, h4⟩))
          have HLC := Lib.hid (fun (W2 : World) (h1 : Blk W2 g7 52 (entC x.e (.slice Aa x.e.am.length ca) (.slice At x.e.tax.length ct))) (h2 : W2.ownsRow b7 117 6 (.slice (some ⟨gl, ol, none⟩) x.lines.length cl) x.lines.length (txCells x.lines)) => (show W2.cell? ⟨g7, 1, none⟩ = some (.int .i64 x.e.id) ∧ W2.cell? ⟨g7, 3, none⟩ = some (.int .i64 x.e.day) ∧ W2.cell? ⟨g7, 0, none⟩ = some (.int .i64 x.e.k) ∧ W2.cell? ⟨gl, ol + n * 6 + 2, none⟩ = some (.int .i64 x.lines[n].t) ∧ W2.cell? ⟨gl, ol + n * 6 + 3, none⟩ = some (.int .i64 x.lines[n].x) ∧ W2.cell? ⟨gl, ol + n * 6 + 5, none⟩ = some (.int .i64 x.lines[n].v) from by
            obtain ⟨_, _, _, a3, a4, _, a6⟩ := tx_own h2 hlt
            exact ⟨h1.cell 1, h1.cell 3, h1.cell 0, a3, a4, a6⟩))
          have HX := Lib.hid (fun (W2 : World) (hy : Ext wr W2) => HLC.out W2 (hB7.ext hy) (own_ext hLR hy))
          have hml1 := mvsOf_len x j (x.lines.take n)
          have hml2 : (x.lines.take n).length ≤ x.lines.length := List.length_take_le' _ _
          have hol : (pre ++ mvsOf x j (x.lines.take n)).length ≤ 1000000000 := by rw [List.length_append]; omega
          have hMO := Lib.hid (fun (bk : Bool) (hb : (x.e.k == 2) = bk) => (show mvOf x x.lines[n] = ⟨x.e.id, x.e.day, bk, x.lines[n].t, x.lines[n].x, x.lines[n].v⟩ from by
            unfold mvOf
            rw [← hb, show decide (x.e.k = 2) = (x.e.k == 2) by rw [Bool.eq_iff_iff]; simp]))
          have HXW := Lib.hid hO.1
          have HO := Lib.hid hO.2
          have HB7 := Lib.hid hB7
          have HLR := Lib.hid hLR
          have HV := Lib.hid (HVo.out _ hO.1)
          clear hO hB7 hLR HN HEq HVo
          generalize pre ++ mvsOf x j (x.lines.take n) = L at *
          generalize x.lines[n] = y at *
          generalize hxe : x.e = xe at *
          replace hxe := Lib.hid hxe
          by_cases hj : y.j = j
          · have bj : (y.j != j) = false := by simpa using hj
            by_cases h1 : xe.k = 1
            · have b1 : (xe.k == 1) = true := by simpa using h1
              have HV1 := Lib.hid (HV.out h1)
              cases hvd : x.voided
              case true =>
                rw [hvd] at HV1
                have HE2 := Lib.hid (HSk.out (.inr hvd) u5 wr HXW.out HO.out HB7.out HLR.out)
                clear HSk HPt hvd HV hj h1 hvo
                go_wp2_with fail
                refine HV1.out.mono ?_
                rintro r w9 ⟨rfl, rfl⟩
                go_wp2_with fail
                go_roundw
                case rel => exact HE2.out
                case measure => simp [intOf]; omega
              case false =>
                rw [hvd] at HV1
                replace HPt := Lib.hid (HPt.out hvd hj)
                clear HSk hvd HV hj h1 hvo
                go_wp2_with fail
                refine HV1.out.mono ?_
                rintro r w9 ⟨rfl, rfl⟩
                go_upto_region 11 with (fail)
                obtain ⟨bk, hbk⟩ : ∃ bk, (xe.k == 2) = bk := ⟨_, rfl⟩
                have hmv := Lib.hid (hMO.out bk hbk)
                have S0 := HX.out wr (Ext.refl wr)
                obtain ⟨s1, s2, s3, s4, s5, s6⟩ := S0
                clear q q' c1 c2 c3 c4 c5 c6
                go_region_held3 (fun w' => w'.cell? ⟨g7, 1, none⟩ = some (.int .i64 xe.id) ∧ w'.cell? ⟨g7, 3, none⟩ = some (.int .i64 xe.day) ∧ w'.cell? ⟨g7, 0, none⟩ = some (.int .i64 xe.k) ∧ w'.cell? ⟨gl, ol + n * 6 + 2, none⟩ = some (.int .i64 y.t) ∧ w'.cell? ⟨gl, ol + n * 6 + 3, none⟩ = some (.int .i64 y.x) ∧ w'.cell? ⟨gl, ol + n * 6 + 5, none⟩ = some (.int .i64 y.v))
                  (first | (with_reducible exact HX.out _ (Ext.refl wr).drew) | (with_reducible exact HX.out _ ((Ext.refl wr).alloc _)) | (with_reducible exact HX.out _ ((Ext.refl wr).drew.alloc _)) | (with_reducible exact HX.out _ ((Ext.refl wr).alloc _).drew) | (exact S7.out))
                  (first
                  | (refine step_app (v := u5) row_mv W _ (.tmp 53) (.tmp 77) rfl rfl rfl (own_ext HO.out ((Ext.refl wr).alloc _).drew) (HXW.out.alloc _).drew rfl (reads_new' wr #[.int .i64 xe.id, .int .i64 xe.day, .bool bk, .int .i64 y.t, .int .i64 y.x, .int .i64 y.v] 85 1 6 rfl rfl) (mv_one ⟨xe.id, xe.day, bk, y.t, y.x, y.v⟩) (by omega) (by unfold maxLen; omega) ?_; intro v7 w7 hg7; have HG7 := Lib.hid hg7; have M7 := hg7.blk (own_ext HO.out ((Ext.refl wr).alloc _).drew) (HB7.out.ext ((Ext.refl wr).alloc _).drew) (by decide); have R7 := Grew.other hg7 (own_ext HO.out ((Ext.refl wr).alloc _).drew) (own_ext HLR.out ((Ext.refl wr).alloc _).drew) (by decide); have S7 := Lib.hid (HLC.out w7 M7 R7); have HM7 := Lib.hid M7; have HR7 := Lib.hid R7; clear hg7 M7 R7))
                all_goals
                  have HE2 := Lib.hid (HPt.out w7 v7 HG7.out.ext (by rw [hmv.out]; exact HG7.out.own) HM7.out HR7.out)
                  clear s1 s2 s3 s4 s5 s6
                  go_wp2_with fail
                  go_roundw
                  case rel => exact HE2.out
                  case measure => simp [intOf]; omega
            · have b1 : (xe.k == 1) = false := by simpa using h1
              replace HPt := Lib.hid (HPt.out (hvo.out h1) hj)
              clear HSk HV hj h1 hvo
              go_upto_region 11 with (fail)
              obtain ⟨bk, hbk⟩ : ∃ bk, (xe.k == 2) = bk := ⟨_, rfl⟩
              have hmv := Lib.hid (hMO.out bk hbk)
              have S0 := HX.out wr (Ext.refl wr)
              obtain ⟨s1, s2, s3, s4, s5, s6⟩ := S0
              clear q q' c1 c2 c3 c4 c5 c6
              go_region_held3 (fun w' => w'.cell? ⟨g7, 1, none⟩ = some (.int .i64 xe.id) ∧ w'.cell? ⟨g7, 3, none⟩ = some (.int .i64 xe.day) ∧ w'.cell? ⟨g7, 0, none⟩ = some (.int .i64 xe.k) ∧ w'.cell? ⟨gl, ol + n * 6 + 2, none⟩ = some (.int .i64 y.t) ∧ w'.cell? ⟨gl, ol + n * 6 + 3, none⟩ = some (.int .i64 y.x) ∧ w'.cell? ⟨gl, ol + n * 6 + 5, none⟩ = some (.int .i64 y.v))
                (first | (with_reducible exact HX.out _ (Ext.refl wr).drew) | (with_reducible exact HX.out _ ((Ext.refl wr).alloc _)) | (with_reducible exact HX.out _ ((Ext.refl wr).drew.alloc _)) | (with_reducible exact HX.out _ ((Ext.refl wr).alloc _).drew) | (exact S7.out))
                (first
                | (refine step_app (v := u5) row_mv W _ (.tmp 53) (.tmp 77) rfl rfl rfl (own_ext HO.out ((Ext.refl wr).alloc _).drew) (HXW.out.alloc _).drew rfl (reads_new' wr #[.int .i64 xe.id, .int .i64 xe.day, .bool bk, .int .i64 y.t, .int .i64 y.x, .int .i64 y.v] 85 1 6 rfl rfl) (mv_one ⟨xe.id, xe.day, bk, y.t, y.x, y.v⟩) (by omega) (by unfold maxLen; omega) ?_; intro v7 w7 hg7; have HG7 := Lib.hid hg7; have M7 := hg7.blk (own_ext HO.out ((Ext.refl wr).alloc _).drew) (HB7.out.ext ((Ext.refl wr).alloc _).drew) (by decide); have R7 := Grew.other hg7 (own_ext HO.out ((Ext.refl wr).alloc _).drew) (own_ext HLR.out ((Ext.refl wr).alloc _).drew) (by decide); have S7 := Lib.hid (HLC.out w7 M7 R7); have HM7 := Lib.hid M7; have HR7 := Lib.hid R7; clear hg7 M7 R7))
              all_goals
                have HE2 := Lib.hid (HPt.out w7 v7 HG7.out.ext (by rw [hmv.out]; exact HG7.out.own) HM7.out HR7.out)
                clear s1 s2 s3 s4 s5 s6
                go_wp2_with fail
                go_roundw
                case rel => exact HE2.out
                case measure => simp [intOf]; omega
          · have bj : (y.j != j) = true := by simpa using hj
            have HE2 := Lib.hid (HSk.out (.inl hj) u5 wr HXW.out HO.out HB7.out HLR.out)
            clear HSk HPt HV hj hvo
            go_wp2_with fail
            go_roundw
            case rel => exact HE2.out
            case measure => simp [intOf]; omega
        · have hd : decide ((n : Int) < (x.lines.length : Int)) = false := by simp; omega
          rw [List.take_of_length_le (by omega), HEq.out] at hO
          have HF := Lib.hid (HN.out _ _ hO)
          clear hO hB7 hLR q q' HN
          go_wp2_with fail
          go_roundw
          case rel => exact HF.out
          case measure => simp [intOf]; omega
    · have hd : decide ((k : Int) < (R.length : Int)) = false := by have := hlen.out; simp; omega
      have hd' : decide (k < R.length) = false := by have := hlen.out; simp; omega
      rw [List.take_of_length_le (by omega)] at hO
      have HO := Lib.hid (show MvOut W u5 (B.moves j) wr from hO)
      clear hO
      go_wp2_with fail
      go_ret
      obtain ⟨h1, h2⟩ := HO.out
      obtain ⟨A, c, rfl, _⟩ := own_slice h2
      exact ⟨A, c, rfl, h2, h1⟩
end Go.Proofs.YtokakpbpenndlaaGreatDoor

set_option linter.unusedVariables false
namespace Go.Proofs.YtokakpbpenndlaaGreatDoor
open Go.RowKit Go.Maps

theorem row_en29 : RowT Tryz.prog 38 52 6 80 (.agg #[.int .i64 0, .int .i64 0, .int .i64 0, .int .i64 0, .slice none 0 0, .slice none 0 0]) := rowT_mk Tryz.underlying38 (by kernel_rfl) rfl (by decide)
theorem en_one (e : Ent) (A A' : Option Addr) (c c' : Nat) : ∀ u ∈ (entC e (.slice A e.am.length c) (.slice A' e.tax.length c')).toList, u.oneCell' = true := by
  intro u hu
  simp at hu
  rcases hu with rfl | rfl | rfl | rfl | rfl | rfl <;> rfl
/-- What an Add leaves of the reference's book. -/
structure RAdded (w0 W W' : World) (rb : Nat) (v : Value) (R : List RE) (B' : Bk) (v' : Value) (R' : List RE) : Prop where
  at_ : RBook w0 W' rb v' R'
  rp : RP R' B'
  chg : Chg (rb :: v.ownBlock.toList) W W'
  vo : ∀ g, v'.ownBlock = some g → v.ownBlock = some g ∨ W.heap.size ≤ g
  slots : ∀ x ∈ R', x ∈ R ∨ ((∀ g, x.va.ownBlock = some g → W.heap.size ≤ g) ∧ ∀ g, x.vt.ownBlock = some g → W.heap.size ≤ g)
theorem RAdded.same {w0 W W' : World} {rb : Nat} {v : Value} {R : List RE} {B : Bk} (h : RBook w0 W rb v R) (hp : RP R B) (hx : Ext W W') : RAdded w0 W W' rb v R B v R :=
  ⟨h.to hx, hp, Chg.ext hx, fun _ h => .inl h, fun _ h => .inl h⟩
theorem RAdded.to {w0 W W' W2 : World} {rb : Nat} {v v' : Value} {R R' : List RE} {B : Bk} (h : RAdded w0 W W' rb v R B v' R') (hx : Ext W' W2) : RAdded w0 W W2 rb v R B v' R' :=
  ⟨h.at_.to hx, h.rp, h.chg.then_ext hx, h.vo, h.slots⟩
theorem RP.snoc {R : List RE} {B : Bk} (hp : RP R B) {e : Ent} {va vt : Value} (hm : B.may e = 0) (hB : (∀ x ∈ (B.add e).1, x.ok) ∧ (B.add e).1.ids.Nodup) : RP (R ++ [⟨e, va, vt⟩]) (B.add e).1 :=
  ⟨by rw [add_ents, if_pos hm, List.map_append, hp.e]; rfl, ri_add hp.ri hp.ok hp.nodup e, hB.1, hB.2⟩
/-- An entry appended to the book's row. -/
theorem RBook.snoc {w0 W W6 : World} {rb : Nat} {v v6 : Value} {R : List RE} {e : Ent} {va vt : Value} {z : Value} {o : Obj} (h : RBook w0 W rb v R) (hx0 : Ext w0 W) (ha : W.ownsRow w0.heap.size 3 1 va e.am.length (iV e.am)) (ht : W.ownsRow w0.heap.size 117 6 vt e.tax.length (txCells e.tax))
    (hg : Grew w0 (W.alloc o).drew W6 52 6 z v v6 (R.length + 1) (reCells R ++ (RE.mk e va vt).cl)) : RBook w0 (W6.setCell ⟨rb, 0, none⟩ v6) rb v6 (R ++ [⟨e, va, vt⟩]) := by
  have X : Ext W (W.alloc o).drew := ((Ext.refl W).alloc o).drew
  have hr := own_ext h.row X
  have hb := hg.blk hr (h.blk.ext X) (by decide)
  have key : ∀ {e2 : TypeId} {s m : Nat} {u : Value} {ys : List Value}, W.ownsRow w0.heap.size e2 s u m ys → 52 ≠ e2 → e2 ≠ 46 → (W6.setCell ⟨rb, 0, none⟩ v6).ownsRow w0.heap.size e2 s u m ys := by
    intro e2 s m u ys hu hne hn2
    have h1 := Grew.other hg hr (own_ext hu X) hne
    exact own_set h1 (a := ⟨rb, 0, none⟩) (own_blk_ne h1 hb hn2) v6
  refine ⟨?_, ?_, fun x hx => ?_, fun x hx => ?_, h.ge⟩
  · have := hb.set_ 0 v6
    simpa using this
  · have h1 : W6.ownsRow w0.heap.size 52 6 v6 (R ++ [⟨e, va, vt⟩] : List RE).length (reCells (R ++ [⟨e, va, vt⟩])) := by
      have := hg.own
      simpa [reCells] using this
    exact own_set h1 (a := ⟨rb, 0, none⟩) (own_blk_ne h1 hb (by decide)) v6
  · rcases List.mem_append.1 hx with hx | hx
    · exact key (h.oa x hx) (by decide) (by decide)
    · rw [List.mem_singleton.1 hx]
      exact key ha (by decide) (by decide)
  · rcases List.mem_append.1 hx with hx | hx
    · exact key (h.ot x hx) (by decide) (by decide)
    · rw [List.mem_singleton.1 hx]
      exact key ht (by decide) (by decide)
theorem RAdded.snoc {w0 W W7 W6 : World} {rb : Nat} {v v6 : Value} {R : List RE} {B : Bk} {e : Ent} {va vt z : Value} {o : Obj} (h : RBook w0 W rb v R) (hp : RP R B) (hx0 : Ext w0 W) (hm : B.may e = 0) (hB : (∀ x ∈ (B.add e).1, x.ok) ∧ (B.add e).1.ids.Nodup) (hx : Ext W W7) (ha : W7.ownsRow W.heap.size 3 1 va e.am.length (iV e.am)) (ht : W7.ownsRow W.heap.size 117 6 vt e.tax.length (txCells e.tax))
    (hg : Grew w0 (W7.alloc o).drew W6 52 6 z v v6 (R.length + 1) (reCells R ++ (RE.mk e va vt).cl)) : RAdded w0 W (W6.setCell ⟨rb, 0, none⟩ v6) rb v R (B.add e).1 v6 (R ++ [⟨e, va, vt⟩]) := by
  have hle := hx0.size
  have hb := RBook.snoc (h.to hx) (hx0.trans hx) (own_base ha hle) (own_base ht hle) hg
  refine ⟨hb, hp.snoc hm hB, ?_, fun g hgo => ?_, fun x hxm => ?_⟩
  · have c1 : Chg (rb :: v.ownBlock.toList) W W6 := Chg.then_grown (Chg.ext (hx.trans ((Ext.refl W7).alloc o).drew)) hg.grown fun k hk => .inl (by simp [hk])
    exact Chg.then_grown c1 (only_set (World.grownBy.refl W6 (some rb)) (.inl rfl) v6) fun k hk => .inl (by simp [Option.some.inj hk])
  · rcases hg.at_ with h1 | h1
    · exact .inl (by rw [← h1]; exact hgo)
    · rw [h1] at hgo
      have := Option.some.inj hgo
      have h3 := hx.size
      simp at this
      exact .inr (by omega)
  · rcases List.mem_append.1 hxm with h1 | h1
    · exact .inl h1
    · rw [List.mem_singleton.1 h1]
      exact .inr ⟨fun g hg => (ha.lt g hg).1, fun g hg => (ht.lt g hg).1⟩
theorem may_is7 {B : Bk} {e : Ent} (h : B.may e = 7) : (B.find e.id).isSome = true := by
  unfold Bk.may at h
  by_cases hc : e.check ≠ 0
  · rw [if_pos hc] at h
    unfold Ent.check at h
    split at h
    · cases h
    · split at h <;> cases h
  rw [if_neg hc] at h
  by_cases hf : (B.find e.id).isSome = true
  · exact hf
  rw [if_neg hf] at h
  by_cases h2 : e.k = 2
  · rw [if_pos h2] at h
    cases hs : B.sale e.of_ with
    | none => rw [hs] at h; cases h
    | some s =>
      rw [hs] at h
      simp only [Kp.refMay] at h
      split at h
      · cases h
      · split at h
        · cases h
        · split at h <;> cases h
  rw [if_neg h2] at h
  by_cases h3 : e.k = 3
  · rw [if_pos h3] at h
    cases hs : B.sale e.of_ with
    | none => rw [hs] at h; cases h
    | some s =>
      rw [hs] at h
      simp only [Kp.voidMay] at h
      split at h <;> cases h
  · rw [if_neg h3] at h; cases h
set_option maxRecDepth 100000 in
set_option maxHeartbeats 4000000 in
theorem radd29_any {w0 W : World} {rb : Nat} {v : Value} {R : List RE} {B : Bk} (h : RBook w0 W rb v R) (hx0 : Ext w0 W) (hp : RP R B) (e : Ent) (Aa At : Option Addr) (ca ct : Nat) (he : EntR W e Aa At) (hct : e.tax.length ≤ ct) (hcm : ct ≤ maxLen) (hl : R.length ≤ 100000)
    (hB : (∀ x ∈ (B.add e).1, x.ok) ∧ (B.add e).1.ids.Nodup) :
    Calls Tryz.prog 27 #[.pointer (some ⟨rb, 0, none⟩), entV e Aa At ca ct] W fun r W' => ∃ A n c E v' R', r = .returned (.tuple #[.slice A n c, .int .i64 E]) ∧ RAdded w0 W W' rb v R (B.add e).1 v' R' := by
  have HE := Lib.hid (fun W' (hx : Ext W W') => he.ext hx)
  have X0 := (Ext.refl W).alloc (.cells (entC e (.slice Aa e.am.length ca) (.slice At e.tax.length ct)) 52)
  have B3 := Blk.new W 52 (entC e (.slice Aa e.am.length ca) (.slice At e.tax.length ct))
  have HM := Lib.hid (fun W' (hx : Ext W W') => rmay29_any (h.to hx) hp e Aa At ca ct (he.ext hx) hct hcm)
  have la := he.la
  have lt := he.lt
  clear he
  go_enter Tryz.func27, Tryz.ntmps27
  go_wp2_with fail
  refine (HM.out _ X0).mono ?_
  rintro r w1 ⟨rfl, hx1⟩
  have X1 := X0.trans hx1
  have B31 := B3.ext hx1
  clear X0 B3 hx1
  obtain ⟨g3, hg3⟩ : ∃ g3, W.heap.size = g3 := ⟨_, rfl⟩
  rw [hg3] at B31 ⊢
  replace hg3 := Lib.hid hg3
  obtain ⟨m, hm⟩ : ∃ m, B.may e = m := ⟨_, rfl⟩
  rw [hm]
  have l3 := B31.lt
  obtain ⟨q, q'⟩ := B31.cells
  by_cases h0 : m = 0
  case neg =>
    have hne : B.may e ≠ 0 := by rw [hm]; exact h0
    have HF := Lib.hid (fun (W' : World) (hx : Ext W W') => (show RAdded w0 W W' rb v R (B.add e).1 v R from by
      rw [add_no hne]
      exact RAdded.same h hp hx))
    have hb0 : (m != 0) = true := by simpa using h0
    replace hne := Lib.hid hne
    by_cases h7 : m = 7
    case neg =>
      have hb7 : (m == 7) = false := by simpa using h7
      replace hm := Lib.hid hm
      clear h0 h7 hB
      go_wp2_with fail
      go_quiet (fail)
      go_wp2_with fail
      go_ret2
      exact ⟨_, _, _, _, _, _, rfl, HF.out _ (X1.drewN _)⟩
    have hb7 : (m == 7) = true := by simpa using h7
    obtain ⟨k, hk, a⟩ : ∃ k, ∃ hk : k < B.length, placeI B.ids e.id = (k : Int) := by
      rcases find_cases B e.id with ⟨_, b⟩ | ⟨k, hk, a, _, _⟩
      · have := may_is7 (hm.trans h7)
        rw [b] at this
        cases this
      · exact ⟨k, hk, a⟩
    have hkR : k < R.length := by rw [hp.len]; exact hk
    have HAt := Lib.hid (fun W' (hx : Ext W W') => (h.to hx).place_ hp a)
    have HLn := Lib.hid (fun W' (hx : Ext W W') => rLines29_any (h.to hx) hp e.id)
    obtain ⟨g, off, c, As, cs, Ats, cts, rfl, hml, hg, lb, ls1, ms1, ls2, ms2, HR'⟩ := h.entR hkR
    have HR := Lib.hid (fun W' hx => (show W'.cell? ⟨rb, 0, none⟩ = some (.slice (some ⟨g, off, none⟩) R.length c) ∧ W'.cell? ⟨g, off + k * 6, none⟩ = some (.int .i64 R[k].e.k) from ⟨(HR' W' hx).1.b, (HR' W' hx).1.c0⟩))
    have HB3 := Lib.hid (fun W' (hx : Ext w1 W') => (B31.ext hx).cells)
    have kl : (k : Int) < (R.length : Int) := by omega
    have kz : (0 : Int) ≤ (k : Int) := by omega
    unfold maxLen at hml
    replace hm := Lib.hid hm
    subst h7
    clear h0 hB a HR' h hp
    generalize R[k].e.k = x at *
    go_wp2_with fail
    have HX := Lib.hid (fun w' (hy : Ext w1 w') => (show w'.cell? ⟨rb, 0, none⟩ = some (.slice (some ⟨g, off, none⟩) R.length c) ∧ w'.cell? ⟨g, off + k * 6, none⟩ = some (.int .i64 x) ∧ w'.cell? ⟨g3, 1, none⟩ = some (.int .i64 e.id) ∧ w'.cell? ⟨g3, 0, none⟩ = some (.int .i64 e.k) from ⟨(HR.out _ (X1.trans hy)).1, (HR.out _ (X1.trans hy)).2, (B31.ext hy).cell 1, (B31.ext hy).cell 0⟩))
    clear q q'
    obtain ⟨k0, k1, k2, k3⟩ := HX.out w1 (Ext.refl _)
    by_cases hxk : x = e.k
    · have bx : (x == e.k) = true := by simpa using hxk
      replace hxk := Lib.hid hxk
      go_region_held3 (fun w' => w'.cell? ⟨rb, 0, none⟩ = some (.slice (some ⟨g, off, none⟩) R.length c) ∧ w'.cell? ⟨g, off + k * 6, none⟩ = some (.int .i64 x) ∧ w'.cell? ⟨g3, 1, none⟩ = some (.int .i64 e.id) ∧ w'.cell? ⟨g3, 0, none⟩ = some (.int .i64 e.k))
        (first | (with_reducible exact HX.out _ (Ext.refl w1).drew))
        (first | (go_at_call 65; refine (HAt.out _ (by first | with_reducible exact X1.drew | with_reducible exact X1)).mono ?_; rintro r v2 ⟨rfl, rfl⟩))
      all_goals
        clear k0 k1 k2 k3
        obtain ⟨q, q'⟩ := HB3.out _ (Ext.refl w1).drew
        go_wp2_with fail
        refine (HLn.out _ X1.drew).mono ?_
        rintro r w2 ⟨A, n, c2, rfl, hx2⟩
        go_wp2_with fail
        go_ret2
        exact ⟨_, _, _, _, _, _, rfl, HF.out _ (X1.drew.trans hx2)⟩
    · have bx : (x == e.k) = false := by simpa using hxk
      replace hxk := Lib.hid hxk
      go_region_held3 (fun w' => w'.cell? ⟨rb, 0, none⟩ = some (.slice (some ⟨g, off, none⟩) R.length c) ∧ w'.cell? ⟨g, off + k * 6, none⟩ = some (.int .i64 x) ∧ w'.cell? ⟨g3, 1, none⟩ = some (.int .i64 e.id) ∧ w'.cell? ⟨g3, 0, none⟩ = some (.int .i64 e.k))
        (first | (with_reducible exact HX.out _ (Ext.refl w1).drew))
        (first | (go_at_call 65; refine (HAt.out _ (by first | with_reducible exact X1.drew | with_reducible exact X1)).mono ?_; rintro r v2 ⟨rfl, rfl⟩))
      all_goals
        clear k0 k1 k2 k3
        go_wp2_with fail
        go_ret2
        exact ⟨_, _, _, _, _, _, rfl, HF.out _ X1.drew⟩
  subst h0
  clear q q'
  have hlt := Ent.kinds (may_check hm)
  have hle := check_am (may_check hm)
  unfold maxLen at la lt hcm
  obtain ⟨q, q'⟩ := B31.cells
  go_wp2_with fail
  go_quiet (fail)
  go_upto_region 6 with (fail)
  generalize hw2 : World.drewN w1 _ = w2
  have X2 : Ext W w2 := by rw [← hw2]; exact X1.drewN _
  have B32 : Blk w2 g3 52 (entC e (.slice Aa e.am.length ca) (.slice At e.tax.length ct)) := by rw [← hw2]; exact B31.ext ((Ext.refl w1).drewN _)
  have HX1 := Lib.hid X2
  have HB31 := Lib.hid B32
  clear q q' hw2 B31 X1 l3
  obtain ⟨q, q'⟩ := B32.cells
  have l3 := B32.lt
  clear B32 X2
  go_upto_region 7 with (at_builtin; refine wpl_app row_int W _ (.tmp 36) (.tmp 38) rfl rfl rfl (own_lit HX1.out #[] _ 0 1 rfl (by simp [maxLen]) rfl) (HX1.out.alloc _) rfl (HE.out _ (HX1.out.alloc _)).ra (iV_one _) (by omega) (by unfold maxLen; omega) ?_; intro v4 W4 hg4; obtain ⟨A4, c4, rfl, _, _, _⟩ := own_slice hg4.own; have HG4 := Lib.hid hg4; have hb4 := hg4.blk (own_lit HX1.out #[] _ 0 1 rfl (by simp [maxLen]) rfl) (HB31.out.alloc _) (by decide); clear hg4; obtain ⟨r4, r4'⟩ := hb4.cells)
  have hgW : W.heap.size ≤ g3 := Nat.le_of_eq hg3.out
  have X5 := HG4.out.ext.set (p := ⟨g3, 4, none⟩) hgW (.slice A4 e.am.length c4)
  have B5 : Blk (W4.setCell ⟨g3, 4, none⟩ (.slice A4 e.am.length c4)) g3 52 (entC e (.slice A4 e.am.length c4) (.slice At e.tax.length ct)) := by
    have := hb4.set_ 4 (.slice A4 e.am.length c4)
    simpa using this
  have O4 : W4.ownsRow W.heap.size 3 1 (.slice A4 e.am.length c4) e.am.length (iV e.am) := by
    have := HG4.out.own
    rw [Nat.zero_add] at this
    simpa using this
  have O5 := own_set O4 (a := ⟨g3, 4, none⟩) (own_blk_ne O4 hb4 (by decide)) (.slice A4 e.am.length c4)
  generalize W4.setCell ⟨g3, 4, none⟩ (.slice A4 e.am.length c4) = W5 at *
  have HX5 := Lib.hid X5
  have HB5 := Lib.hid B5
  have HO5 := Lib.hid O5
  clear hb4 r4 r4' q q' O4 O5 X5 HG4 HB31 HX1 l3
  obtain ⟨q, q'⟩ := B5.cells
  have l3 := B5.lt
  clear B5
  go_upto_region 8 with (at_builtin; refine wpl_app row_tx W _ (.tmp 41) (.tmp 43) rfl rfl rfl (own_lit HX5.out #[] _ 0 6 rfl (by simp [maxLen]) rfl) (HX5.out.alloc _) rfl (HE.out _ (HX5.out.alloc _)).rt (txCells_one _) (by omega) (by unfold maxLen; omega) ?_; intro v6 W6 hg6; obtain ⟨A6, c6, rfl, _, _, _⟩ := own_slice hg6.own; have HG6 := Lib.hid hg6; have hb6 := hg6.blk (own_lit HX5.out #[] _ 0 6 rfl (by simp [maxLen]) rfl) (HB5.out.alloc _) (by decide); have ho6 := Grew.other hg6 (own_lit HX5.out #[] _ 0 6 rfl (by simp [maxLen]) rfl) (HO5.out.alloc _) (by decide); clear hg6; obtain ⟨r6, r6'⟩ := hb6.cells)
  have X7 := HG6.out.ext.set (p := ⟨g3, 5, none⟩) hgW (.slice A6 e.tax.length c6)
  have B7 : Blk (W6.setCell ⟨g3, 5, none⟩ (.slice A6 e.tax.length c6)) g3 52 (entC e (.slice A4 e.am.length c4) (.slice A6 e.tax.length c6)) := by
    have := hb6.set_ 5 (.slice A6 e.tax.length c6)
    simpa using this
  have O6 : W6.ownsRow W.heap.size 117 6 (.slice A6 e.tax.length c6) e.tax.length (txCells e.tax) := by
    have := HG6.out.own
    rw [Nat.zero_add] at this
    simpa using this
  have O7t := own_set O6 (a := ⟨g3, 5, none⟩) (own_blk_ne O6 hb6 (by decide)) (.slice A6 e.tax.length c6)
  have O7a := own_set ho6 (a := ⟨g3, 5, none⟩) (own_blk_ne ho6 hb6 (by decide)) (.slice A6 e.tax.length c6)
  generalize W6.setCell ⟨g3, 5, none⟩ (.slice A6 e.tax.length c6) = W7 at *
  clear hb6 r6 r6' q q' O6 ho6 HG6 HB5 HX5 HO5 l3 hgW
  obtain ⟨q, q'⟩ := B7.cells
  have l3 := B7.lt
  have hB7 := (h.to X7).blk
  obtain ⟨p, p'⟩ := hB7.cells
  have lb := hB7.lt
  have HR7 := Lib.hid (h.to X7).row
  have HX7 := Lib.hid (hx0.trans X7)
  have HbB := Lib.hid hB7
  have HAd := Lib.hid (fun W6 v6 z o hg => RAdded.snoc (W6 := W6) (v6 := v6) (z := z) (o := o) h hp hx0 hm hB X7 O7a O7t hg)
  have hvn := Lib.hid (show v.ownBlock ≠ some g3 from fun e => by
    have := (h.row.lt g3 e).2
    have := hg3.out
    omega)
  have hrg := Lib.hid (Blk.ne_ hB7 B7 (by decide))
  have HB7 := Lib.hid B7
  obtain ⟨A, c, rfl, hml, _⟩ := h.sl
  clear h hp hm hB X7 O7a O7t hB7 B7 hx0
  unfold maxLen at hml
  go_region_law (refine step_app (v := .slice A R.length c) row_en29 w0 _ (.tmp 50) (.tmp 52) rfl rfl rfl (own_ext HR7.out ((Ext.refl W7).alloc _).drew) (HX7.out.alloc _).drew rfl (reads_new' W7 (entC e (.slice A4 e.am.length c4) (.slice A6 e.tax.length c6)) 52 1 6 rfl rfl) (en_one e A4 A6 c4 c6) (by omega) (by unfold maxLen; omega) ?_; intro v9 w9 hg9; obtain ⟨A9, c9, rfl, _, _, _⟩ := own_slice hg9.own; have HG9 := Lib.hid hg9; have hb9 := hg9.blk (own_ext HR7.out ((Ext.refl W7).alloc _).drew) (HbB.out.ext ((Ext.refl W7).alloc _).drew) (by decide); have hb3 := (HB7.out.ext ((Ext.refl W7).alloc (.cells (entC e (.slice A4 e.am.length c4) (.slice A6 e.tax.length c6)) 52)).drew).grown hg9.grown (fun e => hvn.out e.symm); clear hg9; obtain ⟨r9, r9'⟩ := hb9.cells)
  all_goals
    have HF := Lib.hid (HAd.out w9 _ _ _ HG9.out)
    have hb4 := hb3.far (p := ⟨rb, 0, none⟩) (fun e => hrg.out e.symm) (.slice A9 (R.length + 1) c9)
    clear q q' p p' r9 r9' hb9 hb3 HG9 HR7 HX7 HbB HAd HB7
    generalize World.setCell _ _ _ = W9 at HF hb4 ⊢
    obtain ⟨q, q'⟩ := hb4.cells
    have l9 := hb4.lt
    clear hb4
    go_wp2_with fail
    refine (rLines29_any HF.out.at_ HF.out.rp e.id).mono ?_
    rintro r w2 ⟨A2, n2, c2, rfl, hx2⟩
    go_wp2_with fail
    go_ret2
    exact ⟨_, _, _, _, _, _, rfl, HF.out.to hx2⟩
end Go.Proofs.YtokakpbpenndlaaGreatDoor
