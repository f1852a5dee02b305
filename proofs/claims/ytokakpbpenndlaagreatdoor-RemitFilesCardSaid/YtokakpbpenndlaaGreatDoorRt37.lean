/-
  apportionref30: File.
-/
import Derived.Test.YtokakpbpenndlaaGreatDoorRt23
import Derived.Test.YtokakpbpenndlaaGreatDoorRt33
import Derived.Test.YtokakpbpenndlaaGreatDoorRt34
import Derived.Test.YtokakpbpenndlaaGreatDoorRt35
import Derived.Test.YtokakpbpenndlaaGreatDoorRt36
set_option linter.unusedVariables false
namespace Go.Proofs.YtokakpbpenndlaaGreatDoor
open Go.RowKit Go.Maps

/-- Where the reference's File stands. -/
structure RF (W : World) (g8 g12 g16 g17 g18 g19 : Nat) (x : JV) (R : Array Value) (T X V : Int) (wr : World) : Prop where
  b8 : Blk wr g8 23 zRep
  b12 : Blk wr g12 83 #[.int .i64 x.j.id, .int .i64 x.j.k, .int .i64 x.j.par, .int .i64 x.j.f, .slice x.A x.n x.c]
  b16 : Blk wr g16 23 R
  b17 : Blk wr g17 145 (numIC T)
  b18 : Blk wr g18 145 (numIC X)
  b19 : Blk wr g19 145 (numIC V)
  ne : g8 ≠ g16
  n1 : g17 ≠ g18
  n2 : g17 ≠ g19
  n3 : g18 ≠ g19
  ext : Ext W wr
  l8 : W.heap.size ≤ g8
  l16 : W.heap.size ≤ g16
  l17 : W.heap.size ≤ g17
  l18 : W.heap.size ≤ g18
  l19 : W.heap.size ≤ g19
theorem RF.to {W wr w' : World} {g8 g12 g16 g17 g18 g19 : Nat} {x : JV} {R : Array Value} {T X V : Int} (h : RF W g8 g12 g16 g17 g18 g19 x R T X V wr) (hx : Ext wr w') : RF W g8 g12 g16 g17 g18 g19 x R T X V w' :=
  ⟨h.b8.ext hx, h.b12.ext hx, h.b16.ext hx, h.b17.ext hx, h.b18.ext hx, h.b19.ext hx, h.ne, h.n1, h.n2, h.n3, h.ext.trans hx, h.l8, h.l16, h.l17, h.l18, h.l19⟩
theorem RF.put {W wr : World} {g8 g12 g16 g17 g18 g19 : Nat} {x : JV} {R : Array Value} {T X V : Int} (h : RF W g8 g12 g16 g17 g18 g19 x R T X V wr) (i : Nat) (u : Value) : RF W g8 g12 g16 g17 g18 g19 x (R.setIfInBounds i u) T X V (wr.setCell ⟨g16, i, none⟩ u) :=
  ⟨h.b8.far (p := ⟨g16, i, none⟩) h.ne _, h.b12.far (p := ⟨g16, i, none⟩) (h.b12.ne_ h.b16 (by decide)) _, h.b16.set_ i u, h.b17.far (p := ⟨g16, i, none⟩) (h.b17.ne_ h.b16 (by decide)) _, h.b18.far (p := ⟨g16, i, none⟩) (h.b18.ne_ h.b16 (by decide)) _, h.b19.far (p := ⟨g16, i, none⟩) (h.b19.ne_ h.b16 (by decide)) _,
    h.ne, h.n1, h.n2, h.n3, h.ext.set (p := ⟨g16, i, none⟩) h.l16 u, h.l8, h.l16, h.l17, h.l18, h.l19⟩
theorem RF.add1 {W wr w' : World} {g8 g12 g16 g17 g18 g19 : Nat} {x : JV} {R : Array Value} {T X V T' : Int} (h : RF W g8 g12 g16 g17 g18 g19 x R T X V wr) (hb : Blk w' g17 145 (numIC T')) (hc : Chg [g17] wr w') : RF W g8 g12 g16 g17 g18 g19 x R T' X V w' := by
  have k : ∀ {g : Nat}, g ≠ g17 → g ∉ [g17] := fun hg => by simpa using hg
  exact ⟨hc.blk h.b8 (k (h.b8.ne_ h.b17 (by decide))), hc.blk h.b12 (k (h.b12.ne_ h.b17 (by decide))), hc.blk h.b16 (k (h.b16.ne_ h.b17 (by decide))), hb, hc.blk h.b18 (k h.n1.symm), hc.blk h.b19 (k h.n2.symm), h.ne, h.n1, h.n2, h.n3,
    Chg.to_ext h.ext hc (fun j hj => by rw [List.mem_singleton.1 hj]; exact h.l17), h.l8, h.l16, h.l17, h.l18, h.l19⟩
theorem RF.add2 {W wr w' : World} {g8 g12 g16 g17 g18 g19 : Nat} {x : JV} {R : Array Value} {T X V T' : Int} (h : RF W g8 g12 g16 g17 g18 g19 x R T X V wr) (hb : Blk w' g18 145 (numIC T')) (hc : Chg [g18] wr w') : RF W g8 g12 g16 g17 g18 g19 x R T T' V w' := by
  have k : ∀ {g : Nat}, g ≠ g18 → g ∉ [g18] := fun hg => by simpa using hg
  exact ⟨hc.blk h.b8 (k (h.b8.ne_ h.b18 (by decide))), hc.blk h.b12 (k (h.b12.ne_ h.b18 (by decide))), hc.blk h.b16 (k (h.b16.ne_ h.b18 (by decide))), hc.blk h.b17 (k h.n1), hb, hc.blk h.b19 (k h.n3.symm), h.ne, h.n1, h.n2, h.n3,
    Chg.to_ext h.ext hc (fun j hj => by rw [List.mem_singleton.1 hj]; exact h.l18), h.l8, h.l16, h.l17, h.l18, h.l19⟩
theorem RF.add3 {W wr w' : World} {g8 g12 g16 g17 g18 g19 : Nat} {x : JV} {R : Array Value} {T X V T' : Int} (h : RF W g8 g12 g16 g17 g18 g19 x R T X V wr) (hb : Blk w' g19 145 (numIC T')) (hc : Chg [g19] wr w') : RF W g8 g12 g16 g17 g18 g19 x R T X T' w' := by
  have k : ∀ {g : Nat}, g ≠ g19 → g ∉ [g19] := fun hg => by simpa using hg
  exact ⟨hc.blk h.b8 (k (h.b8.ne_ h.b19 (by decide))), hc.blk h.b12 (k (h.b12.ne_ h.b19 (by decide))), hc.blk h.b16 (k (h.b16.ne_ h.b19 (by decide))), hc.blk h.b17 (k h.n2), hc.blk h.b18 (k h.n3), hb, h.ne, h.n1, h.n2, h.n3,
    Chg.to_ext h.ext hc (fun j hj => by rw [List.mem_singleton.1 hj]; exact h.l19), h.l8, h.l16, h.l17, h.l18, h.l19⟩
theorem own_chg {w w' : World} {g base n : Nat} {v : Value} {xs : List Value} {cs' : Array Value} (ho : w.ownsRow base 85 6 v n xs) (hb : Blk w g 145 cs') (hc : Chg [g] w w') : w'.ownsRow base 85 6 v n xs :=
  hc.own ho fun k hk hm => by rw [List.mem_singleton.1 hm] at hk; exact own_blk_ne ho hb (by decide) hk
/-- Where its loop over the moves stands. -/
def RFl (W : World) (g8 g12 g16 g17 g18 g19 bse : Nat) (x : JV) (id p : Int) (A7 : Option Addr) (c7 : Nat) (ms : List Mv) (i : Value) (wr : World) : Prop :=
  ∃ k : Nat, k ≤ ms.length ∧ i = .int .i64 (k : Int) ∧
    RF W g8 g12 g16 g17 g18 g19 x (flR id x.j.f p (salesN (perM x.j.f p (ms.take k)) : Int) (backsN (perM x.j.f p (ms.take k)) : Int)) (sgS Mv.t (perM x.j.f p (ms.take k))) (sgS Mv.x (perM x.j.f p (ms.take k))) (sgS Mv.v (perM x.j.f p (ms.take k))) wr ∧
    wr.ownsRow bse 85 6 (.slice A7 ms.length c7) ms.length (mvCells ms)
theorem RFl.skip {W wr : World} {g8 g12 g16 g17 g18 g19 bse : Nat} {x : JV} {id p : Int} {A7 : Option Addr} {c7 : Nat} {ms : List Mv} {k m : Nat} (hk : k < ms.length) (hn : ofI x.j.f ms[k].day ≠ p)
    (h : RF W g8 g12 g16 g17 g18 g19 x (flR id x.j.f p (salesN (perM x.j.f p (ms.take k)) : Int) (backsN (perM x.j.f p (ms.take k)) : Int)) (sgS Mv.t (perM x.j.f p (ms.take k))) (sgS Mv.x (perM x.j.f p (ms.take k))) (sgS Mv.v (perM x.j.f p (ms.take k))) wr)
    (ho : wr.ownsRow bse 85 6 (.slice A7 ms.length c7) ms.length (mvCells ms)) (e : m = k + 1) : RFl W g8 g12 g16 g17 g18 g19 bse x id p A7 c7 ms (.int .i64 (m : Int)) wr := by
  subst e
  refine ⟨k + 1, by omega, rfl, ?_, ho⟩
  rw [perM_take hk, if_neg hn, List.append_nil]
  exact h
theorem RFl.take {W wr : World} {g8 g12 g16 g17 g18 g19 bse : Nat} {x : JV} {id p : Int} {A7 : Option Addr} {c7 : Nat} {ms : List Mv} {k m : Nat} {a b : Int} (hk : k < ms.length) (hn : ofI x.j.f ms[k].day = p)
    (ha : a = (salesN (perM x.j.f p (ms.take k)) : Int) + (if ms[k].back then 0 else 1)) (hb : b = (backsN (perM x.j.f p (ms.take k)) : Int) + (if ms[k].back then 1 else 0))
    (h : RF W g8 g12 g16 g17 g18 g19 x (flR id x.j.f p a b) (offI ms[k].back (sgS Mv.t (perM x.j.f p (ms.take k))) ms[k].t) (offI ms[k].back (sgS Mv.x (perM x.j.f p (ms.take k))) ms[k].x) (offI ms[k].back (sgS Mv.v (perM x.j.f p (ms.take k))) ms[k].v) wr)
    (ho : wr.ownsRow bse 85 6 (.slice A7 ms.length c7) ms.length (mvCells ms)) (e : m = k + 1) : RFl W g8 g12 g16 g17 g18 g19 bse x id p A7 c7 ms (.int .i64 (m : Int)) wr := by
  subst e
  refine ⟨k + 1, by omega, rfl, ?_, ho⟩
  rw [perM_take hk, if_pos hn, salesN_snoc, backsN_snoc, sgS_snoc, sgS_snoc, sgS_snoc]
  generalize perM x.j.f p (ms.take k) = L at *
  have e1 : a = ((salesN L + (if ms[k].back then 0 else 1) : Nat) : Int) := by rw [ha]; split <;> omega
  have e2 : b = ((backsN L + (if ms[k].back then 1 else 0) : Nat) : Int) := by rw [hb]; split <;> omega
  rw [← e1, ← e2]
  exact h
/-- What a move's numbers are. -/
def mvPos (m : Mv) : Prop := (0 ≤ m.t ∧ m.t ≤ 4611686018427387904) ∧ (0 ≤ m.x ∧ m.x ≤ 4611686018427387904) ∧ (0 ≤ m.v ∧ m.v ≤ 4611686018427387904)
theorem ret_pos {x : Tx} (h : x.ok = true) (b a : Int) : (0 ≤ (x.ret b a).1.t ∧ (x.ret b a).1.t ≤ 4611686018427387904) ∧ (0 ≤ (x.ret b a).1.x ∧ (x.ret b a).1.x ≤ 4611686018427387904) ∧ (0 ≤ (x.ret b a).1.v ∧ (x.ret b a).1.v ≤ 4611686018427387904) := by
  unfold Tx.ret
  rw [if_neg (by simp [h])]
  by_cases he : (backI x.t (x.t + x.x) b a).2 = 0
  · rw [if_neg (by simpa using he)]
    obtain ⟨_, _, h3, h4, _, h6⟩ := Tx.ok_bd h
    obtain ⟨q1, q2, q3, q4, q5, q6, q7⟩ := backI_ok he
    have he' := backI_err (t' := x.v) h6 he
    obtain ⟨_, _, _, _, _, c4, c5⟩ := backI_ok he'
    have e1 := backI_sh (t := x.t) (W := x.t + x.x) q1 q2 q3 q4 q5
    have e2 := shI_step (t := x.t) (W := x.t + x.x) (a := b) (p := a) q1.1 (by omega) q3 q4
    rw [e1] at q6 q7 ⊢
    simp only at q6 q7 ⊢
    refine ⟨⟨q6, by omega⟩, ⟨by omega, by omega⟩, ⟨c4, by omega⟩⟩
  · rw [if_pos (by simpa using he)]; simp [Tx.zero]
theorem RP.moves_pos {R : List RE} {B : Bk} (hp : RP R B) {j : Int} : ∀ m ∈ B.moves j, mvPos m ∧ 0 ≤ m.day ∧ m.day ≤ 3652058 := by
  intro m hm
  unfold Bk.moves at hm
  obtain ⟨x, hx, hm⟩ := List.mem_flatMap.1 hm
  unfold Kp.moves at hm
  by_cases hv : x.voided = true
  · rw [if_pos hv] at hm; cases hm
  rw [if_neg hv] at hm
  obtain ⟨l, hl, rfl⟩ := List.mem_map.1 hm
  have hl := (List.mem_filter.1 hl).1
  have hok := hp.ok x hx
  have hd := (Ent.check_ok hok.chk).1
  unfold Ent.head at hd
  simp only [Bool.and_eq_true] at hd
  refine ⟨?_, win_bd hd.2⟩
  obtain ⟨k, hk, rfl⟩ := List.mem_iff_getElem.1 hx
  by_cases h2 : B[k].e.k = 2
  · obtain ⟨s, hs, e⟩ := hp.refund hk h2
    obtain ⟨ms, _, k1⟩ := sale_mem' hs
    rw [e] at hl
    obtain ⟨y, hy, hl⟩ := List.mem_flatMap.1 hl
    unfold retL at hl
    split at hl
    · cases hl
    · rw [List.mem_singleton.1 hl]
      have hsl := (sale_lines (hp.ok s ms) k1).1 y (by rw [(hp.ok s ms).lns k1]; exact hy)
      exact ret_pos hsl.1 _ _
  · have hlt := hp.ri.oth k B[k] (List.getElem?_eq_getElem hk) h2
    have hf := (Ent.check_ok hok.chk).2.2
    by_cases h1 : B[k].e.k = 1
    · have hsl := (sale_lines hok h1).1 l hl
      obtain ⟨_, _, h3, h4, _, h6⟩ := Tx.ok_bd hsl.1
      unfold mvPos
      simp only
      omega
    · exfalso
      unfold Ent.fine at hf
      rw [if_neg h1, if_neg h2] at hf
      split at hf
      · unfold Ent.voidFine at hf
        simp only [Bool.and_eq_true, decide_eq_true_eq] at hf
        rw [hlt, List.length_eq_zero_iff.1 (by omega : B[k].e.tax.length = 0)] at hl
        cases hl
      · cases hf
theorem sgS_pos {c : Mv → Int} : ∀ {l : List Mv}, (∀ m ∈ l, 0 ≤ c m ∧ c m ≤ 4611686018427387904) → (sgS c l).natAbs ≤ 4611686018427387904 * l.length
  | [], _ => by simp [sgS]
  | m :: l, h => by
    have h1 := h m (by simp)
    have h2 := sgS_pos (c := c) (l := l) fun x hx => h x (by simp [hx])
    rw [show sgS c (m :: l) = (if m.back then - c m else c m) + sgS c l from rfl]
    simp only [List.length_cons]
    split <;> omega
theorem mv_own2 {w : World} {base gm om c : Nat} {l : List Mv} (h : w.ownsRow base 85 6 (.slice (some ⟨gm, om, none⟩) l.length c) l.length (mvCells l)) {k : Nat} (hk : k < l.length) : gm < w.heap.size ∧
    w.cell? ⟨gm, om + k * 6, none⟩ = some (.int .i64 l[k].id) ∧ w.cell? ⟨gm, om + k * 6 + 1, none⟩ = some (.int .i64 l[k].day) ∧ w.cell? ⟨gm, om + k * 6 + 2, none⟩ = some (.bool l[k].back) ∧
    w.cell? ⟨gm, om + k * 6 + 3, none⟩ = some (.int .i64 l[k].t) ∧ w.cell? ⟨gm, om + k * 6 + 4, none⟩ = some (.int .i64 l[k].x) ∧ w.cell? ⟨gm, om + k * 6 + 5, none⟩ = some (.int .i64 l[k].v) := by
  obtain ⟨gm', om', e, r⟩ := mv_at (Reads.of_own h) hk
  injection e with e
  injection e with e1 e2 _
  subst e1 e2
  exact r
set_option maxRecDepth 100000 in
set_option maxHeartbeats 4000000 in
theorem rfile30_any {w0 W : World} {rb : Nat} {vb : Value} {RB : List RE} {B : Bk} (h : RBook w0 W rb vb RB) (hp : RP RB B) (hs : B.small) (hml : B.length ≤ 1000)
    (l : List JV) (A : Option Addr) (cap : Nat) (hr : Reads W W.heap.size 5 A l.length (jvCells l)) (hm : l.length ≤ maxLen) (id p : Int) :
    Calls Tryz.prog 30 #[.pointer (some ⟨rb, 0, none⟩), .slice A l.length cap, .int .i64 id, .int .i64 p] W fun e w' => e = .returned (.tuple #[(B.file (jsOf l) id p).1.V, .int .i64 (B.file (jsOf l) id p).2]) ∧ Ext W w' := by
  have HR := Lib.hid (fun W' (hx : Ext W W') => hr.ext hx)
  have HM := Lib.hid hm
  have HF := Lib.hid (show B.file (jsOf l) id p = B.file (jsOf l) id p from rfl)
  have X0 := (Ext.refl W).alloc (.cells #[.int .i64 0, .int .i64 0, .int .i64 0, .int .i64 0, .int .i64 0, .int .i64 0, .int .i64 0, .int .i64 0] 23)
  have B0 := Blk.new W 23 #[.int .i64 0, .int .i64 0, .int .i64 0, .int .i64 0, .int .i64 0, .int .i64 0, .int .i64 0, .int .i64 0]
  obtain ⟨F, hF⟩ : ∃ F, B.file (jsOf l) id p = F := ⟨_, rfl⟩
  rw [hF]
  have hF0 := hF
  unfold Bk.file at hF0
  obtain ⟨C, hC⟩ : ∃ C, (checkJ (jsOf l)).1 = C := ⟨_, rfl⟩
  rw [hC] at hF0
  replace hC := Lib.hid hC
  clear hr hm HF hF
  go_enter Tryz.func30, Tryz.ntmps30
  go_wp2_with fail
  have X1 := X0
  have B1 := B0
  clear X0 B0
  refine (rcheck20_any l A cap _ (HR.out _ X1) HM.out).mono ?_
  rintro e w2 ⟨rfl, hx2⟩
  rw [hC.out]
  have X2 := X1.trans hx2
  have B2 := B1.ext hx2
  clear X1 B1 hx2
  obtain ⟨q, q'⟩ := B2.cells
  have lt8 := B2.lt
  by_cases hc : C = 0
  case neg =>
    rw [if_pos hc] at hF0
    have hb : (C != 0) = true := by simpa using hc
    subst hF0
    clear hc
    go_wp2_with fail
    exact bodyPost_ret (results_ct rfl rfl (ld_rep (put8 B2))) rfl ⟨rfl, ext8 X2 (Nat.le_refl _) _ _ _ _ _ _ _ _⟩
  have hc0 := hC.out.trans hc
  rw [if_neg (by simp [hc]), findV_j] at hF0
  have hb : (C != 0) = false := by simp [hc]
  have HOK := Lib.hid (checkJ_ok hc0)
  replace hc := Lib.hid hc
  replace hF0 := Lib.hid hF0
  clear hc0 q q'
  go_wp2_with fail
  refine (rfind20_any l id A cap _ (HR.out _ X2) HM.out).mono ?_
  rintro e w3 ⟨rfl, hx3⟩
  have X3 := X2.trans hx3
  have B3 := B2.ext hx3
  have HJ := Lib.hid (fun x (hx : findV l id = some x) => (show (1 ≤ x.j.f ∧ x.j.f ≤ 4) from by
    have hmem : x ∈ l := List.mem_of_find?_eq_some hx
    obtain ⟨i, hi, e⟩ := List.mem_iff_getElem.1 hmem
    have := (HOK.out.2.1 i (by rw [jsOf_len]; exact hi)).2
    rw [jsOf_at l i hi, e] at this
    exact this))
  obtain ⟨fv, hfv⟩ : ∃ fv, findV l id = fv := ⟨_, rfl⟩
  rw [hfv] at hF0 HJ ⊢
  replace hfv := Lib.hid hfv
  clear X2 B2 hx3 hb
  cases fv with
  | none =>
    have B4 := B3.alloc (.cells #[.int .i64 0, .int .i64 0, .int .i64 0, .int .i64 0, .slice none 0 0] 83)
    have X4 := X3.alloc (.cells #[.int .i64 0, .int .i64 0, .int .i64 0, .int .i64 0, .slice none 0 0] 83)
    obtain ⟨q, q'⟩ := B4.cells
    have lt8 := B4.lt
    have hF1 : F = (Rep.zero, 6) := hF0.out.symm
    subst hF1
    unfold foundV
    simp only [Option.getD_none, Option.isSome_none, JV.zero, Jur.zero]
    clear B3 X3 HJ
    go_wp2_with fail
    exact bodyPost_ret (results_ct rfl rfl (ld_rep (put8 B4))) rfl ⟨rfl, ext8 X4 (Nat.le_refl _) _ _ _ _ _ _ _ _⟩
  | some x =>
    have hxf := HJ.out x rfl
    have B12 := Blk.new w3 83 #[.int .i64 x.j.id, .int .i64 x.j.k, .int .i64 x.j.par, .int .i64 x.j.f, .slice x.A x.n x.c]
    have X4 := X3.alloc (.cells #[.int .i64 x.j.id, .int .i64 x.j.k, .int .i64 x.j.par, .int .i64 x.j.f, .slice x.A x.n x.c] 83)
    have B4 := B3.alloc (.cells #[.int .i64 x.j.id, .int .i64 x.j.k, .int .i64 x.j.par, .int .i64 x.j.f, .slice x.A x.n x.c] 83)
    have HP := Lib.hid (rfirst_any x.j.f p)
    obtain ⟨E, hE⟩ : ∃ E, perE x.j.f p = E := ⟨_, rfl⟩
    have hF1 := hF0.out
    simp only [Option.map] at hF1
    rw [hE] at hF1 HP
    replace hE := Lib.hid hE
    clear hF0 X3 B3 HJ
    unfold foundV
    simp only [Option.getD_some, Option.isSome_some]
    go_wp2_with fail
    refine (HP.out _).mono ?_
    rintro e w5 ⟨n5, rfl, rfl⟩
    have X5 := X4
    have B5 := B4
    have B125 := B12
    clear X4 B4 B12
    obtain ⟨q, q'⟩ := B5.cells
    obtain ⟨r, r'⟩ := B125.cells
    have lt8 := B5.lt
    by_cases hc5 : E = 0
    case neg =>
      rw [if_pos hc5] at hF1
      have hb5 : (E != 0) = true := by simpa using hc5
      subst hF1
      clear hc5
      go_wp2_with fail
      exact bodyPost_ret (results_ct rfl rfl (ld_rep (put8 B5))) rfl ⟨rfl, ext8 X5 (Nat.le_refl _) _ _ _ _ _ _ _ _⟩
    rw [if_neg (by simp [hc5])] at hF1
    have hb5 : (E != 0) = false := by simp [hc5]
    replace hc5 := Lib.hid hc5
    replace hF1 := Lib.hid hF1
    go_upto_region 11 with (fail)
    generalize hwb : World.alloc (World.alloc w3 _) _ = wb
    have sb : wb.heap.size = w3.heap.size + 1 + 1 := by rw [← hwb]; simp
    have B16 : Blk wb (w3.heap.size + 1) 23 (flR id x.j.f p 0 0) := by
      rw [← hwb]
      have := Blk.new (w3.alloc (.cells #[.int .i64 x.j.id, .int .i64 x.j.k, .int .i64 x.j.par, .int .i64 x.j.f, .slice x.A x.n x.c] 83)) 23 (flR id x.j.f p 0 0)
      simpa using this
    have B8 : Blk wb W.heap.size 23 zRep := by rw [← hwb]; exact B5.alloc _
    have B12 : Blk wb w3.heap.size 83 #[.int .i64 x.j.id, .int .i64 x.j.k, .int .i64 x.j.par, .int .i64 x.j.f, .slice x.A x.n x.c] := by rw [← hwb]; exact B125.alloc _
    have X6 : Ext W wb := by rw [← hwb]; exact X5.alloc _
    have h8 : W.heap.size ≤ w3.heap.size := Nat.le_of_lt (by
      have h1 := X5.size
      have h2 := B5.lt
      have h3 := B125.lt
      have h4 : (w3.alloc (.cells #[.int .i64 x.j.id, .int .i64 x.j.k, .int .i64 x.j.par, .int .i64 x.j.f, .slice x.A x.n x.c] 83)).heap.size = w3.heap.size + 1 := by simp
      rcases Nat.lt_or_ge W.heap.size w3.heap.size with h | h
      · exact h
      · exact absurd (Blk.ne_ B5 B125 (by decide)) (by omega))
    clear q q' r r' hwb X5 B5 B125 hb5 lt8
    generalize w3.heap.size = g12 at *
    obtain ⟨g16, hg16⟩ : ∃ g16, g12 + 1 = g16 := ⟨_, rfl⟩
    rw [hg16] at B16 sb ⊢
    replace sb := Lib.hid sb
    go_wp2_with fail
    generalize hwe : World.alloc (World.alloc (World.alloc wb _) _) _ = we
    have S0 : RF W W.heap.size g12 g16 wb.heap.size (wb.heap.size + 1) (wb.heap.size + 1 + 1) x (flR id x.j.f p 0 0) 0 0 0 we := by
      rw [← hwe]
      have sb := sb.out
      have Y := (((Ext.refl wb).alloc (.cells (numIC 0) 145)).alloc (.cells (numIC 0) 145)).alloc (.cells (numIC 0) 145)
      have b1 := Blk.new wb 145 (numIC 0)
      have b2 := Blk.new (wb.alloc (.cells (numIC 0) 145)) 145 (numIC 0)
      have b3 := Blk.new ((wb.alloc (.cells (numIC 0) 145)).alloc (.cells (numIC 0) 145)) 145 (numIC 0)
      have s1 : (wb.alloc (.cells (numIC 0) 145)).heap.size = wb.heap.size + 1 := by simp
      have s2 : ((wb.alloc (.cells (numIC 0) 145)).alloc (.cells (numIC 0) 145)).heap.size = wb.heap.size + 1 + 1 := by simp
      rw [s1] at b2
      rw [s2] at b3
      exact ⟨B8.ext Y, B12.ext Y, B16.ext Y, (b1.alloc _).alloc _, b2.alloc _, b3, by omega, by omega, by omega, by omega, X6.trans Y, Nat.le_refl _, by omega, by omega, by omega, by omega⟩
    clear hwe B8 B12 B16 X6
    generalize wb.heap.size + 1 + 1 = g19 at *
    generalize wb.heap.size + 1 = g18 at *
    generalize wb.heap.size = g17 at *
    clear sb hg16 h8
    obtain ⟨g8, hg8⟩ : ∃ g8, W.heap.size = g8 := ⟨_, rfl⟩
    rw [hg8] at S0 ⊢
    replace hg8 := Lib.hid hg8
    have hmpos := Lib.hid (hp.moves_pos (j := id))
    have hml2 : (B.moves id).length ≤ 6400000 := by have := moves_le hs id; omega
    have HMV := Lib.hid (rmoves29_any (h.to S0.ext) hp hs (by omega) id)
    generalize B.moves id = ms at *
    clear h hp hs hml HR HM HOK
    refine HMV.out.mono ?_
    rintro e w8 ⟨A7, c7, rfl, ho8, hx8⟩
    have S8 := S0.to hx8
    have H0 := Lib.hid (show RFl W g8 g12 g16 g17 g18 g19 we.heap.size x id p A7 c7 ms (.int .i64 ((0 : Nat) : Int)) w8 from ⟨0, by omega, rfl, S8, ho8⟩)
    clear S0 S8 ho8 hx8 HMV
    go_wp2_with fail
    go_loopw [21] (fun v wr => RFl W g8 g12 g16 g17 g18 g19 we.heap.size x id p A7 c7 ms v wr) (fun v _ => ms.length - (intOf v).toNat)
    case atStart => exact H0.out
    case round =>
      clear H0
      obtain ⟨k, hk, rfl, hS, ho⟩ := hrel
      by_cases hlt : k < ms.length
      · have hd : decide ((k : Int) < (ms.length : Int)) = true := by simp; omega
        have kl : (k : Int) < (ms.length : Int) := by omega
        have kz : (0 : Int) ≤ (k : Int) := by omega
        obtain ⟨gm, om, rfl, r0⟩ := mv_at (Reads.of_own ho) hlt
        clear r0
        obtain ⟨⟨hmt, hmx, hmv⟩, hday⟩ := hmpos.out _ (List.getElem_mem hlt)
        have hPl := perM_le x.j.f p (ms.take k)
        have hTl : (ms.take k).length ≤ k := List.length_take_le _ _
        have hbig : (4611686018427387904 : Nat) * 6400000 < 65536 ^ 11 := by decide
        have hin : ∀ m ∈ perM x.j.f p (ms.take k), mvPos m := fun m hm => (hmpos.out m (List.mem_of_mem_take (List.mem_filter.1 hm).1)).1
        have hTb' := sgS_pos (c := Mv.t) fun m hm => (hin m hm).1
        have hXb' := sgS_pos (c := Mv.x) fun m hm => (hin m hm).2.1
        have hVb' := sgS_pos (c := Mv.v) fun m hm => (hin m hm).2.2
        have hTb : (sgS Mv.t (perM x.j.f p (ms.take k))).natAbs < 65536 ^ 11 := by omega
        have hXb : (sgS Mv.x (perM x.j.f p (ms.take k))).natAbs < 65536 ^ 11 := by omega
        have hVb : (sgS Mv.v (perM x.j.f p (ms.take k))).natAbs < 65536 ^ 11 := by omega
        have hsn := salesN_le (perM x.j.f p (ms.take k))
        have hbn := backsN_le (perM x.j.f p (ms.take k))
        have HSk := Lib.hid (fun (W2 : World) (hn : ofI x.j.f ms[k].day ≠ p) h ho => RFl.skip (W := W) (wr := W2) (g8 := g8) (g12 := g12) (g16 := g16) (g17 := g17) (g18 := g18) (g19 := g19) (bse := we.heap.size) (x := x) (id := id) (p := p) (A7 := some ⟨gm, om, none⟩) (c7 := c7) (ms := ms) (m := k + 1) hlt hn h ho rfl)
        have HTk := Lib.hid (fun (W2 : World) (hn : ofI x.j.f ms[k].day = p) (a b : Int) ha hb h ho => RFl.take (W := W) (wr := W2) (g8 := g8) (g12 := g12) (g16 := g16) (g17 := g17) (g18 := g18) (g19 := g19) (bse := we.heap.size) (x := x) (id := id) (p := p) (A7 := some ⟨gm, om, none⟩) (c7 := c7) (ms := ms) (m := k + 1) (a := a) (b := b) hlt hn ha hb h ho rfl)
        generalize sgS Mv.t (perM x.j.f p (ms.take k)) = ST at *
        generalize sgS Mv.x (perM x.j.f p (ms.take k)) = SX at *
        generalize sgS Mv.v (perM x.j.f p (ms.take k)) = SV at *
        generalize hsaq : (salesN (perM x.j.f p (ms.take k)) : Int) = sa at *
        generalize hsbq : (backsN (perM x.j.f p (ms.take k)) : Int) = sb at *
        obtain ⟨m, hmk⟩ : ∃ m, ms[k] = m := ⟨_, rfl⟩
        rw [hmk] at hmt hmx hmv hday HSk HTk
        have hsa : 0 ≤ sa ∧ sa ≤ 6400000 := by omega
        have hsb : 0 ≤ sb ∧ sb ≤ 6400000 := by omega
        replace hmk := Lib.hid hmk
        replace hsaq := Lib.hid hsaq
        replace hsbq := Lib.hid hsbq
        clear hin hPl hTl hbig hsn hbn hTb' hXb' hVb'
        replace hTb := Lib.hid hTb
        replace hXb := Lib.hid hXb
        replace hVb := Lib.hid hVb
        replace hmt := Lib.hid hmt
        replace hmx := Lib.hid hmx
        replace hmv := Lib.hid hmv
        replace hday := Lib.hid hday
        replace hxf := Lib.hid hxf
        have HS := Lib.hid hS
        have HO := Lib.hid ho
        have HL := Lib.hid (fun w' (hx : Ext wr w') => (show w'.cell? ⟨g12, 3, none⟩ = some (.int .i64 x.j.f) ∧ w'.cell? ⟨gm, om + k * 6 + 1, none⟩ = some (.int .i64 m.day) from ⟨(HS.out.b12.ext hx).cell 3, by have := (mv_own2 (own_ext HO.out hx) hlt).2.2.1; rw [hmk.out] at this; exact this⟩))
        clear hS ho
        obtain ⟨k0, k1⟩ := HL.out wr (Ext.refl _)
        go_upto_region 16 with (fail)
        go_region_held3 (fun w' => w'.cell? ⟨g12, 3, none⟩ = some (.int .i64 x.j.f) ∧ w'.cell? ⟨gm, om + k * 6 + 1, none⟩ = some (.int .i64 m.day))
          (first | (with_reducible exact HL.out _ (Ext.refl wr).drew) | (with_reducible exact HL.out _ X2))
          (first | (go_at_call 76; refine (rof_any x.j.f m.day hxf.out hday.out _).mono ?_; rintro e w9 ⟨rfl, hx9⟩; have X2 : Ext wr w9 := Ext.trans (by first | with_reducible exact (Ext.refl wr).drew | with_reducible exact Ext.refl wr) hx9))
        have Sw9 := HS.out.to X2
        have Ow9 := own_ext HO.out X2
        clear HL HS HO k0 k1 hx9 X2
        by_cases hop : ofI x.j.f m.day = p
        case neg =>
          have hb : (ofI x.j.f m.day != p) = true := by simpa using hop
          have HN := Lib.hid (HSk.out _ hop Sw9 Ow9)
          clear HSk HTk hop Sw9 Ow9
          generalize ofI x.j.f m.day = of_ at *
          go_wp2_with fail
          go_roundw
          case rel => exact HN.out
          case measure => simp [intOf]; omega
        have hb : (ofI x.j.f m.day != p) = false := by simpa using hop
        have HTk2 := Lib.hid (fun (W2 : World) => HTk.out W2 hop)
        clear HSk HTk hop
        generalize ofI x.j.f m.day = of_ at *

        obtain ⟨hgm, _, _, c2, c3, c4, c5⟩ := mv_own2 Ow9 hlt
        rw [hmk.out] at c2 c3 c4 c5
        have HSw9 := Lib.hid Sw9
        have HOw9 := Lib.hid Ow9
        have HA1 := Lib.hid (fun W2 (hx : Ext w9 W2) => radd30_any g17 _ m.t m.back W2 (HSw9.out.b17.ext hx) hTb hmt rfl)
        clear Sw9 Ow9
        go_upto_region 18 with (fail)
        go_cut [22] (fun _ wx => RF W g8 g12 g16 g17 g18 g19 x (flR id x.j.f p sa sb) (offI m.back ST m.t) SX SV wx ∧ wx.ownsRow we.heap.size 85 6 (.slice (some ⟨gm, om, none⟩) ms.length c7) ms.length (mvCells ms))
        case first =>
          go_region_law (first | (go_simp; go_at_call 77; refine (HA1.out _ (Ext.refl w9).drew).mono ?_; rintro e w20 ⟨rfl, hb20, hc20⟩))
          all_goals
            have HE := Lib.hid (And.intro ((HSw9.out.to (Ext.refl w9).drew).add1 hb20 hc20) (own_chg (own_ext HOw9.out (Ext.refl w9).drew) (HSw9.out.b17.ext (Ext.refl w9).drew) hc20))
            clear hb20 hc20
            go_wp2_with fail
            go_meet
            exact HE.out
        obtain ⟨Sw10, Ow10⟩ := hcut
        clear HSw9 HOw9 HA1 c2 c3 c4 c5 hgm
        generalize wc = w10 at *

        obtain ⟨hgm, _, _, c2, c3, c4, c5⟩ := mv_own2 Ow10 hlt
        rw [hmk.out] at c2 c3 c4 c5
        have HSw10 := Lib.hid Sw10
        have HOw10 := Lib.hid Ow10
        have HA2 := Lib.hid (fun W2 (hx : Ext w10 W2) => radd30_any g18 _ m.x m.back W2 (HSw10.out.b18.ext hx) hXb hmx rfl)
        clear Sw10 Ow10
        go_upto_region 19 with (fail)
        go_cut [22] (fun _ wx => RF W g8 g12 g16 g17 g18 g19 x (flR id x.j.f p sa sb) (offI m.back ST m.t) (offI m.back SX m.x) SV wx ∧ wx.ownsRow we.heap.size 85 6 (.slice (some ⟨gm, om, none⟩) ms.length c7) ms.length (mvCells ms))
        case first =>
          go_region_law (first | (go_simp; go_at_call 77; refine (HA2.out _ (Ext.refl w10).drew).mono ?_; rintro e w20 ⟨rfl, hb20, hc20⟩))
          all_goals
            have HE := Lib.hid (And.intro ((HSw10.out.to (Ext.refl w10).drew).add2 hb20 hc20) (own_chg (own_ext HOw10.out (Ext.refl w10).drew) (HSw10.out.b18.ext (Ext.refl w10).drew) hc20))
            clear hb20 hc20
            go_wp2_with fail
            go_meet
            exact HE.out
        obtain ⟨Sw11, Ow11⟩ := hcut
        clear HSw10 HOw10 HA2 c2 c3 c4 c5 hgm
        generalize wc = w11 at *

        obtain ⟨hgm, _, _, c2, c3, c4, c5⟩ := mv_own2 Ow11 hlt
        rw [hmk.out] at c2 c3 c4 c5
        have HSw11 := Lib.hid Sw11
        have HOw11 := Lib.hid Ow11
        have HA3 := Lib.hid (fun W2 (hx : Ext w11 W2) => radd30_any g19 _ m.v m.back W2 (HSw11.out.b19.ext hx) hVb hmv rfl)
        clear Sw11 Ow11
        go_upto_region 20 with (fail)
        go_cut [22] (fun _ wx => RF W g8 g12 g16 g17 g18 g19 x (flR id x.j.f p sa sb) (offI m.back ST m.t) (offI m.back SX m.x) (offI m.back SV m.v) wx ∧ wx.ownsRow we.heap.size 85 6 (.slice (some ⟨gm, om, none⟩) ms.length c7) ms.length (mvCells ms))
        case first =>
          go_region_law (first | (go_simp; go_at_call 77; refine (HA3.out _ (Ext.refl w11).drew).mono ?_; rintro e w20 ⟨rfl, hb20, hc20⟩))
          all_goals
            have HE := Lib.hid (And.intro ((HSw11.out.to (Ext.refl w11).drew).add3 hb20 hc20) (own_chg (own_ext HOw11.out (Ext.refl w11).drew) (HSw11.out.b19.ext (Ext.refl w11).drew) hc20))
            clear hb20 hc20
            go_wp2_with fail
            go_meet
            exact HE.out
        obtain ⟨Sw12, Ow12⟩ := hcut
        clear HSw11 HOw11 HA3 c2 c3 c4 c5 hgm
        generalize wc = w12 at *

        obtain ⟨hgm, _, _, c2, _, _, _⟩ := mv_own2 Ow12 hlt
        rw [hmk.out] at c2
        obtain ⟨q, q'⟩ := Sw12.b16.cells
        have l16 := Sw12.b16.lt
        cases hbk : m.back
        · have HN := Lib.hid (HTk2.out _ (sa + 1) sb (by rw [hbk]; simp) (by rw [hbk]; simp) (by have := Sw12.put 6 (.int .i64 (sa + 1)); simpa [flR] using this) (own_set Ow12 (a := ⟨g16, 6, none⟩) (own_blk_ne Ow12 Sw12.b16 (by decide)) (.int .i64 (sa + 1))))
          rw [hbk] at c2
          clear HTk2 Sw12 Ow12
          go_wp2_with fail
          go_roundw
          case rel => exact HN.out
          case measure => simp [intOf]; omega
        · have HN := Lib.hid (HTk2.out _ sa (sb + 1) (by rw [hbk]; simp) (by rw [hbk]; simp) (by have := Sw12.put 7 (.int .i64 (sb + 1)); simpa [flR] using this) (own_set Ow12 (a := ⟨g16, 7, none⟩) (own_blk_ne Ow12 Sw12.b16 (by decide)) (.int .i64 (sb + 1))))
          rw [hbk] at c2
          clear HTk2 Sw12 Ow12
          go_wp2_with fail
          go_roundw
          case rel => exact HN.out
          case measure => simp [intOf]; omega
      · obtain rfl : k = ms.length := by omega
        have hd : decide ((ms.length : Int) < (ms.length : Int)) = false := by simp
        rw [List.take_length] at hS
        have hF2 := hF1.out
        have hPl := perM_le x.j.f p ms
        have hbig : (4611686018427387904 : Nat) * 6400000 < 65536 ^ 11 := by decide
        have hin : ∀ m ∈ perM x.j.f p ms, mvPos m := fun m hm => (hmpos.out m (List.mem_filter.1 hm).1).1
        have hTb' := sgS_pos (c := Mv.t) fun m hm => (hin m hm).1
        have hXb' := sgS_pos (c := Mv.x) fun m hm => (hin m hm).2.1
        have hVb' := sgS_pos (c := Mv.v) fun m hm => (hin m hm).2.2
        have hTb : (sgS Mv.t (perM x.j.f p ms)).natAbs < 65536 ^ 11 := by omega
        have hXb : (sgS Mv.x (perM x.j.f p ms)).natAbs < 65536 ^ 11 := by omega
        have hVb : (sgS Mv.v (perM x.j.f p ms)).natAbs < 65536 ^ 11 := by omega
        unfold repOf at hF2
        clear hin hPl hbig hTb' hXb' hVb' ho hmpos hF1
        generalize sgS Mv.t (perM x.j.f p ms) = T at *
        generalize sgS Mv.x (perM x.j.f p ms) = X at *
        generalize sgS Mv.v (perM x.j.f p ms) = V at *
        generalize (salesN (perM x.j.f p ms) : Int) = sa at *
        generalize (backsN (perM x.j.f p ms) : Int) = sb at *
        obtain ⟨vT, hvT⟩ : ∃ v, (if i64 T then T else 0) = v := ⟨_, rfl⟩
        obtain ⟨vX, hvX⟩ : ∃ v, (if i64 X then X else 0) = v := ⟨_, rfl⟩
        obtain ⟨vV, hvV⟩ : ∃ v, (if i64 V then V else 0) = v := ⟨_, rfl⟩
        obtain ⟨bT, hbT⟩ : ∃ b, decide (i64 T) = b := ⟨_, rfl⟩
        obtain ⟨bX, hbX⟩ : ∃ b, decide (i64 X) = b := ⟨_, rfl⟩
        obtain ⟨bV, hbV⟩ : ∃ b, decide (i64 V) = b := ⟨_, rfl⟩
        have HI1 := Lib.hid (fun W2 => intI_any T hTb W2 hvT hbT)
        have HI2 := Lib.hid (fun W2 => intI_any X hXb W2 hvX hbX)
        have HI3 := Lib.hid (fun W2 => intI_any V hVb W2 hvV hbV)
        have HFy := Lib.hid (show (bT && bX && bV) = true → F = (⟨id, x.j.f, p, vT, vX, vV, sa, sb⟩, 0) from fun h => by
          rw [← hbT, ← hbX, ← hbV] at h
          simp only [Bool.and_eq_true, decide_eq_true_eq] at h
          rw [← hF2, if_pos ⟨h.1.1, h.1.2, h.2⟩, ← hvT, ← hvX, ← hvV, if_pos h.1.1, if_pos h.1.2, if_pos h.2])
        have HFn := Lib.hid (show (bT && bX && bV) = false → F = (Rep.zero, 5) from fun h => by
          rw [← hbT, ← hbX, ← hbV] at h
          rw [← hF2, if_neg]
          rintro ⟨h1, h2, h3⟩
          rw [decide_eq_true h1, decide_eq_true h2, decide_eq_true h3] at h
          cases h)
        clear hF2 hTb hXb hVb hvT hvX hvV hbT hbX hbV
        have HSS := Lib.hid (fun W2 (hx : Ext wr W2) => hS.to hx)
        have HB17 := Lib.hid (fun W2 (hx : Ext wr W2) => (hS.b17.ext hx).cells)
        have HB18 := Lib.hid (fun W2 (hx : Ext wr W2) => (hS.b18.ext hx).cells)
        have HB19 := Lib.hid (fun W2 (hx : Ext wr W2) => (hS.b19.ext hx).cells)
        have l17 := hS.b17.lt
        have l18 := hS.b18.lt
        have l19 := hS.b19.lt
        clear hS
        unfold numIC numC at HB17 HB18 HB19
        unfold numI at HI1 HI2 HI3
        generalize decide (T < 0) = sT at *
        generalize digI T.natAbs = fT at *
        generalize decide (X < 0) = sX at *
        generalize digI X.natAbs = fX at *
        generalize decide (V < 0) = sV at *
        generalize digI V.natAbs = fV at *
        obtain ⟨q, q'⟩ := HB17.out wr (Ext.refl _)
        go_wp2_with fail
        refine (HI1.out _).mono ?_
        rintro e wa ⟨rfl, ha⟩
        clear q q'
        obtain ⟨q, q'⟩ := HB18.out wa ha
        have l18' : g18 < wa.heap.size := Nat.lt_of_lt_of_le l18 ha.size
        go_wp2_with fail
        refine (HI2.out _).mono ?_
        rintro e wb2 ⟨rfl, hb2⟩
        clear q q'
        obtain ⟨q, q'⟩ := HB19.out wb2 (ha.trans hb2)
        have l19' : g19 < wb2.heap.size := Nat.lt_of_lt_of_le l19 (ha.trans hb2).size
        go_wp2_with fail
        refine (HI3.out _).mono ?_
        rintro e wz ⟨rfl, hz2⟩
        clear q q'
        have hSz := HSS.out wz ((ha.trans hb2).trans hz2)
        clear HB17 HB18 HB19 HI1 HI2 HI3 HSS ha hb2 hz2
        obtain ⟨q, q'⟩ := hSz.b8.cells
        have l8 := hSz.b8.lt
        obtain ⟨r, r'⟩ := hSz.b16.cells
        have l16 := hSz.b16.lt
        have hne := hSz.ne
        cases hall : (bT && bX && bV)
        · have hFz := HFn.out hall
          subst hFz
          rcases (show bT = false ∨ (bT = true ∧ bX = false) ∨ (bT = true ∧ bX = true ∧ bV = false) by cases bT <;> cases bX <;> cases bV <;> simp_all) with rfl | ⟨rfl, rfl⟩ | ⟨rfl, rfl, rfl⟩
          all_goals
            clear hall HFy HFn
            have hB8 := Lib.hid hSz.b8
            have hEx := Lib.hid hSz.ext
            have hg8' := Lib.hid hSz.l8
            clear hSz
            go_wp2_with fail
            exact bodyPost_ret (results_ct rfl rfl (ld_rep (put8 hB8.out))) rfl ⟨rfl, ext8 hEx.out hg8'.out _ _ _ _ _ _ _ _⟩
        · have hFz := HFy.out hall
          subst hFz
          obtain ⟨rfl, rfl, rfl⟩ : bT = true ∧ bX = true ∧ bV = true := by cases bT <;> cases bX <;> cases bV <;> simp_all
          have S5 := ((hSz.put 3 (.int .i64 vT)).put 4 (.int .i64 vX)).put 5 (.int .i64 vV)
          clear hall HFy HFn hSz
          go_wp2_with fail
          have hB8 := S5.b8
          exact bodyPost_ret (results_ct rfl rfl (ld_rep (put8 hB8))) rfl ⟨rfl, ext8 S5.ext S5.l8 _ _ _ _ _ _ _ _⟩
end Go.Proofs.YtokakpbpenndlaaGreatDoor
