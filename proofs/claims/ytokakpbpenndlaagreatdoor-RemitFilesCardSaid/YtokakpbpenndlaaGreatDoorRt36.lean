/-
  remit: File.
-/
import Derived.Test.YtokakpbpenndlaaGreatDoorRt23
import Derived.Deep.DeepCutAuto
import Derived.StillTailTactics
import Derived.Outline
set_option linter.unusedVariables false
namespace Go.Proofs.YtokakpbpenndlaaGreatDoor
open Go.RowKit Go.Maps

theorem sgS_snoc (c : Mv → Int) (L : List Mv) (m : Mv) : sgS c (L ++ [m]) = offI m.back (sgS c L) (c m) := by
  rw [sgS_app]
  unfold offI
  cases hb : m.back <;> simp [sgS, hb] <;> omega
theorem salesN_snoc (L : List Mv) (m : Mv) : salesN (L ++ [m]) = salesN L + (if m.back then 0 else 1) := by
  rw [salesN_app]
  cases hb : m.back <;> simp [salesN, hb]
theorem backsN_snoc (L : List Mv) (m : Mv) : backsN (L ++ [m]) = backsN L + (if m.back then 1 else 0) := by
  rw [backsN_app]
  cases hb : m.back <;> simp [backsN, hb]
abbrev flR (id f p : Int) (a b : Int) : Array Value := #[.int .i64 id, .int .i64 f, .int .i64 p, .int .i64 0, .int .i64 0, .int .i64 0, .int .i64 a, .int .i64 b]
/-- Where File's loop over the moves stands. -/
def FlRel (W : World) (g8 g12 g16 g17 bse : Nat) (x : JV) (id p : Int) (A7 : Option Addr) (c7 : Nat) (ms : List Mv) (i : Value) (wr : World) : Prop :=
  ∃ k : Nat, k ≤ ms.length ∧ i = .int .i64 (k : Int) ∧
    FlAt W g8 g12 g16 g17 x (flR id x.j.f p (salesN (perM x.j.f p (ms.take k)) : Int) (backsN (perM x.j.f p (ms.take k)) : Int)) (sgS Mv.t (perM x.j.f p (ms.take k))) (sgS Mv.x (perM x.j.f p (ms.take k))) (sgS Mv.v (perM x.j.f p (ms.take k))) wr ∧
    wr.ownsRow bse 85 6 (.slice A7 ms.length c7) ms.length (mvCells ms)
theorem FlRel.skip {W wr : World} {g8 g12 g16 g17 bse : Nat} {x : JV} {id p : Int} {A7 : Option Addr} {c7 : Nat} {ms : List Mv} {k m : Nat} (hk : k < ms.length) (hn : ofI x.j.f ms[k].day ≠ p)
    (h : FlAt W g8 g12 g16 g17 x (flR id x.j.f p (salesN (perM x.j.f p (ms.take k)) : Int) (backsN (perM x.j.f p (ms.take k)) : Int)) (sgS Mv.t (perM x.j.f p (ms.take k))) (sgS Mv.x (perM x.j.f p (ms.take k))) (sgS Mv.v (perM x.j.f p (ms.take k))) wr)
    (ho : wr.ownsRow bse 85 6 (.slice A7 ms.length c7) ms.length (mvCells ms)) (e : m = k + 1) : FlRel W g8 g12 g16 g17 bse x id p A7 c7 ms (.int .i64 (m : Int)) wr := by
  subst e
  refine ⟨k + 1, by omega, rfl, ?_, ho⟩
  rw [perM_take hk, if_neg hn, List.append_nil]
  exact h
theorem FlRel.take {W wr : World} {g8 g12 g16 g17 bse : Nat} {x : JV} {id p : Int} {A7 : Option Addr} {c7 : Nat} {ms : List Mv} {k m : Nat} {L : List Mv} {a b : Int} (hk : k < ms.length) (hn : ofI x.j.f ms[k].day = p) (hL : L = perM x.j.f p (ms.take k))
    (ha : a = (salesN L : Int) + (if ms[k].back then 0 else 1)) (hb : b = (backsN L : Int) + (if ms[k].back then 1 else 0))
    (h : FlAt W g8 g12 g16 g17 x (flR id x.j.f p a b) (offI ms[k].back (sgS Mv.t L) ms[k].t) (offI ms[k].back (sgS Mv.x L) ms[k].x) (offI ms[k].back (sgS Mv.v L) ms[k].v) wr)
    (ho : wr.ownsRow bse 85 6 (.slice A7 ms.length c7) ms.length (mvCells ms)) (e : m = k + 1) : FlRel W g8 g12 g16 g17 bse x id p A7 c7 ms (.int .i64 (m : Int)) wr := by
  subst e hL
  refine ⟨k + 1, by omega, rfl, ?_, ho⟩
  rw [perM_take hk, if_pos hn, salesN_snoc, backsN_snoc, sgS_snoc, sgS_snoc, sgS_snoc]
  have e1 : a = ((salesN (perM x.j.f p (ms.take k)) + (if ms[k].back then 0 else 1) : Nat) : Int) := by rw [ha]; split <;> omega
  have e2 : b = ((backsN (perM x.j.f p (ms.take k)) + (if ms[k].back then 1 else 0) : Nat) : Int) := by rw [hb]; split <;> omega
  rw [← e1, ← e2]
  exact h
/-- Of three sums the first ones have had a number added. -/
def addF (i j : Nat) (off : Bool) (S n : Int) : Int := if j < i then offI off S n else S
def InRel (W : World) (g8 g12 g16 g17 g19 bse : Nat) (x : JV) (R : Array Value) (m : Mv) (T X V : Int) (A7 : Option Addr) (c7 n : Nat) (xs : List Value) (v : Value) (wr : World) : Prop :=
  ∃ i : Nat, i ≤ 3 ∧ v = .int .i64 (i : Int) ∧ FlAt W g8 g12 g16 g17 x R (addF i 0 m.back T m.t) (addF i 1 m.back X m.x) (addF i 2 m.back V m.v) wr ∧ wr.ownsRow bse 85 6 (.slice A7 n c7) n xs ∧
    Blk wr g19 85 #[.int .i64 m.id, .int .i64 m.day, .bool m.back, .int .i64 m.t, .int .i64 m.x, .int .i64 m.v]
abbrev otR (id f p : Int) (i : Nat) (T X V a b : Int) : Array Value := #[.int .i64 id, .int .i64 f, .int .i64 p, .int .i64 (if 0 < i then T else 0), .int .i64 (if 1 < i then X else 0), .int .i64 (if 2 < i then V else 0), .int .i64 a, .int .i64 b]
def OtRel (W : World) (g8 g12 g16 g17 : Nat) (x : JV) (id p T X V a b : Int) (v : Value) (wr : World) : Prop :=
  ∃ i : Nat, i ≤ 3 ∧ v = .int .i64 (i : Int) ∧ FlAt W g8 g12 g16 g17 x (otR id x.j.f p i T X V a b) T X V wr ∧ (0 < i → i64 T) ∧ (1 < i → i64 X) ∧ (2 < i → i64 V)
theorem big_bd {S : Int} {n : Nat} (hn : n ≤ 640000000) (h : -(9223372036854775808 * (n : Int)) ≤ S ∧ S ≤ 9223372036854775808 * (n : Int)) : -170141183460469231731687303715884105728 ≤ S ∧ S < 170141183460469231731687303715884105728 := by omega
theorem mv_at {w : World} {B : Nat} {A : Option Addr} {l : List Mv} (hr : Reads w B 6 A l.length (mvCells l)) {k : Nat} (hk : k < l.length) : ∃ g off, A = some ⟨g, off, none⟩ ∧ g < B ∧
    w.cell? ⟨g, off + k * 6, none⟩ = some (.int .i64 l[k].id) ∧ w.cell? ⟨g, off + k * 6 + 1, none⟩ = some (.int .i64 l[k].day) ∧ w.cell? ⟨g, off + k * 6 + 2, none⟩ = some (.bool l[k].back) ∧
    w.cell? ⟨g, off + k * 6 + 3, none⟩ = some (.int .i64 l[k].t) ∧ w.cell? ⟨g, off + k * 6 + 4, none⟩ = some (.int .i64 l[k].x) ∧ w.cell? ⟨g, off + k * 6 + 5, none⟩ = some (.int .i64 l[k].v) := by
  obtain ⟨g, off, rfl, hg, hc⟩ := hr.cellAt hk
  obtain ⟨e1, e2, e3, e4, e5, e6⟩ := mvCells_at l k hk
  exact ⟨g, off, rfl, hg, hc _ _ e1, hc _ _ e2, hc _ _ e3, hc _ _ e4, hc _ _ e5, hc _ _ e6⟩
set_option maxRecDepth 100000 in
set_option maxHeartbeats 1000000 in
theorem rfile_any {w0 W : World} {bb mb : Nat} {vids : Value} {M : BkM} (h : BookAt w0 W bb mb vids M) (hml : M.length ≤ 100000) (hs : M.b.small) (h3 : M.b.b3)
    (l : List JV) (A : Option Addr) (cap : Nat) (hr : Reads W W.heap.size 5 A l.length (jvCells l)) (hm : l.length ≤ maxLen) (id p : Int) :
    Calls Tryz.prog 29 #[.pointer (some ⟨bb, 0, none⟩), .slice A l.length cap, .int .i64 id, .int .i64 p] W fun e w' => e = .returned (.tuple #[(M.b.file (jsOf l) id p).1.V, .int .i64 (M.b.file (jsOf l) id p).2]) ∧ Ext W w' := by
  have HB := Lib.hid h
  have HR := Lib.hid (fun W' (hx : Ext W W') => hr.ext hx)
  have HM := Lib.hid hm
  have HF := Lib.hid (show M.b.file (jsOf l) id p = M.b.file (jsOf l) id p from rfl)
  have X0 := (Ext.refl W).alloc (.cells #[.int .i64 0, .int .i64 0, .int .i64 0, .int .i64 0, .int .i64 0, .int .i64 0, .int .i64 0, .int .i64 0] 23)
  have B0 := Blk.new W 23 #[.int .i64 0, .int .i64 0, .int .i64 0, .int .i64 0, .int .i64 0, .int .i64 0, .int .i64 0, .int .i64 0]
  obtain ⟨F, hF⟩ : ∃ F, M.b.file (jsOf l) id p = F := ⟨_, rfl⟩
  rw [hF]
  have hF0 := hF
  unfold Bk.file at hF0
  obtain ⟨C, hC⟩ : ∃ C, (checkJ (jsOf l)).1 = C := ⟨_, rfl⟩
  rw [hC] at hF0
  replace hC := Lib.hid hC
  clear h hr hm HF hF
  go_enter Tryz.func29, Tryz.ntmps29
  go_wp2_with fail
  refine (rnone_any (HB.out.ext X0)).mono ?_
  rintro e w1 ⟨rfl, hx1⟩
  have X1 := X0.trans hx1
  have B1 := B0.ext hx1
  clear X0 B0 hx1
  go_wp2_with fail
  refine (jcheck_any l A cap _ (HR.out _ X1) HM.out).mono ?_
  rintro e w2 ⟨rfl, hx2⟩
  rw [hC.out]
  have X2 := X1.trans hx2
  have B2 := B1.ext hx2
  clear X1 B1 hx2
  obtain ⟨q, q'⟩ := B2.cells
  have lt8 := B2.lt
  by_cases hc : C = 0
  case neg =>
    rw [if_pos hc] at hF0
    have hb : (C != 0) = true := by simpa using hc
    subst hF0
    clear hc
    go_wp2_with fail
    exact bodyPost_ret (results_ct rfl rfl (ld_rep (put8 B2))) rfl ⟨rfl, ext8 X2 (Nat.le_refl _) _ _ _ _ _ _ _ _⟩
  have hc0 := hC.out.trans hc
  rw [if_neg (by simp [hc]), findV_j] at hF0
  have hb : (C != 0) = false := by simp [hc]
  have HOK := Lib.hid (checkJ_ok hc0)
  replace hc := Lib.hid hc
  replace hF0 := Lib.hid hF0
  clear hc0 q q'
  go_wp2_with fail
  refine (jfind_any l id A cap _ (HR.out _ X2) HM.out).mono ?_
  rintro e w3 ⟨rfl, hx3⟩
  have X3 := X2.trans hx3
  have B3 := B2.ext hx3
  have HJ := Lib.hid (fun x (hx : findV l id = some x) => (show (1 ≤ x.j.f ∧ x.j.f ≤ 4) from by
    have hmem : x ∈ l := List.mem_of_find?_eq_some hx
    obtain ⟨i, hi, e⟩ := List.mem_iff_getElem.1 hmem
    have := (HOK.out.2.1 i (by rw [jsOf_len]; exact hi)).2
    rw [jsOf_at l i hi, e] at this
    exact this))
  obtain ⟨fv, hfv⟩ : ∃ fv, findV l id = fv := ⟨_, rfl⟩
  rw [hfv] at hF0 HJ ⊢
  replace hfv := Lib.hid hfv
  clear X2 B2 hx3 hb
  cases fv with
  | none =>
    have B4 := B3.alloc (.cells #[.int .i64 0, .int .i64 0, .int .i64 0, .int .i64 0, .slice none 0 0] 83)
    have X4 := X3.alloc (.cells #[.int .i64 0, .int .i64 0, .int .i64 0, .int .i64 0, .slice none 0 0] 83)
    obtain ⟨q, q'⟩ := B4.cells
    have lt8 := B4.lt
    have hF1 : F = (Rep.zero, 6) := hF0.out.symm
    subst hF1
    unfold foundV
    simp only [Option.getD_none, Option.isSome_none, JV.zero, Jur.zero]
    clear B3 X3 HJ
    go_wp2_with fail
    exact bodyPost_ret (results_ct rfl rfl (ld_rep (put8 B4))) rfl ⟨rfl, ext8 X4 (Nat.le_refl _) _ _ _ _ _ _ _ _⟩
  | some x =>
    have hxf := HJ.out x rfl
    have B12 := Blk.new w3 83 #[.int .i64 x.j.id, .int .i64 x.j.k, .int .i64 x.j.par, .int .i64 x.j.f, .slice x.A x.n x.c]
    have X4 := X3.alloc (.cells #[.int .i64 x.j.id, .int .i64 x.j.k, .int .i64 x.j.par, .int .i64 x.j.f, .slice x.A x.n x.c] 83)
    have B4 := B3.alloc (.cells #[.int .i64 x.j.id, .int .i64 x.j.k, .int .i64 x.j.par, .int .i64 x.j.f, .slice x.A x.n x.c] 83)
    have HP := Lib.hid (pfirst_any x.j.f p (by unfold i64; omega))
    obtain ⟨E, hE⟩ : ∃ E, perE x.j.f p = E := ⟨_, rfl⟩
    have hF1 := hF0.out
    simp only [Option.map] at hF1
    rw [hE] at hF1 HP
    replace hE := Lib.hid hE
    clear hF0 X3 B3 HJ
    unfold foundV
    simp only [Option.getD_some, Option.isSome_some]
    go_wp2_with fail
    refine (HP.out _).mono ?_
    rintro e w5 ⟨n5, rfl, hx5⟩
    have X5 := X4.trans hx5
    have B5 := B4.ext hx5
    have B125 := B12.ext hx5
    clear X4 B4 B12 hx5
    obtain ⟨q, q'⟩ := B5.cells
    obtain ⟨r, r'⟩ := B125.cells
    have lt8 := B5.lt
    by_cases hc5 : E = 0
    case neg =>
      rw [if_pos hc5] at hF1
      have hb5 : (E != 0) = true := by simpa using hc5
      subst hF1
      clear hc5
      go_wp2_with fail
      exact bodyPost_ret (results_ct rfl rfl (ld_rep (put8 B5))) rfl ⟨rfl, ext8 X5 (Nat.le_refl _) _ _ _ _ _ _ _ _⟩
    rw [if_neg (by simp [hc5])] at hF1
    have hb5 : (E != 0) = false := by simp [hc5]
    replace hc5 := Lib.hid hc5
    replace hF1 := Lib.hid hF1
    go_wp2_with fail
    have B16 := Blk.new w5 23 #[.int .i64 id, .int .i64 x.j.f, .int .i64 p, .int .i64 0, .int .i64 0, .int .i64 0, .int .i64 0, .int .i64 0]
    have X16 := (Ext.refl w5).alloc (.cells #[.int .i64 id, .int .i64 x.j.f, .int .i64 p, .int .i64 0, .int .i64 0, .int .i64 0, .int .i64 0, .int .i64 0] 23)
    have hz16 : (w5.alloc (.cells #[.int .i64 id, .int .i64 x.j.f, .int .i64 p, .int .i64 0, .int .i64 0, .int .i64 0, .int .i64 0, .int .i64 0] 23)).heap.size = w5.heap.size + 1 := by simp
    have B8 := B5.ext X16
    have B12 := B125.ext X16
    have X6 := X5.trans X16
    have h8 : W.heap.size ≤ w5.heap.size := X5.size
    clear q q' r r' X5 B5 B125 X16 hb5
    generalize w5.alloc (.cells #[.int .i64 id, .int .i64 x.j.f, .int .i64 p, .int .i64 0, .int .i64 0, .int .i64 0, .int .i64 0, .int .i64 0] 23) = w6 at *
    have B17 := Blk.new w6 135 #[.int .u64 0, .int .u64 0, .int .u64 0, .int .u64 0, .int .u64 0, .int .u64 0]
    have X17 := (Ext.refl w6).alloc (.cells #[.int .u64 0, .int .u64 0, .int .u64 0, .int .u64 0, .int .u64 0, .int .u64 0] 135)
    rw [hz16] at B17
    have S0 : FlAt W W.heap.size w3.heap.size w5.heap.size (w5.heap.size + 1) x (flR id x.j.f p 0 0) 0 0 0 (w6.alloc (.cells #[.int .u64 0, .int .u64 0, .int .u64 0, .int .u64 0, .int .u64 0, .int .u64 0] 135)) :=
      ⟨B8.ext X17, B12.ext X17, B16.ext X17, B17, by omega, X6.trans X17, Nat.le_refl _, h8, by omega⟩
    clear B8 B12 B16 B17 X6 X17 hz16
    generalize w6.alloc (.cells #[.int .u64 0, .int .u64 0, .int .u64 0, .int .u64 0, .int .u64 0, .int .u64 0] 135) = w7 at *
    generalize w5.heap.size + 1 = g17 at *
    generalize w5.heap.size = g16 at *
    generalize w3.heap.size = g12 at *
    obtain ⟨g8, hg8⟩ : ∃ g8, W.heap.size = g8 := ⟨_, rfl⟩
    rw [hg8] at S0 ⊢
    replace hg8 := Lib.hid hg8
    have hmbd := moves_bd h3 (fun y hy => by obtain ⟨q, hq, rfl⟩ := List.mem_map.1 hy; exact HB.out.ok q hq) (j := id)
    have hml2 : (M.b.moves id).length ≤ 640000000 := by have := moves_le hs id; rw [BkM.len_b] at this; omega
    have HMV := Lib.hid (moves_any (HB.out.ext S0.ext) id hml hs)
    generalize M.b.moves id = ms at *
    replace hmbd := Lib.hid hmbd
    clear lt8 h8 hs h3 HR HM HOK
    refine HMV.out.mono ?_
    rintro e w8 ⟨A7, c7, rfl, ho8, hx8⟩
    have S8 := S0.to hx8
    have H0 := Lib.hid (show FlRel W g8 g12 g16 g17 w7.heap.size x id p A7 c7 ms (.int .i64 ((0 : Nat) : Int)) w8 from ⟨0, by omega, rfl, S8, ho8⟩)
    clear S0 S8 ho8 hx8 HMV HB
    go_wp2_with fail
    go_loopw [67] (fun v wr => FlRel W g8 g12 g16 g17 w7.heap.size x id p A7 c7 ms v wr) (fun v _ => ms.length - (intOf v).toNat)
    case atStart => exact H0.out
    case round =>
      clear H0
      obtain ⟨k, hk, rfl, hS, ho⟩ := hrel
      by_cases hlt : k < ms.length
      · have hd : decide ((k : Int) < (ms.length : Int)) = true := by simp; omega
        obtain ⟨g, off, rfl, hg, c0, c1, c2, c3, c4, c5⟩ := mv_at (Reads.of_own ho) hlt
        have kl : (k : Int) < (ms.length : Int) := by omega
        have kz : (0 : Int) ≤ (k : Int) := by omega
        obtain ⟨⟨i1, i2, i3⟩, hday⟩ := hmbd.out _ (List.getElem_mem hlt)
        have hSl := salesN_le (perM x.j.f p (ms.take k))
        have hBl := backsN_le (perM x.j.f p (ms.take k))
        have hPl := perM_le x.j.f p (ms.take k)
        have hTl : (ms.take k).length ≤ k := List.length_take_le _ _
        have HSK := Lib.hid (fun (wr' : World) (hn : ofI x.j.f ms[k].day ≠ p) h ho => FlRel.skip (W := W) (wr := wr') (g8 := g8) (g12 := g12) (g16 := g16) (g17 := g17) (bse := w7.heap.size) (x := x) (id := id) (p := p) (A7 := some ⟨g, off, none⟩) (c7 := c7) (ms := ms) (m := k + 1) hlt hn h ho rfl)
        have HTK := Lib.hid (fun (wr' : World) (hn : ofI x.j.f ms[k].day = p) (L : List Mv) (hL : L = perM x.j.f p (ms.take k)) (a b : Int) ha hb h ho => FlRel.take (W := W) (wr := wr') (g8 := g8) (g12 := g12) (g16 := g16) (g17 := g17) (bse := w7.heap.size) (x := x) (id := id) (p := p) (A7 := some ⟨g, off, none⟩) (c7 := c7) (ms := ms) (m := k + 1) (L := L) (a := a) (b := b) hlt hn hL ha hb h ho rfl)
        generalize hLq : perM x.j.f p (ms.take k) = L at *
        replace hLq := Lib.hid hLq
        generalize ms[k] = m at *
        obtain ⟨r, r'⟩ := hS.b12.cells
        have HS := Lib.hid hS
        have HO := Lib.hid ho
        have hl12 := hS.b12.lt
        clear hS ho
        go_wp2_with fail
        have B19 := Blk.new wr 85 #[.int .i64 m.id, .int .i64 m.day, .bool m.back, .int .i64 m.t, .int .i64 m.x, .int .i64 m.v]
        have X19 := (Ext.refl wr).alloc (.cells #[.int .i64 m.id, .int .i64 m.day, .bool m.back, .int .i64 m.t, .int .i64 m.x, .int .i64 m.v] 85)
        generalize hg19 : wr.heap.size = g19 at *
        replace hg19 := Lib.hid hg19
        refine (pof_any x.j.f m.day hxf hday _).mono ?_
        rintro e w9 ⟨rfl, hx9⟩
        have X9 := X19.trans hx9
        have S9 := HS.out.to X9
        have O9 := own_ext HO.out X9
        have B9 := B19.ext hx9
        clear HS HO B19 X19 hx9 c0 c1 c2 c3 c4 c5 r r' X9
        by_cases hop : ofI x.j.f m.day = p
        case neg =>
          have hb : (ofI x.j.f m.day != p) = true := by simpa using hop
          have HN := Lib.hid (HSK.out _ hop S9 O9)
          clear HSK HTK hop S9 O9 B9
          generalize ofI x.j.f m.day = of_ at *
          go_wp2_with fail
          go_roundw
          case rel => exact HN.out
          case measure => simp [intOf]; omega
        have hb : (ofI x.j.f m.day != p) = false := by simpa using hop
        have HN := Lib.hid (fun (wr' : World) => HTK.out wr' hop L rfl)
        clear HSK HTK hop
        generalize ofI x.j.f m.day = of_ at *
        obtain ⟨q, q'⟩ := B9.cells
        have HI0 := Lib.hid (show InRel W g8 g12 g16 g17 g19 w7.heap.size x (flR id x.j.f p (salesN L : Int) (backsN L : Int)) m (sgS Mv.t L) (sgS Mv.x L) (sgS Mv.v L) (some ⟨g, off, none⟩) c7 ms.length (mvCells ms) (.int .i64 ((0 : Nat) : Int)) w9 from ⟨0, by omega, rfl, S9, O9, B9⟩)
        clear S9 O9 B9
        go_wp2_with fail
        generalize sgS Mv.t L = T at *
        generalize sgS Mv.x L = X at *
        generalize sgS Mv.v L = V at *
        obtain ⟨mid, mday, mback, mt, mx, mv⟩ := m
        simp only at *
        go_loopw [89] (fun v wr => InRel W g8 g12 g16 g17 g19 w7.heap.size x (flR id x.j.f p (salesN L : Int) (backsN L : Int)) ⟨mid, mday, mback, mt, mx, mv⟩ T X V (some ⟨g, off, none⟩) c7 ms.length (mvCells ms) v wr) (fun v _ => 3 - (intOf v).toNat)
        case atStart => exact HI0.out
        case round =>
          clear HI0 q q'
          obtain ⟨i, hi, rfl, hS, hO, hB⟩ := hrel
          have ix0 : ∀ W, (Instr.index 136 (.agg #[.int .i64 mt, .int .i64 mx, .int .i64 mv]) (.int .i64 0)).run Tryz.prog W = .ok (.int .i64 mt) W := fun _ => by kernel_rfl
          have ix1 : ∀ W, (Instr.index 136 (.agg #[.int .i64 mt, .int .i64 mx, .int .i64 mv]) (.int .i64 1)).run Tryz.prog W = .ok (.int .i64 mx) W := fun _ => by kernel_rfl
          have ix2 : ∀ W, (Instr.index 136 (.agg #[.int .i64 mt, .int .i64 mx, .int .i64 mv]) (.int .i64 2)).run Tryz.prog W = .ok (.int .i64 mv) W := fun _ => by kernel_rfl
          obtain ⟨q, q'⟩ := hB.cells
          rcases (show i = 0 ∨ i = 1 ∨ i = 2 ∨ i = 3 by omega) with rfl | rfl | rfl | rfl
          · have HS := Lib.hid hS
            have HO := Lib.hid hO
            have HB := Lib.hid hB
            clear hS hO hB
            go_wp2_with fail
            go_still_tail 5, (by kernel_rfl)
            go_wp2_with fail
            refine (sadd_any T mt mback g17 0 _ _ _ (HS.out.to (Ext.refl wr).drew).b17 rfl rfl i1).mono ?_
            rintro e w' ⟨rfl, rfl⟩
            have S10 : FlAt W g8 g12 g16 g17 x (flR id x.j.f p (salesN L : Int) (backsN L : Int)) (addF 1 0 mback T mt) (addF 1 1 mback X mx) (addF 1 2 mback V mv) _ := (HS.out.to (Ext.refl wr).drew).sum 0 (.int .u64 (hiI (offI mback T mt))) (.int .u64 (loI (offI mback T mt))) rfl
            have O10 := own_set (own_set (own_ext HO.out (Ext.refl wr).drew) (a := ⟨g17, 1, none⟩) (own_blk_ne HO.out HS.out.b17 (by decide)) (.int .u64 (loI (offI mback T mt)))) (a := ⟨g17, 0, none⟩) (own_blk_ne HO.out HS.out.b17 (by decide)) (.int .u64 (hiI (offI mback T mt)))
            have B10 := ((HB.out.ext (Ext.refl wr).drew).far (p := ⟨g17, 1, none⟩) (HB.out.ne_ HS.out.b17 (by decide)) (.int .u64 (loI (offI mback T mt)))).far (p := ⟨g17, 0, none⟩) (HB.out.ne_ HS.out.b17 (by decide)) (.int .u64 (hiI (offI mback T mt)))
            have HR2 := Lib.hid (show InRel W g8 g12 g16 g17 g19 w7.heap.size x (flR id x.j.f p (salesN L : Int) (backsN L : Int)) ⟨mid, mday, mback, mt, mx, mv⟩ T X V (some ⟨g, off, none⟩) c7 ms.length (mvCells ms) (.int .i64 ((1 : Nat) : Int)) _ from ⟨1, by omega, rfl, S10, O10, B10⟩)
            clear S10 O10 B10 HS HO HB
            go_wp2_with fail
            go_roundw
            case rel => exact HR2.out
            case measure => simp [intOf]
          · have HS := Lib.hid hS
            have HO := Lib.hid hO
            have HB := Lib.hid hB
            clear hS hO hB
            go_wp2_with fail
            go_still_tail 5, (by kernel_rfl)
            go_wp2_with fail
            refine (sadd_any X mx mback g17 2 _ _ _ (HS.out.to (Ext.refl wr).drew).b17 rfl rfl i2).mono ?_
            rintro e w' ⟨rfl, rfl⟩
            have S10 : FlAt W g8 g12 g16 g17 x (flR id x.j.f p (salesN L : Int) (backsN L : Int)) (addF 2 0 mback T mt) (addF 2 1 mback X mx) (addF 2 2 mback V mv) _ := (HS.out.to (Ext.refl wr).drew).sum 2 (.int .u64 (hiI (offI mback X mx))) (.int .u64 (loI (offI mback X mx))) rfl
            have O10 := own_set (own_set (own_ext HO.out (Ext.refl wr).drew) (a := ⟨g17, 3, none⟩) (own_blk_ne HO.out HS.out.b17 (by decide)) (.int .u64 (loI (offI mback X mx)))) (a := ⟨g17, 2, none⟩) (own_blk_ne HO.out HS.out.b17 (by decide)) (.int .u64 (hiI (offI mback X mx)))
            have B10 := ((HB.out.ext (Ext.refl wr).drew).far (p := ⟨g17, 3, none⟩) (HB.out.ne_ HS.out.b17 (by decide)) (.int .u64 (loI (offI mback X mx)))).far (p := ⟨g17, 2, none⟩) (HB.out.ne_ HS.out.b17 (by decide)) (.int .u64 (hiI (offI mback X mx)))
            have HR2 := Lib.hid (show InRel W g8 g12 g16 g17 g19 w7.heap.size x (flR id x.j.f p (salesN L : Int) (backsN L : Int)) ⟨mid, mday, mback, mt, mx, mv⟩ T X V (some ⟨g, off, none⟩) c7 ms.length (mvCells ms) (.int .i64 ((2 : Nat) : Int)) _ from ⟨2, by omega, rfl, S10, O10, B10⟩)
            clear S10 O10 B10 HS HO HB
            go_wp2_with fail
            go_roundw
            case rel => exact HR2.out
            case measure => simp [intOf]
          · have HS := Lib.hid hS
            have HO := Lib.hid hO
            have HB := Lib.hid hB
            clear hS hO hB
            go_wp2_with fail
            go_still_tail 5, (by kernel_rfl)
            go_wp2_with fail
            refine (sadd_any V mv mback g17 4 _ _ _ (HS.out.to (Ext.refl wr).drew).b17 rfl rfl i3).mono ?_
            rintro e w' ⟨rfl, rfl⟩
            have S10 : FlAt W g8 g12 g16 g17 x (flR id x.j.f p (salesN L : Int) (backsN L : Int)) (addF 3 0 mback T mt) (addF 3 1 mback X mx) (addF 3 2 mback V mv) _ := (HS.out.to (Ext.refl wr).drew).sum 4 (.int .u64 (hiI (offI mback V mv))) (.int .u64 (loI (offI mback V mv))) rfl
            have O10 := own_set (own_set (own_ext HO.out (Ext.refl wr).drew) (a := ⟨g17, 5, none⟩) (own_blk_ne HO.out HS.out.b17 (by decide)) (.int .u64 (loI (offI mback V mv)))) (a := ⟨g17, 4, none⟩) (own_blk_ne HO.out HS.out.b17 (by decide)) (.int .u64 (hiI (offI mback V mv)))
            have B10 := ((HB.out.ext (Ext.refl wr).drew).far (p := ⟨g17, 5, none⟩) (HB.out.ne_ HS.out.b17 (by decide)) (.int .u64 (loI (offI mback V mv)))).far (p := ⟨g17, 4, none⟩) (HB.out.ne_ HS.out.b17 (by decide)) (.int .u64 (hiI (offI mback V mv)))
            have HR2 := Lib.hid (show InRel W g8 g12 g16 g17 g19 w7.heap.size x (flR id x.j.f p (salesN L : Int) (backsN L : Int)) ⟨mid, mday, mback, mt, mx, mv⟩ T X V (some ⟨g, off, none⟩) c7 ms.length (mvCells ms) (.int .i64 ((3 : Nat) : Int)) _ from ⟨3, by omega, rfl, S10, O10, B10⟩)
            clear S10 O10 B10 HS HO HB
            go_wp2_with fail
            go_roundw
            case rel => exact HR2.out
            case measure => simp [intOf]
          · have HS := Lib.hid (show FlAt W g8 g12 g16 g17 x (flR id x.j.f p (salesN L : Int) (backsN L : Int)) (offI mback T mt) (offI mback X mx) (offI mback V mv) wr from hS)
            have HO := Lib.hid hO
            obtain ⟨r, r'⟩ := hS.b16.cells
            have l16 := hS.b16.lt
            clear hS hO
            cases mback
            · have HN2 := Lib.hid (HN.out _ _ _ (by simp) (by simp) (HS.out.put 6 (.int .i64 ((salesN L : Int) + 1))) (own_set HO.out (a := ⟨g16, 6, none⟩) (own_blk_ne HO.out HS.out.b16 (by decide)) (.int .i64 ((salesN L : Int) + 1))))
              clear HN hB HS HO
              go_wp2_with fail
              go_roundw
              case rel => exact HN2.out
              case measure => simp [intOf]; omega
            · have HN2 := Lib.hid (HN.out _ _ _ (by simp) (by simp) (HS.out.put 7 (.int .i64 ((backsN L : Int) + 1))) (own_set HO.out (a := ⟨g16, 7, none⟩) (own_blk_ne HO.out HS.out.b16 (by decide)) (.int .i64 ((backsN L : Int) + 1))))
              clear HN hB HS HO
              go_wp2_with fail
              go_roundw
              case rel => exact HN2.out
              case measure => simp [intOf]; omega
      · have hd : decide ((k : Int) < (ms.length : Int)) = false := by simp; omega
        rw [List.take_of_length_le (by omega)] at hS
        have hPl := perM_le x.j.f p ms
        have hmem : ∀ m ∈ perM x.j.f p ms, (i64 m.t ∧ i64 m.x ∧ i64 m.v) := fun m hm => (hmbd.out m (List.mem_filter.1 hm).1).1
        have hbT := Lib.hid (big_bd (n := (perM x.j.f p ms).length) (by omega) (sgS_bd (c := Mv.t) fun m hm => (hmem m hm).1))
        have hbX := Lib.hid (big_bd (n := (perM x.j.f p ms).length) (by omega) (sgS_bd (c := Mv.x) fun m hm => (hmem m hm).2.1))
        have hbV := Lib.hid (big_bd (n := (perM x.j.f p ms).length) (by omega) (sgS_bd (c := Mv.v) fun m hm => (hmem m hm).2.2))
        have hFa : (i64 (sgS Mv.t (perM x.j.f p ms)) ∧ i64 (sgS Mv.x (perM x.j.f p ms)) ∧ i64 (sgS Mv.v (perM x.j.f p ms))) → F = (⟨id, x.j.f, p, sgS Mv.t (perM x.j.f p ms), sgS Mv.x (perM x.j.f p ms), sgS Mv.v (perM x.j.f p ms), ((salesN (perM x.j.f p ms) : Nat) : Int), ((backsN (perM x.j.f p ms) : Nat) : Int)⟩, 0) := fun c => by rw [← hF1.out]; exact if_pos c
        have hFb : ¬ (i64 (sgS Mv.t (perM x.j.f p ms)) ∧ i64 (sgS Mv.x (perM x.j.f p ms)) ∧ i64 (sgS Mv.v (perM x.j.f p ms))) → F = (Rep.zero, 5) := fun c => by rw [← hF1.out]; exact if_neg c
        replace hFa := Lib.hid hFa
        replace hFb := Lib.hid hFb
        clear hF1 hmem ho hPl
        generalize sgS Mv.t (perM x.j.f p ms) = T at *
        generalize sgS Mv.x (perM x.j.f p ms) = X at *
        generalize sgS Mv.v (perM x.j.f p ms) = V at *
        generalize ((salesN (perM x.j.f p ms) : Nat) : Int) = a at *
        generalize ((backsN (perM x.j.f p ms) : Nat) : Int) = b at *
        have H1 := Lib.hid (show OtRel W g8 g12 g16 g17 x id p T X V a b (.int .i64 ((0 : Nat) : Int)) wr from ⟨0, by omega, rfl, hS, fun h => absurd h (by omega), fun h => absurd h (by omega), fun h => absurd h (by omega)⟩)
        clear hS
        go_wp2_with fail
        go_loopw [115] (fun v wr => OtRel W g8 g12 g16 g17 x id p T X V a b v wr) (fun v _ => 3 - (intOf v).toNat)
        case atStart => exact H1.out
        case round =>
          clear H1
          obtain ⟨i, hi, rfl, hS, h1, h2, h3⟩ := hrel
          have ix0 : ∀ W, (Instr.index 138 (.agg #[.pointer (some ⟨g16, 3, none⟩), .pointer (some ⟨g16, 4, none⟩), .pointer (some ⟨g16, 5, none⟩)]) (.int .i64 0)).run Tryz.prog W = .ok (.pointer (some ⟨g16, 3, none⟩)) W := fun _ => by kernel_rfl
          have ix1 : ∀ W, (Instr.index 138 (.agg #[.pointer (some ⟨g16, 3, none⟩), .pointer (some ⟨g16, 4, none⟩), .pointer (some ⟨g16, 5, none⟩)]) (.int .i64 1)).run Tryz.prog W = .ok (.pointer (some ⟨g16, 4, none⟩)) W := fun _ => by kernel_rfl
          have ix2 : ∀ W, (Instr.index 138 (.agg #[.pointer (some ⟨g16, 3, none⟩), .pointer (some ⟨g16, 4, none⟩), .pointer (some ⟨g16, 5, none⟩)]) (.int .i64 2)).run Tryz.prog W = .ok (.pointer (some ⟨g16, 5, none⟩)) W := fun _ => by kernel_rfl
          rcases (show i = 0 ∨ i = 1 ∨ i = 2 ∨ i = 3 by omega) with rfl | rfl | rfl | rfl
          · have HS := Lib.hid hS
            obtain ⟨r, r'⟩ := hS.b17.cells
            obtain ⟨r8, r8'⟩ := hS.b8.cells
            obtain ⟨r16, r16'⟩ := hS.b16.cells
            have l8 := hS.b8.lt
            have l16 := hS.b16.lt
            clear hS
            go_wp2_with fail
            refine (sint_any T _ hbT.out).mono ?_
            rintro e w10 ⟨n, rfl, hn, hx10⟩
            have S10 := HS.out.to hx10
            clear r r' r8 r8' r16 r16'
            obtain ⟨r8, r8'⟩ := S10.b8.cells
            obtain ⟨r16, r16'⟩ := S10.b16.cells
            have l8 := S10.b8.lt
            have l16 := S10.b16.lt
            by_cases hf : i64 T
            · rw [hn hf, decide_eq_true hf]
              have HR2 := Lib.hid (show OtRel W g8 g12 g16 g17 x id p T X V a b (.int .i64 ((1 : Nat) : Int)) _ from ⟨1, by omega, rfl, (S10.put 3 (.int .i64 T) : FlAt W g8 g12 g16 g17 x (otR id x.j.f p 1 T X V a b) T X V _), fun _ => hf, fun h => absurd h (by omega), fun h => absurd h (by omega)⟩)
              clear S10 HS hf hn hx10
              go_wp2_with fail
              go_roundw
              case rel => exact HR2.out
              case measure => simp [intOf]
            · rw [decide_eq_false hf]
              have hF2 : F = (Rep.zero, 5) := hFb.out fun c => hf c.1
              subst hF2
              have HS10 := Lib.hid S10
              clear HS hf hn hx10 hFa hFb S10
              go_wp2_with fail
              exact bodyPost_ret (results_ct rfl rfl (ld_rep (put8 HS10.out.b8))) rfl ⟨rfl, ext8 HS10.out.ext HS10.out.l8 _ _ _ _ _ _ _ _⟩
          · have HS := Lib.hid hS
            obtain ⟨r, r'⟩ := hS.b17.cells
            obtain ⟨r8, r8'⟩ := hS.b8.cells
            obtain ⟨r16, r16'⟩ := hS.b16.cells
            have l8 := hS.b8.lt
            have l16 := hS.b16.lt
            clear hS
            go_wp2_with fail
            refine (sint_any X _ hbX.out).mono ?_
            rintro e w10 ⟨n, rfl, hn, hx10⟩
            have S10 := HS.out.to hx10
            clear r r' r8 r8' r16 r16'
            obtain ⟨r8, r8'⟩ := S10.b8.cells
            obtain ⟨r16, r16'⟩ := S10.b16.cells
            have l8 := S10.b8.lt
            have l16 := S10.b16.lt
            by_cases hf : i64 X
            · rw [hn hf, decide_eq_true hf]
              have HR2 := Lib.hid (show OtRel W g8 g12 g16 g17 x id p T X V a b (.int .i64 ((2 : Nat) : Int)) _ from ⟨2, by omega, rfl, (S10.put 4 (.int .i64 X) : FlAt W g8 g12 g16 g17 x (otR id x.j.f p 2 T X V a b) T X V _), fun _ => h1 (by omega), fun _ => hf, fun h => absurd h (by omega)⟩)
              clear S10 HS hf hn hx10
              go_wp2_with fail
              go_roundw
              case rel => exact HR2.out
              case measure => simp [intOf]
            · rw [decide_eq_false hf]
              have hF2 : F = (Rep.zero, 5) := hFb.out fun c => hf c.2.1
              subst hF2
              have HS10 := Lib.hid S10
              clear HS hf hn hx10 hFa hFb S10
              go_wp2_with fail
              exact bodyPost_ret (results_ct rfl rfl (ld_rep (put8 HS10.out.b8))) rfl ⟨rfl, ext8 HS10.out.ext HS10.out.l8 _ _ _ _ _ _ _ _⟩
          · have HS := Lib.hid hS
            obtain ⟨r, r'⟩ := hS.b17.cells
            obtain ⟨r8, r8'⟩ := hS.b8.cells
            obtain ⟨r16, r16'⟩ := hS.b16.cells
            have l8 := hS.b8.lt
            have l16 := hS.b16.lt
            clear hS
            go_wp2_with fail
            refine (sint_any V _ hbV.out).mono ?_
            rintro e w10 ⟨n, rfl, hn, hx10⟩
            have S10 := HS.out.to hx10
            clear r r' r8 r8' r16 r16'
            obtain ⟨r8, r8'⟩ := S10.b8.cells
            obtain ⟨r16, r16'⟩ := S10.b16.cells
            have l8 := S10.b8.lt
            have l16 := S10.b16.lt
            by_cases hf : i64 V
            · rw [hn hf, decide_eq_true hf]
              have HR2 := Lib.hid (show OtRel W g8 g12 g16 g17 x id p T X V a b (.int .i64 ((3 : Nat) : Int)) _ from ⟨3, by omega, rfl, (S10.put 5 (.int .i64 V) : FlAt W g8 g12 g16 g17 x (otR id x.j.f p 3 T X V a b) T X V _), fun _ => h1 (by omega), fun _ => h2 (by omega), fun _ => hf⟩)
              clear S10 HS hf hn hx10
              go_wp2_with fail
              go_roundw
              case rel => exact HR2.out
              case measure => simp [intOf]
            · rw [decide_eq_false hf]
              have hF2 : F = (Rep.zero, 5) := hFb.out fun c => hf c.2.2
              subst hF2
              have HS10 := Lib.hid S10
              clear HS hf hn hx10 hFa hFb S10
              go_wp2_with fail
              exact bodyPost_ret (results_ct rfl rfl (ld_rep (put8 HS10.out.b8))) rfl ⟨rfl, ext8 HS10.out.ext HS10.out.l8 _ _ _ _ _ _ _ _⟩
          · have HS := Lib.hid (show FlAt W g8 g12 g16 g17 x #[.int .i64 id, .int .i64 x.j.f, .int .i64 p, .int .i64 T, .int .i64 X, .int .i64 V, .int .i64 a, .int .i64 b] T X V wr from hS)
            have hF2 : F = (⟨id, x.j.f, p, T, X, V, a, b⟩, 0) := hFa.out ⟨h1 (by omega), h2 (by omega), h3 (by omega)⟩
            subst hF2
            obtain ⟨r8, r8'⟩ := HS.out.b8.cells
            obtain ⟨r16, r16'⟩ := HS.out.b16.cells
            have l8 := HS.out.b8.lt
            have l16 := HS.out.b16.lt
            clear hS hFa hFb h1 h2 h3
            go_wp2_with fail
            exact bodyPost_ret (results_ct rfl rfl (ld_rep (put8 HS.out.b8))) rfl ⟨rfl, ext8 HS.out.ext HS.out.l8 _ _ _ _ _ _ _ _⟩
end Go.Proofs.YtokakpbpenndlaaGreatDoor
