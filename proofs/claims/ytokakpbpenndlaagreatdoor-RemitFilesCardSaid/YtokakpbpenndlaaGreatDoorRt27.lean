/-
  The reference's Back, one, Return.
-/
import Derived.Test.YtokakpbpenndlaaGreatDoorRt26
import Derived.Test.YtokakpbpenndlaaGreatDoorRt08
import Derived.Test.YtokakpbpenndlaaGreatDoorRt12
import Derived.Test.YtokakpbpenndlaaGreatDoorRt09
set_option linter.unusedVariables false
namespace Go.Proofs.YtokakpbpenndlaaGreatDoor
open Go.RowKit

set_option maxRecDepth 100000 in
set_option maxHeartbeats 1000000 in
theorem rback_any (t n b a : Int) (w : World) :
    Calls Tryz.prog 173 #[.int .i64 t, .int .i64 n, .int .i64 b, .int .i64 a] w fun e w' => e = .returned (.tuple #[.int .i64 (backI t n b a).1, .int .i64 (backI t n b a).2]) ∧ Ext w w' := by
  by_cases h1 : win t 0 4611686018427387904 = false
  · have HB := Lib.hid (show backI t n b a = (0, 5) by unfold backI; rw [if_pos (.inl h1)])
    go_enter Tryz.func173, Tryz.ntmps173
    go_wp2_with (go_at_call 192; refine (rwithin_any _ _ _ _).mono ?_; rintro e w' ⟨rfl, rfl⟩)
    exact bodyPost_ret (results_tmp2 rfl _ _ _) rfl ⟨by rw [HB.out]; rfl, Ext.refl _⟩
  by_cases h2 : win n 0 4611686018427387904 = false
  · have HB := Lib.hid (show backI t n b a = (0, 5) by unfold backI; rw [if_pos (.inr h2)])
    have h1' : win t 0 4611686018427387904 = true := by simpa using h1
    clear h1
    go_enter Tryz.func173, Tryz.ntmps173
    go_wp2_with (go_at_call 192; refine (rwithin_any _ _ _ _).mono ?_; rintro e w' ⟨rfl, rfl⟩)
    exact bodyPost_ret (results_tmp2 rfl _ _ _) rfl ⟨by rw [HB.out]; rfl, Ext.refl _⟩
  have h1' : win t 0 4611686018427387904 = true := by simpa using h1
  have h2' : win n 0 4611686018427387904 = true := by simpa using h2
  have e0 : ¬ (win t 0 4611686018427387904 = false ∨ win n 0 4611686018427387904 = false) := by simp [h1', h2']
  by_cases h3 : b < 0
  · have HB := Lib.hid (show backI t n b a = (0, 2) by unfold backI; rw [if_neg e0, if_pos (.inl h3)])
    have g1 : decide (b < 0) = true := by simpa using h3
    clear h1 h2 e0
    go_enter Tryz.func173, Tryz.ntmps173
    go_wp2_with (go_at_call 192; refine (rwithin_any _ _ _ _).mono ?_; rintro e w' ⟨rfl, rfl⟩)
    exact bodyPost_ret (results_tmp2 rfl _ _ _) rfl ⟨by rw [HB.out]; rfl, Ext.refl _⟩
  have g1 : decide (b < 0) = false := by simpa using h3
  by_cases h4 : a < b
  · have HB := Lib.hid (show backI t n b a = (0, 2) by unfold backI; rw [if_neg e0, if_pos (.inr (.inl h4))])
    have g2 : decide (a < b) = true := by simpa using h4
    clear h1 h2 e0
    go_enter Tryz.func173, Tryz.ntmps173
    go_wp2_with (go_at_call 192; refine (rwithin_any _ _ _ _).mono ?_; rintro e w' ⟨rfl, rfl⟩)
    exact bodyPost_ret (results_tmp2 rfl _ _ _) rfl ⟨by rw [HB.out]; rfl, Ext.refl _⟩
  have g2 : decide (a < b) = false := by simpa using h4
  by_cases h5 : n < a
  · have HB := Lib.hid (show backI t n b a = (0, 2) by unfold backI; rw [if_neg e0, if_pos (.inr (.inr h5))])
    have g3 : decide (n < a) = true := by simpa using h5
    clear h1 h2 e0
    go_enter Tryz.func173, Tryz.ntmps173
    go_wp2_with (go_at_call 192; refine (rwithin_any _ _ _ _).mono ?_; rintro e w' ⟨rfl, rfl⟩)
    exact bodyPost_ret (results_tmp2 rfl _ _ _) rfl ⟨by rw [HB.out]; rfl, Ext.refl _⟩
  have g3 : decide (n < a) = false := by simpa using h5
  have e1 : ¬ (b < 0 ∨ a < b ∨ n < a) := by omega
  by_cases h6 : n = 0
  · have HB := Lib.hid (show backI t n b a = (0, 0) by unfold backI; rw [if_neg e0, if_neg e1, if_pos h6])
    have g4 : (n == 0) = true := by simpa using h6
    replace h6 := Lib.hid h6
    clear h1 h2 e0
    go_enter Tryz.func173, Tryz.ntmps173
    go_wp2_with (go_at_call 192; refine (rwithin_any _ _ _ _).mono ?_; rintro e w' ⟨rfl, rfl⟩)
    exact bodyPost_ret (results_tmp2 rfl _ _ _) rfl ⟨by rw [HB.out]; rfl, Ext.refl _⟩
  have g4 : (n == 0) = false := by simpa using h6
  have HB := Lib.hid (show backI t n b a = ((evenN t.toNat a.toNat n.toNat : Int) - evenN t.toNat b.toNat n.toNat, 0) by unfold backI; rw [if_neg e0, if_neg e1, if_neg h6])
  obtain ⟨t1, t2⟩ := win_bd h1'
  obtain ⟨n1, n2⟩ := win_bd h2'
  obtain ⟨t, rfl⟩ := Int.eq_ofNat_of_zero_le t1
  obtain ⟨n, rfl⟩ := Int.eq_ofNat_of_zero_le n1
  obtain ⟨b, rfl⟩ := Int.eq_ofNat_of_zero_le (show 0 ≤ b by omega)
  obtain ⟨a, rfl⟩ := Int.eq_ofNat_of_zero_le (show 0 ≤ a by omega)
  simp only [Int.toNat_natCast] at HB
  have hn : 0 < n := by omega
  have q5 : a ≤ n := by omega
  have q4 : b ≤ a := by omega
  have p1 := evenN_le (a := t) hn (show a ≤ n by omega)
  have p2 := evenN_le (a := t) hn (show b ≤ n by omega)
  have hw : RowKit.wrap64 ((evenN t a n : Int) - evenN t b n) = (evenN t a n : Int) - evenN t b n := by unfold RowKit.wrap64; omega
  replace hw := Lib.hid hw
  replace p1 := Lib.hid p1
  replace p2 := Lib.hid p2
  clear h1 h2 h3 h4 h5 h6 e0 e1 t1 n1
  go_enter Tryz.func173, Tryz.ntmps173
  go_wp2_with (go_at_call 192; refine (rwithin_any _ _ _ _).mono ?_; rintro e w' ⟨rfl, rfl⟩)
  refine (reven_any t a n (by omega) (by omega) hn (by omega) (by have := p1.out; omega) _).mono ?_
  rintro e v1 ⟨rfl, hx1⟩
  go_wp2_with fail
  refine (reven_any t b n (by omega) (by omega) hn (by omega) (by have := p2.out; omega) _).mono ?_
  rintro e v2 ⟨rfl, hx2⟩
  go_wp2_with fail
  exact bodyPost_ret (results_tmp2 rfl _ _ _) rfl ⟨by rw [HB.out]; show Ending.returned (.tuple #[.int .i64 (RowKit.wrap64 ((evenN t a n : Int) - evenN t b n)), .int .i64 0]) = _; rw [hw.out], hx1.trans hx2⟩

theorem tax1_alt (a b c d e f : Int) : Tax1 a b c d e f = (win a 0 99 && win b 1 1099511627775 && win c 0 4611686018427387904 && win d 0 4611686018427387904 && win f 0 4611686018427387904 && win e 0 1000000 && decide (c ≤ 4611686018427387904 - d)) := by
  rw [Bool.eq_iff_iff]
  simp only [Tax1, win, Bool.and_eq_true, decide_eq_true_eq]
  omega
set_option maxRecDepth 100000 in
set_option maxHeartbeats 1000000 in
theorem rone_any (a b c d e f : Int) (w : World) : Calls Tryz.prog 172 #[taxV a b c d e f] w fun r w' => r = .returned (.bool (Tax1 a b c d e f)) ∧ Ext w w' := by
  unfold taxV
  obtain ⟨T, hT⟩ : ∃ T, Tax1 a b c d e f = T := ⟨_, rfl⟩
  rw [hT]
  rw [tax1_alt] at hT
  cases w1 : win a 0 99
  case' true =>
    cases w2 : win b 1 1099511627775
    case' true =>
      cases w3 : win c 0 4611686018427387904
      case' true =>
        cases w4 : win d 0 4611686018427387904
        case' true =>
          cases w5 : win f 0 4611686018427387904
          case' true =>
            cases w6 : win e 0 1000000
            case true =>
              rw [w1, w2, w3, w4, w5, w6] at hT
              simp only [Bool.and_self, Bool.true_and] at hT
              obtain ⟨d1, d2⟩ := win_bd w4
              subst hT
              go_enter Tryz.func172, Tryz.ntmps172
              go_wp2_with (go_at_call 192; refine (rwithin_any _ _ _ _).mono ?_; rintro e w' ⟨rfl, rfl⟩)
              exact bodyPost_ret (results_tmp rfl _ _ _) rfl ⟨rfl, (Ext.refl w).alloc _⟩
  all_goals
    have hT2 : T = false := by
      rw [← hT]
      simp [*]
    subst hT2
    clear hT
    go_enter Tryz.func172, Tryz.ntmps172
    go_wp2_with (go_at_call 192; refine (rwithin_any _ _ _ _).mono ?_; rintro e w' ⟨rfl, rfl⟩)
    exact bodyPost_ret (results_tmp rfl _ _ _) rfl ⟨rfl, (Ext.refl w).alloc _⟩
set_option maxRecDepth 100000 in
set_option maxHeartbeats 2000000 in
theorem rreturn_any (x : Tx) (b a : Int) (w : World) : Calls Tryz.prog 149 #[x.V, .int .i64 b, .int .i64 a] w fun r w' => r = .returned (.tuple #[(x.ret b a).1.V, .int .i64 (x.ret b a).2]) ∧ Ext w w' := by
  have B3 := Lib.hid ((Blk.new w 117 #[.int .i64 x.l, .int .i64 x.j, .int .i64 x.t, .int .i64 x.x, .int .i64 x.r, .int .i64 x.v]).alloc (.cells #[.int .i64 0, .int .i64 0, .int .i64 0, .int .i64 0, .int .i64 0, .int .i64 0] 117))
  have B6 : Hid (Blk ((w.alloc (.cells #[.int .i64 x.l, .int .i64 x.j, .int .i64 x.t, .int .i64 x.x, .int .i64 x.r, .int .i64 x.v] 117)).alloc (.cells #[.int .i64 0, .int .i64 0, .int .i64 0, .int .i64 0, .int .i64 0, .int .i64 0] 117)) (w.heap.size + 1) 117 #[.int .i64 0, .int .i64 0, .int .i64 0, .int .i64 0, .int .i64 0, .int .i64 0]) := Lib.hid (by
    have := Blk.new (w.alloc (.cells #[.int .i64 x.l, .int .i64 x.j, .int .i64 x.t, .int .i64 x.x, .int .i64 x.r, .int .i64 x.v] 117)) 117 #[.int .i64 0, .int .i64 0, .int .i64 0, .int .i64 0, .int .i64 0, .int .i64 0]
    simpa using this)
  have kk : w.heap.size ≤ w.heap.size + 1 := by omega
  have nn : w.heap.size + 1 ≠ w.heap.size := by omega
  cases hok : x.ok
  · have HR := Lib.hid (show x.ret b a = (Tx.zero, 5) by unfold Tx.ret; rw [if_pos hok])
    replace hok := Lib.hid hok
    unfold Tx.V taxV
    go_enter Tryz.func149, Tryz.ntmps149
    go_wp2_with fail
    refine (rone_any x.l x.j x.t x.x x.r x.v _).mono ?_
    rintro e v1 ⟨rfl, hx1⟩
    rw [show Tax1 x.l x.j x.t x.x x.r x.v = false from hok.out]
    have X1 := (((Ext.refl w).alloc _).alloc _).trans hx1
    have C6 := B6.out.ext hx1
    clear hx1 B3 B6
    obtain ⟨q6, q6'⟩ := C6.cells
    go_wp2_with fail
    refine bodyPost_ret (results_ct rfl rfl (ld_tax (put6_blk (a := .int .i64 0) (b := .int .i64 0) (c := .int .i64 0) (d := .int .i64 0) (e := .int .i64 0) (f := .int .i64 0) C6))) rfl ⟨by rw [HR.out]; rfl, put6_ext X1 kk⟩
  · obtain ⟨b1, b2, b3, b4, b5, b6⟩ := Tx.ok_bd hok
    have hu := Lib.hid (show x.ret b a = if (backI x.t (x.t + x.x) b a).2 ≠ 0 then (Tx.zero, (backI x.t (x.t + x.x) b a).2)
      else ({ x with t := (backI x.t (x.t + x.x) b a).1, x := a - b - (backI x.t (x.t + x.x) b a).1, v := (backI x.v (x.t + x.x) b a).1 }, 0) by
        unfold Tx.ret; rw [if_neg (by simp [hok])])
    replace hok := Lib.hid hok
    by_cases he : (backI x.t (x.t + x.x) b a).2 = 0
    · have HR := Lib.hid (hu.out.trans (if_neg (by simpa using he)))
      have hbd := backI_ok he
      have he0 : ((backI x.t (x.t + x.x) b a).2 != 0) = false := by simp [he]
      clear hu
      replace he := Lib.hid he
      generalize hT : (backI x.t (x.t + x.x) b a).1 = T at *
      generalize hE : (backI x.t (x.t + x.x) b a).2 = E at *
      replace hT := Lib.hid hT
      replace hE := Lib.hid hE
      obtain ⟨_, _, c1, c2, c3, c4, c5⟩ := hbd
      unfold Tx.V taxV
      go_enter Tryz.func149, Tryz.ntmps149
      go_wp2_with fail
      refine (rone_any x.l x.j x.t x.x x.r x.v _).mono ?_
      rintro e v1 ⟨rfl, hx1⟩
      rw [show Tax1 x.l x.j x.t x.x x.r x.v = true from hok.out]
      have X1 := (((Ext.refl w).alloc _).alloc _).trans hx1
      have C3 := B3.out.ext hx1
      have C6 := B6.out.ext hx1
      clear hx1 B3 B6
      obtain ⟨q3, q3'⟩ := C3.cells
      go_wp2_with fail
      refine (rback_any x.t (x.t + x.x) b a _).mono ?_
      rintro e v2 ⟨rfl, hx2⟩
      rw [hT.out, hE.out]
      have X2 := X1.trans hx2
      replace C3 := C3.ext hx2
      replace C6 := C6.ext hx2
      clear hx2 X1 q3 q3'
      obtain ⟨q3, q3'⟩ := C3.cells
      go_wp2_with fail
      refine (rback_any x.v (x.t + x.x) b a _).mono ?_
      rintro e v3 ⟨rfl, hx3⟩
      have X3 := X2.trans hx3
      replace C3 := C3.ext hx3
      replace C6 := C6.ext hx3
      clear hx3 X2 q3 q3'
      obtain ⟨q3, q3'⟩ := C3.cells
      obtain ⟨q6, q6'⟩ := C6.cells
      generalize hV : (backI x.v (x.t + x.x) b a).1 = V at *
      generalize hV2 : (backI x.v (x.t + x.x) b a).2 = V2 at *
      replace hV := Lib.hid hV
      replace hV2 := Lib.hid hV2
      go_wp2_with fail
      have B : Blk _ (w.heap.size + 1) 117 #[.int .i64 x.l, .int .i64 x.j, .int .i64 T, .int .i64 (a - b - T), .int .i64 x.r, .int .i64 V] :=
        put6_blk (((C6.far (p := ⟨w.heap.size, 2, none⟩) nn (.int .i64 T)).far (p := ⟨w.heap.size, 3, none⟩) nn (.int .i64 (a - b - T))).far (p := ⟨w.heap.size, 5, none⟩) nn (.int .i64 V))
      refine bodyPost_ret (results_ct rfl rfl (ld_tax B)) rfl ⟨by rw [HR.out]; rfl, put6_ext (((X3.set (p := ⟨w.heap.size, 2, none⟩) (Nat.le_refl _) (.int .i64 T)).set (p := ⟨w.heap.size, 3, none⟩) (Nat.le_refl _) (.int .i64 (a - b - T))).set (p := ⟨w.heap.size, 5, none⟩) (Nat.le_refl _) (.int .i64 V)) kk⟩
    · have HR := Lib.hid (hu.out.trans (if_pos he))
      have he0 : ((backI x.t (x.t + x.x) b a).2 != 0) = true := by simpa using he
      clear hu
      replace he := Lib.hid he
      generalize hT : (backI x.t (x.t + x.x) b a).1 = T at *
      generalize hE : (backI x.t (x.t + x.x) b a).2 = E at *
      replace hT := Lib.hid hT
      replace hE := Lib.hid hE
      unfold Tx.V taxV
      go_enter Tryz.func149, Tryz.ntmps149
      go_wp2_with fail
      refine (rone_any x.l x.j x.t x.x x.r x.v _).mono ?_
      rintro e v1 ⟨rfl, hx1⟩
      rw [show Tax1 x.l x.j x.t x.x x.r x.v = true from hok.out]
      have X1 := (((Ext.refl w).alloc _).alloc _).trans hx1
      have C3 := B3.out.ext hx1
      have C6 := B6.out.ext hx1
      clear hx1 B3 B6
      obtain ⟨q3, q3'⟩ := C3.cells
      go_wp2_with fail
      refine (rback_any x.t (x.t + x.x) b a _).mono ?_
      rintro e v2 ⟨rfl, hx2⟩
      rw [hT.out, hE.out]
      have X2 := X1.trans hx2
      replace C6 := C6.ext hx2
      clear hx2 X1 q3 q3' C3
      obtain ⟨q6, q6'⟩ := C6.cells
      go_wp2_with fail
      refine bodyPost_ret (results_ct rfl rfl (ld_tax (put6_blk (a := .int .i64 0) (b := .int .i64 0) (c := .int .i64 0) (d := .int .i64 0) (e := .int .i64 0) (f := .int .i64 0) C6))) rfl ⟨by rw [HR.out]; rfl, put6_ext X2 kk⟩
end Go.Proofs.YtokakpbpenndlaaGreatDoor

set_option linter.unusedVariables false
namespace Go.Proofs.YtokakpbpenndlaaGreatDoor
open Go.RowKit Go.Maps

def TwRel (W0 : World) (l : List Tx) (x : Tx) (i : Value) (wr : World) : Prop :=
  ∃ k : Nat, k ≤ l.length ∧ i = .int .i64 (k : Int) ∧ x.key ∉ (l.take k).map Tx.key ∧ Ext W0 wr
theorem TwRel.next {W0 W : World} {l : List Tx} {x : Tx} {k m : Nat} (hk : k < l.length) (h : x.key ∉ (l.take k).map Tx.key) (hn : ¬ (l[k].l = x.l ∧ l[k].j = x.j)) (hX : Ext W0 W) (e : m = k + 1) : TwRel W0 l x (.int .i64 (m : Int)) W := by
  subst e
  refine ⟨k + 1, by omega, rfl, ?_, hX⟩
  rw [List.take_succ_eq_append_getElem hk, List.map_append, List.mem_append]
  rintro (h1 | h1)
  · exact h h1
  · simp only [List.map_cons, List.map_nil, List.mem_cons, List.not_mem_nil, or_false, Tx.key, Prod.mk.injEq] at h1
    exact hn ⟨h1.1.symm, h1.2.symm⟩
theorem tw_hit {l : List Tx} {x : Tx} {k : Nat} (hk : k < l.length) (h1 : l[k].l = x.l) (h2 : l[k].j = x.j) : x.key ∈ l.map Tx.key :=
  List.mem_map.2 ⟨l[k], List.getElem_mem hk, by simp [Tx.key, h1, h2]⟩
set_option maxRecDepth 100000 in
set_option maxHeartbeats 2000000 in
theorem rtwice_any (l : List Tx) (n : Nat) (x : Tx) (A : Option Addr) (cap : Nat) (w : World) (hn : l.length = n) (hr : Reads w w.heap.size 6 A n (txCells l)) (hm : n ≤ 1000000) :
    Calls Tryz.prog 191 #[.slice A n cap, taxV x.l x.j x.t x.x x.r x.v] w fun e w' => e = .returned (.bool (decide (x.key ∈ l.map Tx.key))) ∧ Ext w w' := by
  subst hn
  have B0 := Blk.new w 117 #[.int .i64 x.l, .int .i64 x.j, .int .i64 x.t, .int .i64 x.x, .int .i64 x.r, .int .i64 x.v]
  have X0 := (Ext.refl w).alloc (.cells #[.int .i64 x.l, .int .i64 x.j, .int .i64 x.t, .int .i64 x.x, .int .i64 x.r, .int .i64 x.v] 117)
  unfold taxV
  obtain ⟨T, hT⟩ : ∃ T, decide (x.key ∈ l.map Tx.key) = T := ⟨_, rfl⟩
  rw [hT]
  replace hT := Lib.hid hT
  have hr0 := Lib.hid (fun W (hx : Ext w W) => hr.extB (Nat.le_refl _) hx)
  clear hr
  go_enter Tryz.func191, Tryz.ntmps191
  go_wp2_with fail
  generalize w.alloc (.cells #[.int .i64 x.l, .int .i64 x.j, .int .i64 x.t, .int .i64 x.x, .int .i64 x.r, .int .i64 x.v] 117) = W0 at *
  generalize hg0 : w.heap.size = g0 at B0 ⊢
  replace hg0 := Lib.hid hg0
  have HX0 := Lib.hid X0
  have HB0 := Lib.hid B0
  clear X0 B0
  go_loopw [5] (fun i wr => TwRel W0 l x i wr) (fun i _ => l.length - (intOf i).toNat)
  case atStart => exact ⟨0, by omega, rfl, by simp, Ext.refl _⟩
  case round =>
    obtain ⟨k, hk, rfl, hnk, hx⟩ := hrel
    by_cases hlt : k < l.length
    · have hd : decide ((k : Int) < (l.length : Int)) = true := by simp; omega
      obtain ⟨g, off, rfl, hg, hcl⟩ := (hr0.out wr (HX0.out.trans hx)).cellAt hlt
      obtain ⟨e1, e2, _, _, _, _⟩ := txCells_at l k hlt
      have c1 := hcl _ _ e1
      have c2 : wr.cell? ⟨g, off + k * 6 + 1, none⟩ = _ := hcl _ _ e2
      have kl : (k : Int) < (l.length : Int) := by omega
      have k0 : (0 : Int) ≤ (k : Int) := by omega
      obtain ⟨q, q'⟩ := (HB0.out.ext hx).cells
      have HN := Lib.hid (fun (W : World) (h : ¬ (l[k].l = x.l ∧ l[k].j = x.j)) hX => TwRel.next (W0 := W0) (W := W) (x := x) (m := k + 1) hlt hnk h hX rfl)
      have HH := Lib.hid (fun (h1 : l[k].l = x.l) (h2 : l[k].j = x.j) => (show T = true from by rw [← hT.out]; exact decide_eq_true (tw_hit hlt h1 h2)))
      clear e1 e2 hcl hnk
      generalize l[k].l = yl at *
      generalize l[k].j = yj at *
      by_cases h1 : yl = x.l
      · have g1 : (yl == x.l) = true := by simpa using h1
        by_cases h2 : yj = x.j
        · have g2 : (yj == x.j) = true := by simpa using h2
          have HE := Lib.hid (HH.out h1 h2)
          replace h1 := Lib.hid h1
          replace h2 := Lib.hid h2
          go_wp2_with fail
          go_quiet (fail)
          go_wp2_with fail
          go_ret
          exact ⟨by rw [HE.out]; rfl, (HX0.out.trans hx).drewN _⟩
        · have g2 : (yj == x.j) = false := by simpa using h2
          have HE := Lib.hid (fun W hX => HN.out W (fun h => h2 h.2) hX)
          replace h1 := Lib.hid h1
          replace h2 := Lib.hid h2
          go_wp2_with fail
          go_quiet (fail)
          go_wp2_with fail
          go_roundw
          case rel => exact HE.out _ (hx.drewN _)
          case measure => simp [intOf]; omega
      · have g1 : (yl == x.l) = false := by simpa using h1
        have HE := Lib.hid (fun W hX => HN.out W (fun h => h1 h.1) hX)
        replace h1 := Lib.hid h1
        go_wp2_with fail
        go_quiet (fail)
        go_wp2_with fail
        go_roundw
        case rel => exact HE.out _ (hx.drewN _)
        case measure => simp [intOf]; omega
    · have hd : decide ((k : Int) < (l.length : Int)) = false := by simp; omega
      have HE := Lib.hid (show T = false by rw [← hT.out]; rw [List.take_of_length_le (by omega)] at hnk; exact decide_eq_false hnk)
      clear hnk
      go_wp2_with fail
      go_ret
      exact ⟨by rw [HE.out]; rfl, HX0.out.trans hx⟩

/-- Where the checking stands. -/
def RCkRel (w : World) (l : List Tx) (i : Value) (wr : World) : Prop :=
  ∃ k : Nat, k ≤ l.length ∧ i = .int .i64 (k : Int) ∧ Ext w wr ∧ ckTx [] l = ckTx (l.take k) (l.drop k)
set_option maxRecDepth 100000 in
set_option maxHeartbeats 4000000 in
theorem rcheckTax_any (l : List Tx) (A : Option Addr) (cap : Nat) (w : World) (hr : Reads w w.heap.size 6 A l.length (txCells l)) (hc0 : l.length ≤ cap) (hm : cap ≤ maxLen) :
    Calls Tryz.prog 171 #[.slice A l.length cap] w fun e w' => e = .returned (.tuple #[.int .i64 (checkTax l).1, .int .i64 ((checkTax l).2 : Int)]) ∧ Ext w w' := by
  unfold maxLen at hm
  by_cases h0 : 6400 < l.length
  · have hd : decide ((6400 : Int) < (l.length : Int)) = true := by simp; omega
    have HE := Lib.hid (show checkTax l = (3, 0) by unfold checkTax; rw [if_pos h0])
    go_enter Tryz.func171, Tryz.ntmps171
    go_wp2_with fail
    go_ret2
    exact ⟨by rw [HE.out]; rfl, Ext.refl _⟩
  have hd0 : decide ((6400 : Int) < (l.length : Int)) = false := by simp; omega
  have HE := Lib.hid (show checkTax l = ckTx [] l by unfold checkTax; rw [if_neg h0])
  have HR := Lib.hid (fun W (hx : Ext w W) => hr.ext hx)
  go_enter Tryz.func171, Tryz.ntmps171
  go_wp2_with fail
  clear hd0
  go_loopw [4] (fun i wr => RCkRel w l i wr) (fun i _ => l.length - (intOf i).toNat)
  case atStart => exact ⟨0, by omega, rfl, Ext.refl w, by simp⟩
  case round =>
    obtain ⟨k, hk, rfl, hx, hc⟩ := hrel
    by_cases hlt : k < l.length
    · have hd : decide ((k : Int) < (l.length : Int)) = true := by simp; omega
      obtain ⟨g, off, hA, hg, hcl⟩ := (hr.extB (Nat.le_refl _) hx).cellAt hlt
      obtain ⟨e1, e2, e3, e4, e5, e6⟩ := txCells_at l k hlt
      have hgl : g < wr.heap.size := Nat.lt_of_lt_of_le hg hx.size
      have HC := Lib.hid hc
      have HL := Lib.hid (fun W (h : Ext wr W) => fun j u (hu : (txCells l)[j]? = some u) => (h.cell g (off + j) none hgl).trans (hcl j u hu))
      have kl : (k : Int) < (l.length : Int) := by omega
      have k0 : (0 : Int) ≤ (k : Int) := by omega
      clear hcl hr hc
      subst hA
      generalize hxe : l[k] = x at *
      replace hxe := Lib.hid hxe
      have H6 := Lib.hid (fun W (h : Ext wr W) => (show W.cell? ⟨g, off + k * 6, none⟩ = some (.int .i64 x.l) ∧ W.cell? ⟨g, off + k * 6 + 1, none⟩ = some (.int .i64 x.j) ∧ W.cell? ⟨g, off + k * 6 + 2, none⟩ = some (.int .i64 x.t) ∧ W.cell? ⟨g, off + k * 6 + 3, none⟩ = some (.int .i64 x.x) ∧ W.cell? ⟨g, off + k * 6 + 4, none⟩ = some (.int .i64 x.r) ∧ W.cell? ⟨g, off + k * 6 + 5, none⟩ = some (.int .i64 x.v) from
        ⟨HL.out W h _ _ e1, HL.out W h _ _ e2, HL.out W h _ _ e3, HL.out W h _ _ e4, HL.out W h _ _ e5, HL.out W h _ _ e6⟩))
      clear e1 e2 e3 e4 e5 e6
      obtain ⟨c1, c2, c3, c4, c5, c6⟩ := H6.out wr (Ext.refl wr)
      go_wp2_with fail
      refine (rone_any x.l x.j x.t x.x x.r x.v _).mono ?_
      rintro e v1 ⟨rfl, hx1⟩
      clear c1 c2 c3 c4 c5 c6
      obtain ⟨c1, c2, c3, c4, c5, c6⟩ := H6.out v1 hx1
      cases hok : x.ok
      · have HH := Lib.hid (HE.out.trans (HC.out.trans (ckTx_hit (e := 5) hlt (by rw [hxe.out]; exact bad_5 hok) (by decide))))
        have hok' : Tax1 x.l x.j x.t x.x x.r x.v = false := hok
        rw [hok']
        clear hok hok'
        go_wp2_with fail
        go_ret2
        exact ⟨by rw [HH.out]; rfl, hx.trans hx1⟩
      · have hok' : Tax1 x.l x.j x.t x.x x.r x.v = true := hok
        rw [hok']
        have HO := Lib.hid hok
        clear hok hok'
        rcases Nat.eq_zero_or_pos k with hk0 | hk0
        case' inl =>
          have hz : decide ((0 : Int) < (k : Int)) = false := by simp; omega
          have hz' : decide (0 < k) = false := by simp; omega
          have HW := Lib.hid (show Tx.below (l.take k) x = false by rw [hk0]; exact below_0 x)
          clear hk0
          go_wp2_with fail
          go_quiet (fail)
        case' inr =>
          obtain ⟨m, rfl⟩ : ∃ m, k = m + 1 := ⟨k - 1, by omega⟩
          have hml : m < l.length := by omega
          have hz : decide ((0 : Int) < (m : Int) + 1) = true := by rw [decide_eq_true_eq]; omega
          have hz' : decide (0 < m + 1) = true := by rw [decide_eq_true_eq]; omega
          have e1 := (txCells_at l m hml).1
          have d1 := HL.out _ hx1 _ _ e1
          have HW := below_at (l := l) (m := m) hlt
          rw [hxe.out] at HW
          have ml : (m : Int) < (l.length : Int) := by omega
          have m0 : (0 : Int) ≤ (m : Int) := by omega
          have ml1 : (m : Int) + 1 < (l.length : Int) := by omega
          clear e1
          generalize hye : l[m] = y at *
          replace hye := Lib.hid hye
          by_cases hb : x.l < y.l
          case' pos =>
            have hb' : decide (x.l < y.l) = true := by simpa using hb
            rw [hb'] at HW
            have HH := Lib.hid (HE.out.trans (HC.out.trans (ckTx_hit (e := 2) hlt (by rw [hxe.out]; exact bad_2 HO.out HW) (by decide))))
            clear hb HW
            go_wp2_with fail
            go_quiet (fail)
            go_wp2_with fail
            go_ret2
            exact ⟨by rw [HH.out]; rfl, (hx.trans hx1).drewN _⟩
          case' neg =>
            have hb' : decide (x.l < y.l) = false := by simpa using hb
            rw [hb'] at HW
            replace HW := Lib.hid HW
            clear hb
            go_wp2_with fail
            go_quiet (fail)
        case inl =>
          go_wp2_with fail
          have kc : (k : Int) ≤ (cap : Int) := by omega
          obtain ⟨tb, htb⟩ : ∃ tb, decide (x.key ∈ (l.take k).map Tx.key) = tb := ⟨_, rfl⟩
          replace htb := Lib.hid htb
          go_region_law (go_simp; go_at_call 191; refine (rtwice_any (l.take k) k x (some ⟨g, off, none⟩) cap _ (by rw [List.length_take]; omega) (by rw [show txCells (l.take k) = (txCells l).take (k * 6) from flat_take Tx.cl_len l k]; exact (HR.out _ (hx.trans ((hx1.drewN _).drew))).take hk) (by omega)).mono ?_; rintro e v4 ⟨rfl, hx4⟩; rw [htb.out]; have X4 := hx.trans ((hx1.drewN _).drew.trans hx4))
          all_goals
            have hin := htb.out
            cases tb
            · have hin' := hin
              replace hin := Lib.hid hin
              have HN := Lib.hid (show RCkRel w l (.int .i64 ((k + 1 : Nat) : Int)) v4 from ⟨k + 1, by omega, rfl, X4, by rw [HC.out, ckTx_step hlt (by rw [hxe.out]; exact bad_no HO.out HW.out (by simpa using hin'))]⟩)
              clear hin'
              go_wp2_with fail
              go_roundw
              case rel => exact HN.out
              case measure => simp [intOf]; omega
            · have HH := Lib.hid (HE.out.trans (HC.out.trans (ckTx_hit (e := 7) hlt (by rw [hxe.out]; exact bad_7 HO.out HW.out (by simpa using hin)) (by decide))))
              replace hin := Lib.hid hin
              go_wp2_with fail
              go_ret2
              exact ⟨by rw [HH.out]; rfl, X4⟩
        case inr =>
          go_wp2_with fail
          have kc : ((m + 1) : Int) ≤ (cap : Int) := by omega
          have kz : (0 : Int) ≤ (m : Int) + 1 := by omega
          obtain ⟨tb, htb⟩ : ∃ tb, decide (x.key ∈ (l.take (m + 1)).map Tx.key) = tb := ⟨_, rfl⟩
          replace htb := Lib.hid htb
          go_region_law (go_simp; go_at_call 191; refine (rtwice_any (l.take (m + 1)) (m + 1) x (some ⟨g, off, none⟩) cap _ (by rw [List.length_take]; omega) (by rw [show txCells (l.take (m + 1)) = (txCells l).take ((m + 1) * 6) from flat_take Tx.cl_len l (m + 1)]; exact (HR.out _ (hx.trans ((hx1.drewN _).drew))).take hk) (by omega)).mono ?_; rintro e v4 ⟨rfl, hx4⟩; rw [htb.out]; have X4 := hx.trans ((hx1.drewN _).drew.trans hx4))
          all_goals
            have hin := htb.out
            cases tb
            · have hin' := hin
              replace hin := Lib.hid hin
              have HN := Lib.hid (show RCkRel w l (.int .i64 (((m + 1) + 1 : Nat) : Int)) v4 from ⟨(m + 1) + 1, by omega, rfl, X4, by rw [HC.out, ckTx_step hlt (by rw [hxe.out]; exact bad_no HO.out HW.out (by simpa using hin'))]⟩)
              clear hin'
              go_wp2_with fail
              go_roundw
              case rel => exact HN.out
              case measure => simp [intOf]; omega
            · have HH := Lib.hid (HE.out.trans (HC.out.trans (ckTx_hit (e := 7) hlt (by rw [hxe.out]; exact bad_7 HO.out HW.out (by simpa using hin)) (by decide))))
              replace hin := Lib.hid hin
              go_wp2_with fail
              go_ret2
              exact ⟨by rw [HH.out]; rfl, X4⟩
    · have hd : decide ((k : Int) < (l.length : Int)) = false := by simp; omega
      have HH := Lib.hid (HE.out.trans (hc.trans (ckTx_end (by omega))))
      go_wp2_with fail
      go_ret2
      exact ⟨by rw [HH.out]; rfl, hx⟩
end Go.Proofs.YtokakpbpenndlaaGreatDoor
