/-
  The reference's Back, one, Return.
-/
import Derived.Test.YtehkmngbknbbaaaRj12
import Derived.Test.YtehkmngbknbbaaaRj19
import Derived.Test.YtehkmngbknbbaaaRj22
set_option linter.unusedVariables false
namespace Go.Proofs.Ytehkmngbknbbaaa
open Go.RowKit

set_option maxRecDepth 100000 in
set_option maxHeartbeats 1000000 in
theorem rback_any (t n b a : Int) (w : World) :
    Calls Try.prog 32 #[.int .i64 t, .int .i64 n, .int .i64 b, .int .i64 a] w fun e w' => e = .returned (.tuple #[.int .i64 (backI t n b a).1, .int .i64 (backI t n b a).2]) ∧ Ext w w' := by
  by_cases h1 : win t 0 4611686018427387904 = false
  · have HB := Lib.hid (show backI t n b a = (0, 5) by unfold backI; rw [if_pos (.inl h1)])
    go_enter Try.func32, Try.ntmps32
    go_wp2_with (go_at_call 67; refine (rwithin_any _ _ _ _).mono ?_; rintro e w' ⟨rfl, rfl⟩)
    exact bodyPost_ret (results_tmp2 rfl _ _ _) rfl ⟨by rw [HB.out]; rfl, Ext.refl _⟩
  by_cases h2 : win n 0 4611686018427387904 = false
  · have HB := Lib.hid (show backI t n b a = (0, 5) by unfold backI; rw [if_pos (.inr h2)])
    have h1' : win t 0 4611686018427387904 = true := by simpa using h1
    clear h1
    go_enter Try.func32, Try.ntmps32
    go_wp2_with (go_at_call 67; refine (rwithin_any _ _ _ _).mono ?_; rintro e w' ⟨rfl, rfl⟩)
    exact bodyPost_ret (results_tmp2 rfl _ _ _) rfl ⟨by rw [HB.out]; rfl, Ext.refl _⟩
  have h1' : win t 0 4611686018427387904 = true := by simpa using h1
  have h2' : win n 0 4611686018427387904 = true := by simpa using h2
  have e0 : ¬ (win t 0 4611686018427387904 = false ∨ win n 0 4611686018427387904 = false) := by simp [h1', h2']
  by_cases h3 : b < 0
  · have HB := Lib.hid (show backI t n b a = (0, 2) by unfold backI; rw [if_neg e0, if_pos (.inl h3)])
    have g1 : decide (b < 0) = true := by simpa using h3
    clear h1 h2 e0
    go_enter Try.func32, Try.ntmps32
    go_wp2_with (go_at_call 67; refine (rwithin_any _ _ _ _).mono ?_; rintro e w' ⟨rfl, rfl⟩)
    exact bodyPost_ret (results_tmp2 rfl _ _ _) rfl ⟨by rw [HB.out]; rfl, Ext.refl _⟩
  have g1 : decide (b < 0) = false := by simpa using h3
  by_cases h4 : a < b
  · have HB := Lib.hid (show backI t n b a = (0, 2) by unfold backI; rw [if_neg e0, if_pos (.inr (.inl h4))])
    have g2 : decide (a < b) = true := by simpa using h4
    clear h1 h2 e0
    go_enter Try.func32, Try.ntmps32
    go_wp2_with (go_at_call 67; refine (rwithin_any _ _ _ _).mono ?_; rintro e w' ⟨rfl, rfl⟩)
    exact bodyPost_ret (results_tmp2 rfl _ _ _) rfl ⟨by rw [HB.out]; rfl, Ext.refl _⟩
  have g2 : decide (a < b) = false := by simpa using h4
  by_cases h5 : n < a
  · have HB := Lib.hid (show backI t n b a = (0, 2) by unfold backI; rw [if_neg e0, if_pos (.inr (.inr h5))])
    have g3 : decide (n < a) = true := by simpa using h5
    clear h1 h2 e0
    go_enter Try.func32, Try.ntmps32
    go_wp2_with (go_at_call 67; refine (rwithin_any _ _ _ _).mono ?_; rintro e w' ⟨rfl, rfl⟩)
    exact bodyPost_ret (results_tmp2 rfl _ _ _) rfl ⟨by rw [HB.out]; rfl, Ext.refl _⟩
  have g3 : decide (n < a) = false := by simpa using h5
  have e1 : ¬ (b < 0 ∨ a < b ∨ n < a) := by omega
  by_cases h6 : n = 0
  · have HB := Lib.hid (show backI t n b a = (0, 0) by unfold backI; rw [if_neg e0, if_neg e1, if_pos h6])
    have g4 : (n == 0) = true := by simpa using h6
    replace h6 := Lib.hid h6
    clear h1 h2 e0
    go_enter Try.func32, Try.ntmps32
    go_wp2_with (go_at_call 67; refine (rwithin_any _ _ _ _).mono ?_; rintro e w' ⟨rfl, rfl⟩)
    exact bodyPost_ret (results_tmp2 rfl _ _ _) rfl ⟨by rw [HB.out]; rfl, Ext.refl _⟩
  have g4 : (n == 0) = false := by simpa using h6
  have HB := Lib.hid (show backI t n b a = ((evenN t.toNat a.toNat n.toNat : Int) - evenN t.toNat b.toNat n.toNat, 0) by unfold backI; rw [if_neg e0, if_neg e1, if_neg h6])
  obtain ⟨t1, t2⟩ := win_bd h1'
  obtain ⟨n1, n2⟩ := win_bd h2'
  obtain ⟨t, rfl⟩ := Int.eq_ofNat_of_zero_le t1
  obtain ⟨n, rfl⟩ := Int.eq_ofNat_of_zero_le n1
  obtain ⟨b, rfl⟩ := Int.eq_ofNat_of_zero_le (show 0 ≤ b by omega)
  obtain ⟨a, rfl⟩ := Int.eq_ofNat_of_zero_le (show 0 ≤ a by omega)
  simp only [Int.toNat_natCast] at HB
  have hn : 0 < n := by omega
  have q5 : a ≤ n := by omega
  have q4 : b ≤ a := by omega
  have p1 := evenN_le (a := t) hn (show a ≤ n by omega)
  have p2 := evenN_le (a := t) hn (show b ≤ n by omega)
  have hw : RowKit.wrap64 ((evenN t a n : Int) - evenN t b n) = (evenN t a n : Int) - evenN t b n := by unfold RowKit.wrap64; omega
  replace hw := Lib.hid hw
  replace p1 := Lib.hid p1
  replace p2 := Lib.hid p2
  clear h1 h2 h3 h4 h5 h6 e0 e1 t1 n1
  go_enter Try.func32, Try.ntmps32
  go_wp2_with (go_at_call 67; refine (rwithin_any _ _ _ _).mono ?_; rintro e w' ⟨rfl, rfl⟩)
  refine (reven_any t a n (by omega) (by omega) hn (by omega) (by have := p1.out; omega) _).mono ?_
  rintro e v1 ⟨rfl, hx1⟩
  go_wp2_with fail
  refine (reven_any t b n (by omega) (by omega) hn (by omega) (by have := p2.out; omega) _).mono ?_
  rintro e v2 ⟨rfl, hx2⟩
  go_wp2_with fail
  exact bodyPost_ret (results_tmp2 rfl _ _ _) rfl ⟨by rw [HB.out]; show Ending.returned (.tuple #[.int .i64 (RowKit.wrap64 ((evenN t a n : Int) - evenN t b n)), .int .i64 0]) = _; rw [hw.out], hx1.trans hx2⟩

theorem tax1_alt (a b c d e f : Int) : Tax1 a b c d e f = (win a 0 99 && win b 1 1099511627775 && win c 0 4611686018427387904 && win d 0 4611686018427387904 && win f 0 4611686018427387904 && win e 0 1000000 && decide (c ≤ 4611686018427387904 - d)) := by
  rw [Bool.eq_iff_iff]
  simp only [Tax1, win, Bool.and_eq_true, decide_eq_true_eq]
  omega
set_option maxRecDepth 100000 in
set_option maxHeartbeats 1000000 in
theorem rone_any (a b c d e f : Int) (w : World) : Calls Try.prog 86 #[taxV a b c d e f] w fun r w' => r = .returned (.bool (Tax1 a b c d e f)) ∧ Ext w w' := by
  unfold taxV
  obtain ⟨T, hT⟩ : ∃ T, Tax1 a b c d e f = T := ⟨_, rfl⟩
  rw [hT]
  rw [tax1_alt] at hT
  cases w1 : win a 0 99
  case' true =>
    cases w2 : win b 1 1099511627775
    case' true =>
      cases w3 : win c 0 4611686018427387904
      case' true =>
        cases w4 : win d 0 4611686018427387904
        case' true =>
          cases w5 : win f 0 4611686018427387904
          case' true =>
            cases w6 : win e 0 1000000
            case true =>
              rw [w1, w2, w3, w4, w5, w6] at hT
              simp only [Bool.and_self, Bool.true_and] at hT
              obtain ⟨d1, d2⟩ := win_bd w4
              subst hT
              go_enter Try.func86, Try.ntmps86
              go_wp2_with (go_at_call 67; refine (rwithin_any _ _ _ _).mono ?_; rintro e w' ⟨rfl, rfl⟩)
              exact bodyPost_ret (results_tmp rfl _ _ _) rfl ⟨rfl, (Ext.refl w).alloc _⟩
  all_goals
    have hT2 : T = false := by
      rw [← hT]
      simp [*]
    subst hT2
    clear hT
    go_enter Try.func86, Try.ntmps86
    go_wp2_with (go_at_call 67; refine (rwithin_any _ _ _ _).mono ?_; rintro e w' ⟨rfl, rfl⟩)
    exact bodyPost_ret (results_tmp rfl _ _ _) rfl ⟨rfl, (Ext.refl w).alloc _⟩
set_option maxRecDepth 100000 in
set_option maxHeartbeats 2000000 in
theorem rreturn_any (x : Tx) (b a : Int) (w : World) : Calls Try.prog 33 #[x.V, .int .i64 b, .int .i64 a] w fun r w' => r = .returned (.tuple #[(x.ret b a).1.V, .int .i64 (x.ret b a).2]) ∧ Ext w w' := by
  have B3 := Lib.hid ((Blk.new w 46 #[.int .i64 x.l, .int .i64 x.j, .int .i64 x.t, .int .i64 x.x, .int .i64 x.r, .int .i64 x.v]).alloc (.cells #[.int .i64 0, .int .i64 0, .int .i64 0, .int .i64 0, .int .i64 0, .int .i64 0] 46))
  have B6 : Hid (Blk ((w.alloc (.cells #[.int .i64 x.l, .int .i64 x.j, .int .i64 x.t, .int .i64 x.x, .int .i64 x.r, .int .i64 x.v] 46)).alloc (.cells #[.int .i64 0, .int .i64 0, .int .i64 0, .int .i64 0, .int .i64 0, .int .i64 0] 46)) (w.heap.size + 1) 46 #[.int .i64 0, .int .i64 0, .int .i64 0, .int .i64 0, .int .i64 0, .int .i64 0]) := Lib.hid (by
    have := Blk.new (w.alloc (.cells #[.int .i64 x.l, .int .i64 x.j, .int .i64 x.t, .int .i64 x.x, .int .i64 x.r, .int .i64 x.v] 46)) 46 #[.int .i64 0, .int .i64 0, .int .i64 0, .int .i64 0, .int .i64 0, .int .i64 0]
    simpa using this)
  have kk : w.heap.size ≤ w.heap.size + 1 := by omega
  have nn : w.heap.size + 1 ≠ w.heap.size := by omega
  cases hok : x.ok
  · have HR := Lib.hid (show x.ret b a = (Tx.zero, 5) by unfold Tx.ret; rw [if_pos hok])
    replace hok := Lib.hid hok
    unfold Tx.V taxV
    go_enter Try.func33, Try.ntmps33
    go_wp2_with fail
    refine (rone_any x.l x.j x.t x.x x.r x.v _).mono ?_
    rintro e v1 ⟨rfl, hx1⟩
    rw [show Tax1 x.l x.j x.t x.x x.r x.v = false from hok.out]
    have X1 := (((Ext.refl w).alloc _).alloc _).trans hx1
    have C6 := B6.out.ext hx1
    clear hx1 B3 B6
    obtain ⟨q6, q6'⟩ := C6.cells
    go_wp2_with fail
    refine bodyPost_ret (results_ct rfl rfl (ld_tax (put6_blk (a := .int .i64 0) (b := .int .i64 0) (c := .int .i64 0) (d := .int .i64 0) (e := .int .i64 0) (f := .int .i64 0) C6))) rfl ⟨by rw [HR.out]; rfl, put6_ext X1 kk⟩
  · obtain ⟨b1, b2, b3, b4, b5, b6⟩ := Tx.ok_bd hok
    have hu := Lib.hid (show x.ret b a = if (backI x.t (x.t + x.x) b a).2 ≠ 0 then (Tx.zero, (backI x.t (x.t + x.x) b a).2)
      else ({ x with t := (backI x.t (x.t + x.x) b a).1, x := a - b - (backI x.t (x.t + x.x) b a).1, v := (backI x.v (x.t + x.x) b a).1 }, 0) by
        unfold Tx.ret; rw [if_neg (by simp [hok])])
    replace hok := Lib.hid hok
    by_cases he : (backI x.t (x.t + x.x) b a).2 = 0
    · have HR := Lib.hid (hu.out.trans (if_neg (by simpa using he)))
      have hbd := backI_ok he
      have he0 : ((backI x.t (x.t + x.x) b a).2 != 0) = false := by simp [he]
      clear hu
      replace he := Lib.hid he
      generalize hT : (backI x.t (x.t + x.x) b a).1 = T at *
      generalize hE : (backI x.t (x.t + x.x) b a).2 = E at *
      replace hT := Lib.hid hT
      replace hE := Lib.hid hE
      obtain ⟨_, _, c1, c2, c3, c4, c5⟩ := hbd
      unfold Tx.V taxV
      go_enter Try.func33, Try.ntmps33
      go_wp2_with fail
      refine (rone_any x.l x.j x.t x.x x.r x.v _).mono ?_
      rintro e v1 ⟨rfl, hx1⟩
      rw [show Tax1 x.l x.j x.t x.x x.r x.v = true from hok.out]
      have X1 := (((Ext.refl w).alloc _).alloc _).trans hx1
      have C3 := B3.out.ext hx1
      have C6 := B6.out.ext hx1
      clear hx1 B3 B6
      obtain ⟨q3, q3'⟩ := C3.cells
      go_wp2_with fail
      refine (rback_any x.t (x.t + x.x) b a _).mono ?_
      rintro e v2 ⟨rfl, hx2⟩
      rw [hT.out, hE.out]
      have X2 := X1.trans hx2
      replace C3 := C3.ext hx2
      replace C6 := C6.ext hx2
      clear hx2 X1 q3 q3'
      obtain ⟨q3, q3'⟩ := C3.cells
      go_wp2_with fail
      refine (rback_any x.v (x.t + x.x) b a _).mono ?_
      rintro e v3 ⟨rfl, hx3⟩
      have X3 := X2.trans hx3
      replace C3 := C3.ext hx3
      replace C6 := C6.ext hx3
      clear hx3 X2 q3 q3'
      obtain ⟨q3, q3'⟩ := C3.cells
      obtain ⟨q6, q6'⟩ := C6.cells
      generalize hV : (backI x.v (x.t + x.x) b a).1 = V at *
      generalize hV2 : (backI x.v (x.t + x.x) b a).2 = V2 at *
      replace hV := Lib.hid hV
      replace hV2 := Lib.hid hV2
      go_wp2_with fail
      have B : Blk _ (w.heap.size + 1) 46 #[.int .i64 x.l, .int .i64 x.j, .int .i64 T, .int .i64 (a - b - T), .int .i64 x.r, .int .i64 V] :=
        put6_blk (((C6.far (p := ⟨w.heap.size, 2, none⟩) nn (.int .i64 T)).far (p := ⟨w.heap.size, 3, none⟩) nn (.int .i64 (a - b - T))).far (p := ⟨w.heap.size, 5, none⟩) nn (.int .i64 V))
      refine bodyPost_ret (results_ct rfl rfl (ld_tax B)) rfl ⟨by rw [HR.out]; rfl, put6_ext (((X3.set (p := ⟨w.heap.size, 2, none⟩) (Nat.le_refl _) (.int .i64 T)).set (p := ⟨w.heap.size, 3, none⟩) (Nat.le_refl _) (.int .i64 (a - b - T))).set (p := ⟨w.heap.size, 5, none⟩) (Nat.le_refl _) (.int .i64 V)) kk⟩
    · have HR := Lib.hid (hu.out.trans (if_pos he))
      have he0 : ((backI x.t (x.t + x.x) b a).2 != 0) = true := by simpa using he
      clear hu
      replace he := Lib.hid he
      generalize hT : (backI x.t (x.t + x.x) b a).1 = T at *
      generalize hE : (backI x.t (x.t + x.x) b a).2 = E at *
      replace hT := Lib.hid hT
      replace hE := Lib.hid hE
      unfold Tx.V taxV
      go_enter Try.func33, Try.ntmps33
      go_wp2_with fail
      refine (rone_any x.l x.j x.t x.x x.r x.v _).mono ?_
      rintro e v1 ⟨rfl, hx1⟩
      rw [show Tax1 x.l x.j x.t x.x x.r x.v = true from hok.out]
      have X1 := (((Ext.refl w).alloc _).alloc _).trans hx1
      have C3 := B3.out.ext hx1
      have C6 := B6.out.ext hx1
      clear hx1 B3 B6
      obtain ⟨q3, q3'⟩ := C3.cells
      go_wp2_with fail
      refine (rback_any x.t (x.t + x.x) b a _).mono ?_
      rintro e v2 ⟨rfl, hx2⟩
      rw [hT.out, hE.out]
      have X2 := X1.trans hx2
      replace C6 := C6.ext hx2
      clear hx2 X1 q3 q3' C3
      obtain ⟨q6, q6'⟩ := C6.cells
      go_wp2_with fail
      refine bodyPost_ret (results_ct rfl rfl (ld_tax (put6_blk (a := .int .i64 0) (b := .int .i64 0) (c := .int .i64 0) (d := .int .i64 0) (e := .int .i64 0) (f := .int .i64 0) C6))) rfl ⟨by rw [HR.out]; rfl, put6_ext X2 kk⟩
end Go.Proofs.Ytehkmngbknbbaaa
