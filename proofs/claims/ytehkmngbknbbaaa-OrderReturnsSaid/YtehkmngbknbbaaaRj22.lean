/-
  The reference's Check and Bytes; the chapter's small order.
-/
import Derived.Test.YtehkmngbknbbaaaRj21
set_option linter.unusedVariables false
namespace Go.Proofs.Ytehkmngbknbbaaa
open Go.RowKit

theorem rwithin_any (n lo hi : Int) (w : World) :
    Calls Try.prog 67 #[.int .i64 n, .int .i64 lo, .int .i64 hi] w fun e w' => e = .returned (.bool (win n lo hi)) ∧ w = w' := by
  unfold win
  by_cases h1 : lo ≤ n <;> by_cases h2 : n ≤ hi
  all_goals
    go_enter Try.func67, Try.ntmps67
    go_wp2
    go_ret
    exact ⟨ret_bool (by simp [h1, h2]), rfl⟩
theorem fits_any (n : Int) (w : World) :
    Calls Try.prog 102 #[.int .i64 n] w fun e w' => e = .returned (.bool (win n (-1099511627775) 1099511627775)) ∧ w = w' := by
  unfold win
  by_cases h1 : -1099511627775 ≤ n <;> by_cases h2 : n ≤ 1099511627775
  all_goals
    go_enter Try.func102, Try.ntmps102
    go_wp2
    go_ret
    exact ⟨ret_bool (by simp [h1, h2]), rfl⟩
theorem valid_any (x y : Int) (w : World) :
    Calls Try.prog 68 #[.agg #[.int .i64 x, .int .i64 y]] w fun e w' => e = .returned (.bool (win x (-1099511627775) 1099511627775 && win y (-1099511627775) 1099511627775)) ∧ Ext w w' := by
  go_enter Try.func68, Try.ntmps68
  go_wp2_with (go_at_call 102; refine (fits_any _ _).mono ?_; rintro e w' ⟨rfl, rfl⟩)
  all_goals
    go_ret
    refine ⟨ret_bool ?_, (Ext.refl _).alloc _⟩
    go_tidy
    simp_all

def ordCells (o : Ord) (A : Option Addr) (cap : Nat) : Array Value := #[.int .i64 o.cu, .int .i64 o.day, .int .i64 o.px, .int .i64 o.py, .slice A o.ls.length cap]

set_option maxHeartbeats 2000000 in
theorem rcheck_any (o : Ord) (A : Option Addr) (cap : Nat) (w : World) (hr : Reads w w.heap.size 2 A o.ls.length (lnCells o.ls)) (hm : o.ls.length ≤ maxLen) :
    Calls Try.prog 18 #[.agg #[.int .i64 o.cu, .int .i64 o.day, .int .i64 o.px, .int .i64 o.py, .slice A o.ls.length cap]] w fun e w' => e = .returned (.tuple #[.int .i64 o.check.1, .int .i64 o.check.2]) ∧ Ext w w' := by
  unfold maxLen at hm
  obtain ⟨cu, day, px, py, ls⟩ := o
  simp only at *
  have h0c : Ord.head ⟨cu, day, px, py, ls⟩ = (win cu 0 1099511627775 && win day 0 3652058 && win px (-1099511627775) 1099511627775 && win py (-1099511627775) 1099511627775) := rfl
  rcases h0 : Ord.head ⟨cu, day, px, py, ls⟩
  · have H := Lib.hid (show Ord.check ⟨cu, day, px, py, ls⟩ = (5, 0) by simp [Ord.check, h0])
    have H0 := Lib.hid (h0c.symm.trans h0)
    clear h0 h0c
    go_enter Try.func18, Try.ntmps18
    go_wp2_with (first | (go_at_call 67; refine (rwithin_any _ _ _ _).mono ?_; rintro e w' ⟨rfl, rfl⟩) | (go_at_call 68; refine (valid_any _ _ _).mono ?_; rintro e w1 ⟨rfl, hx1⟩; have B1 := (Blk.new _ _ _).ext hx1; obtain ⟨q1, q1'⟩ := B1.cells))
    all_goals first | (go_ret2; exact ⟨by rw [H.out]; rfl, ((Ext.refl _).alloc _).trans hx1⟩) | (go_ret2; exact ⟨by rw [H.out]; rfl, (Ext.refl _).alloc _⟩) | (exfalso; have h9 := H0.out; go_tidy; simp_all; done)
  have h1 : win cu 0 1099511627775 = true := by simp_all
  have h2 : win day 0 3652058 = true := by simp_all
  have h3 : win px (-1099511627775) 1099511627775 = true := by simp_all
  have h4 : win py (-1099511627775) 1099511627775 = true := by simp_all
  clear h0c
  by_cases hl : ls.length = 0
  · have H := Lib.hid (show Ord.check ⟨cu, day, px, py, ls⟩ = (2, 0) by simp [Ord.check, h0, hl])
    have hb := eq0_t hl
    clear h0 hl
    go_enter Try.func18, Try.ntmps18
    go_wp2_with (first | (go_at_call 67; refine (rwithin_any _ _ _ _).mono ?_; rintro e w' ⟨rfl, rfl⟩) | (go_at_call 68; refine (valid_any _ _ _).mono ?_; rintro e w1 ⟨rfl, hx1⟩; have B1 := (Blk.new _ _ _).ext hx1; obtain ⟨q1, q1'⟩ := B1.cells))
    go_ret2
    exact ⟨by rw [H.out]; rfl, ((Ext.refl _).alloc _).trans hx1⟩
  have hb := eq0_f hl
  by_cases hl2 : 100 < ls.length
  · have H := Lib.hid (show Ord.check ⟨cu, day, px, py, ls⟩ = (3, 0) by simp [Ord.check, h0, hl, hl2])
    have hb2 := lt_t (show (100 : Int) < ls.length by omega)
    clear h0 hl
    go_enter Try.func18, Try.ntmps18
    go_wp2_with (first | (go_at_call 67; refine (rwithin_any _ _ _ _).mono ?_; rintro e w' ⟨rfl, rfl⟩) | (go_at_call 68; refine (valid_any _ _ _).mono ?_; rintro e w1 ⟨rfl, hx1⟩; have B1 := (Blk.new _ _ _).ext hx1; obtain ⟨q1, q1'⟩ := B1.cells))
    go_ret2
    exact ⟨by rw [H.out]; rfl, ((Ext.refl _).alloc _).trans hx1⟩
  have hb2 := lt_f (show (ls.length : Int) ≤ 100 by omega)
  have H : Hid (∀ r, badLn ls 0 = r → Ord.check ⟨cu, day, px, py, ls⟩ = match r with | some k => (5, (k : Int)) | none => (0, 0)) := fun r h => by simp [Ord.check, h0, hl, hl2, h]; rfl
  clear h0
  go_enter Try.func18, Try.ntmps18
  go_wp2_with (first | (go_at_call 67; refine (rwithin_any _ _ _ _).mono ?_; rintro e w' ⟨rfl, rfl⟩) | (go_at_call 68; refine (valid_any _ _ _).mono ?_; rintro e w1 ⟨rfl, hx1⟩; have B1 := (Blk.new _ _ _).ext hx1; obtain ⟨q1, q1'⟩ := B1.cells))
  clear q1 q1'
  have hx0 := ((Ext.refl w).alloc _).trans hx1
  go_loopw [4] (fun i wr => ∃ k : Nat, k ≤ ls.length ∧ i = .int .i64 k ∧ Ext w wr ∧ Blk wr w.heap.size 26 (ordCells ⟨cu, day, px, py, ls⟩ A cap) ∧ badLn (ls.take k) 0 = none) (fun i _ => ls.length - (intOf i).toNat)
  case atStart => exact ⟨0, by omega, rfl, hx0, B1, rfl⟩
  case round =>
    obtain ⟨k, hk, rfl, hx, B2, hbad⟩ := hrel
    clear B1 hx1 hx0
    have q0 : wr.cell? ⟨w.heap.size, 4, none⟩ = some (.slice A ls.length cap) := B2.cell 4
    by_cases hlt : k < ls.length
    · have hr' := hr.extB (Nat.le_refl _) hx
      obtain ⟨b, off, rfl, hadb, hc⟩ := hr'.cellAt hlt
      obtain ⟨e1, e2⟩ := lnCells_at ls k hlt
      have c1 := hc _ _ e1
      have c2 : wr.cell? ⟨b, off + k * 2 + 1, none⟩ = _ := hc _ _ e2
      clear hc e1 e2 hr hr'
      have hd : decide ((k : Int) < (ls.length : Int)) = true := by simp; omega
      rcases q1 : win ls[k].c 1 1099511627775 <;> rcases q2 : win ls[k].a 0 1099511627775
      case false.false | false.true | true.false =>
        have e : (ls[k]).ok = false := by simp [Ln.ok, *]
        have HB := Lib.hid (badLn_hit ls 0 k hlt hbad e)
        clear hbad e
        go_wp2_with (go_at_call 67; refine (rwithin_any _ _ _ _).mono ?_; rintro e w' ⟨rfl, rfl⟩)
        go_ret2
        refine ⟨?_, hx⟩
        rw [H.out _ HB.out]; simp
      case true.true =>
        have e : (ls[k]).ok = true := by simp [Ln.ok, *]
        have HB := Lib.hid (badLn_take ls 0 k hlt hbad e)
        clear hbad e
        go_wp2_with (go_at_call 67; refine (rwithin_any _ _ _ _).mono ?_; rintro e w' ⟨rfl, rfl⟩)
        go_roundw
        case rel => exact ⟨k + 1, by omega, by go_num, hx, B2, HB.out⟩
        case measure => simp [intOf]; omega
    · have e : k = ls.length := by omega
      have hd : decide ((k : Int) < (ls.length : Int)) = false := by simp; omega
      have HB := Lib.hid (show badLn ls 0 = none by rw [e, List.take_length] at hbad; exact hbad)
      clear hbad e
      go_wp2_with fail
      go_ret2
      refine ⟨?_, hx⟩
      rw [H.out _ HB.out]; rfl
end Go.Proofs.Ytehkmngbknbbaaa
