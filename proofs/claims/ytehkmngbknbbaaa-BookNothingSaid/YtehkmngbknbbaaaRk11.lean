/-
  Orders as bytes, by the program and by the reference; the reference's Check.
-/
import Derived.Test.YtehkmngbknbbaaaRk10
import Derived.StillTailTactics
set_option linter.unusedVariables false
namespace Go.Proofs.Ytehkmngbknbbaaa
open Go.RowKit

def Ord.bytes (o : Ord) : List UInt8 := if o.check.1 = 0 then putsL (o.hd ++ lnInts o.ls) else []
theorem Ord.bytes_ok {o : Ord} (h : o.check.1 = 0) : o.bytes = putsL o.hd ++ putsL (lnInts o.ls) := by rw [Ord.bytes, if_pos h, putsL_app]
theorem Ord.bytes_no {o : Ord} (h : o.check.1 ≠ 0) : o.bytes = [] := by rw [Ord.bytes, if_neg h]
theorem win_i64 {n lo hi : Int} (h : win n lo hi = true) (h1 : -9223372036854775808 ≤ lo) (h2 : hi ≤ 9223372036854775807) : i64 n := by
  have := win_bd h; exact ⟨by omega, by omega⟩
theorem Ord.hd_i64 {o : Ord} (h : o.check.1 = 0) : ∀ n ∈ o.hd, i64 n := by
  obtain ⟨h0, _, h2, _⟩ := Ord.check_ok h
  simp only [Ord.head, Bool.and_eq_true] at h0
  obtain ⟨⟨⟨a, b⟩, c⟩, d⟩ := h0
  intro n hn
  simp only [Ord.hd, List.mem_cons, List.not_mem_nil, or_false] at hn
  rcases hn with rfl | rfl | rfl | rfl | rfl
  · exact win_i64 a (by omega) (by omega)
  · exact win_i64 b (by omega) (by omega)
  · exact win_i64 c (by omega) (by omega)
  · exact win_i64 d (by omega) (by omega)
  · exact ⟨by omega, by omega⟩
theorem Ln.i64 {l : Ln} (h : l.ok = true) : ∀ n ∈ [l.c, l.a], Go.Proofs.Ytehkmngbknbbaaa.i64 n := by
  simp only [Ln.ok, Bool.and_eq_true] at h
  intro n hn
  simp only [List.mem_cons, List.not_mem_nil, or_false] at hn
  rcases hn with rfl | rfl
  · exact win_i64 h.1 (by omega) (by omega)
  · exact win_i64 h.2 (by omega) (by omega)

def OBRel (w : World) (o : Ord) (out i : Value) (wr : World) : Prop :=
  ∃ k : Nat, k ≤ o.ls.length ∧ i = .int .i64 (k : Int) ∧ wr.ownsRow w.heap.size 5 1 out (putsL (o.hd ++ lnInts (o.ls.take k))).length (bV (putsL (o.hd ++ lnInts (o.ls.take k)))) ∧ Ext w wr ∧ AllP wr out u8P
theorem OBRel.next {w w1 : World} {o : Ord} {k : Nat} {v1 : Value} {n m : Nat} {xs : List Value} {x : Ln} (hk : k < o.ls.length) (hx0 : o.ls[k] = x) (hg : w1.ownsRow w.heap.size 5 1 v1 n xs) (hn : n = (putsL (o.hd ++ lnInts (o.ls.take k))).length + (putsL [x.c, x.a]).length) (hxs : xs = bV (putsL (o.hd ++ lnInts (o.ls.take k))) ++ bV (putsL [x.c, x.a])) (hx : Ext w w1) (hall : AllP w1 v1 u8P) (hm : m = k + 1) : OBRel w o v1 (.int .i64 (m : Int)) w1 := by
  subst hm hn hxs hx0
  refine ⟨k + 1, by omega, rfl, ?_, hx, hall⟩
  rw [lnInts_snoc _ k hk, ← List.append_assoc, putsL_app (o.hd ++ lnInts (o.ls.take k)), bV_app, List.length_append]
  exact hg
theorem OBRel.done {w w1 : World} {o : Ord} {k : Nat} {out : Value} (hc : o.check.1 = 0) (hk : k = o.ls.length) (h : w1.ownsRow w.heap.size 5 1 out (putsL (o.hd ++ lnInts (o.ls.take k))).length (bV (putsL (o.hd ++ lnInts (o.ls.take k))))) : w1.ownsRow w.heap.size 5 1 out o.bytes.length (bV o.bytes) := by
  subst hk; rw [List.take_length] at h; rw [Ord.bytes, if_pos hc]; exact h

set_option maxHeartbeats 1000000 in
theorem obytes_any (o : Ord) (A : Option Addr) (cap : Nat) (w : World) (hr : Reads w w.heap.size 2 A o.ls.length (lnCells o.ls)) (hm : o.ls.length ≤ maxLen) :
    Calls Try.prog 19 #[ordV o A cap] w fun e w' => ∃ v, e = .returned (.tuple #[v, .int .i64 o.check.1]) ∧ w'.ownsRow w.heap.size 5 1 v o.bytes.length (bV o.bytes) ∧ Ext w w' ∧ AllP w' v u8P := by
  have RR := fun ob : Obj => hr.ext ((Ext.refl w).alloc ob)
  simp only [ordV]
  by_cases hc : o.check.1 = 0
  · have hb : (o.check.1 != 0) = false := by simp [hc]
    obtain ⟨hk0, hk1, hk2, hk3⟩ := Ord.check_ok hc
    have hi := Ord.hd_i64 hc
    have HC := Lib.hid hc
    have RR := Lib.hid RR
    clear hc hk0
    go_enter Try.func19, Try.ntmps19
    go_wp2_with (first
      | (go_at_call 17; refine (check_any o A cap _ (RR.out _) hm).mono ?_; rintro e w1 ⟨rfl, hx1⟩; have B1 := (Blk.new _ _ _).ext hx1; obtain ⟨q1, q1'⟩ := B1.cells)
      | (go_at_call 69; refine (oputs_any o.hd _ _ _ (reads_new' _ _ _ 5 1 (by simp) rfl) (by simp [Ord.hd]) hi).mono ?_; rintro e w2 ⟨v2, rfl, ho2, hx2, ha2⟩; have B2 := (B1.alloc _).ext hx2; obtain ⟨q2, q2'⟩ := B2.cells))
    clear q1 q1' q2 q2' B2 B1
    have hx0 : Ext w w2 := ((((Ext.refl w).alloc _).trans hx1).alloc _).trans hx2
    go_loopw [6, 35] (fun out i wr => OBRel w o out i wr) (fun _ i _ => o.ls.length - (intOf i).toNat)
    case atStart => exact ⟨0, by omega, rfl, own_base (by simpa [lnInts] using ho2) (by have := hx1.size; simp at this ⊢; omega), hx0, ha2⟩
    case round =>
      obtain ⟨k, hk, rfl, hown, hx, hall⟩ := hrel
      clear ho2 hx1 hx2 hx0
      by_cases hlt : k < o.ls.length
      · have hd : decide ((k : Int) < (o.ls.length : Int)) = true := by simp; omega
        obtain ⟨g, off, rfl, hg, hcl⟩ := (hr.extB (Nat.le_refl _) hx).cellAt hlt
        obtain ⟨e1, e2⟩ := lnCells_at o.ls k hlt
        have c1 := hcl _ _ e1
        have c2 : wr.cell? ⟨g, off + k * 2 + 1, none⟩ = _ := hcl _ _ e2
        clear hcl e1 e2
        have hi2 := Ln.i64 (hk3 _ (List.getElem_mem hlt))
        generalize hxe : o.ls[k] = x at *
        have HX := Lib.hid hxe
        clear hxe
        have hlen := putsL_len [x.c, x.a]
        have hlen2 := putsL_len (o.hd ++ lnInts (o.ls.take k))
        have hlen3 : (o.hd ++ lnInts (o.ls.take k)).length ≤ 5 + 2 * k := by rw [List.length_append, lnInts_len]; simp [Ord.hd]; omega
        have hlen4 : [x.c, x.a].length = 2 := rfl
        go_wp2_with (first
          | (go_at_call 69; refine (oputs_any [x.c, x.a] _ _ _ (reads_new' _ _ _ 2 1 (by simp) rfl) (by simp) hi2).mono ?_; rintro e w3 ⟨v3, rfl, ho3, hx3, _⟩; obtain ⟨A3, c3, rfl, hc3, hm3, hr3⟩ := own_slice ho3)
          | (at_builtin; refine wpl_app row_u8 w w3 (.tmp 39) (.tmp 45) rfl rfl rfl (own_ext hown ((((Ext.refl wr).alloc _).alloc _).trans hx3)) (hx.trans ((((Ext.refl wr).alloc _).alloc _).trans hx3)) rfl hr3 (bV_one _) (by omega) (by unfold maxLen; omega) ?_; intro v4 w4 hg4))
        go_roundw
        case rel => exact OBRel.next hlt HX.out hg4.own rfl rfl hg4.ext (hg4.all u8P u8z (u8bb _ _) (hall.ext ((((Ext.refl wr).alloc _).alloc _).trans hx3))) rfl
        case measure => simp [intOf]; omega
      · have hd : decide ((k : Int) < (o.ls.length : Int)) = false := by simp; omega
        have HO := OBRel.done HC.out (by omega) hown
        have HE := Lib.hid HC.out
        go_wp2_with fail
        go_ret2
        refine ⟨_, ?_, HO, hx, hall⟩
        rw [HC.out]
        rfl
  · have hb : (o.check.1 != 0) = true := by simp [hc]
    have HB := Lib.hid (Ord.bytes_no hc)
    have RR := Lib.hid RR
    clear hc
    go_enter Try.func19, Try.ntmps19
    go_wp2_with (go_at_call 17; refine (check_any o A cap _ (RR.out _) hm).mono ?_; rintro e w1 ⟨rfl, hx1⟩)
    go_ret2
    refine ⟨_, rfl, ?_, ((Ext.refl w).alloc _).trans hx1, AllP.nil _ _ _ _⟩
    rw [HB.out]; exact World.ownsRow_nil _ _ _ _
end Go.Proofs.Ytehkmngbknbbaaa

set_option linter.unusedVariables false
namespace Go.Proofs.Ytehkmngbknbbaaa
open Go.RowKit

theorem rwithin_any (n lo hi : Int) (w : World) :
    Calls Try.prog 67 #[.int .i64 n, .int .i64 lo, .int .i64 hi] w fun e w' => e = .returned (.bool (win n lo hi)) ∧ w = w' := by
  unfold win
  by_cases h1 : lo ≤ n <;> by_cases h2 : n ≤ hi
  all_goals
    go_enter Try.func67, Try.ntmps67
    go_wp2
    go_ret
    exact ⟨ret_bool (by simp [h1, h2]), rfl⟩
theorem fits_any (n : Int) (w : World) :
    Calls Try.prog 102 #[.int .i64 n] w fun e w' => e = .returned (.bool (win n (-1099511627775) 1099511627775)) ∧ w = w' := by
  unfold win
  by_cases h1 : -1099511627775 ≤ n <;> by_cases h2 : n ≤ 1099511627775
  all_goals
    go_enter Try.func102, Try.ntmps102
    go_wp2
    go_ret
    exact ⟨ret_bool (by simp [h1, h2]), rfl⟩
theorem valid_any (x y : Int) (w : World) :
    Calls Try.prog 68 #[.agg #[.int .i64 x, .int .i64 y]] w fun e w' => e = .returned (.bool (win x (-1099511627775) 1099511627775 && win y (-1099511627775) 1099511627775)) ∧ Ext w w' := by
  go_enter Try.func68, Try.ntmps68
  go_wp2_with (go_at_call 102; refine (fits_any _ _).mono ?_; rintro e w' ⟨rfl, rfl⟩)
  all_goals
    go_ret
    refine ⟨ret_bool ?_, (Ext.refl _).alloc _⟩
    go_tidy
    simp_all

def ordCells (o : Ord) (A : Option Addr) (cap : Nat) : Array Value := #[.int .i64 o.cu, .int .i64 o.day, .int .i64 o.px, .int .i64 o.py, .slice A o.ls.length cap]

set_option maxHeartbeats 2000000 in
theorem rcheck_any (o : Ord) (A : Option Addr) (cap : Nat) (w : World) (hr : Reads w w.heap.size 2 A o.ls.length (lnCells o.ls)) (hm : o.ls.length ≤ maxLen) :
    Calls Try.prog 18 #[.agg #[.int .i64 o.cu, .int .i64 o.day, .int .i64 o.px, .int .i64 o.py, .slice A o.ls.length cap]] w fun e w' => e = .returned (.tuple #[.int .i64 o.check.1, .int .i64 o.check.2]) ∧ Ext w w' := by
  unfold maxLen at hm
  obtain ⟨cu, day, px, py, ls⟩ := o
  simp only at *
  have h0c : Ord.head ⟨cu, day, px, py, ls⟩ = (win cu 0 1099511627775 && win day 0 3652058 && win px (-1099511627775) 1099511627775 && win py (-1099511627775) 1099511627775) := rfl
  rcases h0 : Ord.head ⟨cu, day, px, py, ls⟩
  · have H := Lib.hid (show Ord.check ⟨cu, day, px, py, ls⟩ = (5, 0) by simp [Ord.check, h0])
    have H0 := Lib.hid (h0c.symm.trans h0)
    clear h0 h0c
    go_enter Try.func18, Try.ntmps18
    go_wp2_with (first | (go_at_call 67; refine (rwithin_any _ _ _ _).mono ?_; rintro e w' ⟨rfl, rfl⟩) | (go_at_call 68; refine (valid_any _ _ _).mono ?_; rintro e w1 ⟨rfl, hx1⟩; have B1 := (Blk.new _ _ _).ext hx1; obtain ⟨q1, q1'⟩ := B1.cells))
    all_goals first | (go_ret2; exact ⟨by rw [H.out]; rfl, ((Ext.refl _).alloc _).trans hx1⟩) | (go_ret2; exact ⟨by rw [H.out]; rfl, (Ext.refl _).alloc _⟩) | (exfalso; have h9 := H0.out; go_tidy; simp_all; done)
  have h1 : win cu 0 1099511627775 = true := by simp_all
  have h2 : win day 0 3652058 = true := by simp_all
  have h3 : win px (-1099511627775) 1099511627775 = true := by simp_all
  have h4 : win py (-1099511627775) 1099511627775 = true := by simp_all
  clear h0c
  by_cases hl : ls.length = 0
  · have H := Lib.hid (show Ord.check ⟨cu, day, px, py, ls⟩ = (2, 0) by simp [Ord.check, h0, hl])
    have hb := eq0_t hl
    clear h0 hl
    go_enter Try.func18, Try.ntmps18
    go_wp2_with (first | (go_at_call 67; refine (rwithin_any _ _ _ _).mono ?_; rintro e w' ⟨rfl, rfl⟩) | (go_at_call 68; refine (valid_any _ _ _).mono ?_; rintro e w1 ⟨rfl, hx1⟩; have B1 := (Blk.new _ _ _).ext hx1; obtain ⟨q1, q1'⟩ := B1.cells))
    go_ret2
    exact ⟨by rw [H.out]; rfl, ((Ext.refl _).alloc _).trans hx1⟩
  have hb := eq0_f hl
  by_cases hl2 : 100 < ls.length
  · have H := Lib.hid (show Ord.check ⟨cu, day, px, py, ls⟩ = (3, 0) by simp [Ord.check, h0, hl, hl2])
    have hb2 := lt_t (show (100 : Int) < ls.length by omega)
    clear h0 hl
    go_enter Try.func18, Try.ntmps18
    go_wp2_with (first | (go_at_call 67; refine (rwithin_any _ _ _ _).mono ?_; rintro e w' ⟨rfl, rfl⟩) | (go_at_call 68; refine (valid_any _ _ _).mono ?_; rintro e w1 ⟨rfl, hx1⟩; have B1 := (Blk.new _ _ _).ext hx1; obtain ⟨q1, q1'⟩ := B1.cells))
    go_ret2
    exact ⟨by rw [H.out]; rfl, ((Ext.refl _).alloc _).trans hx1⟩
  have hb2 := lt_f (show (ls.length : Int) ≤ 100 by omega)
  have H : Hid (∀ r, badLn ls 0 = r → Ord.check ⟨cu, day, px, py, ls⟩ = match r with | some k => (5, (k : Int)) | none => (0, 0)) := fun r h => by simp [Ord.check, h0, hl, hl2, h]; rfl
  clear h0
  go_enter Try.func18, Try.ntmps18
  go_wp2_with (first | (go_at_call 67; refine (rwithin_any _ _ _ _).mono ?_; rintro e w' ⟨rfl, rfl⟩) | (go_at_call 68; refine (valid_any _ _ _).mono ?_; rintro e w1 ⟨rfl, hx1⟩; have B1 := (Blk.new _ _ _).ext hx1; obtain ⟨q1, q1'⟩ := B1.cells))
  clear q1 q1'
  have hx0 := ((Ext.refl w).alloc _).trans hx1
  go_loopw [4] (fun i wr => ∃ k : Nat, k ≤ ls.length ∧ i = .int .i64 k ∧ Ext w wr ∧ Blk wr w.heap.size 26 (ordCells ⟨cu, day, px, py, ls⟩ A cap) ∧ badLn (ls.take k) 0 = none) (fun i _ => ls.length - (intOf i).toNat)
  case atStart => exact ⟨0, by omega, rfl, hx0, B1, rfl⟩
  case round =>
    obtain ⟨k, hk, rfl, hx, B2, hbad⟩ := hrel
    clear B1 hx1 hx0
    have q0 : wr.cell? ⟨w.heap.size, 4, none⟩ = some (.slice A ls.length cap) := B2.cell 4
    by_cases hlt : k < ls.length
    · have hr' := hr.extB (Nat.le_refl _) hx
      obtain ⟨b, off, rfl, hadb, hc⟩ := hr'.cellAt hlt
      obtain ⟨e1, e2⟩ := lnCells_at ls k hlt
      have c1 := hc _ _ e1
      have c2 : wr.cell? ⟨b, off + k * 2 + 1, none⟩ = _ := hc _ _ e2
      clear hc e1 e2 hr hr'
      have hd : decide ((k : Int) < (ls.length : Int)) = true := by simp; omega
      rcases q1 : win ls[k].c 1 1099511627775 <;> rcases q2 : win ls[k].a 0 1099511627775
      case false.false | false.true | true.false =>
        have e : (ls[k]).ok = false := by simp [Ln.ok, *]
        have HB := Lib.hid (badLn_hit ls 0 k hlt hbad e)
        clear hbad e
        go_wp2_with (go_at_call 67; refine (rwithin_any _ _ _ _).mono ?_; rintro e w' ⟨rfl, rfl⟩)
        go_ret2
        refine ⟨?_, hx⟩
        rw [H.out _ HB.out]; simp
      case true.true =>
        have e : (ls[k]).ok = true := by simp [Ln.ok, *]
        have HB := Lib.hid (badLn_take ls 0 k hlt hbad e)
        clear hbad e
        go_wp2_with (go_at_call 67; refine (rwithin_any _ _ _ _).mono ?_; rintro e w' ⟨rfl, rfl⟩)
        go_roundw
        case rel => exact ⟨k + 1, by omega, by go_num, hx, B2, HB.out⟩
        case measure => simp [intOf]; omega
    · have e : k = ls.length := by omega
      have hd : decide ((k : Int) < (ls.length : Int)) = false := by simp; omega
      have HB := Lib.hid (show badLn ls 0 = none by rw [e, List.take_length] at hbad; exact hbad)
      clear hbad e
      go_wp2_with fail
      go_ret2
      refine ⟨?_, hx⟩
      rw [H.out _ HB.out]; rfl
end Go.Proofs.Ytehkmngbknbbaaa
