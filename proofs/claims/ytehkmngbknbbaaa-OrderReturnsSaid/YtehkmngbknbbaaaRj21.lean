/-
  Orders as bytes, by the program and by the reference; the reference's Check.
-/
import Derived.Test.YtehkmngbknbbaaaRj20
import Derived.StillTailTactics
set_option linter.unusedVariables false
namespace Go.Proofs.Ytehkmngbknbbaaa
open Go.RowKit

def Ord.bytes (o : Ord) : List UInt8 := if o.check.1 = 0 then putsL (o.hd ++ lnInts o.ls) else []
theorem Ord.bytes_ok {o : Ord} (h : o.check.1 = 0) : o.bytes = putsL o.hd ++ putsL (lnInts o.ls) := by rw [Ord.bytes, if_pos h, putsL_app]
theorem Ord.bytes_no {o : Ord} (h : o.check.1 ≠ 0) : o.bytes = [] := by rw [Ord.bytes, if_neg h]
theorem win_i64 {n lo hi : Int} (h : win n lo hi = true) (h1 : -9223372036854775808 ≤ lo) (h2 : hi ≤ 9223372036854775807) : i64 n := by
  have := win_bd h; exact ⟨by omega, by omega⟩
theorem Ord.hd_i64 {o : Ord} (h : o.check.1 = 0) : ∀ n ∈ o.hd, i64 n := by
  obtain ⟨h0, _, h2, _⟩ := Ord.check_ok h
  simp only [Ord.head, Bool.and_eq_true] at h0
  obtain ⟨⟨⟨a, b⟩, c⟩, d⟩ := h0
  intro n hn
  simp only [Ord.hd, List.mem_cons, List.not_mem_nil, or_false] at hn
  rcases hn with rfl | rfl | rfl | rfl | rfl
  · exact win_i64 a (by omega) (by omega)
  · exact win_i64 b (by omega) (by omega)
  · exact win_i64 c (by omega) (by omega)
  · exact win_i64 d (by omega) (by omega)
  · exact ⟨by omega, by omega⟩
theorem Ln.i64 {l : Ln} (h : l.ok = true) : ∀ n ∈ [l.c, l.a], Go.Proofs.Ytehkmngbknbbaaa.i64 n := by
  simp only [Ln.ok, Bool.and_eq_true] at h
  intro n hn
  simp only [List.mem_cons, List.not_mem_nil, or_false] at hn
  rcases hn with rfl | rfl
  · exact win_i64 h.1 (by omega) (by omega)
  · exact win_i64 h.2 (by omega) (by omega)

def OBRel (w : World) (o : Ord) (out i : Value) (wr : World) : Prop :=
  ∃ k : Nat, k ≤ o.ls.length ∧ i = .int .i64 (k : Int) ∧ wr.ownsRow w.heap.size 5 1 out (putsL (o.hd ++ lnInts (o.ls.take k))).length (bV (putsL (o.hd ++ lnInts (o.ls.take k)))) ∧ Ext w wr ∧ AllP wr out u8P
theorem OBRel.next {w w1 : World} {o : Ord} {k : Nat} {v1 : Value} {n m : Nat} {xs : List Value} {x : Ln} (hk : k < o.ls.length) (hx0 : o.ls[k] = x) (hg : w1.ownsRow w.heap.size 5 1 v1 n xs) (hn : n = (putsL (o.hd ++ lnInts (o.ls.take k))).length + (putsL [x.c, x.a]).length) (hxs : xs = bV (putsL (o.hd ++ lnInts (o.ls.take k))) ++ bV (putsL [x.c, x.a])) (hx : Ext w w1) (hall : AllP w1 v1 u8P) (hm : m = k + 1) : OBRel w o v1 (.int .i64 (m : Int)) w1 := by
  subst hm hn hxs hx0
  refine ⟨k + 1, by omega, rfl, ?_, hx, hall⟩
  rw [lnInts_snoc _ k hk, ← List.append_assoc, putsL_app (o.hd ++ lnInts (o.ls.take k)), bV_app, List.length_append]
  exact hg
theorem OBRel.done {w w1 : World} {o : Ord} {k : Nat} {out : Value} (hc : o.check.1 = 0) (hk : k = o.ls.length) (h : w1.ownsRow w.heap.size 5 1 out (putsL (o.hd ++ lnInts (o.ls.take k))).length (bV (putsL (o.hd ++ lnInts (o.ls.take k))))) : w1.ownsRow w.heap.size 5 1 out o.bytes.length (bV o.bytes) := by
  subst hk; rw [List.take_length] at h; rw [Ord.bytes, if_pos hc]; exact h

set_option maxHeartbeats 1000000 in
theorem obytes_any (o : Ord) (A : Option Addr) (cap : Nat) (w : World) (hr : Reads w w.heap.size 2 A o.ls.length (lnCells o.ls)) (hm : o.ls.length ≤ maxLen) :
    Calls Try.prog 19 #[ordV o A cap] w fun e w' => ∃ v, e = .returned (.tuple #[v, .int .i64 o.check.1]) ∧ w'.ownsRow w.heap.size 5 1 v o.bytes.length (bV o.bytes) ∧ Ext w w' ∧ AllP w' v u8P := by
  have RR := fun ob : Obj => hr.ext ((Ext.refl w).alloc ob)
  simp only [ordV]
  by_cases hc : o.check.1 = 0
  · have hb : (o.check.1 != 0) = false := by simp [hc]
    obtain ⟨hk0, hk1, hk2, hk3⟩ := Ord.check_ok hc
    have hi := Ord.hd_i64 hc
    have HC := Lib.hid hc
    have RR := Lib.hid RR
    clear hc hk0
    go_enter Try.func19, Try.ntmps19
    go_wp2_with (first
      | (go_at_call 17; refine (check_any o A cap _ (RR.out _) hm).mono ?_; rintro e w1 ⟨rfl, hx1⟩; have B1 := (Blk.new _ _ _).ext hx1; obtain ⟨q1, q1'⟩ := B1.cells)
      | (go_at_call 69; refine (oputs_any o.hd _ _ _ (reads_new' _ _ _ 5 1 (by simp) rfl) (by simp [Ord.hd]) hi).mono ?_; rintro e w2 ⟨v2, rfl, ho2, hx2, ha2⟩; have B2 := (B1.alloc _).ext hx2; obtain ⟨q2, q2'⟩ := B2.cells))
    clear q1 q1' q2 q2' B2 B1
    have hx0 : Ext w w2 := ((((Ext.refl w).alloc _).trans hx1).alloc _).trans hx2
    go_loopw [6, 35] (fun out i wr => OBRel w o out i wr) (fun _ i _ => o.ls.length - (intOf i).toNat)
    case atStart => exact ⟨0, by omega, rfl, own_base (by simpa [lnInts] using ho2) (by have := hx1.size; simp at this ⊢; omega), hx0, ha2⟩
    case round =>
      obtain ⟨k, hk, rfl, hown, hx, hall⟩ := hrel
      clear ho2 hx1 hx2 hx0
      by_cases hlt : k < o.ls.length
      · have hd : decide ((k : Int) < (o.ls.length : Int)) = true := by simp; omega
        obtain ⟨g, off, rfl, hg, hcl⟩ := (hr.extB (Nat.le_refl _) hx).cellAt hlt
        obtain ⟨e1, e2⟩ := lnCells_at o.ls k hlt
        have c1 := hcl _ _ e1
        have c2 : wr.cell? ⟨g, off + k * 2 + 1, none⟩ = _ := hcl _ _ e2
        clear hcl e1 e2
        have hi2 := Ln.i64 (hk3 _ (List.getElem_mem hlt))
        generalize hxe : o.ls[k] = x at *
        have HX := Lib.hid hxe
        clear hxe
        have hlen := putsL_len [x.c, x.a]
        have hlen2 := putsL_len (o.hd ++ lnInts (o.ls.take k))
        have hlen3 : (o.hd ++ lnInts (o.ls.take k)).length ≤ 5 + 2 * k := by rw [List.length_append, lnInts_len]; simp [Ord.hd]; omega
        have hlen4 : [x.c, x.a].length = 2 := rfl
        go_wp2_with (first
          | (go_at_call 69; refine (oputs_any [x.c, x.a] _ _ _ (reads_new' _ _ _ 2 1 (by simp) rfl) (by simp) hi2).mono ?_; rintro e w3 ⟨v3, rfl, ho3, hx3, _⟩; obtain ⟨A3, c3, rfl, hc3, hm3, hr3⟩ := own_slice ho3)
          | (at_builtin; refine wpl_app row_u8 w w3 (.tmp 39) (.tmp 45) rfl rfl rfl (own_ext hown ((((Ext.refl wr).alloc _).alloc _).trans hx3)) (hx.trans ((((Ext.refl wr).alloc _).alloc _).trans hx3)) rfl hr3 (bV_one _) (by omega) (by unfold maxLen; omega) ?_; intro v4 w4 hg4))
        go_roundw
        case rel => exact OBRel.next hlt HX.out hg4.own rfl rfl hg4.ext (hg4.all u8P u8z (u8bb _ _) (hall.ext ((((Ext.refl wr).alloc _).alloc _).trans hx3))) rfl
        case measure => simp [intOf]; omega
      · have hd : decide ((k : Int) < (o.ls.length : Int)) = false := by simp; omega
        have HO := OBRel.done HC.out (by omega) hown
        have HE := Lib.hid HC.out
        go_wp2_with fail
        go_ret2
        refine ⟨_, ?_, HO, hx, hall⟩
        rw [HC.out]
        rfl
  · have hb : (o.check.1 != 0) = true := by simp [hc]
    have HB := Lib.hid (Ord.bytes_no hc)
    have RR := Lib.hid RR
    clear hc
    go_enter Try.func19, Try.ntmps19
    go_wp2_with (go_at_call 17; refine (check_any o A cap _ (RR.out _) hm).mono ?_; rintro e w1 ⟨rfl, hx1⟩)
    go_ret2
    refine ⟨_, rfl, ?_, ((Ext.refl w).alloc _).trans hx1, AllP.nil _ _ _ _⟩
    rw [HB.out]; exact World.ownsRow_nil _ _ _ _
end Go.Proofs.Ytehkmngbknbbaaa
