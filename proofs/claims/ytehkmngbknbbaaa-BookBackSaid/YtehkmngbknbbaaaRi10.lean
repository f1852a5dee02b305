/-
  order.CheckTax.
-/
import Derived.Test.YtehkmngbknbbaaaRi09
import Derived.Test.YtehkmngbknbbaaaRi06
import Derived.Test.YtehkmngbknbbaaaRi02
set_option linter.unusedVariables false
namespace Go.Proofs.Ytehkmngbknbbaaa
open Go.RowKit Go.Maps

/-- Where the loop stands. -/
def CkRel (w : World) (l : List Tx) (i : Value) (wr : World) : Prop :=
  ∃ k : Nat, k ≤ l.length ∧ i = .int .i64 (k : Int) ∧ Ext w wr ∧ MetIs wr w.heap.size k ((l.take k).map Tx.key) ∧ ckTx [] l = ckTx (l.take k) (l.drop k)
theorem CkRel.next {w w1 : World} {l : List Tx} {k m : Nat} (hk : k < l.length) (hx : Ext w w1) (hm : MetIs w1 w.heap.size (k + 1) ((l.take k).map Tx.key ++ [(l[k].l, l[k].j)])) (hc : ckTx [] l = ckTx (l.take k) (l.drop k)) (hb : Tx.bad (l.take k) l[k] = 0) (e : m = k + 1) : CkRel w l (.int .i64 (m : Int)) w1 := by
  subst e
  refine ⟨k + 1, by omega, rfl, hx, ?_, by rw [hc, ckTx_step hk hb]⟩
  rw [List.take_succ_eq_append_getElem hk, List.map_append]
  exact hm

set_option maxRecDepth 100000 in
set_option maxHeartbeats 4000000 in
theorem checkTax_any (l : List Tx) (A : Option Addr) (cap : Nat) (w : World) (hr : Reads w w.heap.size 6 A l.length (txCells l)) (hm : l.length ≤ maxLen) :
    Calls Try.prog 28 #[.slice A l.length cap] w fun e w' => e = .returned (.tuple #[.int .i64 (checkTax l).1, .int .i64 ((checkTax l).2 : Int)]) ∧ Ext w w' := by
  unfold maxLen at hm
  by_cases h0 : 6400 < l.length
  · have hd : decide ((6400 : Int) < (l.length : Int)) = true := by simp; omega
    have HE := Lib.hid (show checkTax l = (3, 0) by unfold checkTax; rw [if_pos h0])
    go_enter Try.func28, Try.ntmps28
    go_wp2_with fail
    go_ret2
    exact ⟨by rw [HE.out]; rfl, Ext.refl _⟩
  have hd0 : decide ((6400 : Int) < (l.length : Int)) = false := by simp; omega
  have HE := Lib.hid (show checkTax l = ckTx [] l by unfold checkTax; rw [if_neg h0])
  have hmm := @run_makeMap Try.prog
  go_enter Try.func28, Try.ntmps28
  go_wp2_with fail
  clear hmm hd0
  go_loopw [13] (fun i wr => CkRel w l i wr) (fun i _ => l.length - (intOf i).toNat)
  case atStart => exact ⟨0, by omega, rfl, (Ext.refl w).alloc _, by simpa using MetIs.made w, by simp⟩
  case round =>
    obtain ⟨k, hk, rfl, hx, hM, hc⟩ := hrel
    by_cases hlt : k < l.length
    · have hd : decide ((k : Int) < (l.length : Int)) = true := by simp; omega
      obtain ⟨g, off, rfl, hg, hcl⟩ := (hr.extB (Nat.le_refl _) hx).cellAt hlt
      obtain ⟨e1, e2, e3, e4, e5, e6⟩ := txCells_at l k hlt
      have c1 := hcl _ _ e1
      have c2 : wr.cell? ⟨g, off + k * 6 + 1, none⟩ = _ := hcl _ _ e2
      have c3 : wr.cell? ⟨g, off + k * 6 + 2, none⟩ = _ := hcl _ _ e3
      have c4 : wr.cell? ⟨g, off + k * 6 + 3, none⟩ = _ := hcl _ _ e4
      have c5 : wr.cell? ⟨g, off + k * 6 + 4, none⟩ = _ := hcl _ _ e5
      have c6 : wr.cell? ⟨g, off + k * 6 + 5, none⟩ = _ := hcl _ _ e6
      have hgl : g < wr.heap.size := Nat.lt_of_lt_of_le hg hx.size
      have HC := Lib.hid hc
      obtain ⟨KS, hKS⟩ : ∃ KS, KS = (l.take k).map Tx.key := ⟨_, rfl⟩
      rw [← hKS] at hM
      replace hKS := Lib.hid hKS
      have HM := Lib.hid hM
      have HL := Lib.hid (fun W (h : Ext wr W) => fun j u (hu : (txCells l)[j]? = some u) => (h.cell g (off + j) none hgl).trans (hcl j u hu))
      clear e1 e2 e3 e4 e5 e6 hcl hr hc hM
      have hbad := Lib.hid (rfl : Tx.bad (l.take k) l[k] = Tx.bad (l.take k) l[k])
      generalize hxe : l[k] = x at *
      replace hxe := Lib.hid hxe
      have HB := (Blk.new wr 46 #[.int .i64 x.l, .int .i64 x.j, .int .i64 x.t, .int .i64 x.x, .int .i64 x.r, .int .i64 x.v])
      replace HB := Lib.hid HB
      go_wp2_with fail
      refine (one_any x.l x.j x.t x.x x.r x.v _).mono ?_
      rintro e v1 ⟨rfl, hx1⟩
      have B1 := HB.out.ext hx1
      clear HB
      have X1 := ((Ext.refl wr).alloc (.cells #[.int .i64 x.l, .int .i64 x.j, .int .i64 x.t, .int .i64 x.x, .int .i64 x.r, .int .i64 x.v] 46)).trans hx1
      clear hx1 c1 c2 c3 c4 c5 c6
      generalize wr.heap.size = g6 at B1 ⊢
      obtain ⟨q6, q6'⟩ := B1.cells
      cases hok : x.ok
      · have HH := Lib.hid (HE.out.trans (HC.out.trans (ckTx_hit (e := 5) hlt (by rw [hxe.out]; exact bad_5 hok) (by decide))))
        have hok' : Tax1 x.l x.j x.t x.x x.r x.v = false := hok
        rw [hok']
        clear hok hok'
        go_wp2_with fail
        go_ret2
        exact ⟨by rw [HH.out]; rfl, hx.trans X1⟩
      · have hok' : Tax1 x.l x.j x.t x.x x.r x.v = true := hok
        rw [hok']
        have HO := Lib.hid hok
        clear hok hok'
        rcases Nat.eq_zero_or_pos k with hk0 | hk0
        case' inl =>
          have hz : decide ((0 : Int) < (k : Int)) = false := by simp; omega
          have hz' : decide (0 < k) = false := by simp; omega
          have HW := Lib.hid (show Tx.below (l.take k) x = false by rw [hk0]; exact below_0 x)
          clear hk0
          go_wp2_with fail
          go_quiet (fail)
        case' inr =>
          obtain ⟨m, rfl⟩ : ∃ m, k = m + 1 := ⟨k - 1, by omega⟩
          have hml : m < l.length := by omega
          have hz : decide ((0 : Int) < (m : Int) + 1) = true := by rw [decide_eq_true_eq]; omega
          have hz' : decide (0 < m + 1) = true := by rw [decide_eq_true_eq]; omega
          have e1 := (txCells_at l m hml).1
          have c1 := HL.out _ X1 _ _ e1
          have HW := below_at (l := l) (m := m) hlt
          rw [hxe.out] at HW
          clear e1
          generalize hye : l[m] = y at *
          replace hye := Lib.hid hye
          by_cases hb : x.l < y.l
          case' pos =>
            have hb' : decide (x.l < y.l) = true := by simpa using hb
            rw [hb'] at HW
            have HH := Lib.hid (HE.out.trans (HC.out.trans (ckTx_hit (e := 2) hlt (by rw [hxe.out]; exact bad_2 HO.out HW) (by decide))))
            clear hb HW
            go_wp2_with fail
            go_quiet (fail)
            go_wp2_with fail
            go_ret2
            exact ⟨by rw [HH.out]; rfl, (hx.trans X1).drewN _⟩
          case' neg =>
            have hb' : decide (x.l < y.l) = false := by simpa using hb
            rw [hb'] at HW
            replace HW := Lib.hid HW
            clear hb
            go_wp2_with fail
            go_quiet (fail)
        all_goals
          obtain ⟨il, ij, _⟩ := Tx.i64s HO.out
          go_wp2_with fail
          refine (twice_any _ _ KS x.l x.j il ij _ (by unfold maxLen; omega) ((HM.out.ext X1).ext ((Ext.refl v1).drewN _))).mono ?_
          rintro e v2 ⟨rfl, hM2, hG⟩
          have X2 : Ext w v2 := (hx.trans (X1.drewN _)).grown hG (by intro q hq; have := Option.some.inj hq; omega)
          have HIN := Lib.hid (rfl : decide ((x.l, x.j) ∈ KS) = decide ((x.l, x.j) ∈ KS))
          cases hin : decide ((x.l, x.j) ∈ KS)
          · replace hin := Lib.hid hin
            go_wp2_with fail
            go_roundw
            case rel => exact CkRel.next hlt X2 (by rw [hxe.out, ← hKS.out]; exact hM2) HC.out (by rw [hxe.out]; exact bad_no HO.out HW.out (by rw [← hKS.out]; simpa [Tx.key] using hin.out)) rfl
            case measure => simp [intOf]; omega
          · have HH := Lib.hid (HE.out.trans (HC.out.trans (ckTx_hit (e := 7) hlt (by rw [hxe.out]; exact bad_7 HO.out HW.out (by rw [← hKS.out]; simpa [Tx.key] using hin)) (by decide))))
            replace hin := Lib.hid hin
            go_wp2_with fail
            go_ret2
            exact ⟨by rw [HH.out]; rfl, X2⟩
    · have hd : decide ((k : Int) < (l.length : Int)) = false := by simp; omega
      have HH := Lib.hid (HE.out.trans (hc.trans (ckTx_end (by omega))))
      go_wp2_with fail
      go_ret2
      exact ⟨by rw [HH.out]; rfl, hx⟩
end Go.Proofs.Ytehkmngbknbbaaa

set_option linter.unusedVariables false
namespace Go.Proofs.Ytehkmngbknbbaaa
open Go.RowKit

/-- Numbers as cells. -/
def iV (l : List Int) : List Value := l.map fun n => .int .i64 n
theorem iV_one (l : List Int) : ∀ u ∈ iV l, u.oneCell' = true := by
  intro u hu
  simp only [iV, List.mem_map] at hu
  obtain ⟨b, _, rfl⟩ := hu
  rfl
theorem iV_at (l : List Int) (k : Nat) (h : k < l.length) : (iV l)[k]? = some (.int .i64 l[k]) := by simp [iV, h]
def PutsRel (w : World) (l : List Int) (o i : Value) (wr : World) : Prop :=
  ∃ k : Nat, k ≤ l.length ∧ i = .int .i64 (k : Int) ∧ wr.ownsRow w.heap.size 5 1 o (putsL (l.take k)).length (bV (putsL (l.take k))) ∧ Ext w wr ∧ AllP wr o u8P
theorem PutsRel.next {w w1 : World} {l : List Int} {k : Nat} {v1 : Value} {n m : Nat} {xs : List Value} (hk : k < l.length) (hg : w1.ownsRow w.heap.size 5 1 v1 n xs) (hn : n = (putsL (l.take k)).length + (putL l[k]).length) (hxs : xs = bV (putsL (l.take k)) ++ bV (putL l[k])) (hx : Ext w w1) (hall : AllP w1 v1 u8P) (hm : m = k + 1) : PutsRel w l v1 (.int .i64 (m : Int)) w1 := by
  subst hm hn hxs
  refine ⟨k + 1, by omega, rfl, ?_, hx, hall⟩
  rw [putsL_snoc l k hk, bV_app, List.length_append]
  exact hg
theorem PutsRel.done {w w1 : World} {l : List Int} {k : Nat} {o : Value} (hk : k = l.length) (h : w1.ownsRow w.heap.size 5 1 o (putsL (l.take k)).length (bV (putsL (l.take k)))) : w1.ownsRow w.heap.size 5 1 o (putsL l).length (bV (putsL l)) := by
  subst hk; rwa [List.take_length] at h

set_option maxHeartbeats 400000 in
theorem oputs_any (l : List Int) (A : Option Addr) (cap : Nat) (w : World) (hr : Reads w w.heap.size 1 A l.length (iV l)) (hl : l.length ≤ 1000000) (hi : ∀ n ∈ l, i64 n) :
    Calls Try.prog 69 #[.slice A l.length cap] w fun e w' => ∃ v, e = .returned v ∧ w'.ownsRow w.heap.size 5 1 v (putsL l).length (bV (putsL l)) ∧ Ext w w' ∧ AllP w' v u8P := by
  go_enter Try.func69, Try.ntmps69
  go_wp2
  go_loopw [3, 8] (fun o i wr => PutsRel w l o i wr) (fun _ i _ => l.length - (intOf i).toNat)
  case atStart => exact ⟨0, by omega, rfl, World.ownsRow_nil _ _ _ _, Ext.refl _, AllP.nil _ _ _ _⟩
  case round =>
    obtain ⟨k, hk, rfl, hown, hx, hall⟩ := hrel
    by_cases hlt : k < l.length
    · have hd : decide ((k : Int) < (l.length : Int)) = true := by simp; omega
      have hr' := hr.extB (Nat.le_refl _) hx
      obtain ⟨b, off, rfl, hadb, hc⟩ := hr'.cellAt hlt
      have c1 := hc _ _ (iV_at l k hlt)
      clear hc hr hr'
      have hn := hi _ (List.getElem_mem hlt)
      have hlen := putL_len l[k]
      have hlen2 := putsL_len (l.take k)
      have hlen3 : (l.take k).length ≤ k := List.length_take_le _ _
      go_wp2_with (first
        | (go_at_call 100; refine (oput_any _ hn.1 hn.2 _).mono ?_; rintro e w1 ⟨v, rfl, hown1, hx1, _⟩; obtain ⟨A1, c1, rfl, hc1, hm1, hr1⟩ := own_slice hown1)
        | (at_builtin; refine wpl_app row_u8 w w1 (.tmp 12) (.tmp 14) rfl rfl rfl (own_ext hown hx1) (hx.trans hx1) rfl hr1 (bV_one _) (by omega) (by unfold maxLen; omega) ?_; intro v2 w2 hg))
      go_roundw
      case rel => exact PutsRel.next hlt hg.own rfl rfl hg.ext (hg.all u8P u8z (u8bb _ _) (hall.ext hx1)) rfl
      case measure => simp [intOf]; omega
    · have hd : decide ((k : Int) < (l.length : Int)) = false := by simp; omega
      have HO := PutsRel.done (by omega) hown
      go_wp2_with fail
      go_ret
      exact ⟨_, rfl, HO, hx, hall⟩

set_option maxHeartbeats 400000 in
theorem rputs_any (l : List Int) (A : Option Addr) (cap : Nat) (w : World) (hr : Reads w w.heap.size 1 A l.length (iV l)) (hl : l.length ≤ 1000000) (hi : ∀ n ∈ l, i64 n) :
    Calls Try.prog 70 #[.slice A l.length cap] w fun e w' => ∃ v, e = .returned v ∧ w'.ownsRow w.heap.size 5 1 v (putsL l).length (bV (putsL l)) ∧ Ext w w' ∧ AllP w' v u8P := by
  go_enter Try.func70, Try.ntmps70
  go_wp2
  go_loopw [3, 4] (fun o i wr => PutsRel w l o i wr) (fun _ i _ => l.length - (intOf i).toNat)
  case atStart => exact ⟨0, by omega, rfl, World.ownsRow_nil _ _ _ _, Ext.refl _, AllP.nil _ _ _ _⟩
  case round =>
    obtain ⟨k, hk, rfl, hown, hx, hall⟩ := hrel
    by_cases hlt : k < l.length
    · have hd : decide ((k : Int) < (l.length : Int)) = true := by simp; omega
      have hr' := hr.extB (Nat.le_refl _) hx
      obtain ⟨b, off, rfl, hadb, hc⟩ := hr'.cellAt hlt
      have c1 := hc _ _ (iV_at l k hlt)
      clear hc hr hr'
      have hn := hi _ (List.getElem_mem hlt)
      have hlen := putL_len l[k]
      have hlen2 := putsL_len (l.take k)
      have hlen3 : (l.take k).length ≤ k := List.length_take_le _ _
      go_wp2_with (first
        | (go_at_call 103; refine (rput_any _ hn.1 hn.2 _).mono ?_; rintro e w1 ⟨v, rfl, hown1, hx1, _⟩; obtain ⟨A1, c1, rfl, hc1, hm1, hr1⟩ := own_slice hown1)
        | (at_builtin; refine wpl_app row_u8 w w1 (.tmp 11) (.tmp 16) rfl rfl rfl (own_ext hown hx1) (hx.trans hx1) rfl hr1 (bV_one _) (by omega) (by unfold maxLen; omega) ?_; intro v2 w2 hg))
      go_roundw
      case rel => exact PutsRel.next hlt hg.own rfl rfl hg.ext (hg.all u8P u8z (u8bb _ _) (hall.ext hx1)) rfl
      case measure => simp [intOf]; omega
    · have hd : decide ((k : Int) < (l.length : Int)) = false := by simp; omega
      have HO := PutsRel.done (by omega) hown
      go_wp2_with fail
      go_ret
      exact ⟨_, rfl, HO, hx, hall⟩
end Go.Proofs.Ytehkmngbknbbaaa
