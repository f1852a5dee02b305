/-
  order.CheckTax.
-/
import Derived.Test.YtokakpbpenndlaaGreatDoorRr14
import Derived.Test.YtokakpbpenndlaaGreatDoorRr07
import Derived.Test.YtokakpbpenndlaaGreatDoorRr12
import Derived.Laws.Externs
set_option linter.unusedVariables false
namespace Go.Proofs.YtokakpbpenndlaaGreatDoor
open Go.RowKit Go.Maps

/-- Where the loop stands. -/
def CkRel (w : World) (l : List Tx) (i : Value) (wr : World) : Prop :=
  ∃ k : Nat, k ≤ l.length ∧ i = .int .i64 (k : Int) ∧ Ext w wr ∧ MetIs wr w.heap.size k ((l.take k).map Tx.key) ∧ ckTx [] l = ckTx (l.take k) (l.drop k)
theorem CkRel.next {w w1 : World} {l : List Tx} {k m : Nat} (hk : k < l.length) (hx : Ext w w1) (hm : MetIs w1 w.heap.size (k + 1) ((l.take k).map Tx.key ++ [(l[k].l, l[k].j)])) (hc : ckTx [] l = ckTx (l.take k) (l.drop k)) (hb : Tx.bad (l.take k) l[k] = 0) (e : m = k + 1) : CkRel w l (.int .i64 (m : Int)) w1 := by
  subst e
  refine ⟨k + 1, by omega, rfl, hx, ?_, by rw [hc, ckTx_step hk hb]⟩
  rw [List.take_succ_eq_append_getElem hk, List.map_append]
  exact hm

set_option maxRecDepth 100000 in
set_option maxHeartbeats 4000000 in
theorem checkTax_any (l : List Tx) (A : Option Addr) (cap : Nat) (w : World) (hr : Reads w w.heap.size 6 A l.length (txCells l)) (hm : l.length ≤ maxLen) :
    Calls Tryz.prog 231 #[.slice A l.length cap] w fun e w' => e = .returned (.tuple #[.int .i64 (checkTax l).1, .int .i64 ((checkTax l).2 : Int)]) ∧ Ext w w' := by
  unfold maxLen at hm
  by_cases h0 : 6400 < l.length
  · have hd : decide ((6400 : Int) < (l.length : Int)) = true := by simp; omega
    have HE := Lib.hid (show checkTax l = (3, 0) by unfold checkTax; rw [if_pos h0])
    go_enter Tryz.func231, Tryz.ntmps231
    go_wp2_with fail
    go_ret2
    exact ⟨by rw [HE.out]; rfl, Ext.refl _⟩
  have hd0 : decide ((6400 : Int) < (l.length : Int)) = false := by simp; omega
  have HE := Lib.hid (show checkTax l = ckTx [] l by unfold checkTax; rw [if_neg h0])
  have hmm := @run_makeMap Tryz.prog
  go_enter Tryz.func231, Tryz.ntmps231
  go_wp2_with fail
  clear hmm hd0
  go_loopw [13] (fun i wr => CkRel w l i wr) (fun i _ => l.length - (intOf i).toNat)
  case atStart => exact ⟨0, by omega, rfl, (Ext.refl w).alloc _, by simpa using MetIs.made w, by simp⟩
  case round =>
    obtain ⟨k, hk, rfl, hx, hM, hc⟩ := hrel
    by_cases hlt : k < l.length
    · have hd : decide ((k : Int) < (l.length : Int)) = true := by simp; omega
      obtain ⟨g, off, rfl, hg, hcl⟩ := (hr.extB (Nat.le_refl _) hx).cellAt hlt
      obtain ⟨e1, e2, e3, e4, e5, e6⟩ := txCells_at l k hlt
      have c1 := hcl _ _ e1
      have c2 : wr.cell? ⟨g, off + k * 6 + 1, none⟩ = _ := hcl _ _ e2
      have c3 : wr.cell? ⟨g, off + k * 6 + 2, none⟩ = _ := hcl _ _ e3
      have c4 : wr.cell? ⟨g, off + k * 6 + 3, none⟩ = _ := hcl _ _ e4
      have c5 : wr.cell? ⟨g, off + k * 6 + 4, none⟩ = _ := hcl _ _ e5
      have c6 : wr.cell? ⟨g, off + k * 6 + 5, none⟩ = _ := hcl _ _ e6
      have hgl : g < wr.heap.size := Nat.lt_of_lt_of_le hg hx.size
      have HC := Lib.hid hc
      obtain ⟨KS, hKS⟩ : ∃ KS, KS = (l.take k).map Tx.key := ⟨_, rfl⟩
      rw [← hKS] at hM
      replace hKS := Lib.hid hKS
      have HM := Lib.hid hM
      have HL := Lib.hid (fun W (h : Ext wr W) => fun j u (hu : (txCells l)[j]? = some u) => (h.cell g (off + j) none hgl).trans (hcl j u hu))
      clear e1 e2 e3 e4 e5 e6 hcl hr hc hM
      have hbad := Lib.hid (rfl : Tx.bad (l.take k) l[k] = Tx.bad (l.take k) l[k])
      generalize hxe : l[k] = x at *
      replace hxe := Lib.hid hxe
      have HB := (Blk.new wr 117 #[.int .i64 x.l, .int .i64 x.j, .int .i64 x.t, .int .i64 x.x, .int .i64 x.r, .int .i64 x.v])
      replace HB := Lib.hid HB
      go_wp2_with fail
      refine (one_any x.l x.j x.t x.x x.r x.v _).mono ?_
      rintro e v1 ⟨rfl, hx1⟩
      have B1 := HB.out.ext hx1
      clear HB
      have X1 := ((Ext.refl wr).alloc (.cells #[.int .i64 x.l, .int .i64 x.j, .int .i64 x.t, .int .i64 x.x, .int .i64 x.r, .int .i64 x.v] 117)).trans hx1
      clear hx1 c1 c2 c3 c4 c5 c6
      generalize wr.heap.size = g6 at B1 ⊢
      obtain ⟨q6, q6'⟩ := B1.cells
      cases hok : x.ok
      · have HH := Lib.hid (HE.out.trans (HC.out.trans (ckTx_hit (e := 5) hlt (by rw [hxe.out]; exact bad_5 hok) (by decide))))
        have hok' : Tax1 x.l x.j x.t x.x x.r x.v = false := hok
        rw [hok']
        clear hok hok'
        go_wp2_with fail
        go_ret2
        exact ⟨by rw [HH.out]; rfl, hx.trans X1⟩
      · have hok' : Tax1 x.l x.j x.t x.x x.r x.v = true := hok
        rw [hok']
        have HO := Lib.hid hok
        clear hok hok'
        rcases Nat.eq_zero_or_pos k with hk0 | hk0
        case' inl =>
          have hz : decide ((0 : Int) < (k : Int)) = false := by simp; omega
          have hz' : decide (0 < k) = false := by simp; omega
          have HW := Lib.hid (show Tx.below (l.take k) x = false by rw [hk0]; exact below_0 x)
          clear hk0
          go_wp2_with fail
          go_quiet (fail)
        case' inr =>
          obtain ⟨m, rfl⟩ : ∃ m, k = m + 1 := ⟨k - 1, by omega⟩
          have hml : m < l.length := by omega
          have hz : decide ((0 : Int) < (m : Int) + 1) = true := by rw [decide_eq_true_eq]; omega
          have hz' : decide (0 < m + 1) = true := by rw [decide_eq_true_eq]; omega
          have e1 := (txCells_at l m hml).1
          have c1 := HL.out _ X1 _ _ e1
          have HW := below_at (l := l) (m := m) hlt
          rw [hxe.out] at HW
          clear e1
          generalize hye : l[m] = y at *
          replace hye := Lib.hid hye
          by_cases hb : x.l < y.l
          case' pos =>
            have hb' : decide (x.l < y.l) = true := by simpa using hb
            rw [hb'] at HW
            have HH := Lib.hid (HE.out.trans (HC.out.trans (ckTx_hit (e := 2) hlt (by rw [hxe.out]; exact bad_2 HO.out HW) (by decide))))
            clear hb HW
            go_wp2_with fail
            go_quiet (fail)
            go_wp2_with fail
            go_ret2
            exact ⟨by rw [HH.out]; rfl, (hx.trans X1).drewN _⟩
          case' neg =>
            have hb' : decide (x.l < y.l) = false := by simpa using hb
            rw [hb'] at HW
            replace HW := Lib.hid HW
            clear hb
            go_wp2_with fail
            go_quiet (fail)
        all_goals
          obtain ⟨il, ij, _⟩ := Tx.i64s HO.out
          go_wp2_with fail
          refine (twice_any _ _ KS x.l x.j il ij _ (by unfold maxLen; omega) ((HM.out.ext X1).ext ((Ext.refl v1).drewN _))).mono ?_
          rintro e v2 ⟨rfl, hM2, hG⟩
          have X2 : Ext w v2 := (hx.trans (X1.drewN _)).grown hG (by intro q hq; have := Option.some.inj hq; omega)
          have HIN := Lib.hid (rfl : decide ((x.l, x.j) ∈ KS) = decide ((x.l, x.j) ∈ KS))
          cases hin : decide ((x.l, x.j) ∈ KS)
          · replace hin := Lib.hid hin
            go_wp2_with fail
            go_roundw
            case rel => exact CkRel.next hlt X2 (by rw [hxe.out, ← hKS.out]; exact hM2) HC.out (by rw [hxe.out]; exact bad_no HO.out HW.out (by rw [← hKS.out]; simpa [Tx.key] using hin.out)) rfl
            case measure => simp [intOf]; omega
          · have HH := Lib.hid (HE.out.trans (HC.out.trans (ckTx_hit (e := 7) hlt (by rw [hxe.out]; exact bad_7 HO.out HW.out (by rw [← hKS.out]; simpa [Tx.key] using hin)) (by decide))))
            replace hin := Lib.hid hin
            go_wp2_with fail
            go_ret2
            exact ⟨by rw [HH.out]; rfl, X2⟩
    · have hd : decide ((k : Int) < (l.length : Int)) = false := by simp; omega
      have HH := Lib.hid (HE.out.trans (hc.trans (ckTx_end (by omega))))
      go_wp2_with fail
      go_ret2
      exact ⟨by rw [HH.out]; rfl, hx⟩
end Go.Proofs.YtokakpbpenndlaaGreatDoor

set_option linter.unusedVariables false
namespace Go.Proofs.YtokakpbpenndlaaGreatDoor
open Go.RowKit

theorem add64_any (x y c : Int) (hx : 0 ≤ x) (hy : 0 ≤ y) (hc0 : 0 ≤ c) (hc : c ≤ 1) (w : World) : (callFunc 116 #[.int .u64 x, .int .u64 y, .int .u64 c]).run Tryz.prog w =
    .ok (.value (.tuple #[.int .u64 ((x + y + c) % 18446744073709551616), .int .u64 ((x + y + c) / 18446744073709551616)])) w := by
  rw [run_callFunc_extern Tryz.func116 (by kernel_rfl) (by kernel_rfl) (by kernel_rfl) (e := add64Entry) (by kernel_rfl), run_add64 x y c hx hy hc0 hc]
  rfl
theorem add64_0 (x y : Int) (hx : 0 ≤ x) (hy : 0 ≤ y) (w : World) : (callFunc 116 #[.int .u64 x, .int .u64 y, .int .u64 0]).run Tryz.prog w =
    .ok (.value (.tuple #[.int .u64 ((x + y) % 18446744073709551616), .int .u64 ((x + y) / 18446744073709551616)])) w := by
  simpa using add64_any x y 0 hx hy (Int.le_refl 0) (by decide) w

/-- P1.3: the sum, and the error. -/
def sumL (l : List Int) : Int := l.foldl (· + ·) 0
theorem sumL_snoc (l : List Int) (n : Int) : sumL (l ++ [n]) = sumL l + n := by simp [sumL, List.foldl_append]
theorem sumL_take (l : List Int) (k : Nat) (h : k < l.length) : sumL (l.take (k + 1)) = sumL (l.take k) + l[k] := by
  rw [List.take_succ_eq_append_getElem h, sumL_snoc]
def sumI (l : List Int) : Int × Int := if -9223372036854775808 ≤ sumL l ∧ sumL l ≤ 9223372036854775807 then (sumL l, 0) else (0, 5)
theorem sumL_bd (l : List Int) (h : ∀ n ∈ l, i64 n) : ∀ k, k ≤ l.length → -9223372036854775808 * (k : Int) ≤ sumL (l.take k) ∧ sumL (l.take k) ≤ 9223372036854775807 * (k : Int) := by
  intro k
  induction k with
  | zero => intro _; simp [sumL]
  | succ k ih =>
    intro hk
    have := ih (by omega)
    rw [sumL_take l k (by omega)]
    have hi := h l[k] (List.getElem_mem _)
    unfold i64 at hi
    omega
theorem sm_out {S : Int} {n : Nat} (hn : n ≤ 1000000000) (h1 : -9223372036854775808 * (n : Int) ≤ S) (h2 : S ≤ 9223372036854775807 * (n : Int)) (h : ¬ (-9223372036854775808 ≤ S ∧ S ≤ 9223372036854775807)) :
    S / 18446744073709551616 % 18446744073709551616 ≠ RowKit.wrap64 (S % 18446744073709551616) / 9223372036854775808 % 18446744073709551616 := by
  have hS := Int.mul_ediv_add_emod S 18446744073709551616
  have hr : 0 ≤ S % 18446744073709551616 ∧ S % 18446744073709551616 < 18446744073709551616 := by omega
  have hq : -1000000000 ≤ S / 18446744073709551616 ∧ S / 18446744073709551616 ≤ 1000000000 := by omega
  generalize S / 18446744073709551616 = q at *
  generalize S % 18446744073709551616 = r at *
  have eq : q % 18446744073709551616 = if 0 ≤ q then q else q + 18446744073709551616 := by split <;> omega
  have er : RowKit.wrap64 r / 9223372036854775808 % 18446744073709551616 = if r < 9223372036854775808 then 0 else 18446744073709551615 := by
    unfold RowKit.wrap64
    by_cases hr2 : r < 9223372036854775808
    · rw [if_pos hr2, show (r + 9223372036854775808) % 18446744073709551616 - 9223372036854775808 = r by omega, show r / 9223372036854775808 = 0 by omega]; rfl
    · rw [if_neg hr2, show (r + 9223372036854775808) % 18446744073709551616 - 9223372036854775808 = r - 18446744073709551616 by omega, show (r - 18446744073709551616) / 9223372036854775808 = -1 by omega]; rfl
  rw [eq, er]
  split <;> split <;> omega
def SmRel (l : List Int) (hi lo i : Value) : Prop := ∃ k : Nat, k ≤ l.length ∧ i = .int .i64 (k : Int) ∧ lo = .int .u64 (sumL (l.take k) % 18446744073709551616) ∧ hi = .int .u64 (sumL (l.take k) / 18446744073709551616 % 18446744073709551616)
theorem sm_lo (S n : Int) (hn : i64 n) : (S % 18446744073709551616 + IntKind.u64.wrap n) % 18446744073709551616 = (S + n) % 18446744073709551616 := by
  unfold i64 at hn
  rw [IntKind.wrap_u64]; omega
theorem sm_hi (S n : Int) (hn : i64 n) : (S / 18446744073709551616 % 18446744073709551616 + IntKind.u64.wrap (n / 9223372036854775808) + (S % 18446744073709551616 + IntKind.u64.wrap n) / 18446744073709551616) % 18446744073709551616 = (S + n) / 18446744073709551616 % 18446744073709551616 := by
  unfold i64 at hn
  rw [IntKind.wrap_u64, IntKind.wrap_u64]
  have hS := Int.mul_ediv_add_emod S 18446744073709551616
  have hr : 0 ≤ S % 18446744073709551616 ∧ S % 18446744073709551616 < 18446744073709551616 := by omega
  generalize S / 18446744073709551616 = h at *
  generalize S % 18446744073709551616 = r at *
  by_cases h0 : 0 ≤ n
  · have e1 : n / 9223372036854775808 = 0 := by omega
    have e2 : n % 18446744073709551616 = n := by omega
    have e3 : (S + n) / 18446744073709551616 = h + (r + n) / 18446744073709551616 := by omega
    rw [e1, e2, e3]
    omega
  · have e1 : n / 9223372036854775808 = -1 := by omega
    have e2 : n % 18446744073709551616 = n + 18446744073709551616 := by omega
    have e3 : (S + n) / 18446744073709551616 = h - 1 + (r + n + 18446744073709551616) / 18446744073709551616 := by omega
    rw [e1, e2, e3, show r + (n + 18446744073709551616) = r + n + 18446744073709551616 by omega]
    omega
theorem sm_carry (S n : Int) : 0 ≤ (S % 18446744073709551616 + IntKind.u64.wrap n) / 18446744073709551616 ∧ (S % 18446744073709551616 + IntKind.u64.wrap n) / 18446744073709551616 ≤ 1 := by
  rw [IntKind.wrap_u64]; omega

end Go.Proofs.YtokakpbpenndlaaGreatDoor

set_option linter.unusedVariables false
namespace Go.Proofs.YtokakpbpenndlaaGreatDoor
open Go.RowKit

theorem iV_snoc (l : List Int) (n : Int) : iV (l ++ [n]) = iV l ++ [.int .i64 n] := by simp [iV]
theorem own_lt {w : World} {base : Nat} {e : TypeId} {size n : Nat} {v : Value} {xs : List Value} (h : w.ownsRow base e size v n xs) : ∀ g, v.ownBlock = some g → g < w.heap.size := by
  intro k hk
  rcases h.2 with ⟨rfl, _⟩ | ⟨g, cap, cur, rfl, _, hg, _⟩
  · simp [Value.ownBlock] at hk
  · have : g = k := by simpa [Value.ownBlock] using hk
    subst this
    exact (Array.getElem?_eq_some_iff.1 hg).1
/-- Two rows do not lie in one block. -/
def Apart (v v' : Value) : Prop := ∀ g, v.ownBlock = some g → v'.ownBlock ≠ some g
theorem Apart.symm {v v' : Value} (h : Apart v v') : Apart v' v := fun g h1 h2 => h g h2 h1
theorem Apart.nil (v : Value) (n c : Nat) : Apart (.slice none n c) v := fun g h => by simp [Value.ownBlock] at h
def ToRel (V : World) (g : Nat) (s1 s2 s3 : Int × Int) (j : Value) (wr : World) : Prop :=
  Ext V wr ∧ ((j = .int .i64 0 ∧ Blk wr g 136 #[.int .i64 0, .int .i64 0, .int .i64 0]) ∨ (j = .int .i64 1 ∧ s1.2 = 0 ∧ Blk wr g 136 #[.int .i64 s1.1, .int .i64 0, .int .i64 0]) ∨
    (j = .int .i64 2 ∧ s1.2 = 0 ∧ s2.2 = 0 ∧ Blk wr g 136 #[.int .i64 s1.1, .int .i64 s2.1, .int .i64 0]) ∨ (j = .int .i64 3 ∧ s1.2 = 0 ∧ s2.2 = 0 ∧ s3.2 = 0 ∧ Blk wr g 136 #[.int .i64 s1.1, .int .i64 s2.1, .int .i64 s3.1]))
/-- P25.4: the sums of tax lines, and the error. -/
def totalI (l : List Tx) : Tx × Int :=
  if (checkTax l).1 ≠ 0 then (Tx.zero, (checkTax l).1)
  else if (sumI (l.map Tx.t)).2 ≠ 0 then (Tx.zero, (sumI (l.map Tx.t)).2)
  else if (sumI (l.map Tx.x)).2 ≠ 0 then (Tx.zero, (sumI (l.map Tx.x)).2)
  else if (sumI (l.map Tx.v)).2 ≠ 0 then (Tx.zero, (sumI (l.map Tx.v)).2)
  else (⟨0, 0, (sumI (l.map Tx.t)).1, (sumI (l.map Tx.x)).1, 0, (sumI (l.map Tx.v)).1⟩, 0)

end Go.Proofs.YtokakpbpenndlaaGreatDoor
