/-
  The reference's numbers: carried.
-/
import Derived.Test.YtokakpbpenndlaaGreatDoorRt02
import Derived.Deep.QuietTactic
import Derived.StillTailTactics
import Derived.IntWalk
set_option linter.unusedVariables false
namespace Go.Proofs.YtokakpbpenndlaaGreatDoor
open Go.RowKit

theorem allZ_dig {S : Nat} (h : S < 65536 ^ 12) : allZ (digI S) = decide (S = 0) := by
  rw [Bool.eq_iff_iff, allZ_iff, decide_eq_true_eq]
  constructor
  · intro ha
    have h1 := sumD_dig12 h
    rw [sumD_congr (g := fun _ => 0) (k := 12) (fun i hi => by have := ha i hi; unfold digI at this; omega)] at h1
    have : ∀ k, sumD (fun _ => 0) k = 0 := by
      intro k
      induction k with
      | zero => rfl
      | succ k ih => rw [sumD, ih]; simp
    rw [this] at h1
    exact h1.symm
  · intro h0 i _
    subst h0
    simp [digI, dig]
/-- Where the carrying stands. -/
def CarRel (w : World) (s : Bool) (f : Nat → Nat) (i : Value) (wr : World) : Prop :=
  ∃ k : Nat, k ≤ 11 ∧ i = .int .i64 (k : Int) ∧ Blk wr w.heap.size 143 (numC s (fun j => ((cst f k j : Nat) : Int))) ∧ Blk wr (w.heap.size + 1) 143 (numC false (fun _ => 0)) ∧ Ext w wr
theorem CarRel.next {w W : World} {s : Bool} {f : Nat → Nat} {k m : Nat} (hk : k < 11) {x y : Int} (hx : x = ((cst f k (k + 1) : Nat) : Int) + ((cst f k k : Nat) : Int) / 65536) (hy : y = ((cst f k k : Nat) : Int) % 65536)
    (B : Blk W w.heap.size 143 ((numC s (fun j => ((cst f k j : Nat) : Int))).setIfInBounds (1 + (k + 1)) (.int .i64 x) |>.setIfInBounds (1 + k) (.int .i64 y))) (B2 : Blk W (w.heap.size + 1) 143 (numC false (fun _ => 0))) (hX : Ext w W) (e : m = k + 1) : CarRel w s f (.int .i64 (m : Int)) W := by
  subst e hx hy
  rw [numC_set _ _ _ (k + 1) (by omega), numC_set _ _ _ k (by omega)] at B
  refine ⟨k + 1, by omega, rfl, ?_, B2, hX⟩
  rw [cst_step]
  have e : (fun j => ((upd (upd (cst f k) (k + 1) (cst f k (k + 1) + cst f k k / 65536)) k (cst f k k % 65536) j : Nat) : Int)) = updI (updI (fun j => ((cst f k j : Nat) : Int)) (k + 1) (((cst f k (k + 1) : Nat) : Int) + ((cst f k k : Nat) : Int) / 65536)) k (((cst f k k : Nat) : Int) % 65536) := by
    funext j
    unfold upd updI
    split
    · simp
    · split
      · simp
      · rfl
  rw [e]
  exact B
set_option maxRecDepth 100000 in
set_option maxHeartbeats 1000000 in
theorem carried_any (s : Bool) (f : Nat → Nat) (hf : ∀ i, f i ≤ 1152921504606846976) (hS : sumD f 12 < 65536 ^ 12) (w : World) :
    Calls Tryz.prog 154 #[numV s (fun i => (f i : Int))] w fun e w' => e = .returned (numV (s && decide (sumD f 12 ≠ 0)) (digI (sumD f 12))) ∧ Ext w w' := by
  have B1 := (Blk.new w 143 (numC s (fun i => (f i : Int)))).alloc (.cells (numC false (fun _ => 0)) 143)
  have B2 : Blk ((w.alloc (.cells (numC s (fun i => (f i : Int))) 143)).alloc (.cells (numC false (fun _ => 0)) 143)) (w.heap.size + 1) 143 (numC false (fun _ => 0)) := by
    have := Blk.new (w.alloc (.cells (numC s (fun i => (f i : Int))) 143)) 143 (numC false (fun _ => 0))
    simpa using this
  have X0 := ((Ext.refl w).alloc (.cells (numC s (fun i => (f i : Int))) 143)).alloc (.cells (numC false (fun _ => 0)) 143)
  have H0 := Lib.hid (show CarRel w s f (.int .i64 ((0 : Nat) : Int)) _ from ⟨0, by omega, rfl, by rw [cst_0]; exact B1, B2, X0⟩)
  clear B1 B2 X0
  have HS := Lib.hid hS
  obtain ⟨S, hSS⟩ : ∃ S, sumD f 12 = S := ⟨_, rfl⟩
  rw [hSS]
  replace hSS := Lib.hid hSS
  have HF := Lib.hid hf
  clear hS hf
  go_enter Tryz.func154, Tryz.ntmps154
  go_wp2_with fail
  go_loopw [3] (fun i wr => CarRel w s f i wr) (fun i _ => 11 - (intOf i).toNat)
  case atStart => exact H0.out
  case round =>
    clear H0
    obtain ⟨k, hk, rfl, hB, hB2, hx⟩ := hrel
    by_cases hlt : k < 11
    · have hd : decide ((k : Int) < 11) = true := by simp; omega
      have c1 := (hB.cell (1 + k)).trans (numC_at s _ k (by omega))
      have c2 := (hB.cell (1 + (k + 1))).trans (numC_at s _ (k + 1) (by omega))
      have fz := hB.frozen
      have b1 := cst_bd (by decide) HF.out k k
      have b2 := cst_bd (by decide) HF.out k (k + 1)
      have HN := Lib.hid (fun (W : World) (x y : Int) hx' hy B B2 hX => CarRel.next (w := w) (W := W) (s := s) (f := f) (x := x) (y := y) (m := k + 1) hlt hx' hy B B2 hX rfl)
      have hB' := Lib.hid hB
      have hB2' := Lib.hid hB2
      clear hB hB2
      generalize cst f k k = a at *
      generalize cst f k (k + 1) = b at *
      have lb := (hB'.out).lt
      have e1 : IntKind.i64.wrap ((k : Int) + 1) = (k : Int) + 1 := IntWalk.i64_in _ (by omega)
      have e2 : (0 : Int) ≤ (k : Int) + 1 := by omega
      have e3 : ((k : Int) + 1).toNat = k + 1 := by omega
      have e4 : (k : Int) + 1 < 12 := by omega
      have e5 : (k : Int) < 12 := by omega
      have a1 : (0 : Int) ≤ (a : Int) := by omega
      have a2 : (a : Int).tdiv 65536 = (a : Int) / 65536 := Int.tdiv_eq_ediv_of_nonneg a1
      have a3 : IntKind.i64.wrap ((b : Int) + (a : Int) / 65536) = (b : Int) + (a : Int) / 65536 := IntWalk.i64_in _ (by omega)
      go_wp2_with fail
      go_still_tail 15, (by kernel_rfl)
      go_wp2_with fail
      go_roundw
      case rel =>
        have g1 : w.heap.size + 1 ≠ w.heap.size := by omega
        have := HN.out _ _ _ rfl rfl (((hB'.out.set_ (1 + (k + 1)) (.int .i64 ((b : Int) + (a : Int) / 65536))).set_ (1 + k) (.int .i64 ((a : Int) % 65536))).ext (Ext.refl _).drew) (((hB2'.out.far (p := ⟨w.heap.size, 1 + (k + 1), none⟩) g1 _).far (p := ⟨w.heap.size, 1 + k, none⟩) g1 _).ext (Ext.refl _).drew) (((hx.set (p := ⟨w.heap.size, 1 + (k + 1), none⟩) (Nat.le_refl _) _).set (p := ⟨w.heap.size, 1 + k, none⟩) (Nat.le_refl _) _).drew)
        first | exact this | (simpa using this)
      case measure => simp [intOf]; omega
    · have hk11 : k = 11 := by omega
      subst hk11
      have hC := numC_congr (s := s) (f := fun j => ((cst f 11 j : Nat) : Int)) (g := digI (sumD f 12)) (fun i hi => by show ((cst f 11 i : Nat) : Int) = _; rw [cst_end HS.out hi]; rfl)
      rw [hC] at hB
      have hz := allZ_dig HS.out
      rw [hSS.out] at hz hB
      clear HF hC
      obtain ⟨q, q'⟩ := hB.cells
      unfold numC at q
      go_wp2_with fail
      refine (zero_any s (digI S) _).mono ?_
      rintro e w2 ⟨rfl, hx2⟩
      rw [hz]
      replace hz := Lib.hid hz
      have B3 := hB.ext hx2
      have B4 := hB2.ext hx2
      have X3 := hx.trans hx2
      clear q q' hB hB2 hx hx2
      obtain ⟨q, q'⟩ := B3.cells
      obtain ⟨p, p'⟩ := B4.cells
      unfold numC at q p
      have g1 : w.heap.size + 1 ≠ w.heap.size := by omega
      by_cases h0 : S = 0
      · have hd0 : decide (S = 0) = true := by simpa using h0
        have hd1 : decide (S ≠ 0) = false := by simpa using h0
        rw [hd0]
        replace hd1 := Lib.hid hd1
        replace h0 := Lib.hid h0
        go_wp2_with fail
        exact bodyPost_ret (results_c rfl rfl (ld_num (put13 (s := false) (f := digI S) (B4.far (p := ⟨w.heap.size, 0, none⟩) g1 _)))) rfl ⟨by rw [hd1.out, Bool.and_false], ext13 (X3.set (p := ⟨w.heap.size, 0, none⟩) (Nat.le_refl _) _) (by omega)⟩
      · have hd0 : decide (S = 0) = false := by simpa using h0
        have hd1 : decide (S ≠ 0) = true := by simpa using h0
        rw [hd0]
        replace hd1 := Lib.hid hd1
        replace h0 := Lib.hid h0
        go_wp2_with fail
        exact bodyPost_ret (results_c rfl rfl (ld_num (put13 (s := s) (f := digI S) B4))) rfl ⟨by rw [hd1.out, Bool.and_true], ext13 X3 (by omega)⟩
end Go.Proofs.YtokakpbpenndlaaGreatDoor

set_option linter.unusedVariables false
namespace Go.Proofs.YtokakpbpenndlaaGreatDoor
open Go.RowKit

theorem carriedD_any (s : Bool) (n : Nat) (hn : n < 65536 ^ 12) (w : World) :
    Calls Tryz.prog 154 #[numV s (digI n)] w fun e w' => e = .returned (numV (s && decide (n ≠ 0)) (digI n)) ∧ Ext w w' := by
  have := carried_any s (dig n) (fun i => by have := dig_lt n i; omega) (by rw [sumD_dig12 hn]; exact hn) w
  rw [sumD_dig12 hn] at this
  exact this
theorem Blk.two12 (w : World) (t t' : TypeId) (cs cs' : Array Value) : Blk ((w.alloc (.cells cs t)).alloc (.cells cs' t')) (w.heap.size + 1) t' cs' := by
  have := Blk.new (w.alloc (.cells cs t)) t' cs'
  rwa [show (w.alloc (.cells cs t)).heap.size = w.heap.size + 1 by simp] at this
/-- Where the comparing stands. -/
def SizeRel (m n : Nat) (W0 : World) (i : Value) (wr : World) : Prop :=
  ∃ k : Nat, k ≤ 12 ∧ i = .int .i64 ((k : Int) - 1) ∧ m / 65536 ^ k = n / 65536 ^ k ∧ Ext W0 wr
set_option maxRecDepth 100000 in
set_option maxHeartbeats 1000000 in
theorem size_any (s s' : Bool) (m n : Nat) (hm : m < 65536 ^ 12) (hn : n < 65536 ^ 12) (w : World) :
    Calls Tryz.prog 155 #[numV s (digI m), numV s' (digI n)] w fun e w' => e = .returned (.int .i64 (cmpN m n)) ∧ Ext w w' := by
  have B1 := (Blk.new w 143 (numC s (digI m))).alloc (.cells (numC s' (digI n)) 143)
  have B2 := Blk.two12 w 143 143 (numC s (digI m)) (numC s' (digI n))
  have X0 := ((Ext.refl w).alloc (.cells (numC s (digI m)) 143)).alloc (.cells (numC s' (digI n)) 143)
  have H0 := Lib.hid (show SizeRel m n ((w.alloc (.cells (numC s (digI m)) 143)).alloc (.cells (numC s' (digI n)) 143)) (.int .i64 11) _ from ⟨12, by omega, rfl, by rw [Nat.div_eq_of_lt hm, Nat.div_eq_of_lt hn], Ext.refl _⟩)
  have HB := Lib.hid (fun W (hx : Ext ((w.alloc (.cells (numC s (digI m)) 143)).alloc (.cells (numC s' (digI n)) 143)) W) => And.intro (B1.ext hx) (B2.ext hx))
  replace X0 := Lib.hid X0
  clear B1 B2 hm hn
  obtain ⟨C, hC⟩ : ∃ C, cmpN m n = C := ⟨_, rfl⟩
  rw [hC]
  replace hC := Lib.hid hC
  go_enter Tryz.func155, Tryz.ntmps155
  go_wp2_with fail
  go_loopw [5] (fun i wr => SizeRel m n ((w.alloc (.cells (numC s (digI m)) 143)).alloc (.cells (numC s' (digI n)) 143)) i wr) (fun i _ => (intOf i + 1).toNat)
  case atStart => exact H0.out
  case round =>
    clear H0
    obtain ⟨k, hk, rfl, hd, hx⟩ := hrel
    rcases k with _ | j
    · have hmn : m = n := by simpa using hd
      have hC0 : C = 0 := by rw [← hC.out, hmn]; unfold cmpN; rw [if_neg (by omega), if_neg (by omega)]
      have e0 : (((0 : Nat) : Int) - 1) = -1 := rfl
      rw [e0]
      replace hmn := Lib.hid hmn
      replace hC0 := Lib.hid hC0
      clear hd
      go_wp2_with fail
      go_ret
      exact ⟨by rw [hC0.out]; rfl, X0.out.trans hx⟩
    · have e0 : (((j + 1 : Nat) : Int) - 1) = (j : Int) := by omega
      rw [e0]
      obtain ⟨B1, B2⟩ := HB.out wr hx
      have c1 := (B1.cell (1 + j)).trans (numC_at s _ j (by omega))
      have c2 := (B2.cell (1 + j)).trans (numC_at s' _ j (by omega))
      have l12 : (j : Int) < 12 := by omega
      have l0 : (0 : Int) ≤ (j : Int) := by omega
      have HL := Lib.hid (fun (h : digI m j < digI n j) => (show C = -1 from by rw [← hC.out]; unfold cmpN; rw [if_pos (top_lt hd (by unfold digI at h; omega))]))
      have HG := Lib.hid (fun (h : digI n j < digI m j) => (show C = 1 from by
        have := top_lt hd.symm (by unfold digI at h; omega)
        rw [← hC.out]; unfold cmpN; rw [if_neg (by omega), if_pos this]))
      have HE := Lib.hid (fun (h : digI m j = digI n j) => top_next hd (by unfold digI at h; omega))
      clear hd B1 B2
      generalize digI m j = x at *
      generalize digI n j = y at *
      by_cases hxy : x = y
      · have hb : (x != y) = false := by simpa using hxy
        have hE := Lib.hid (HE.out hxy)
        replace hxy := Lib.hid hxy
        clear HL HG HE
        go_wp2_with fail
        go_quiet (fail)
        go_wp2_with fail
        go_roundw
        case rel => exact ⟨j, by omega, rfl, hE.out, hx.drewN _⟩
        case measure => simp [intOf] <;> omega
      · have hb : (x != y) = true := by simpa using hxy
        replace hxy := Lib.hid hxy
        go_wp2_with fail
        go_quiet (fail)
        rcases Int.lt_or_gt_of_ne hxy.out with hl | hl
        · have hb2 : decide (x < y) = true := by simpa using hl
          have hE := Lib.hid (HL.out hl)
          clear HL HG HE
          go_wp2_with fail
          go_quiet (fail)
          go_wp2_with fail
          go_ret
          exact ⟨by rw [hE.out]; rfl, ((X0.out.trans hx).drewN _).drewN _⟩
        · have hb2 : decide (x < y) = false := by simp; omega
          have hE := Lib.hid (HG.out hl)
          clear HL HG HE
          go_wp2_with fail
          go_quiet (fail)
          go_wp2_with fail
          go_ret
          exact ⟨by rw [hE.out]; rfl, ((X0.out.trans hx).drewN _).drewN _⟩

set_option maxRecDepth 100000 in
set_option maxHeartbeats 1000000 in
theorem less_any (s : Bool) (n : Nat) (hn : n < 65536 ^ 12) (w : World) :
    Calls Tryz.prog 122 #[numV s (digI n)] w fun e w' => e = .returned (numV (!s && decide (n ≠ 0)) (digI n)) ∧ Ext w w' := by
  have B2 := Blk.two12 w 143 143 (numC (!s) (digI n)) (numC false (fun _ => 0))
  have X0 := ((Ext.refl w).alloc (.cells (numC (!s) (digI n)) 143)).alloc (.cells (numC false (fun _ => 0)) 143)
  have HC := Lib.hid (carriedD_any (!s) n hn)
  obtain ⟨sg, hsg⟩ : ∃ sg, (!s && decide (n ≠ 0)) = sg := ⟨_, rfl⟩
  replace hsg := Lib.hid hsg
  have HB := Lib.hid (And.intro B2 X0)
  unfold numC at HB
  clear hn B2 X0
  go_enter Tryz.func122, Tryz.ntmps122
  go_wp2_with fail
  refine (HC.out _).mono ?_
  rintro e w2 ⟨rfl, hx2⟩
  rw [hsg.out]
  have B3 := HB.out.1.ext hx2
  have X3 := HB.out.2.trans hx2
  obtain ⟨p, p'⟩ := B3.cells
  clear hx2
  go_wp2_with fail
  exact bodyPost_ret (results_c rfl rfl (ld_num (put13 (s := sg) (f := digI n) (s' := false) (f' := fun _ => 0) B3))) rfl ⟨by rw [hsg.out], ext13 X3 (by omega)⟩

/-- Where the adding stands. -/
def PlusRel (w : World) (s s' : Bool) (m n : Nat) (i : Value) (wr : World) : Prop :=
  ∃ k : Nat, k ≤ 12 ∧ i = .int .i64 (k : Int) ∧ Blk wr w.heap.size 143 (numC s (fun j => if j < k then digI m j + digI n j else digI m j)) ∧ Blk wr (w.heap.size + 1) 143 (numC s' (digI n)) ∧ Blk wr (w.heap.size + 1 + 1) 143 (numC false (fun _ => 0)) ∧ Ext w wr
theorem PlusRel.next {w W : World} {s s' : Bool} {m n k j : Nat} (hk : k < 12)
    (B : Blk W w.heap.size 143 ((numC s (fun j => if j < k then digI m j + digI n j else digI m j)).setIfInBounds (1 + k) (.int .i64 (digI m k + digI n k)))) (B2 : Blk W (w.heap.size + 1) 143 (numC s' (digI n))) (B3 : Blk W (w.heap.size + 1 + 1) 143 (numC false (fun _ => 0))) (hX : Ext w W) (e : j = k + 1) : PlusRel w s s' m n (.int .i64 (j : Int)) W := by
  subst e
  rw [numC_set _ _ _ k hk] at B
  refine ⟨k + 1, by omega, rfl, ?_, B2, B3, hX⟩
  rw [show (fun j => if j < k + 1 then digI m j + digI n j else digI m j) = updI (fun j => if j < k then digI m j + digI n j else digI m j) k (digI m k + digI n k) from ?_]
  · exact B
  funext j
  unfold updI
  dsimp only
  by_cases h1 : j = k
  · subst h1; rw [if_pos (by omega), if_pos rfl]
  · rw [if_neg h1]
    by_cases h2 : j < k
    · rw [if_pos (by omega), if_pos h2]
    · rw [if_neg (by omega), if_neg h2]
set_option maxRecDepth 100000 in
set_option maxHeartbeats 1000000 in
/-- A sum of two of one sign. -/
theorem plus_same (s : Bool) (m n : Nat) (hm : m < 65536 ^ 12) (hn : n < 65536 ^ 12) (hs : m + n < 65536 ^ 12) (w : World) :
    Calls Tryz.prog 123 #[numV s (digI m), numV s (digI n)] w fun e w' => e = .returned (numV (s && decide (m + n ≠ 0)) (digI (m + n))) ∧ Ext w w' := by
  have B1 := ((Blk.new w 143 (numC s (digI m))).alloc (.cells (numC s (digI n)) 143)).alloc (.cells (numC false (fun _ => 0)) 143)
  have B2 := (Blk.two12 w 143 143 (numC s (digI m)) (numC s (digI n))).alloc (.cells (numC false (fun _ => 0)) 143)
  have B3 : Blk (((w.alloc (.cells (numC s (digI m)) 143)).alloc (.cells (numC s (digI n)) 143)).alloc (.cells (numC false (fun _ => 0)) 143)) (w.heap.size + 1 + 1) 143 (numC false (fun _ => 0)) := by
    have := Blk.two12 (w.alloc (.cells (numC s (digI m)) 143)) 143 143 (numC s (digI n)) (numC false (fun _ => 0))
    simpa using this
  have X0 := (((Ext.refl w).alloc (.cells (numC s (digI m)) 143)).alloc (.cells (numC s (digI n)) 143)).alloc (.cells (numC false (fun _ => 0)) 143)
  have H0 := Lib.hid (show PlusRel w s s m n (.int .i64 ((0 : Nat) : Int)) _ from ⟨0, by omega, rfl, B1, B2, B3, X0⟩)
  have HC := Lib.hid (carried_any s (fun j => dig m j + dig n j) (fun i => by have := dig_lt m i; have := dig_lt n i; omega) (by rw [sumD_add, sumD_dig12 hm, sumD_dig12 hn]; exact hs))
  have HS := Lib.hid (show sumD (fun j => dig m j + dig n j) 12 = m + n by rw [sumD_add, sumD_dig12 hm, sumD_dig12 hn])
  have hss : (s == s) = true := by simp
  obtain ⟨sg, hsg⟩ : ∃ sg, (s && decide (m + n ≠ 0)) = sg := ⟨_, rfl⟩
  replace hsg := Lib.hid hsg
  clear hm hn hs B1 B2 B3 X0
  go_enter Tryz.func123, Tryz.ntmps123
  go_wp2_with fail
  go_loopw [5] (fun i wr => PlusRel w s s m n i wr) (fun i _ => 12 - (intOf i).toNat)
  case atStart => exact H0.out
  case round =>
    clear H0
    obtain ⟨k, hk, rfl, hB, hB2, hB3, hx⟩ := hrel
    by_cases hlt : k < 12
    · have hd : decide ((k : Int) < 12) = true := by simp; omega
      have c1 : wr.cell? ⟨w.heap.size, 1 + k, none⟩ = some (.int .i64 (digI m k)) := (hB.cell (1 + k)).trans ((numC_at s _ k hlt).trans (by rw [if_neg (by omega)]))
      have c2 := (hB2.cell (1 + k)).trans (numC_at s _ k hlt)
      have fz := hB.frozen
      have b1 : 0 ≤ digI m k ∧ digI m k < 65536 := by have := dig_lt m k; unfold digI; omega
      have b2 : 0 ≤ digI n k ∧ digI n k < 65536 := by have := dig_lt n k; unfold digI; omega
      have HN := Lib.hid (fun (W : World) B B2 B3 hX => PlusRel.next (w := w) (W := W) (s := s) (s' := s) (m := m) (n := n) (j := k + 1) hlt B B2 B3 hX rfl)
      have hB' := Lib.hid hB
      have hB2' := Lib.hid hB2
      have hB3' := Lib.hid hB3
      clear hB hB2 hB3
      generalize digI m k = a at *
      generalize digI n k = b at *
      obtain ⟨b10, b11⟩ := b1
      obtain ⟨b20, b21⟩ := b2
      have e1 : IntKind.i64.wrap (a + b) = a + b := IntWalk.i64_in _ (by omega)
      have e5 : (k : Int) < 12 := by omega
      have lb := (hB'.out).lt
      go_wp2_with fail
      go_still_tail 11, (by kernel_rfl)
      go_wp2_with fail
      go_roundw
      case rel =>
        have g1 : w.heap.size + 1 ≠ w.heap.size := by omega
        have g2 : w.heap.size + 1 + 1 ≠ w.heap.size := by omega
        have := HN.out _ ((hB'.out.set_ (1 + k) (.int .i64 (a + b))).ext (Ext.refl _).drew) ((hB2'.out.far (p := ⟨w.heap.size, 1 + k, none⟩) g1 _).ext (Ext.refl _).drew) ((hB3'.out.far (p := ⟨w.heap.size, 1 + k, none⟩) g2 _).ext (Ext.refl _).drew) ((hx.set (p := ⟨w.heap.size, 1 + k, none⟩) (Nat.le_refl _) _).drew)
        first | exact this | (simpa using this)
      case measure => simp [intOf] <;> omega
    · have hk12 : k = 12 := by omega
      subst hk12
      rw [numC_congr (s := s) (g := fun j => (((fun j => dig m j + dig n j) j : Nat) : Int)) (fun i hi => by rw [if_pos hi]; unfold digI; simp)] at hB
      obtain ⟨q, q'⟩ := hB.cells
      unfold numC at q
      go_wp2_with fail
      refine (HC.out _).mono ?_
      rintro e w2 ⟨rfl, hx2⟩
      rw [HS.out, hsg.out]
      have B3 := hB3.ext hx2
      obtain ⟨p, p'⟩ := B3.cells
      unfold numC at p
      have X3 := hx.trans hx2
      clear q q' hB hB2 hB3
      go_wp2_with fail
      exact bodyPost_ret (results_c rfl rfl (ld_num (put13 (s := sg) (f := digI (m + n)) B3))) rfl ⟨by rw [hsg.out], ext13 X3 (by omega)⟩
end Go.Proofs.YtokakpbpenndlaaGreatDoor
