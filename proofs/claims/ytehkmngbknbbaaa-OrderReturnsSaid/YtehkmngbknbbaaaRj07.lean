/-
  The reference's numbers: sizes compared, the other way round, sums.
-/
import Derived.Test.YtehkmngbknbbaaaRj06
set_option linter.unusedVariables false
namespace Go.Proofs.Ytehkmngbknbbaaa
open Go.RowKit

theorem carriedD_any (s : Bool) (n : Nat) (hn : n < 65536 ^ 12) (w : World) :
    Calls Try.prog 115 #[numV s (digI n)] w fun e w' => e = .returned (numV (s && decide (n ≠ 0)) (digI n)) ∧ Ext w w' := by
  have := carried_any s (dig n) (fun i => by have := dig_lt n i; omega) (by rw [sumD_dig12 hn]; exact hn) w
  rw [sumD_dig12 hn] at this
  exact this
theorem Blk.two12 (w : World) (t t' : TypeId) (cs cs' : Array Value) : Blk ((w.alloc (.cells cs t)).alloc (.cells cs' t')) (w.heap.size + 1) t' cs' := by
  have := Blk.new (w.alloc (.cells cs t)) t' cs'
  rwa [show (w.alloc (.cells cs t)).heap.size = w.heap.size + 1 by simp] at this
/-- Where the comparing stands. -/
def SizeRel (m n : Nat) (W0 : World) (i : Value) (wr : World) : Prop :=
  ∃ k : Nat, k ≤ 12 ∧ i = .int .i64 ((k : Int) - 1) ∧ m / 65536 ^ k = n / 65536 ^ k ∧ Ext W0 wr
set_option maxRecDepth 100000 in
set_option maxHeartbeats 1000000 in
theorem size_any (s s' : Bool) (m n : Nat) (hm : m < 65536 ^ 12) (hn : n < 65536 ^ 12) (w : World) :
    Calls Try.prog 129 #[numV s (digI m), numV s' (digI n)] w fun e w' => e = .returned (.int .i64 (cmpN m n)) ∧ Ext w w' := by
  have B1 := (Blk.new w 169 (numC s (digI m))).alloc (.cells (numC s' (digI n)) 169)
  have B2 := Blk.two12 w 169 169 (numC s (digI m)) (numC s' (digI n))
  have X0 := ((Ext.refl w).alloc (.cells (numC s (digI m)) 169)).alloc (.cells (numC s' (digI n)) 169)
  have H0 := Lib.hid (show SizeRel m n ((w.alloc (.cells (numC s (digI m)) 169)).alloc (.cells (numC s' (digI n)) 169)) (.int .i64 11) _ from ⟨12, by omega, rfl, by rw [Nat.div_eq_of_lt hm, Nat.div_eq_of_lt hn], Ext.refl _⟩)
  have HB := Lib.hid (fun W (hx : Ext ((w.alloc (.cells (numC s (digI m)) 169)).alloc (.cells (numC s' (digI n)) 169)) W) => And.intro (B1.ext hx) (B2.ext hx))
  replace X0 := Lib.hid X0
  clear B1 B2 hm hn
  obtain ⟨C, hC⟩ : ∃ C, cmpN m n = C := ⟨_, rfl⟩
  rw [hC]
  replace hC := Lib.hid hC
  go_enter Try.func129, Try.ntmps129
  go_wp2_with fail
  go_loopw [5] (fun i wr => SizeRel m n ((w.alloc (.cells (numC s (digI m)) 169)).alloc (.cells (numC s' (digI n)) 169)) i wr) (fun i _ => (intOf i + 1).toNat)
  case atStart => exact H0.out
  case round =>
    clear H0
    obtain ⟨k, hk, rfl, hd, hx⟩ := hrel
    rcases k with _ | j
    · have hmn : m = n := by simpa using hd
      have hC0 : C = 0 := by rw [← hC.out, hmn]; unfold cmpN; rw [if_neg (by omega), if_neg (by omega)]
      have e0 : (((0 : Nat) : Int) - 1) = -1 := rfl
      rw [e0]
      replace hmn := Lib.hid hmn
      replace hC0 := Lib.hid hC0
      clear hd
      go_wp2_with fail
      go_ret
      exact ⟨by rw [hC0.out]; rfl, X0.out.trans hx⟩
    · have e0 : (((j + 1 : Nat) : Int) - 1) = (j : Int) := by omega
      rw [e0]
      obtain ⟨B1, B2⟩ := HB.out wr hx
      have c1 := (B1.cell (1 + j)).trans (numC_at s _ j (by omega))
      have c2 := (B2.cell (1 + j)).trans (numC_at s' _ j (by omega))
      have l12 : (j : Int) < 12 := by omega
      have l0 : (0 : Int) ≤ (j : Int) := by omega
      have HL := Lib.hid (fun (h : digI m j < digI n j) => (show C = -1 from by rw [← hC.out]; unfold cmpN; rw [if_pos (top_lt hd (by unfold digI at h; omega))]))
      have HG := Lib.hid (fun (h : digI n j < digI m j) => (show C = 1 from by
        have := top_lt hd.symm (by unfold digI at h; omega)
        rw [← hC.out]; unfold cmpN; rw [if_neg (by omega), if_pos this]))
      have HE := Lib.hid (fun (h : digI m j = digI n j) => top_next hd (by unfold digI at h; omega))
      clear hd B1 B2
      generalize digI m j = x at *
      generalize digI n j = y at *
      by_cases hxy : x = y
      · have hb : (x != y) = false := by simpa using hxy
        have hE := Lib.hid (HE.out hxy)
        replace hxy := Lib.hid hxy
        clear HL HG HE
        go_wp2_with fail
        go_quiet (fail)
        go_wp2_with fail
        go_roundw
        case rel => exact ⟨j, by omega, rfl, hE.out, hx.drewN _⟩
        case measure => simp [intOf] <;> omega
      · have hb : (x != y) = true := by simpa using hxy
        replace hxy := Lib.hid hxy
        go_wp2_with fail
        go_quiet (fail)
        rcases Int.lt_or_gt_of_ne hxy.out with hl | hl
        · have hb2 : decide (x < y) = true := by simpa using hl
          have hE := Lib.hid (HL.out hl)
          clear HL HG HE
          go_wp2_with fail
          go_quiet (fail)
          go_wp2_with fail
          go_ret
          exact ⟨by rw [hE.out]; rfl, ((X0.out.trans hx).drewN _).drewN _⟩
        · have hb2 : decide (x < y) = false := by simp; omega
          have hE := Lib.hid (HG.out hl)
          clear HL HG HE
          go_wp2_with fail
          go_quiet (fail)
          go_wp2_with fail
          go_ret
          exact ⟨by rw [hE.out]; rfl, ((X0.out.trans hx).drewN _).drewN _⟩

set_option maxRecDepth 100000 in
set_option maxHeartbeats 1000000 in
theorem less_any (s : Bool) (n : Nat) (hn : n < 65536 ^ 12) (w : World) :
    Calls Try.prog 130 #[numV s (digI n)] w fun e w' => e = .returned (numV (!s && decide (n ≠ 0)) (digI n)) ∧ Ext w w' := by
  have B2 := Blk.two12 w 169 169 (numC (!s) (digI n)) (numC false (fun _ => 0))
  have X0 := ((Ext.refl w).alloc (.cells (numC (!s) (digI n)) 169)).alloc (.cells (numC false (fun _ => 0)) 169)
  have HC := Lib.hid (carriedD_any (!s) n hn)
  obtain ⟨sg, hsg⟩ : ∃ sg, (!s && decide (n ≠ 0)) = sg := ⟨_, rfl⟩
  replace hsg := Lib.hid hsg
  have HB := Lib.hid (And.intro B2 X0)
  unfold numC at HB
  clear hn B2 X0
  go_enter Try.func130, Try.ntmps130
  go_wp2_with fail
  refine (HC.out _).mono ?_
  rintro e w2 ⟨rfl, hx2⟩
  rw [hsg.out]
  have B3 := HB.out.1.ext hx2
  have X3 := HB.out.2.trans hx2
  obtain ⟨p, p'⟩ := B3.cells
  clear hx2
  go_wp2_with fail
  exact bodyPost_ret (results_c rfl rfl (ld_num (put13 (s := sg) (f := digI n) (s' := false) (f' := fun _ => 0) B3))) rfl ⟨by rw [hsg.out], ext13 X3 (by omega)⟩

/-- Where the adding stands. -/
def PlusRel (w : World) (s s' : Bool) (m n : Nat) (i : Value) (wr : World) : Prop :=
  ∃ k : Nat, k ≤ 12 ∧ i = .int .i64 (k : Int) ∧ Blk wr w.heap.size 169 (numC s (fun j => if j < k then digI m j + digI n j else digI m j)) ∧ Blk wr (w.heap.size + 1) 169 (numC s' (digI n)) ∧ Blk wr (w.heap.size + 1 + 1) 169 (numC false (fun _ => 0)) ∧ Ext w wr
theorem PlusRel.next {w W : World} {s s' : Bool} {m n k j : Nat} (hk : k < 12)
    (B : Blk W w.heap.size 169 ((numC s (fun j => if j < k then digI m j + digI n j else digI m j)).setIfInBounds (1 + k) (.int .i64 (digI m k + digI n k)))) (B2 : Blk W (w.heap.size + 1) 169 (numC s' (digI n))) (B3 : Blk W (w.heap.size + 1 + 1) 169 (numC false (fun _ => 0))) (hX : Ext w W) (e : j = k + 1) : PlusRel w s s' m n (.int .i64 (j : Int)) W := by
  subst e
  rw [numC_set _ _ _ k hk] at B
  refine ⟨k + 1, by omega, rfl, ?_, B2, B3, hX⟩
  rw [show (fun j => if j < k + 1 then digI m j + digI n j else digI m j) = updI (fun j => if j < k then digI m j + digI n j else digI m j) k (digI m k + digI n k) from ?_]
  · exact B
  funext j
  unfold updI
  dsimp only
  by_cases h1 : j = k
  · subst h1; rw [if_pos (by omega), if_pos rfl]
  · rw [if_neg h1]
    by_cases h2 : j < k
    · rw [if_pos (by omega), if_pos h2]
    · rw [if_neg (by omega), if_neg h2]
set_option maxRecDepth 100000 in
set_option maxHeartbeats 1000000 in
/-- A sum of two of one sign. -/
theorem plus_same (s : Bool) (m n : Nat) (hm : m < 65536 ^ 12) (hn : n < 65536 ^ 12) (hs : m + n < 65536 ^ 12) (w : World) :
    Calls Try.prog 113 #[numV s (digI m), numV s (digI n)] w fun e w' => e = .returned (numV (s && decide (m + n ≠ 0)) (digI (m + n))) ∧ Ext w w' := by
  have B1 := ((Blk.new w 169 (numC s (digI m))).alloc (.cells (numC s (digI n)) 169)).alloc (.cells (numC false (fun _ => 0)) 169)
  have B2 := (Blk.two12 w 169 169 (numC s (digI m)) (numC s (digI n))).alloc (.cells (numC false (fun _ => 0)) 169)
  have B3 : Blk (((w.alloc (.cells (numC s (digI m)) 169)).alloc (.cells (numC s (digI n)) 169)).alloc (.cells (numC false (fun _ => 0)) 169)) (w.heap.size + 1 + 1) 169 (numC false (fun _ => 0)) := by
    have := Blk.two12 (w.alloc (.cells (numC s (digI m)) 169)) 169 169 (numC s (digI n)) (numC false (fun _ => 0))
    simpa using this
  have X0 := (((Ext.refl w).alloc (.cells (numC s (digI m)) 169)).alloc (.cells (numC s (digI n)) 169)).alloc (.cells (numC false (fun _ => 0)) 169)
  have H0 := Lib.hid (show PlusRel w s s m n (.int .i64 ((0 : Nat) : Int)) _ from ⟨0, by omega, rfl, B1, B2, B3, X0⟩)
  have HC := Lib.hid (carried_any s (fun j => dig m j + dig n j) (fun i => by have := dig_lt m i; have := dig_lt n i; omega) (by rw [sumD_add, sumD_dig12 hm, sumD_dig12 hn]; exact hs))
  have HS := Lib.hid (show sumD (fun j => dig m j + dig n j) 12 = m + n by rw [sumD_add, sumD_dig12 hm, sumD_dig12 hn])
  have hss : (s == s) = true := by simp
  obtain ⟨sg, hsg⟩ : ∃ sg, (s && decide (m + n ≠ 0)) = sg := ⟨_, rfl⟩
  replace hsg := Lib.hid hsg
  clear hm hn hs B1 B2 B3 X0
  go_enter Try.func113, Try.ntmps113
  go_wp2_with fail
  go_loopw [5] (fun i wr => PlusRel w s s m n i wr) (fun i _ => 12 - (intOf i).toNat)
  case atStart => exact H0.out
  case round =>
    clear H0
    obtain ⟨k, hk, rfl, hB, hB2, hB3, hx⟩ := hrel
    by_cases hlt : k < 12
    · have hd : decide ((k : Int) < 12) = true := by simp; omega
      have c1 : wr.cell? ⟨w.heap.size, 1 + k, none⟩ = some (.int .i64 (digI m k)) := (hB.cell (1 + k)).trans ((numC_at s _ k hlt).trans (by rw [if_neg (by omega)]))
      have c2 := (hB2.cell (1 + k)).trans (numC_at s _ k hlt)
      have fz := hB.frozen
      have b1 : 0 ≤ digI m k ∧ digI m k < 65536 := by have := dig_lt m k; unfold digI; omega
      have b2 : 0 ≤ digI n k ∧ digI n k < 65536 := by have := dig_lt n k; unfold digI; omega
      have HN := Lib.hid (fun (W : World) B B2 B3 hX => PlusRel.next (w := w) (W := W) (s := s) (s' := s) (m := m) (n := n) (j := k + 1) hlt B B2 B3 hX rfl)
      have hB' := Lib.hid hB
      have hB2' := Lib.hid hB2
      have hB3' := Lib.hid hB3
      clear hB hB2 hB3
      generalize digI m k = a at *
      generalize digI n k = b at *
      obtain ⟨b10, b11⟩ := b1
      obtain ⟨b20, b21⟩ := b2
      have e1 : IntKind.i64.wrap (a + b) = a + b := IntWalk.i64_in _ (by omega)
      have e5 : (k : Int) < 12 := by omega
      have lb := (hB'.out).lt
      go_wp2_with fail
      go_still_tail 11, (by kernel_rfl)
      go_wp2_with fail
      go_roundw
      case rel =>
        have g1 : w.heap.size + 1 ≠ w.heap.size := by omega
        have g2 : w.heap.size + 1 + 1 ≠ w.heap.size := by omega
        have := HN.out _ ((hB'.out.set_ (1 + k) (.int .i64 (a + b))).ext (Ext.refl _).drew) ((hB2'.out.far (p := ⟨w.heap.size, 1 + k, none⟩) g1 _).ext (Ext.refl _).drew) ((hB3'.out.far (p := ⟨w.heap.size, 1 + k, none⟩) g2 _).ext (Ext.refl _).drew) ((hx.set (p := ⟨w.heap.size, 1 + k, none⟩) (Nat.le_refl _) _).drew)
        first | exact this | (simpa using this)
      case measure => simp [intOf] <;> omega
    · have hk12 : k = 12 := by omega
      subst hk12
      rw [numC_congr (s := s) (g := fun j => (((fun j => dig m j + dig n j) j : Nat) : Int)) (fun i hi => by rw [if_pos hi]; unfold digI; simp)] at hB
      obtain ⟨q, q'⟩ := hB.cells
      unfold numC at q
      go_wp2_with fail
      refine (HC.out _).mono ?_
      rintro e w2 ⟨rfl, hx2⟩
      rw [HS.out, hsg.out]
      have B3 := hB3.ext hx2
      obtain ⟨p, p'⟩ := B3.cells
      unfold numC at p
      have X3 := hx.trans hx2
      clear q q' hB hB2 hB3
      go_wp2_with fail
      exact bodyPost_ret (results_c rfl rfl (ld_num (put13 (s := sg) (f := digI (m + n)) B3))) rfl ⟨by rw [hsg.out], ext13 X3 (by omega)⟩
end Go.Proofs.Ytehkmngbknbbaaa
