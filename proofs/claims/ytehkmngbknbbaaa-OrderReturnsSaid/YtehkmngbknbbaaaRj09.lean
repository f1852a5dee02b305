/-
  The reference's numbers: of an int; products.
-/
import Derived.Test.YtehkmngbknbbaaaRj08
set_option linter.unusedVariables false
namespace Go.Proofs.Ytehkmngbknbbaaa
open Go.RowKit

theorem and_16 (n : Nat) (h : n < 18446744073709551616) : bits BinOp.and IntKind.u64 (n : Int) 65535 = ((n % 65536 : Nat) : Int) := by
  rw [u64_and _ _ (by omega) (by omega) (by omega) (by omega)]
  have : (65535 : Int).toNat = 2 ^ 16 - 1 := rfl
  rw [this, Int.toNat_natCast, Nat.and_two_pow_sub_one_eq_mod]
theorem dig_and (n k : Nat) (h : n < 9223372036854775808) (D : Int) (hD : D = ((n / 65536 ^ k : Nat) : Int)) : wrap64 (bits BinOp.and IntKind.u64 D 65535) = digI n k := by
  subst hD
  have hl : n / 65536 ^ k ≤ n := Nat.div_le_self _ _
  rw [and_16 _ (by omega)]
  unfold digI dig RowKit.wrap64
  omega
def OfRel (w : World) (n : Nat) (i : Value) (wr : World) : Prop :=
  ∃ k : Nat, k ≤ 4 ∧ i = .int .i64 (k : Int) ∧ Blk wr w.heap.size 169 (numC false (fun _ => 0)) ∧ Blk wr (w.heap.size + 1) 169 (numC false (fun j => if j < k then digI n j else 0)) ∧ Ext w wr
theorem OfRel.next {w W : World} {n k j : Nat} (hk : k < 12) (hk4 : k < 4)
    (B : Blk W w.heap.size 169 (numC false (fun _ => 0))) (B2 : Blk W (w.heap.size + 1) 169 ((numC false (fun j => if j < k then digI n j else 0)).setIfInBounds (1 + k) (.int .i64 (digI n k)))) (hX : Ext w W) (e : j = k + 1) : OfRel w n (.int .i64 (j : Int)) W := by
  subst e
  rw [numC_set _ _ _ k hk] at B2
  refine ⟨k + 1, by omega, rfl, B, ?_, hX⟩
  rw [show (fun j => if j < k + 1 then digI n j else 0) = updI (fun j => if j < k then digI n j else 0) k (digI n k) from ?_]
  · exact B2
  funext j
  unfold updI
  dsimp only
  by_cases h1 : j = k
  · subst h1; rw [if_pos (by omega), if_pos rfl]
  · rw [if_neg h1]
    by_cases h2 : j < k
    · rw [if_pos (by omega), if_pos h2]
    · rw [if_neg (by omega), if_neg h2]
theorem dig_hi {n : Nat} (h : n < 65536 ^ 4) {i : Nat} (hi : 4 ≤ i) : dig n i = 0 := by
  unfold dig
  rw [Nat.div_eq_of_lt (Nat.lt_of_lt_of_le h (Nat.pow_le_pow_right (by decide) hi))]
set_option maxRecDepth 100000 in
set_option maxHeartbeats 1000000 in
theorem of_any01 (n : Nat) (hn : n < 9223372036854775808) (w : World) :
    Calls Try.prog 110 #[.int .i64 (n : Int)] w fun e w' => e = .returned (numV false (digI n)) ∧ Ext w w' := by
  have B1 := (Blk.new w 169 (numC false (fun _ => 0))).alloc (.cells (numC false (fun _ => 0)) 169)
  have B2 := Blk.two12 w 169 169 (numC false (fun _ => 0)) (numC false (fun _ => 0))
  have X0 := ((Ext.refl w).alloc (.cells (numC false (fun _ => 0)) 169)).alloc (.cells (numC false (fun _ => 0)) 169)
  have H0 := Lib.hid (show OfRel w n (.int .i64 ((0 : Nat) : Int)) _ from ⟨0, by omega, rfl, B1, B2, X0⟩)
  have hd0 : decide ((n : Int) < 0) = false := by simp
  clear B1 B2 X0
  go_enter Try.func110, Try.ntmps110
  go_wp2_with fail
  go_loopw [5] (fun i wr => OfRel w n i wr) (fun i _ => 4 - (intOf i).toNat)
  case atStart => exact H0.out
  case round =>
    clear H0
    obtain ⟨k, hk, rfl, hB, hB2, hx⟩ := hrel
    have g1 : w.heap.size ≠ w.heap.size + 1 := by omega
    have g2 : w.heap.size ≤ w.heap.size + 1 := by omega
    rcases k with _ | _ | _ | _ | k
    · have hd := hB2.frozen
      have c1 := hB2.cell
      have HN := Lib.hid (OfRel.next (n := n) (k := 0) (j := 1) (by decide) (by decide) (hB.far (p := ⟨w.heap.size + 1, 1, none⟩) g1 (.int .i64 (digI n 0))) (hB2.set_ 1 (.int .i64 (digI n 0))) (hx.set (p := ⟨w.heap.size + 1, 1, none⟩) g2 (.int .i64 (digI n 0))) rfl)
      have e := Lib.hid (dig_and n 0 hn (n : Int) (by rw [show (65536 : Nat) ^ 0 = 1 by decide]; omega))
      clear hB hB2 hx
      go_wp2_with fail
      go_roundw
      case rel =>
        rw [e.out]
        exact HN.out
      case measure => simp [intOf]
    · have hd := hB2.frozen
      have c1 := hB2.cell
      have HN := Lib.hid (OfRel.next (n := n) (k := 1) (j := 2) (by decide) (by decide) (hB.far (p := ⟨w.heap.size + 1, 2, none⟩) g1 (.int .i64 (digI n 1))) (hB2.set_ 2 (.int .i64 (digI n 1))) (hx.set (p := ⟨w.heap.size + 1, 2, none⟩) g2 (.int .i64 (digI n 1))) rfl)
      have e := Lib.hid (dig_and n 1 hn ((n : Int) / 65536) (by rw [show (65536 : Nat) ^ 1 = 65536 by decide]; omega))
      clear hB hB2 hx
      go_wp2_with fail
      go_roundw
      case rel =>
        rw [e.out]
        exact HN.out
      case measure => simp [intOf]
    · have hd := hB2.frozen
      have c1 := hB2.cell
      have HN := Lib.hid (OfRel.next (n := n) (k := 2) (j := 3) (by decide) (by decide) (hB.far (p := ⟨w.heap.size + 1, 3, none⟩) g1 (.int .i64 (digI n 2))) (hB2.set_ 3 (.int .i64 (digI n 2))) (hx.set (p := ⟨w.heap.size + 1, 3, none⟩) g2 (.int .i64 (digI n 2))) rfl)
      have e := Lib.hid (dig_and n 2 hn ((n : Int) / 4294967296) (by rw [show (65536 : Nat) ^ 2 = 4294967296 by decide]; omega))
      clear hB hB2 hx
      go_wp2_with fail
      go_roundw
      case rel =>
        rw [e.out]
        exact HN.out
      case measure => simp [intOf]
    · have hd := hB2.frozen
      have c1 := hB2.cell
      have HN := Lib.hid (OfRel.next (n := n) (k := 3) (j := 4) (by decide) (by decide) (hB.far (p := ⟨w.heap.size + 1, 4, none⟩) g1 (.int .i64 (digI n 3))) (hB2.set_ 4 (.int .i64 (digI n 3))) (hx.set (p := ⟨w.heap.size + 1, 4, none⟩) g2 (.int .i64 (digI n 3))) rfl)
      have e := Lib.hid (dig_and n 3 hn ((n : Int) / 281474976710656) (by rw [show (65536 : Nat) ^ 3 = 281474976710656 by decide]; omega))
      clear hB hB2 hx
      go_wp2_with fail
      go_roundw
      case rel =>
        rw [e.out]
        exact HN.out
      case measure => simp [intOf]
    · have hk4 : k = 0 := by omega
      subst hk4
      rw [numC_congr (s := false) (f := fun j => if j < 4 then digI n j else 0) (g := digI n) (fun i _ => by
        split
        · rfl
        · rw [digI, dig_hi (by omega) (by omega)]; rfl)] at hB2
      obtain ⟨q, q'⟩ := hB2.cells
      obtain ⟨p, p'⟩ := hB.cells
      unfold numC at q p
      go_wp2_with fail
      exact bodyPost_ret (results_c rfl rfl (ld_num (put13 (s := false) (f := digI n) hB))) rfl ⟨rfl, ext13 hx (by omega)⟩

theorem sumD_upd (f : Nat → Nat) (k v : Nat) : ∀ n, k < n → sumD (upd f k v) n + f k * 65536 ^ k = sumD f n + v * 65536 ^ k
  | 0, h => absurd h (by omega)
  | n + 1, h => by
    rw [sumD, sumD]
    by_cases hk : k = n
    · subst hk
      have e1 : sumD (upd f k v) k = sumD f k := sumD_congr fun i hi => by unfold upd; rw [if_neg (by omega)]
      have e2 : upd f k v k = v := by unfold upd; rw [if_pos rfl]
      rw [e1, e2]
      omega
    · have e2 : upd f k v n = f n := by unfold upd; rw [if_neg (by omega)]
      have := sumD_upd f k v n (by omega)
      rw [e2]
      omega
/-- Where the multiplying stands. -/
structure MulSt (w : World) (sx sy z : Bool) (m n i k : Nat) (F : Nat → Nat) (wr : World) : Prop where
  b0 : Blk wr w.heap.size 169 (numC sx (digI m))
  b1 : Blk wr (w.heap.size + 1) 169 (numC sy (digI n))
  b2 : Blk wr (w.heap.size + 1 + 1) 169 (numC false (fun _ => 0))
  b3 : Blk wr (w.heap.size + 1 + 1 + 1) 169 (numC z (fun j => (F j : Int)))
  bd : ∀ j, F j ≤ (4 * i + k) * 4294967296
  sm : sumD F 12 = (m % 65536 ^ i) * n + dig m i * (n % 65536 ^ k) * 65536 ^ i
  ext : Ext w wr
def MulO (w : World) (sx sy z : Bool) (m n : Nat) (v : Value) (wr : World) : Prop := ∃ (i : Nat) (F : Nat → Nat), i ≤ 4 ∧ v = .int .i64 (i : Int) ∧ MulSt w sx sy z m n i 0 F wr
def MulI (w : World) (sx sy z : Bool) (m n i : Nat) (v : Value) (wr : World) : Prop := ∃ (k : Nat) (F : Nat → Nat), k ≤ 4 ∧ v = .int .i64 (k : Int) ∧ MulSt w sx sy z m n i k F wr
theorem MulSt.turn {w wr : World} {sx sy z : Bool} {m n i : Nat} {F : Nat → Nat} (h : MulSt w sx sy z m n i 4 F wr) (hn : n < 65536 ^ 4) : MulSt w sx sy z m n (i + 1) 0 F wr := by
  refine ⟨h.b0, h.b1, h.b2, h.b3, fun j => by have := h.bd j; omega, ?_, h.ext⟩
  rw [h.sm, mod_step m i, Nat.mod_eq_of_lt hn, Nat.pow_zero, Nat.mod_one, Nat.mul_zero, Nat.zero_mul, Nat.add_zero, Nat.add_mul, Nat.mul_right_comm]
theorem bd_next {x q k p : Nat} (h : x ≤ (q + k) * 4294967296) (hp : p ≤ 4294836225) : x + p ≤ (q + (k + 1)) * 4294967296 := by omega
theorem MulSt.next {w wr W : World} {sx sy z : Bool} {m n i k : Nat} {F : Nat → Nat} (h : MulSt w sx sy z m n i k F wr) (hi : i < 4) (hk : k < 4) {v : Int} (hv : v = (F (i + k) : Int) + digI m i * digI n k)
    (hW : Ext (wr.setCell ⟨w.heap.size + 1 + 1 + 1, 1 + (i + k), none⟩ (.int .i64 v)) W) : MulSt w sx sy z m n i (k + 1) (upd F (i + k) (F (i + k) + dig m i * dig n k)) W := by
  have g0 : w.heap.size ≠ w.heap.size + 1 + 1 + 1 := by omega
  have g1 : w.heap.size + 1 ≠ w.heap.size + 1 + 1 + 1 := by omega
  have g2 : w.heap.size + 1 + 1 ≠ w.heap.size + 1 + 1 + 1 := by omega
  have hp : dig m i * dig n k ≤ 4294836225 := Nat.le_trans (Nat.mul_le_mul (show dig m i ≤ 65535 by have := dig_lt m i; omega) (show dig n k ≤ 65535 by have := dig_lt n k; omega)) (by decide)
  refine ⟨(h.b0.far (p := ⟨w.heap.size + 1 + 1 + 1, 1 + (i + k), none⟩) g0 _).ext hW, (h.b1.far (p := ⟨w.heap.size + 1 + 1 + 1, 1 + (i + k), none⟩) g1 _).ext hW, (h.b2.far (p := ⟨w.heap.size + 1 + 1 + 1, 1 + (i + k), none⟩) g2 _).ext hW, ?_, ?_, ?_, (h.ext.set (p := ⟨w.heap.size + 1 + 1 + 1, 1 + (i + k), none⟩) (by show w.heap.size ≤ w.heap.size + 1 + 1 + 1; omega) _).trans hW⟩
  · have := (h.b3.set_ (1 + (i + k)) (.int .i64 v)).ext hW
    rw [numC_set _ _ _ (i + k) (by omega)] at this
    rw [show (fun j => ((upd F (i + k) (F (i + k) + dig m i * dig n k) j : Nat) : Int)) = updI (fun j => (F j : Int)) (i + k) v from ?_]
    · exact this
    funext j
    unfold upd updI
    split
    · rw [hv]; simp [digI]
    · rfl
  · intro j
    have b1 := h.bd (i + k)
    have b2 := h.bd j
    clear h hW hv
    unfold upd
    split
    · exact bd_next b1 hp
    · exact bd_next b2 (Nat.zero_le _)
  · have hs := sumD_upd F (i + k) (F (i + k) + dig m i * dig n k) 12 (by omega)
    rw [h.sm, Nat.add_mul] at hs
    rw [mod_step n k, Nat.mul_add, Nat.add_mul]
    have e : dig m i * (dig n k * 65536 ^ k) * 65536 ^ i = dig m i * dig n k * 65536 ^ (i + k) := by
      rw [Nat.pow_add, Nat.mul_comm (65536 ^ i)]
      simp only [Nat.mul_assoc]
    omega
theorem mul_lt {m n : Nat} (hm : m < 65536 ^ 4) (hn : n < 65536 ^ 4) : m * n < 65536 ^ 12 := by
  have : m * n ≤ 65536 ^ 4 * 65536 ^ 4 := Nat.mul_le_mul (by omega) (by omega)
  have e : (65536 : Nat) ^ 4 * 65536 ^ 4 < 65536 ^ 12 := by decide
  omega
set_option maxRecDepth 100000 in
set_option maxHeartbeats 2000000 in
theorem mul_any01 (m n : Nat) (hm : m < 65536 ^ 4) (hn : n < 65536 ^ 4) (w : World) :
    Calls Try.prog 111 #[numV false (digI m), numV false (digI n)] w fun e w' => e = .returned (numV false (digI (m * n))) ∧ Ext w w' := by
  have B0 := (((Blk.new w 169 (numC false (digI m))).alloc (.cells (numC false (digI n)) 169)).alloc (.cells (numC false (fun _ => 0)) 169)).alloc (.cells (numC false (fun _ => 0)) 169)
  have B1 := ((Blk.two12 w 169 169 (numC false (digI m)) (numC false (digI n))).alloc (.cells (numC false (fun _ => 0)) 169)).alloc (.cells (numC false (fun _ => 0)) 169)
  have B2 := (Blk.two12 (w.alloc (.cells (numC false (digI m)) 169)) 169 169 (numC false (digI n)) (numC false (fun _ => 0))).alloc (.cells (numC false (fun _ => 0)) 169)
  have B3 := Blk.two12 ((w.alloc (.cells (numC false (digI m)) 169)).alloc (.cells (numC false (digI n)) 169)) 169 169 (numC false (fun _ => 0)) (numC false (fun _ => 0))
  have X0 := ((((Ext.refl w).alloc (.cells (numC false (digI m)) 169)).alloc (.cells (numC false (digI n)) 169)).alloc (.cells (numC false (fun _ => 0)) 169)).alloc (.cells (numC false (fun _ => 0)) 169)
  have e1 : (w.alloc (.cells (numC false (digI m)) 169)).heap.size = w.heap.size + 1 := by simp
  have e2 : ((w.alloc (.cells (numC false (digI m)) 169)).alloc (.cells (numC false (digI n)) 169)).heap.size = w.heap.size + 1 + 1 := by simp
  rw [e1] at B2
  rw [e2] at B3
  have H0 := Lib.hid (show MulO w false false false m n (.int .i64 ((0 : Nat) : Int)) _ from ⟨0, fun _ => 0, by omega, rfl, B0, B1, B2, B3, fun _ => by omega, by simp [sumD, Nat.mod_one], X0⟩)
  have HC := Lib.hid (fun F (h1 : ∀ j, F j ≤ 1152921504606846976) (h2 : sumD F 12 = m * n) => (show ∀ w, Calls Try.prog 115 #[numV false (fun i => (F i : Int))] w _ from carried_any false F h1 (by rw [h2]; exact mul_lt hm hn)))
  replace hm := Lib.hid hm
  replace hn := Lib.hid hn
  clear B0 B1 B2 B3 X0 e1 e2
  go_enter Try.func111, Try.ntmps111
  go_wp2_with fail
  go_loopw [6, 7] (fun v _ wr => MulO w false false false m n v wr) (fun v _ _ => 4 - (intOf v).toNat)
  case atStart => exact H0.out
  case round =>
    clear H0
    obtain ⟨i, F0, hi, rfl, hS⟩ := hrel
    by_cases hlt : i < 4
    · have hd : decide ((i : Int) < 4) = true := by simp; omega
      have HS := Lib.hid hS
      clear hS
      go_wp2_with fail
      obtain ⟨wo, rfl⟩ : ∃ wo : World, wo = wr := ⟨_, rfl⟩
      go_loopw [7] (fun v wr => MulI w false false false m n i v wr) (fun v _ => 4 - (intOf v).toNat)
      case atStart => exact ⟨0, F0, by omega, rfl, HS.out⟩
      case round =>
        clear HS
        obtain ⟨k, F, hk, rfl, hS⟩ := hrel
        by_cases hlk : k < 4
        · have hdk : decide ((k : Int) < 4) = true := by simp; omega
          have c1 := (hS.b0.cell (1 + i)).trans (numC_at false _ i (by omega))
          have c2 := (hS.b1.cell (1 + k)).trans (numC_at false _ k (by omega))
          have c3 := (hS.b3.cell (1 + (i + k))).trans (numC_at false _ (i + k) (by omega))
          have fz := hS.b3.frozen
          have lb := hS.b3.lt
          have bF := hS.bd (i + k)
          have HN := Lib.hid (fun (W : World) (v : Int) hv hW => hS.next (W := W) hlt hlk (v := v) hv hW)
          have b1 : 0 ≤ digI m i ∧ digI m i < 65536 := by have := dig_lt m i; unfold digI; omega
          have b2 : 0 ≤ digI n k ∧ digI n k < 65536 := by have := dig_lt n k; unfold digI; omega
          have bF2 : F (i + k) ≤ 20 * 4294967296 := Nat.le_trans bF (Nat.mul_le_mul_right _ (by omega))
          clear hS bF
          generalize digI m i = a at *
          generalize digI n k = b at *
          generalize F (i + k) = c at *
          obtain ⟨b10, b11⟩ := b1
          obtain ⟨b20, b21⟩ := b2
          have p0 : 0 ≤ a * b := Int.mul_nonneg b10 b20
          have p1 : a * b ≤ 65535 * 65535 := Int.mul_le_mul (by omega) (by omega) b20 (by omega)
          have e1 : IntKind.i64.wrap (a * b) = a * b := IntWalk.i64_in _ (by omega)
          have e2 : IntKind.i64.wrap ((c : Int) + a * b) = (c : Int) + a * b := IntWalk.i64_in _ (by omega)
          have e3 : IntKind.i64.wrap ((i : Int) + (k : Int)) = (i : Int) + (k : Int) := IntWalk.i64_in _ (by omega)
          have e4 : (0 : Int) ≤ (i : Int) + (k : Int) := by omega
          have e5 : ((i : Int) + (k : Int)).toNat = i + k := by omega
          have e6 : (i : Int) + (k : Int) < 12 := by omega
          have e7 : (i : Int) < 12 := by omega
          have e8 : (k : Int) < 12 := by omega
          go_wp2_with fail
          go_still_tail 21, (by kernel_rfl)
          go_wp2_with fail
          go_roundw
          case rel => exact ⟨k + 1, _, by omega, rfl, HN.out _ _ rfl (Ext.refl _).drew⟩
          case measure => simp [intOf] <;> omega
        · have hk4 : k = 4 := by omega
          subst hk4
          have HT := Lib.hid (hS.turn hn.out)
          clear hS
          go_wp2_with fail
          go_roundw
          case rel => exact ⟨i + 1, F, by omega, rfl, HT.out⟩
          case measure => simp [intOf] <;> omega
    · have hi4 : i = 4 := by omega
      subst hi4
      have hF := hS.bd
      have hsm := hS.sm
      rw [Nat.mod_eq_of_lt hm.out, Nat.pow_zero, Nat.mod_one, Nat.mul_zero, Nat.zero_mul, Nat.add_zero] at hsm
      have HK := Lib.hid (HC.out F0 (fun j => by have := hF j; omega) hsm)
      obtain ⟨q, q'⟩ := hS.b3.cells
      unfold numC at q
      have HB2 := Lib.hid (fun W (hx : Ext wr W) => hS.b2.ext hx)
      have hx := hS.ext
      clear hS hF
      replace hsm := Lib.hid hsm
      go_wp2_with fail
      refine (HK.out _).mono ?_
      rintro e w2 ⟨rfl, hx2⟩
      rw [hsm.out, Bool.false_and]
      have B3 := HB2.out _ hx2
      obtain ⟨p, p'⟩ := B3.cells
      unfold numC at p
      have X3 := hx.trans hx2
      clear q q' hx hx2
      go_wp2_with fail
      exact bodyPost_ret (results_c rfl rfl (ld_num (put13 (s := false) (f := digI (m * n)) B3))) rfl ⟨rfl, ext13 X3 (by omega)⟩
end Go.Proofs.Ytehkmngbknbbaaa
