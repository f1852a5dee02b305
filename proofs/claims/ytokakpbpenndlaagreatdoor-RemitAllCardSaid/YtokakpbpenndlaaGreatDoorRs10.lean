/-
  wide.Sum.
-/
import Derived.Test.YtokakpbpenndlaaGreatDoorRs07
import Derived.Test.YtokakpbpenndlaaGreatDoorRs08
import Derived.Laws.Externs
import Derived.Test.YtokakpbpenndlaaGreatDoorRs09
import Derived.LaidEql
set_option linter.unusedVariables false
namespace Go.Proofs.YtokakpbpenndlaaGreatDoor
open Go.RowKit

theorem add64_any (x y c : Int) (hx : 0 ≤ x) (hy : 0 ≤ y) (hc0 : 0 ≤ c) (hc : c ≤ 1) (w : World) : (callFunc 116 #[.int .u64 x, .int .u64 y, .int .u64 c]).run Tryz.prog w =
    .ok (.value (.tuple #[.int .u64 ((x + y + c) % 18446744073709551616), .int .u64 ((x + y + c) / 18446744073709551616)])) w := by
  rw [run_callFunc_extern Tryz.func116 (by kernel_rfl) (by kernel_rfl) (by kernel_rfl) (e := add64Entry) (by kernel_rfl), run_add64 x y c hx hy hc0 hc]
  rfl
theorem add64_0 (x y : Int) (hx : 0 ≤ x) (hy : 0 ≤ y) (w : World) : (callFunc 116 #[.int .u64 x, .int .u64 y, .int .u64 0]).run Tryz.prog w =
    .ok (.value (.tuple #[.int .u64 ((x + y) % 18446744073709551616), .int .u64 ((x + y) / 18446744073709551616)])) w := by
  simpa using add64_any x y 0 hx hy (Int.le_refl 0) (by decide) w

/-- P1.3: the sum, and the error. -/
def sumL (l : List Int) : Int := l.foldl (· + ·) 0
theorem sumL_snoc (l : List Int) (n : Int) : sumL (l ++ [n]) = sumL l + n := by simp [sumL, List.foldl_append]
theorem sumL_take (l : List Int) (k : Nat) (h : k < l.length) : sumL (l.take (k + 1)) = sumL (l.take k) + l[k] := by
  rw [List.take_succ_eq_append_getElem h, sumL_snoc]
def sumI (l : List Int) : Int × Int := if -9223372036854775808 ≤ sumL l ∧ sumL l ≤ 9223372036854775807 then (sumL l, 0) else (0, 5)
theorem sumL_bd (l : List Int) (h : ∀ n ∈ l, i64 n) : ∀ k, k ≤ l.length → -9223372036854775808 * (k : Int) ≤ sumL (l.take k) ∧ sumL (l.take k) ≤ 9223372036854775807 * (k : Int) := by
  intro k
  induction k with
  | zero => intro _; simp [sumL]
  | succ k ih =>
    intro hk
    have := ih (by omega)
    rw [sumL_take l k (by omega)]
    have hi := h l[k] (List.getElem_mem _)
    unfold i64 at hi
    omega
theorem sm_out {S : Int} {n : Nat} (hn : n ≤ 1000000000) (h1 : -9223372036854775808 * (n : Int) ≤ S) (h2 : S ≤ 9223372036854775807 * (n : Int)) (h : ¬ (-9223372036854775808 ≤ S ∧ S ≤ 9223372036854775807)) :
    S / 18446744073709551616 % 18446744073709551616 ≠ RowKit.wrap64 (S % 18446744073709551616) / 9223372036854775808 % 18446744073709551616 := by
  have hS := Int.mul_ediv_add_emod S 18446744073709551616
  have hr : 0 ≤ S % 18446744073709551616 ∧ S % 18446744073709551616 < 18446744073709551616 := by omega
  have hq : -1000000000 ≤ S / 18446744073709551616 ∧ S / 18446744073709551616 ≤ 1000000000 := by omega
  generalize S / 18446744073709551616 = q at *
  generalize S % 18446744073709551616 = r at *
  have eq : q % 18446744073709551616 = if 0 ≤ q then q else q + 18446744073709551616 := by split <;> omega
  have er : RowKit.wrap64 r / 9223372036854775808 % 18446744073709551616 = if r < 9223372036854775808 then 0 else 18446744073709551615 := by
    unfold RowKit.wrap64
    by_cases hr2 : r < 9223372036854775808
    · rw [if_pos hr2, show (r + 9223372036854775808) % 18446744073709551616 - 9223372036854775808 = r by omega, show r / 9223372036854775808 = 0 by omega]; rfl
    · rw [if_neg hr2, show (r + 9223372036854775808) % 18446744073709551616 - 9223372036854775808 = r - 18446744073709551616 by omega, show (r - 18446744073709551616) / 9223372036854775808 = -1 by omega]; rfl
  rw [eq, er]
  split <;> split <;> omega
def SmRel (l : List Int) (hi lo i : Value) : Prop := ∃ k : Nat, k ≤ l.length ∧ i = .int .i64 (k : Int) ∧ lo = .int .u64 (sumL (l.take k) % 18446744073709551616) ∧ hi = .int .u64 (sumL (l.take k) / 18446744073709551616 % 18446744073709551616)
theorem sm_lo (S n : Int) (hn : i64 n) : (S % 18446744073709551616 + IntKind.u64.wrap n) % 18446744073709551616 = (S + n) % 18446744073709551616 := by
  unfold i64 at hn
  rw [IntKind.wrap_u64]; omega
theorem sm_hi (S n : Int) (hn : i64 n) : (S / 18446744073709551616 % 18446744073709551616 + IntKind.u64.wrap (n / 9223372036854775808) + (S % 18446744073709551616 + IntKind.u64.wrap n) / 18446744073709551616) % 18446744073709551616 = (S + n) / 18446744073709551616 % 18446744073709551616 := by
  unfold i64 at hn
  rw [IntKind.wrap_u64, IntKind.wrap_u64]
  have hS := Int.mul_ediv_add_emod S 18446744073709551616
  have hr : 0 ≤ S % 18446744073709551616 ∧ S % 18446744073709551616 < 18446744073709551616 := by omega
  generalize S / 18446744073709551616 = h at *
  generalize S % 18446744073709551616 = r at *
  by_cases h0 : 0 ≤ n
  · have e1 : n / 9223372036854775808 = 0 := by omega
    have e2 : n % 18446744073709551616 = n := by omega
    have e3 : (S + n) / 18446744073709551616 = h + (r + n) / 18446744073709551616 := by omega
    rw [e1, e2, e3]
    omega
  · have e1 : n / 9223372036854775808 = -1 := by omega
    have e2 : n % 18446744073709551616 = n + 18446744073709551616 := by omega
    have e3 : (S + n) / 18446744073709551616 = h - 1 + (r + n + 18446744073709551616) / 18446744073709551616 := by omega
    rw [e1, e2, e3, show r + (n + 18446744073709551616) = r + n + 18446744073709551616 by omega]
    omega
theorem sm_carry (S n : Int) : 0 ≤ (S % 18446744073709551616 + IntKind.u64.wrap n) / 18446744073709551616 ∧ (S % 18446744073709551616 + IntKind.u64.wrap n) / 18446744073709551616 ≤ 1 := by
  rw [IntKind.wrap_u64]; omega

end Go.Proofs.YtokakpbpenndlaaGreatDoor

set_option linter.unusedVariables false
namespace Go.Proofs.YtokakpbpenndlaaGreatDoor
open Go.RowKit

theorem iV_snoc (l : List Int) (n : Int) : iV (l ++ [n]) = iV l ++ [.int .i64 n] := by simp [iV]
theorem own_lt {w : World} {base : Nat} {e : TypeId} {size n : Nat} {v : Value} {xs : List Value} (h : w.ownsRow base e size v n xs) : ∀ g, v.ownBlock = some g → g < w.heap.size := by
  intro k hk
  rcases h.2 with ⟨rfl, _⟩ | ⟨g, cap, cur, rfl, _, hg, _⟩
  · simp [Value.ownBlock] at hk
  · have : g = k := by simpa [Value.ownBlock] using hk
    subst this
    exact (Array.getElem?_eq_some_iff.1 hg).1
/-- Two rows do not lie in one block. -/
def Apart (v v' : Value) : Prop := ∀ g, v.ownBlock = some g → v'.ownBlock ≠ some g
theorem Apart.symm {v v' : Value} (h : Apart v v') : Apart v' v := fun g h1 h2 => h g h2 h1
theorem Apart.nil (v : Value) (n c : Nat) : Apart (.slice none n c) v := fun g h => by simp [Value.ownBlock] at h
def ToRel (V : World) (g : Nat) (s1 s2 s3 : Int × Int) (j : Value) (wr : World) : Prop :=
  Ext V wr ∧ ((j = .int .i64 0 ∧ Blk wr g 136 #[.int .i64 0, .int .i64 0, .int .i64 0]) ∨ (j = .int .i64 1 ∧ s1.2 = 0 ∧ Blk wr g 136 #[.int .i64 s1.1, .int .i64 0, .int .i64 0]) ∨
    (j = .int .i64 2 ∧ s1.2 = 0 ∧ s2.2 = 0 ∧ Blk wr g 136 #[.int .i64 s1.1, .int .i64 s2.1, .int .i64 0]) ∨ (j = .int .i64 3 ∧ s1.2 = 0 ∧ s2.2 = 0 ∧ s3.2 = 0 ∧ Blk wr g 136 #[.int .i64 s1.1, .int .i64 s2.1, .int .i64 s3.1]))
/-- P25.4: the sums of tax lines, and the error. -/
def totalI (l : List Tx) : Tx × Int :=
  if (checkTax l).1 ≠ 0 then (Tx.zero, (checkTax l).1)
  else if (sumI (l.map Tx.t)).2 ≠ 0 then (Tx.zero, (sumI (l.map Tx.t)).2)
  else if (sumI (l.map Tx.x)).2 ≠ 0 then (Tx.zero, (sumI (l.map Tx.x)).2)
  else if (sumI (l.map Tx.v)).2 ≠ 0 then (Tx.zero, (sumI (l.map Tx.v)).2)
  else (⟨0, 0, (sumI (l.map Tx.t)).1, (sumI (l.map Tx.x)).1, 0, (sumI (l.map Tx.v)).1⟩, 0)

end Go.Proofs.YtokakpbpenndlaaGreatDoor

set_option linter.unusedVariables false
namespace Go.Proofs.YtokakpbpenndlaaGreatDoor
theorem ckTx_all : ∀ (r pre : List Tx), (∀ k (h : k < r.length), Tx.bad (pre ++ r.take k) r[k] = 0) → ckTx pre r = (0, 0)
  | [], pre, _ => rfl
  | x :: r, pre, h => by
    have h0 := h 0 (by simp)
    simp only [List.take_zero, List.append_nil, List.getElem_cons_zero] at h0
    unfold ckTx
    rw [if_neg (by simp [h0])]
    refine ckTx_all r (pre ++ [x]) fun k hk => ?_
    have := h (k + 1) (by simpa using hk)
    simpa using this
theorem checkTax_mk {l : List Tx} (h : l.length ≤ 6400) (ha : ∀ k (hk : k < l.length), l[k].ok = true ∧ Tx.below (l.take k) l[k] = false ∧ l[k].key ∉ (l.take k).map Tx.key) : checkTax l = (0, 0) := by
  unfold checkTax
  rw [if_neg (by omega)]
  refine ckTx_all l [] fun k hk => ?_
  obtain ⟨h1, h2, h3⟩ := ha k hk
  simpa using bad_no h1 h2 h3
theorem checkTax_take {l : List Tx} (h : (checkTax l).1 = 0) (n : Nat) : (checkTax (l.take n)).1 = 0 := by
  obtain ⟨h0, ha⟩ := checkTax_ok h
  rw [checkTax_mk (by rw [List.length_take]; omega)]
  intro k hk
  have hk1 : k < n := by rw [List.length_take] at hk; omega
  have hk2 : k < l.length := by rw [List.length_take] at hk; omega
  have := ha k hk2
  rw [List.getElem_take, List.take_take, Nat.min_eq_left (by omega)]
  exact this
theorem below_mem {pre pre' : List Tx} {x : Tx} (h : pre.getLast? = pre'.getLast?) : Tx.below pre x = Tx.below pre' x := by unfold Tx.below; rw [h]
theorem checkTax_drop {l : List Tx} (h : (checkTax l).1 = 0) (n : Nat) : (checkTax (l.drop n)).1 = 0 := by
  obtain ⟨h0, ha⟩ := checkTax_ok h
  rw [checkTax_mk (by rw [List.length_drop]; omega)]
  intro k hk
  have hk2 : n + k < l.length := by rw [List.length_drop] at hk; omega
  obtain ⟨a, b, c⟩ := ha (n + k) hk2
  rw [List.getElem_drop]
  refine ⟨a, ?_, ?_⟩
  · rcases Nat.eq_zero_or_pos k with hk0 | hk0
    · subst hk0; rfl
    · obtain ⟨m, rfl⟩ : ∃ m, k = m + 1 := ⟨k - 1, by omega⟩
      have e1 : (l.take (n + (m + 1))).getLast? = some l[n + m] := by
        rw [show n + (m + 1) = n + m + 1 by omega, List.take_succ_eq_append_getElem (show n + m < l.length by omega)]
        exact List.getLast?_concat
      have e2 : ((l.drop n).take (m + 1)).getLast? = some l[n + m] := by
        have hm : m < (l.drop n).length := by rw [List.length_drop]; omega
        rw [List.take_succ_eq_append_getElem hm, List.getLast?_concat, List.getElem_drop]
      rw [below_mem (e2.trans e1.symm)]
      exact b
  · intro hm
    apply c
    obtain ⟨y, hy, he⟩ := List.mem_map.1 hm
    rw [← he]
    refine List.mem_map_of_mem ?_
    have : y ∈ (l.take (n + k)).drop n := by rw [List.drop_take]; simpa using hy
    exact List.mem_of_mem_drop this
theorem foldl_add (l : List Int) : ∀ a : Int, l.foldl (· + ·) a = a + sumL l := by
  induction l with
  | nil => intro a; simp [sumL]
  | cons x l ih =>
    intro a
    rw [List.foldl_cons, ih]
    unfold sumL
    rw [List.foldl_cons, ih (0 + x)]
    unfold sumL
    omega
theorem sumL_app (a b : List Int) : sumL (a ++ b) = sumL a + sumL b := by
  show (a ++ b).foldl (· + ·) 0 = _
  rw [List.foldl_append, foldl_add]
  rfl
theorem sumL_cons (n : Int) (l : List Int) : sumL (n :: l) = n + sumL l := by
  have := sumL_app [n] l
  simpa [sumL] using this
theorem sumL_nonneg (l : List Int) (h : ∀ n ∈ l, 0 ≤ n) : 0 ≤ sumL l := by
  induction l with
  | nil => simp [sumL]
  | cons a l ih =>
    rw [sumL_cons]
    have := h a (by simp)
    have := ih (fun n hn => h n (by simp [hn]))
    omega
theorem sumI_ok {l : List Int} (h : (sumI l).2 = 0) : (sumI l).1 = sumL l ∧ -9223372036854775808 ≤ sumL l ∧ sumL l ≤ 9223372036854775807 := by
  unfold sumI at h ⊢
  split
  · rename_i hc; exact ⟨rfl, hc⟩
  · rename_i hc; rw [if_neg hc] at h; simp at h
theorem sumI_mk {l : List Int} (h1 : -9223372036854775808 ≤ sumL l) (h2 : sumL l ≤ 9223372036854775807) : sumI l = (sumL l, 0) := by
  unfold sumI; rw [if_pos ⟨h1, h2⟩]
theorem sum_parts {l : List Int} (hn : ∀ n ∈ l, 0 ≤ n) (n : Nat) (h : (sumI l).2 = 0) : (sumI (l.take n)).2 = 0 ∧ (sumI (l.drop n)).2 = 0 ∧ (sumI l).1 = (sumI (l.take n)).1 + (sumI (l.drop n)).1 := by
  obtain ⟨h1, h2, h3⟩ := sumI_ok h
  have p1 := sumL_nonneg (l.take n) (fun x hx => hn x (List.mem_of_mem_take hx))
  have p2 := sumL_nonneg (l.drop n) (fun x hx => hn x (List.mem_of_mem_drop hx))
  have e : sumL l = sumL (l.take n) + sumL (l.drop n) := by
    conv => lhs; rw [← List.take_append_drop n l]
    exact sumL_app _ _
  rw [sumI_mk (l := l.take n) (by omega) (by omega), sumI_mk (l := l.drop n) (by omega) (by omega)]
  exact ⟨rfl, rfl, by rw [h1, e]⟩
theorem totalI_ok {l : List Tx} (h : (totalI l).2 = 0) : (checkTax l).1 = 0 ∧ (sumI (l.map Tx.t)).2 = 0 ∧ (sumI (l.map Tx.x)).2 = 0 ∧ (sumI (l.map Tx.v)).2 = 0 ∧ totalI l = (⟨0, 0, (sumI (l.map Tx.t)).1, (sumI (l.map Tx.x)).1, 0, (sumI (l.map Tx.v)).1⟩, 0) := by
  unfold totalI at h ⊢
  by_cases h1 : (checkTax l).1 ≠ 0
  · rw [if_pos h1] at h; exact absurd h h1
  rw [if_neg h1] at h ⊢
  by_cases h2 : (sumI (l.map Tx.t)).2 ≠ 0
  · rw [if_pos h2] at h; exact absurd h h2
  rw [if_neg h2] at h ⊢
  by_cases h3 : (sumI (l.map Tx.x)).2 ≠ 0
  · rw [if_pos h3] at h; exact absurd h h3
  rw [if_neg h3] at h ⊢
  by_cases h4 : (sumI (l.map Tx.v)).2 ≠ 0
  · rw [if_pos h4] at h; exact absurd h h4
  rw [if_neg h4]
  exact ⟨by simpa using h1, by simpa using h2, by simpa using h3, by simpa using h4, rfl⟩
theorem totalI_no {l : List Tx} (h : (totalI l).2 ≠ 0) : (totalI l).1 = Tx.zero := by
  unfold totalI at h ⊢
  split
  · rfl
  · rename_i h1
    rw [if_neg h1] at h
    split
    · rfl
    · rename_i h2
      rw [if_neg h2] at h
      split
      · rfl
      · rename_i h3
        rw [if_neg h3] at h
        split
        · rfl
        · rename_i h4
          rw [if_neg h4] at h
          exact absurd rfl h
theorem totalI_mk {l : List Tx} (h1 : (checkTax l).1 = 0) (h2 : (sumI (l.map Tx.t)).2 = 0) (h3 : (sumI (l.map Tx.x)).2 = 0) (h4 : (sumI (l.map Tx.v)).2 = 0) : totalI l = (⟨0, 0, (sumI (l.map Tx.t)).1, (sumI (l.map Tx.x)).1, 0, (sumI (l.map Tx.v)).1⟩, 0) := by
  unfold totalI
  rw [if_neg (by simp [h1]), if_neg (by simp [h2]), if_neg (by simp [h3]), if_neg (by simp [h4])]
/-- P25.4: two parts come to what they do together. -/
theorem totalI_parts {l : List Tx} (h : (totalI l).2 = 0) (n : Nat) : (totalI (l.take n)).2 = 0 ∧ (totalI (l.drop n)).2 = 0 ∧
    (totalI l).1 = ⟨0, 0, (totalI (l.take n)).1.t + (totalI (l.drop n)).1.t, (totalI (l.take n)).1.x + (totalI (l.drop n)).1.x, 0, (totalI (l.take n)).1.v + (totalI (l.drop n)).1.v⟩ ∧
    (0 ≤ (totalI (l.take n)).1.t ∧ 0 ≤ (totalI (l.drop n)).1.t ∧ (totalI (l.take n)).1.t + (totalI (l.drop n)).1.t ≤ 9223372036854775807) ∧ (0 ≤ (totalI (l.take n)).1.x ∧ 0 ≤ (totalI (l.drop n)).1.x ∧ (totalI (l.take n)).1.x + (totalI (l.drop n)).1.x ≤ 9223372036854775807) ∧ (0 ≤ (totalI (l.take n)).1.v ∧ 0 ≤ (totalI (l.drop n)).1.v ∧ (totalI (l.take n)).1.v + (totalI (l.drop n)).1.v ≤ 9223372036854775807) := by
  obtain ⟨h1, h2, h3, h4, h5⟩ := totalI_ok h
  have hm := checkTax_mem h1
  have gen : ∀ f : Tx → Int, (∀ x : Tx, x.ok = true → 0 ≤ f x) → (sumI (l.map f)).2 = 0 → (sumI ((l.take n).map f)).2 = 0 ∧ (sumI ((l.drop n).map f)).2 = 0 ∧ (sumI (l.map f)).1 = (sumI ((l.take n).map f)).1 + (sumI ((l.drop n).map f)).1 ∧
      (0 ≤ (sumI ((l.take n).map f)).1 ∧ 0 ≤ (sumI ((l.drop n).map f)).1 ∧ (sumI ((l.take n).map f)).1 + (sumI ((l.drop n).map f)).1 ≤ 9223372036854775807) := by
    intro f hf hs
    have hp : ∀ n ∈ l.map f, 0 ≤ n := by
      intro y hy
      obtain ⟨x, hx, rfl⟩ := List.mem_map.1 hy
      exact hf x (hm x hx)
    have := sum_parts hp n hs
    rw [← List.map_take, ← List.map_drop] at this
    obtain ⟨a, b, c⟩ := this
    obtain ⟨a1, _, _⟩ := sumI_ok a
    obtain ⟨b1, _, _⟩ := sumI_ok b
    obtain ⟨c1, _, c3⟩ := sumI_ok hs
    have p1 := sumL_nonneg ((l.take n).map f) (fun y hy => by
      obtain ⟨x, hx, rfl⟩ := List.mem_map.1 hy
      exact hf x (hm x (List.mem_of_mem_take hx)))
    have p2 := sumL_nonneg ((l.drop n).map f) (fun y hy => by
      obtain ⟨x, hx, rfl⟩ := List.mem_map.1 hy
      exact hf x (hm x (List.mem_of_mem_drop hx)))
    refine ⟨a, b, c, ?_, ?_, ?_⟩
    · rw [a1]; exact p1
    · rw [b1]; exact p2
    · rw [← c, c1]; exact c3
  obtain ⟨t1, t2, t3, t4⟩ := gen Tx.t (fun x hx => (Tx.ok_bd hx).2.2.1.1) h2
  obtain ⟨x1, x2, x3, x4⟩ := gen Tx.x (fun x hx => (Tx.ok_bd hx).2.2.2.1.1) h3
  obtain ⟨v1, v2, v3, v4⟩ := gen Tx.v (fun x hx => (Tx.ok_bd hx).2.2.2.2.2.1) h4
  have e1 := totalI_mk (checkTax_take h1 n) t1 x1 v1
  have e2 := totalI_mk (checkTax_drop h1 n) t2 x2 v2
  rw [e1, e2, h5, t3, x3, v3]
  exact ⟨rfl, rfl, rfl, t4, x4, v4⟩
end Go.Proofs.YtokakpbpenndlaaGreatDoor

set_option linter.unusedVariables false
namespace Go.Proofs.YtokakpbpenndlaaGreatDoor

structure Ent where
  k : Int
  id : Int
  of_ : Int
  day : Int
  am : List Int
  tax : List Tx
deriving DecidableEq
def Ent.zero : Ent := ⟨0, 0, 0, 0, [], []⟩
def Ent.head (e : Ent) : Bool := win e.id 1 1099511627775 && win e.of_ 0 1099511627775 && win e.day 0 3652058
def Ent.ams (e : Ent) : Bool := e.am.all fun n => win n 0 4611686018427387904
def manyI (n : Nat) : Bool := decide (1 ≤ n) && decide (n ≤ 100)
/-- Does a tax line fit the amounts? -/
def Tx.fits (am : List Int) (x : Tx) : Bool := decide (x.l.toNat < am.length) && decide (x.t + x.x = am.getD x.l.toNat 0)
def Ent.saleFine (e : Ent) : Bool := decide ((checkTax e.tax).1 = 0) && decide (e.of_ = 0) && manyI e.am.length && e.tax.all (Tx.fits e.am)
def Ent.refundFine (e : Ent) : Bool := decide (e.of_ ≠ 0) && manyI e.am.length && e.am.any (fun n => decide (n ≠ 0)) && decide (e.tax.length = 0)
def Ent.voidFine (e : Ent) : Bool := decide (e.of_ ≠ 0) && decide (e.day = 0) && decide (e.am.length + e.tax.length = 0)
def Ent.fine (e : Ent) : Bool := if e.k = 1 then e.saleFine else if e.k = 2 then e.refundFine else if e.k = 3 then e.voidFine else false
/-- P29.1. -/
def Ent.check (e : Ent) : Int := if e.head = false ∨ e.ams = false then 5 else if e.fine = false then 2 else 0

/-- An entry, its tax lines; of a sale what came back of each line, and whether it was voided. -/
structure Kp where
  e : Ent
  lines : List Tx
  back : List Int
  voided : Bool
abbrev Bk := List Kp
def Bk.find (B : Bk) (id : Int) : Option Kp := B.find? fun x => decide (x.e.id = id)
def Bk.sale (B : Bk) (id : Int) : Option Kp := (B.find id).filter fun x => decide (x.e.k = 1)
/-- More of a line than is left? -/
def overB : List Int → List Int → List Int → Bool
  | n :: r, a :: ra, b :: rb => decide (a - b < n) || overB r ra rb
  | _, _, _ => false
def Kp.refMay (s : Kp) (e : Ent) : Int := if s.voided then 9 else if e.am.length ≠ s.e.am.length ∨ e.day < s.e.day then 2 else if overB e.am s.e.am s.back then 5 else 0
def Kp.voidMay (s : Kp) : Int := if s.voided || s.back.any (fun n => decide (0 < n)) then 9 else 0
/-- P29.2: the error. -/
def Bk.may (B : Bk) (e : Ent) : Int :=
  if e.check ≠ 0 then e.check
  else if (B.find e.id).isSome then 7
  else if e.k = 2 then (match B.sale e.of_ with | none => 6 | some s => s.refMay e)
  else if e.k = 3 then (match B.sale e.of_ with | none => 6 | some s => s.voidMay)
  else 0
/-- What comes back of a tax line by a refund. -/
def Kp.refLine (s : Kp) (am : List Int) (x : Tx) : List Tx :=
  if am.getD x.l.toNat 0 = 0 then [] else [(x.ret (s.back.getD x.l.toNat 0) (s.back.getD x.l.toNat 0 + am.getD x.l.toNat 0)).1]
def Kp.refLines (s : Kp) (am : List Int) : List Tx := s.lines.flatMap (s.refLine am)
def addL : List Int → List Int → List Int
  | a :: r, b :: s => (a + b) :: addL r s
  | a, _ => a
def Bk.upd (B : Bk) (id : Int) (f : Kp → Kp) : Bk := B.map fun x => if x.e.id = id then f x else x
/-- What an entry that may be added makes of the book, and its tax lines. -/
def Bk.put (B : Bk) (e : Ent) : Bk × List Tx :=
  if e.k = 1 then (B ++ [⟨e, e.tax, List.replicate e.am.length 0, false⟩], e.tax)
  else if e.k = 2 then (match B.sale e.of_ with
    | none => (B ++ [⟨e, [], [], false⟩], [])
    | some s => (B.upd e.of_ (fun x => { x with back := addL x.back e.am }) ++ [⟨e, s.refLines e.am, [], false⟩], s.refLines e.am))
  else if e.k = 3 then (B.upd e.of_ (fun x => { x with voided := true }) ++ [⟨e, [], [], false⟩], [])
  else (B ++ [⟨e, [], [], false⟩], [])
def Bk.lines (B : Bk) (id : Int) : List Tx := match B.find id with | none => [] | some x => x.lines
/-- P29.2: the book behind it, the tax lines, the error. -/
def Bk.add (B : Bk) (e : Ent) : Bk × List Tx × Int :=
  if B.may e = 0 then ((B.put e).1, (B.put e).2, 0)
  else if B.may e = 7 ∧ (match B.find e.id with | none => false | some x => decide (x.e.k = e.k)) = true then (B, B.lines e.id, 7)
  else (B, [], B.may e)
def Bk.left (B : Bk) (id line : Int) : Int × Bool := match B.sale id with
  | none => (0, false)
  | some s => if line < 0 ∨ (s.e.am.length : Int) ≤ line then (0, false) else if s.voided then (0, true) else (s.e.am.getD line.toNat 0 - s.back.getD line.toNat 0, true)
def Bk.voided (B : Bk) (id : Int) : Bool := match B.sale id with | none => false | some s => s.voided
structure Mv where
  id : Int
  day : Int
  back : Bool
  t : Int
  x : Int
  v : Int
deriving DecidableEq
def Kp.moves (x : Kp) (j : Int) : List Mv := if x.voided then [] else (x.lines.filter fun l => decide (l.j = j)).map fun l => ⟨x.e.id, x.e.day, decide (x.e.k = 2), l.t, l.x, l.v⟩
def Bk.moves (B : Bk) (j : Int) : List Mv := B.flatMap fun x => x.moves j
def Bk.ids (B : Bk) : List Int := B.map fun x => x.e.id

/-- What holds of an entry in a book. -/
structure Kp.ok (x : Kp) : Prop where
  chk : x.e.check = 0
  lns : x.e.k = 1 → x.lines = x.e.tax
  bln : x.e.k = 1 → x.back.length = x.e.am.length
  bbd : x.e.k = 1 → ∀ i, i < x.e.am.length → 0 ≤ x.back.getD i 0 ∧ x.back.getD i 0 ≤ x.e.am.getD i 0
  oth : x.e.k ≠ 1 → x.back = [] ∧ x.voided = false
theorem Ent.check_ok {e : Ent} (h : e.check = 0) : e.head = true ∧ e.ams = true ∧ e.fine = true := by
  unfold Ent.check at h
  by_cases h1 : e.head = false ∨ e.ams = false
  · rw [if_pos h1] at h; cases h
  rw [if_neg h1] at h
  by_cases h2 : e.fine = false
  · rw [if_pos h2] at h; cases h
  obtain ⟨a, b⟩ := not_or.1 h1
  exact ⟨by simpa using a, by simpa using b, by simpa using h2⟩
theorem Kp.ok_id {x : Kp} (h : x.ok) : 1 ≤ x.e.id ∧ x.e.id ≤ 1099511627775 := by
  have := (Ent.check_ok h.chk).1
  unfold Ent.head at this
  simp only [Bool.and_eq_true] at this
  exact win_bd this.1.1
end Go.Proofs.YtokakpbpenndlaaGreatDoor

set_option linter.unusedVariables false
namespace Go.Proofs.YtokakpbpenndlaaGreatDoor
open Go.RowKit

theorem row_tx : RowT Tryz.prog 47 117 6 48 (.agg #[.int .i64 0, .int .i64 0, .int .i64 0, .int .i64 0, .int .i64 0, .int .i64 0]) := rowT_mk Tryz.underlying47 (by kernel_rfl) rfl (by decide)
theorem bwithin_any (n lo hi : Int) (w : World) :
    Calls Tryz.prog 140 #[.int .i64 n, .int .i64 lo, .int .i64 hi] w fun e w' => e = .returned (.bool (win n lo hi)) ∧ w = w' := by
  unfold win
  by_cases h1 : lo ≤ n <;> by_cases h2 : n ≤ hi
  all_goals
    go_enter Tryz.func140, Tryz.ntmps140
    go_wp2
    go_ret
    exact ⟨ret_bool (by simp [h1, h2]), rfl⟩
theorem many_any (n : Nat) (A : Option Addr) (cap : Nat) (w : World) (hn : n ≤ 9223372036854775807) :
    Calls Tryz.prog 232 #[.slice A n cap] w fun e w' => e = .returned (.bool (win (n : Int) 1 100)) ∧ w = w' := by
  go_enter Tryz.func232, Tryz.ntmps232
  go_wp2_with (go_at_call 140; refine (bwithin_any _ _ _ _).mono ?_; rintro e w' ⟨rfl, rfl⟩)
  go_ret
  exact ⟨rfl, rfl⟩

/-- Cloned: in memory of its own. -/
theorem cloneInts_any (l : List Int) (n : Nat) (A : Option Addr) (cap : Nat) (w : World) (hn : l.length = n) (hr : Reads w w.heap.size 1 A n (iV l)) (hm : n ≤ 1000000) :
    Calls Tryz.prog 59 #[.slice A n cap] w fun e w' => ∃ A' c', e = .returned (.slice A' n c') ∧ w'.ownsRow w.heap.size 3 1 (.slice A' n c') n (iV l) ∧ Ext w w' := by
  have hk := fun W : World => Lib.run_eql_slice_nil (P := Tryz.prog) W 50 3 A n cap 0 0 Tryz.underlying50
  rcases A with _ | a
  · have h0 : n = 0 := by
      rcases Nat.eq_zero_or_pos n with h0 | h0
      · exact h0
      · obtain ⟨b, off, e, _⟩ := hr.2 h0; cases e
    subst h0
    have hl : l = [] := List.eq_nil_of_length_eq_zero hn
    subst hl
    simp only [Option.isNone_none] at hk
    clear hr hn
    go_enter Tryz.func59, Tryz.ntmps59
    go_wp2
    go_ret
    exact ⟨none, 0, rfl, World.ownsRow_nil _ _ _ _, Ext.refl _⟩
  · simp only [Option.isNone_some] at hk
    have RR := Lib.hid (fun o1 : Obj => hr.ext ((Ext.refl w).alloc o1))
    clear hr
    replace hn := Lib.hid hn
    go_enter Tryz.func59, Tryz.ntmps59
    go_wp2_with (at_builtin; refine wpl_app row_int w _ (.tmp 5) (.tmp 6) rfl rfl rfl (own_lit (Ext.refl w) #[] _ 0 1 rfl (by simp [maxLen]) rfl) ((Ext.refl w).alloc _) rfl (RR.out _) (iV_one _) (by omega) (by unfold maxLen; omega) ?_; intro v1 w1 hg; obtain ⟨A1, c1, rfl, _, _, _⟩ := own_slice hg.own)
    go_ret
    refine ⟨A1, c1, by simp, ?_, hg.ext⟩
    have := hg.own
    simpa using this
theorem cloneTax_any (l : List Tx) (n : Nat) (A : Option Addr) (cap : Nat) (w : World) (hn : l.length = n) (hr : Reads w w.heap.size 6 A n (txCells l)) (hm : n ≤ 1000000) :
    Calls Tryz.prog 60 #[.slice A n cap] w fun e w' => ∃ A' c', e = .returned (.slice A' n c') ∧ w'.ownsRow w.heap.size 117 6 (.slice A' n c') n (txCells l) ∧ Ext w w' := by
  have hk := fun W : World => Lib.run_eql_slice_nil (P := Tryz.prog) W 47 117 A n cap 0 0 Tryz.underlying47
  rcases A with _ | a
  · have h0 : n = 0 := by
      rcases Nat.eq_zero_or_pos n with h0 | h0
      · exact h0
      · obtain ⟨b, off, e, _⟩ := hr.2 h0; cases e
    subst h0
    have hl : l = [] := List.eq_nil_of_length_eq_zero hn
    subst hl
    simp only [Option.isNone_none] at hk
    clear hr hn
    go_enter Tryz.func60, Tryz.ntmps60
    go_wp2
    go_ret
    exact ⟨none, 0, rfl, World.ownsRow_nil _ _ _ _, Ext.refl _⟩
  · simp only [Option.isNone_some] at hk
    have RR := Lib.hid (fun o1 : Obj => hr.ext ((Ext.refl w).alloc o1))
    clear hr
    replace hn := Lib.hid hn
    go_enter Tryz.func60, Tryz.ntmps60
    go_wp2_with (at_builtin; refine wpl_app row_tx w _ (.tmp 5) (.tmp 6) rfl rfl rfl (own_lit (Ext.refl w) #[] _ 0 6 rfl (by simp [maxLen]) rfl) ((Ext.refl w).alloc _) rfl (RR.out _) (txCells_one _) (by omega) (by unfold maxLen; omega) ?_; intro v1 w1 hg; obtain ⟨A1, c1, rfl, _, _, _⟩ := own_slice hg.own)
    go_ret
    refine ⟨A1, c1, by simp, ?_, hg.ext⟩
    have := hg.own
    simpa using this

theorem neq_tx (x y : Tx) (r : Bool) (h : r = decide (x ≠ y)) (w : World) : (binOp .neq 117 (.agg #[.int .i64 x.l, .int .i64 x.j, .int .i64 x.t, .int .i64 x.x, .int .i64 x.r, .int .i64 x.v]) (.agg #[.int .i64 y.l, .int .i64 y.j, .int .i64 y.t, .int .i64 y.x, .int .i64 y.r, .int .i64 y.v])).run Tryz.prog w = .ok (.bool r) w := by
  subst h
  obtain ⟨a, b, c, d, e, f⟩ := x
  obtain ⟨a', b', c', d', e', f'⟩ := y
  by_cases h1 : a = a'
  · by_cases h2 : b = b'
    · by_cases h3 : c = c'
      · by_cases h4 : d = d'
        · by_cases h5 : e = e'
          · by_cases h6 : f = f' <;> simp [go_sem, h1, h2, h3, h4, h5, h6]
          · simp [go_sem, h1, h2, h3, h4, h5]
        · simp [go_sem, h1, h2, h3, h4]
      · simp [go_sem, h1, h2, h3]
    · simp [go_sem, h1, h2]
  · simp [go_sem, h1]

theorem iV_get (l : List Int) (k : Nat) (h : k < l.length) : (iV l)[k]? = some (.int .i64 l[k]) := by simp [iV, h]
theorem reads_int {w : World} {B n : Nat} {A : Option Addr} {l : List Int} (h : Reads w B 1 A n (iV l)) {k : Nat} (hk : k < l.length) (hn : n = l.length) : ∃ b off, A = some ⟨b, off, none⟩ ∧ b < B ∧ w.cell? ⟨b, off + k, none⟩ = some (.int .i64 l[k]) := by
  subst hn
  obtain ⟨b, off, u, h1, h2, h3, h4⟩ := h.at_ hk
  refine ⟨b, off, h1, h2, ?_⟩
  rw [h4, ← h3]
  simp [iV, hk]

end Go.Proofs.YtokakpbpenndlaaGreatDoor
