/-
  Plain: what a report has of a book; sums in 128 bits.
-/
import Derived.Test.YtokakpbpenndlaaDoorRp03
import Derived.Test.YtokakpbpenndlaaDoorRp07
import Derived.Test.YtokakpbpenndlaaDoorRp14
import Derived.Test.YtokakpbpenndlaaDoorRp12
set_option linter.unusedVariables false
namespace Go.Proofs.YtokakpbpenndlaaDoor

/-- A sum of moves, what came back taken off. -/
def sgS (c : Mv → Int) : List Mv → Int
  | [] => 0
  | m :: l => (if m.back then - c m else c m) + sgS c l
theorem sgS_app (c : Mv → Int) : ∀ a b : List Mv, sgS c (a ++ b) = sgS c a + sgS c b
  | [], b => by simp [sgS]
  | m :: a, b => by
    show (if m.back then - c m else c m) + sgS c (a ++ b) = (if m.back then - c m else c m) + sgS c a + sgS c b
    rw [sgS_app c a b]
    omega
noncomputable def inP (f p : Int) (m : Mv) : Bool := decide (ofI f m.day = p)
noncomputable def perM (f p : Int) (ms : List Mv) : List Mv := ms.filter (inP f p)
def salesN (ms : List Mv) : Nat := (ms.filter fun m => !m.back).length
def backsN (ms : List Mv) : Nat := (ms.filter fun m => m.back).length
/-- The report of moves, be it an int's or not. -/
noncomputable def repOf (id f p : Int) (ms : List Mv) : Rep :=
  ⟨id, f, p, sgS Mv.t (perM f p ms), sgS Mv.x (perM f p ms), sgS Mv.v (perM f p ms), (salesN (perM f p ms) : Int), (backsN (perM f p ms) : Int)⟩
instance (n : Int) : Decidable (i64 n) := inferInstanceAs (Decidable (_ ∧ _))
def Rep.fits (r : Rep) : Prop := i64 r.t ∧ i64 r.x ∧ i64 r.v
instance (r : Rep) : Decidable r.fits := inferInstanceAs (Decidable (_ ∧ _))
/-- P30.1. -/
noncomputable def Bk.file (B : Bk) (l : List Jur) (id p : Int) : Rep × Int :=
  if (checkJ l).1 ≠ 0 then (Rep.zero, 2)
  else match findJ l id with
    | none => (Rep.zero, 6)
    | some j => if perE j.f p ≠ 0 then (Rep.zero, 5)
      else if (repOf id j.f p (B.moves id)).fits then (repOf id j.f p (B.moves id), 0) else (Rep.zero, 5)
theorem perM_take {f p : Int} {ms : List Mv} {k : Nat} (hk : k < ms.length) : perM f p (ms.take (k + 1)) = perM f p (ms.take k) ++ (if ofI f ms[k].day = p then [ms[k]] else []) := by
  unfold perM
  rw [List.take_succ_eq_append_getElem hk, List.filter_append]
  congr 1
  unfold inP
  by_cases h : ofI f ms[k].day = p <;> simp [h]
theorem salesN_app (a b : List Mv) : salesN (a ++ b) = salesN a + salesN b := by simp [salesN]
theorem backsN_app (a b : List Mv) : backsN (a ++ b) = backsN a + backsN b := by simp [backsN]
theorem perM_le (f p : Int) (ms : List Mv) : (perM f p ms).length ≤ ms.length := List.length_filter_le _ _
theorem salesN_le (ms : List Mv) : salesN ms ≤ ms.length := List.length_filter_le _ _
theorem backsN_le (ms : List Mv) : backsN ms ≤ ms.length := List.length_filter_le _ _

/-- A sum's two halves. -/
def hiI (n : Int) : Int := n / 18446744073709551616 % 18446744073709551616
def loI (n : Int) : Int := n % 18446744073709551616
theorem loI_bd (n : Int) : 0 ≤ loI n ∧ loI n < 18446744073709551616 := by unfold loI; omega
theorem hiI_bd (n : Int) : 0 ≤ hiI n ∧ hiI n < 18446744073709551616 := by unfold hiI; omega
/-- A number added. -/
theorem lo_add (s n : Int) : loI (s + n) = (loI s + n % 18446744073709551616) % 18446744073709551616 := by unfold loI; omega
theorem hi_add {s n : Int} (h : i64 n) : hiI (s + n) = (hiI s + (n / 9223372036854775808) % 18446744073709551616 + (loI s + n % 18446744073709551616) / 18446744073709551616) % 18446744073709551616 := by
  unfold hiI loI
  unfold i64 at h
  have hr : 0 ≤ s % 18446744073709551616 ∧ s % 18446744073709551616 < 18446744073709551616 := by omega
  have e0 : s = 18446744073709551616 * (s / 18446744073709551616) + s % 18446744073709551616 := by omega
  generalize s / 18446744073709551616 = q at *
  generalize s % 18446744073709551616 = r at *
  subst e0
  by_cases h0 : 0 ≤ n
  · have e1 : n / 9223372036854775808 % 18446744073709551616 = 0 := by omega
    have e2 : n % 18446744073709551616 = n := by omega
    have e3 : (18446744073709551616 * q + r + n) / 18446744073709551616 = q + (r + n) / 18446744073709551616 := by omega
    rw [e1, e2, e3]
    omega
  · have e1 : n / 9223372036854775808 % 18446744073709551616 = 18446744073709551615 := by omega
    have e2 : n % 18446744073709551616 = n + 18446744073709551616 := by omega
    have e3 : (18446744073709551616 * q + r + n) / 18446744073709551616 = q - 1 + (r + (n + 18446744073709551616)) / 18446744073709551616 := by omega
    rw [e1, e2, e3]
    omega
/-- A number taken off. -/
theorem lo_sub (s n : Int) : loI (s - n) = (loI s - n % 18446744073709551616) % 18446744073709551616 := by unfold loI; omega
theorem hi_sub {s n : Int} (h : i64 n) : hiI (s - n) = (hiI s - (n / 9223372036854775808) % 18446744073709551616 - (if loI s < n % 18446744073709551616 then 1 else 0)) % 18446744073709551616 := by
  unfold hiI loI
  unfold i64 at h
  have hr : 0 ≤ s % 18446744073709551616 ∧ s % 18446744073709551616 < 18446744073709551616 := by omega
  have e0 : s = 18446744073709551616 * (s / 18446744073709551616) + s % 18446744073709551616 := by omega
  generalize s / 18446744073709551616 = q at *
  generalize s % 18446744073709551616 = r at *
  subst e0
  by_cases h0 : 0 ≤ n
  · have e1 : n / 9223372036854775808 % 18446744073709551616 = 0 := by omega
    have e2 : n % 18446744073709551616 = n := by omega
    rw [e1, e2]
    by_cases hl : r < n
    · have e3 : (18446744073709551616 * q + r - n) / 18446744073709551616 = q - 1 := by omega
      rw [if_pos hl, e3]
      omega
    · have e3 : (18446744073709551616 * q + r - n) / 18446744073709551616 = q := by omega
      rw [if_neg hl, e3]
      omega
  · have e1 : n / 9223372036854775808 % 18446744073709551616 = 18446744073709551615 := by omega
    have e2 : n % 18446744073709551616 = n + 18446744073709551616 := by omega
    rw [e1, e2]
    by_cases hl : r < n + 18446744073709551616
    · have e3 : (18446744073709551616 * q + r - n) / 18446744073709551616 = q := by omega
      rw [if_pos hl, e3]
      omega
    · have e3 : (18446744073709551616 * q + r - n) / 18446744073709551616 = q + 1 := by omega
      rw [if_neg hl, e3]
      omega
/-- A sum that is not too great, as an int. -/
def asI (n : Int) : Int := if loI n < 9223372036854775808 then loI n else loI n - 18446744073709551616
theorem asI_of {n : Int} (h : i64 n) : asI n = n := by unfold asI loI; unfold i64 at h; omega
theorem asI_i64 (n : Int) : i64 (asI n) := by unfold asI i64; have := loI_bd n; split <;> omega
theorem fits_iff {n : Int} (h : -170141183460469231731687303715884105728 ≤ n ∧ n < 170141183460469231731687303715884105728) : (hiI n = asI n / 9223372036854775808 % 18446744073709551616) ↔ i64 n := by
  unfold asI hiI loI i64
  have hr : 0 ≤ n % 18446744073709551616 ∧ n % 18446744073709551616 < 18446744073709551616 := by omega
  have hq : -9223372036854775808 ≤ n / 18446744073709551616 ∧ n / 18446744073709551616 < 9223372036854775808 := by omega
  have e0 : n = 18446744073709551616 * (n / 18446744073709551616) + n % 18446744073709551616 := by omega
  generalize n / 18446744073709551616 = q at *
  generalize n % 18446744073709551616 = r at *
  subst e0
  by_cases hl : r < 9223372036854775808
  · rw [if_pos hl, show r / 9223372036854775808 = 0 by omega]
    constructor
    · intro e
      have : q = 0 := by omega
      subst this
      omega
    · intro e
      have : q = 0 := by omega
      subst this
      rfl
  · rw [if_neg hl, show (r - 18446744073709551616) / 9223372036854775808 = -1 by omega]
    constructor
    · intro e
      have : q = -1 := by omega
      subst this
      omega
    · intro e
      have : q = -1 := by omega
      subst this
      rfl
/-- A sum of many ints is not too great. -/
theorem sgS_bd {c : Mv → Int} : ∀ {l : List Mv}, (∀ m ∈ l, i64 (c m)) → -(9223372036854775808 * (l.length : Int)) ≤ sgS c l ∧ sgS c l ≤ 9223372036854775808 * (l.length : Int)
  | [], _ => by simp [sgS]
  | m :: l, h => by
    have h1 := h m (by simp)
    have h2 := sgS_bd (c := c) (l := l) fun x hx => h x (by simp [hx])
    unfold i64 at h1
    rw [show sgS c (m :: l) = (if m.back then - c m else c m) + sgS c l from rfl]
    simp only [List.length_cons]
    split <;> omega
end Go.Proofs.YtokakpbpenndlaaDoor

set_option linter.unusedVariables false
namespace Go.Proofs.YtokakpbpenndlaaDoor

/-- What of t has come back when p of the whole W has. -/
def shI (t W p : Int) : Int := if W = 0 then 0 else (evenN t.toNat p.toNat W.toNat : Int)
theorem shI_zero (t W : Int) (hW : 0 ≤ W) : shI t W 0 = 0 := by
  unfold shI
  split
  · rfl
  · rw [show (0 : Int).toNat = 0 from rfl, evenN_zero (by omega)]; rfl
theorem shI_all {t W : Int} (ht : 0 ≤ t) (hW : 0 < W) : shI t W W = t := by
  unfold shI
  rw [if_neg (by omega), evenN_all (by omega)]
  omega
theorem shI_mono {t W a p : Int} (hW : 0 ≤ W) (h : a ≤ p) : shI t W a ≤ shI t W p := by
  unfold shI
  split
  · omega
  · have := evenN_mono (a := t.toNat) (b := a.toNat) (b' := p.toNat) (c := W.toNat) (by omega) (by omega)
    omega
theorem shI_nonneg (t W p : Int) : 0 ≤ shI t W p := by
  unfold shI; split <;> omega
theorem shI_le {t W p : Int} (ht : 0 ≤ t) (hp : p ≤ W) (hW : 0 ≤ W) : shI t W p ≤ t := by
  unfold shI
  split
  · exact ht
  · have := evenN_le (a := t.toNat) (b := p.toNat) (c := W.toNat) (by omega) (by omega)
    omega
theorem shI_step {t W a p : Int} (ht : 0 ≤ t) (htW : t ≤ W) (ha : 0 ≤ a) (h : a ≤ p) : shI t W p - shI t W a ≤ p - a := by
  unfold shI
  split
  · omega
  · have := evenN_step (a := t.toNat) (b := a.toNat) (b' := p.toNat) (c := W.toNat) (by omega) (by omega) (by omega)
    omega
theorem backI_sh {t W a p : Int} (ht : 0 ≤ t ∧ t ≤ 4611686018427387904) (hW : 0 ≤ W ∧ W ≤ 4611686018427387904) (ha : 0 ≤ a) (h : a ≤ p) (hp : p ≤ W) : backI t W a p = (shI t W p - shI t W a, 0) := by
  unfold backI shI
  rw [if_neg (by simp [win]; omega), if_neg (by omega)]
  split
  · rfl
  · rfl
theorem Tx.ret_eq {x : Tx} (hok : x.ok = true) {a p : Int} (ha : 0 ≤ a) (h : a ≤ p) (hp : p ≤ x.t + x.x) :
    x.ret a p = ({ x with t := shI x.t (x.t + x.x) p - shI x.t (x.t + x.x) a, x := p - a - (shI x.t (x.t + x.x) p - shI x.t (x.t + x.x) a), v := shI x.v (x.t + x.x) p - shI x.v (x.t + x.x) a }, 0) := by
  obtain ⟨_, _, b3, b4, _, b6⟩ := Tx.ok_bd hok
  unfold Tx.ret
  rw [if_neg (by simp [hok]), backI_sh b3 (by omega) ha h hp, backI_sh b6 (by omega) ha h hp]
  rfl
/-- A number from 0 on below n. -/
def pickI (x n : Int) : Int := if n < 1 then 0 else if Int.tmod x n < 0 then Int.tmod x n + n else Int.tmod x n
theorem tmod_bd {x n : Int} (h : 1 ≤ n) : -n < Int.tmod x n ∧ Int.tmod x n < n := by
  refine ⟨?_, Int.tmod_lt_of_pos x (by omega)⟩
  have := Int.tmod_lt_of_pos (-x) (show 0 < n by omega)
  rw [Int.neg_tmod] at this
  omega
theorem pickI_bd {x n : Int} (h : 1 ≤ n) : 0 ≤ pickI x n ∧ pickI x n < n := by
  have := tmod_bd (x := x) h
  unfold pickI
  rw [if_neg (by omega)]
  split <;> omega
end Go.Proofs.YtokakpbpenndlaaDoor
