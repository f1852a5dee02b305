/-
  Plain: periods that are; reports, their bytes, read as written.
-/
import Derived.Test.YtokakpbpenndlaaGreatDoorRs31
import Derived.Test.YtokakpbpenndlaaGreatDoorRs30
import Derived.Test.YtokakpbpenndlaaGreatDoorRs10
import Derived.Test.YtokakpbpenndlaaGreatDoorRs23
import Derived.Test.YtokakpbpenndlaaGreatDoorRs05
set_option linter.unusedVariables false
namespace Go.Proofs.YtokakpbpenndlaaGreatDoor

/-- A report. -/
structure Rep where
  j : Int
  k : Int
  p : Int
  t : Int
  x : Int
  v : Int
  s : Int
  r : Int
deriving DecidableEq
def Rep.zero : Rep := ⟨0, 0, 0, 0, 0, 0, 0, 0⟩
def Rep.ints (r : Rep) : List Int := [r.j, r.k, r.p, r.t, r.x, r.v, r.s, r.r]
/-- P30.2: the error. -/
def Rep.check (r : Rep) : Int := if perE r.k r.p ≠ 0 ∨ r.j < 1 ∨ 1099511627775 < r.j ∨ r.s < 0 ∨ 2147483647 < r.s ∨ r.r < 0 ∨ 2147483647 < r.r then 5 else 0
def Rep.bytes (r : Rep) : List UInt8 := if r.check = 0 then putsL r.ints else []
/-- The eight numbers of a report, read one behind the other. -/
def repP (b : List UInt8) : Rep × RS :=
  let a := (RS.start b).num (-9223372036854775808) 9223372036854775807 5
  let c := a.2.num (-9223372036854775808) 9223372036854775807 5
  let d := c.2.num (-9223372036854775808) 9223372036854775807 5
  let e := d.2.num (-9223372036854775808) 9223372036854775807 5
  let f := e.2.num (-9223372036854775808) 9223372036854775807 5
  let g := f.2.num (-9223372036854775808) 9223372036854775807 5
  let h := g.2.num (-9223372036854775808) 9223372036854775807 5
  let i := h.2.num (-9223372036854775808) 9223372036854775807 5
  (⟨a.1, c.1, d.1, e.1, f.1, g.1, h.1, i.1⟩, i.2)
def readRep (b : List UInt8) : Rep × Int := if (repP b).2.fin.1 ≠ 0 ∨ (repP b).1.check ≠ 0 then (Rep.zero, 4) else ((repP b).1, 0)
theorem Rep.bd {r : Rep} (h : r.check = 0) : (1 ≤ r.j ∧ r.j ≤ 1099511627775) ∧ (1 ≤ r.k ∧ r.k ≤ 4) ∧ (0 ≤ r.p ∧ r.p < 119988) ∧ (0 ≤ r.s ∧ r.s ≤ 2147483647) ∧ (0 ≤ r.r ∧ r.r ≤ 2147483647) ∧ perE r.k r.p = 0 := by
  unfold Rep.check at h
  by_cases hc : perE r.k r.p ≠ 0 ∨ r.j < 1 ∨ 1099511627775 < r.j ∨ r.s < 0 ∨ 2147483647 < r.s ∨ r.r < 0 ∨ 2147483647 < r.r
  · rw [if_pos hc] at h; cases h
  have hp : perE r.k r.p = 0 := by
    by_cases h0 : perE r.k r.p = 0
    · exact h0
    · exact absurd (.inl h0) hc
  have hp' := hp
  unfold perE longI at hp'
  have hk : 1 ≤ r.k ∧ r.k ≤ 4 := by
    by_cases h1 : r.k = 1
    · omega
    by_cases h2 : r.k = 2
    · omega
    by_cases h3 : r.k = 3
    · omega
    by_cases h4 : r.k = 4
    · omega
    rw [if_neg h1, if_neg h2, if_neg h3, if_neg h4, if_pos rfl] at hp'
    cases hp'
  refine ⟨by omega, hk, ?_, by omega, by omega, hp⟩
  have hl := longI_bd r.k
  unfold perE at hp
  by_cases h0 : longI r.k = 0
  · rw [if_pos h0] at hp; cases hp
  rw [if_neg h0] at hp
  by_cases h1 : r.p < 0 ∨ 119988 / longI r.k ≤ r.p
  · rw [if_pos h1] at hp; cases hp
  have : 119988 / longI r.k ≤ 119988 := Int.ediv_le_self _ (by decide)
  omega
/-- P30.2: reading returns what was written. (The sums are ints.) -/
theorem rep_put {r : Rep} (h : r.check = 0) (ht : i64 r.t) (hx : i64 r.x) (hv : i64 r.v) : readRep r.bytes = (r, 0) := by
  obtain ⟨b1, b2, b3, b4, b5, _⟩ := Rep.bd h
  have hb : r.bytes = putL r.j ++ (putL r.k ++ (putL r.p ++ (putL r.t ++ (putL r.x ++ (putL r.v ++ (putL r.s ++ (putL r.r ++ []))))))) := by
    unfold Rep.bytes Rep.ints
    rw [if_pos h, putsL_cons, putsL_cons, putsL_cons, putsL_cons, putsL_cons, putsL_cons, putsL_cons, putsL_one, List.append_nil]
  generalize r.bytes = b at *
  unfold i64 at ht hx hv
  obtain ⟨s1, e1, f1, g1, d1, a1⟩ := RS.num_put' (s := RS.start b) (lo := -9223372036854775808) (hi := 9223372036854775807) (above := 5) rfl hb (by omega) (by omega) (by unfold i64; omega)
  obtain ⟨s2, e2, f2, g2, d2, a2⟩ := RS.num_put' (s := s1) (lo := -9223372036854775808) (hi := 9223372036854775807) (above := 5) f1 d1 (by omega) (by omega) (by unfold i64; omega)
  obtain ⟨s3, e3, f3, g3, d3, a3⟩ := RS.num_put' (s := s2) (lo := -9223372036854775808) (hi := 9223372036854775807) (above := 5) f2 d2 (by omega) (by omega) (by unfold i64; omega)
  obtain ⟨s4, e4, f4, g4, d4, a4⟩ := RS.num_put' (s := s3) (lo := -9223372036854775808) (hi := 9223372036854775807) (above := 5) f3 d3 ht.1 ht.2 ht
  obtain ⟨s5, e5, f5, g5, d5, a5⟩ := RS.num_put' (s := s4) (lo := -9223372036854775808) (hi := 9223372036854775807) (above := 5) f4 d4 hx.1 hx.2 hx
  obtain ⟨s6, e6, f6, g6, d6, a6⟩ := RS.num_put' (s := s5) (lo := -9223372036854775808) (hi := 9223372036854775807) (above := 5) f5 d5 hv.1 hv.2 hv
  obtain ⟨s7, e7, f7, g7, d7, a7⟩ := RS.num_put' (s := s6) (lo := -9223372036854775808) (hi := 9223372036854775807) (above := 5) f6 d6 (by omega) (by omega) (by unfold i64; omega)
  obtain ⟨s8, e8, f8, g8, d8, a8⟩ := RS.num_put' (s := s7) (lo := -9223372036854775808) (hi := 9223372036854775807) (above := 5) f7 d7 (by omega) (by omega) (by unfold i64; omega)
  have hP : repP b = (r, s8) := by
    unfold repP
    simp only [e1, e2, e3, e4, e5, e6, e7, e8]
  have hF : s8.fin = (0, 0) := by
    unfold RS.fin
    have hl := drop_end d8
    rw [if_neg (by omega), f8, a8, a7, a6, a5, a4, a3, a2, a1]
    rfl
  unfold readRep
  rw [hP]
  simp only
  rw [hF, if_neg (by simp [h])]
/-- P30.2: writing returns the bytes that were read. -/
theorem rep_inv {b : List UInt8} (h : (readRep b).2 = 0) : (readRep b).1.check = 0 ∧ (readRep b).1.bytes = b := by
  unfold readRep at h ⊢
  by_cases hc : (repP b).2.fin.1 ≠ 0 ∨ (repP b).1.check ≠ 0
  · rw [if_pos hc] at h; cases h
  rw [if_neg hc]
  have hf : (repP b).2.fin.1 = 0 := by
    by_cases h0 : (repP b).2.fin.1 = 0
    · exact h0
    · exact absurd (.inl h0) hc
  have hk : (repP b).1.check = 0 := by
    by_cases h0 : (repP b).1.check = 0
    · exact h0
    · exact absurd (.inr h0) hc
  refine ⟨hk, ?_⟩
  have hfe := fin_fe _ hf
  have HH : (RS.start b).Has (repP b).1.ints (repP b).2 := by
    unfold repP at hfe ⊢
    simp only at hfe ⊢
    obtain ⟨p8, _⟩ := RS.num_inv (by decide) hfe
    obtain ⟨p7, _⟩ := RS.num_inv (by decide) p8.fe
    obtain ⟨p6, _⟩ := RS.num_inv (by decide) p7.fe
    obtain ⟨p5, _⟩ := RS.num_inv (by decide) p6.fe
    obtain ⟨p4, _⟩ := RS.num_inv (by decide) p5.fe
    obtain ⟨p3, _⟩ := RS.num_inv (by decide) p4.fe
    obtain ⟨p2, _⟩ := RS.num_inv (by decide) p3.fe
    obtain ⟨p1, _⟩ := RS.num_inv (by decide) p2.fe
    have := ((((((p1.trans p2).trans p3).trans p4).trans p5).trans p6).trans p7).trans p8
    simpa [Rep.ints] using this
  generalize (repP b).2 = s' at *
  have hend : b.length ≤ s'.at_ := by
    unfold RS.fin at hf
    by_cases hq : s'.fe = 0 ∧ s'.at_ < s'.b.length
    · rw [if_pos hq] at hf; cases hf
    · have hb : s'.b = b := HH.b
      rw [hb] at hq
      omega
  have ht := HH.txt
  have h0 : (RS.start b).b.drop (RS.start b).at_ = b := by simp [RS.start]
  have h1 : (RS.start b).b.drop s'.at_ = [] := List.drop_eq_nil_of_le hend
  rw [h0, h1, List.append_nil] at ht
  unfold Rep.bytes
  rw [if_pos hk]
  exact ht.symm
end Go.Proofs.YtokakpbpenndlaaGreatDoor

set_option linter.unusedVariables false
namespace Go.Proofs.YtokakpbpenndlaaGreatDoor

/-- A sum of moves, what came back taken off. -/
def sgS (c : Mv → Int) : List Mv → Int
  | [] => 0
  | m :: l => (if m.back then - c m else c m) + sgS c l
theorem sgS_app (c : Mv → Int) : ∀ a b : List Mv, sgS c (a ++ b) = sgS c a + sgS c b
  | [], b => by simp [sgS]
  | m :: a, b => by
    show (if m.back then - c m else c m) + sgS c (a ++ b) = (if m.back then - c m else c m) + sgS c a + sgS c b
    rw [sgS_app c a b]
    omega
noncomputable def inP (f p : Int) (m : Mv) : Bool := decide (ofI f m.day = p)
noncomputable def perM (f p : Int) (ms : List Mv) : List Mv := ms.filter (inP f p)
def salesN (ms : List Mv) : Nat := (ms.filter fun m => !m.back).length
def backsN (ms : List Mv) : Nat := (ms.filter fun m => m.back).length
/-- The report of moves, be it an int's or not. -/
noncomputable def repOf (id f p : Int) (ms : List Mv) : Rep :=
  ⟨id, f, p, sgS Mv.t (perM f p ms), sgS Mv.x (perM f p ms), sgS Mv.v (perM f p ms), (salesN (perM f p ms) : Int), (backsN (perM f p ms) : Int)⟩
instance (n : Int) : Decidable (i64 n) := inferInstanceAs (Decidable (_ ∧ _))
def Rep.fits (r : Rep) : Prop := i64 r.t ∧ i64 r.x ∧ i64 r.v
instance (r : Rep) : Decidable r.fits := inferInstanceAs (Decidable (_ ∧ _))
/-- P30.1. -/
noncomputable def Bk.file (B : Bk) (l : List Jur) (id p : Int) : Rep × Int :=
  if (checkJ l).1 ≠ 0 then (Rep.zero, 2)
  else match findJ l id with
    | none => (Rep.zero, 6)
    | some j => if perE j.f p ≠ 0 then (Rep.zero, 5)
      else if (repOf id j.f p (B.moves id)).fits then (repOf id j.f p (B.moves id), 0) else (Rep.zero, 5)
theorem perM_take {f p : Int} {ms : List Mv} {k : Nat} (hk : k < ms.length) : perM f p (ms.take (k + 1)) = perM f p (ms.take k) ++ (if ofI f ms[k].day = p then [ms[k]] else []) := by
  unfold perM
  rw [List.take_succ_eq_append_getElem hk, List.filter_append]
  congr 1
  unfold inP
  by_cases h : ofI f ms[k].day = p <;> simp [h]
theorem salesN_app (a b : List Mv) : salesN (a ++ b) = salesN a + salesN b := by simp [salesN]
theorem backsN_app (a b : List Mv) : backsN (a ++ b) = backsN a + backsN b := by simp [backsN]
theorem perM_le (f p : Int) (ms : List Mv) : (perM f p ms).length ≤ ms.length := List.length_filter_le _ _
theorem salesN_le (ms : List Mv) : salesN ms ≤ ms.length := List.length_filter_le _ _
theorem backsN_le (ms : List Mv) : backsN ms ≤ ms.length := List.length_filter_le _ _

/-- A sum's two halves. -/
def hiI (n : Int) : Int := n / 18446744073709551616 % 18446744073709551616
def loI (n : Int) : Int := n % 18446744073709551616
theorem loI_bd (n : Int) : 0 ≤ loI n ∧ loI n < 18446744073709551616 := by unfold loI; omega
theorem hiI_bd (n : Int) : 0 ≤ hiI n ∧ hiI n < 18446744073709551616 := by unfold hiI; omega
/-- A number added. -/
theorem lo_add (s n : Int) : loI (s + n) = (loI s + n % 18446744073709551616) % 18446744073709551616 := by unfold loI; omega
theorem hi_add {s n : Int} (h : i64 n) : hiI (s + n) = (hiI s + (n / 9223372036854775808) % 18446744073709551616 + (loI s + n % 18446744073709551616) / 18446744073709551616) % 18446744073709551616 := by
  unfold hiI loI
  unfold i64 at h
  have hr : 0 ≤ s % 18446744073709551616 ∧ s % 18446744073709551616 < 18446744073709551616 := by omega
  have e0 : s = 18446744073709551616 * (s / 18446744073709551616) + s % 18446744073709551616 := by omega
  generalize s / 18446744073709551616 = q at *
  generalize s % 18446744073709551616 = r at *
  subst e0
  by_cases h0 : 0 ≤ n
  · have e1 : n / 9223372036854775808 % 18446744073709551616 = 0 := by omega
    have e2 : n % 18446744073709551616 = n := by omega
    have e3 : (18446744073709551616 * q + r + n) / 18446744073709551616 = q + (r + n) / 18446744073709551616 := by omega
    rw [e1, e2, e3]
    omega
  · have e1 : n / 9223372036854775808 % 18446744073709551616 = 18446744073709551615 := by omega
    have e2 : n % 18446744073709551616 = n + 18446744073709551616 := by omega
    have e3 : (18446744073709551616 * q + r + n) / 18446744073709551616 = q - 1 + (r + (n + 18446744073709551616)) / 18446744073709551616 := by omega
    rw [e1, e2, e3]
    omega
/-- A number taken off. -/
theorem lo_sub (s n : Int) : loI (s - n) = (loI s - n % 18446744073709551616) % 18446744073709551616 := by unfold loI; omega
theorem hi_sub {s n : Int} (h : i64 n) : hiI (s - n) = (hiI s - (n / 9223372036854775808) % 18446744073709551616 - (if loI s < n % 18446744073709551616 then 1 else 0)) % 18446744073709551616 := by
  unfold hiI loI
  unfold i64 at h
  have hr : 0 ≤ s % 18446744073709551616 ∧ s % 18446744073709551616 < 18446744073709551616 := by omega
  have e0 : s = 18446744073709551616 * (s / 18446744073709551616) + s % 18446744073709551616 := by omega
  generalize s / 18446744073709551616 = q at *
  generalize s % 18446744073709551616 = r at *
  subst e0
  by_cases h0 : 0 ≤ n
  · have e1 : n / 9223372036854775808 % 18446744073709551616 = 0 := by omega
    have e2 : n % 18446744073709551616 = n := by omega
    rw [e1, e2]
    by_cases hl : r < n
    · have e3 : (18446744073709551616 * q + r - n) / 18446744073709551616 = q - 1 := by omega
      rw [if_pos hl, e3]
      omega
    · have e3 : (18446744073709551616 * q + r - n) / 18446744073709551616 = q := by omega
      rw [if_neg hl, e3]
      omega
  · have e1 : n / 9223372036854775808 % 18446744073709551616 = 18446744073709551615 := by omega
    have e2 : n % 18446744073709551616 = n + 18446744073709551616 := by omega
    rw [e1, e2]
    by_cases hl : r < n + 18446744073709551616
    · have e3 : (18446744073709551616 * q + r - n) / 18446744073709551616 = q := by omega
      rw [if_pos hl, e3]
      omega
    · have e3 : (18446744073709551616 * q + r - n) / 18446744073709551616 = q + 1 := by omega
      rw [if_neg hl, e3]
      omega
/-- A sum that is not too great, as an int. -/
def asI (n : Int) : Int := if loI n < 9223372036854775808 then loI n else loI n - 18446744073709551616
theorem asI_of {n : Int} (h : i64 n) : asI n = n := by unfold asI loI; unfold i64 at h; omega
theorem asI_i64 (n : Int) : i64 (asI n) := by unfold asI i64; have := loI_bd n; split <;> omega
theorem fits_iff {n : Int} (h : -170141183460469231731687303715884105728 ≤ n ∧ n < 170141183460469231731687303715884105728) : (hiI n = asI n / 9223372036854775808 % 18446744073709551616) ↔ i64 n := by
  unfold asI hiI loI i64
  have hr : 0 ≤ n % 18446744073709551616 ∧ n % 18446744073709551616 < 18446744073709551616 := by omega
  have hq : -9223372036854775808 ≤ n / 18446744073709551616 ∧ n / 18446744073709551616 < 9223372036854775808 := by omega
  have e0 : n = 18446744073709551616 * (n / 18446744073709551616) + n % 18446744073709551616 := by omega
  generalize n / 18446744073709551616 = q at *
  generalize n % 18446744073709551616 = r at *
  subst e0
  by_cases hl : r < 9223372036854775808
  · rw [if_pos hl, show r / 9223372036854775808 = 0 by omega]
    constructor
    · intro e
      have : q = 0 := by omega
      subst this
      omega
    · intro e
      have : q = 0 := by omega
      subst this
      rfl
  · rw [if_neg hl, show (r - 18446744073709551616) / 9223372036854775808 = -1 by omega]
    constructor
    · intro e
      have : q = -1 := by omega
      subst this
      omega
    · intro e
      have : q = -1 := by omega
      subst this
      rfl
/-- A sum of many ints is not too great. -/
theorem sgS_bd {c : Mv → Int} : ∀ {l : List Mv}, (∀ m ∈ l, i64 (c m)) → -(9223372036854775808 * (l.length : Int)) ≤ sgS c l ∧ sgS c l ≤ 9223372036854775808 * (l.length : Int)
  | [], _ => by simp [sgS]
  | m :: l, h => by
    have h1 := h m (by simp)
    have h2 := sgS_bd (c := c) (l := l) fun x hx => h x (by simp [hx])
    unfold i64 at h1
    rw [show sgS c (m :: l) = (if m.back then - c m else c m) + sgS c l from rfl]
    simp only [List.length_cons]
    split <;> omega
end Go.Proofs.YtokakpbpenndlaaGreatDoor

set_option linter.unusedVariables false
namespace Go.Proofs.YtokakpbpenndlaaGreatDoor

def b3T (l : Tx) : Prop := i64 l.t ∧ i64 l.x ∧ i64 l.v
def Bk.b3 (B : Bk) : Prop := ∀ x ∈ B, ∀ l ∈ x.lines, b3T l
theorem b3T_ok {x : Tx} (h : x.ok = true) : b3T x := by
  obtain ⟨_, _, h3, h4, _, h6⟩ := Tx.ok_bd h
  unfold b3T i64
  omega
theorem b3T_zero : b3T Tx.zero := by unfold b3T i64 Tx.zero; simp
theorem b3T_ret (x : Tx) (b a : Int) : b3T (x.ret b a).1 := by
  unfold Tx.ret
  by_cases hok : x.ok = false
  · rw [if_pos hok]; exact b3T_zero
  rw [if_neg hok]
  by_cases he : (backI x.t (x.t + x.x) b a).2 = 0
  · rw [if_neg (by simpa using he)]
    obtain ⟨_, _, _, _, h3, h4, _, h6⟩ : x.ok = true ∧ True ∧ True ∧ True ∧ (0 ≤ x.t ∧ x.t ≤ 4611686018427387904) ∧ (0 ≤ x.x ∧ x.x ≤ 4611686018427387904 - x.t) ∧ True ∧ (0 ≤ x.v ∧ x.v ≤ 4611686018427387904) := by
      have ht : x.ok = true := by simpa using hok
      obtain ⟨_, _, h3, h4, _, h6⟩ := Tx.ok_bd ht
      exact ⟨ht, trivial, trivial, trivial, h3, h4, trivial, h6⟩
    obtain ⟨_, n1, b1, b2, b3, b4, b5⟩ := backI_ok he
    have he' := backI_err (t' := x.v) h6 he
    obtain ⟨_, _, _, _, _, c4, c5⟩ := backI_ok he'
    unfold b3T i64
    simp only
    omega
  · rw [if_pos (by simpa using he)]; exact b3T_zero
theorem Bk.b3_nil : Bk.b3 [] := fun x hx => absurd hx (by simp)
theorem Bk.b3_snoc {B : Bk} (h : B.b3) {x : Kp} (hx : ∀ l ∈ x.lines, b3T l) : Bk.b3 (B ++ [x]) := by
  intro y hy
  rcases List.mem_append.1 hy with hy | hy
  · exact h y hy
  · rw [List.mem_singleton.1 hy]; exact hx
theorem Bk.b3_upd {B : Bk} (h : B.b3) (i : Int) (f : Kp → Kp) (hf : ∀ x, (f x).lines = x.lines) : (B.upd i f).b3 := by
  intro y hy
  unfold Bk.upd at hy
  obtain ⟨x, hx, rfl⟩ := List.mem_map.1 hy
  by_cases hc : x.e.id = i
  · rw [if_pos hc, hf]; exact h x hx
  · rw [if_neg hc]; exact h x hx
theorem refLines_b3 (s : Kp) (am : List Int) : ∀ l ∈ s.refLines am, b3T l := by
  intro l hl
  unfold Kp.refLines at hl
  obtain ⟨x, _, hx⟩ := List.mem_flatMap.1 hl
  unfold Kp.refLine at hx
  by_cases hc : am.getD x.l.toNat 0 = 0
  · rw [if_pos hc] at hx; cases hx
  · rw [if_neg hc] at hx
    rw [List.mem_singleton.1 hx]
    exact b3T_ret _ _ _
theorem put_b3 {B : Bk} (h : B.b3) {e : Ent} (hc : e.check = 0) : (B.put e).1.b3 := by
  unfold Bk.put
  by_cases hk : e.k = 1
  · rw [if_pos hk]
    refine Bk.b3_snoc h fun l hl => ?_
    have hf := (Ent.check_ok hc).2.2
    unfold Ent.fine at hf
    rw [if_pos hk] at hf
    unfold Ent.saleFine at hf
    simp only [Bool.and_eq_true, decide_eq_true_eq] at hf
    exact b3T_ok (checkTax_mem hf.1.1.1 l hl)
  rw [if_neg hk]
  by_cases hk2 : e.k = 2
  · rw [if_pos hk2]
    cases B.sale e.of_ with
    | none => exact Bk.b3_snoc h fun l hl => absurd hl (by simp)
    | some s => exact Bk.b3_snoc (Bk.b3_upd h e.of_ (fun x => { x with back := addL x.back e.am }) fun _ => rfl) (refLines_b3 s e.am)
  rw [if_neg hk2]
  by_cases hk3 : e.k = 3
  · rw [if_pos hk3]
    exact Bk.b3_snoc (Bk.b3_upd h e.of_ (fun x => { x with voided := true }) fun _ => rfl) fun l hl => absurd hl (by simp)
  rw [if_neg hk3]
  exact Bk.b3_snoc h fun l hl => absurd hl (by simp)
theorem add_b3 {B : Bk} (h : B.b3) (e : Ent) : (B.add e).1.b3 := by
  by_cases hm : B.may e = 0
  · have : (B.add e).1 = (B.put e).1 := by unfold Bk.add; rw [if_pos hm]
    rw [this]; exact put_b3 h (may_check hm)
  · rw [add_no hm]; exact h
/-- What is moved of any jurisdiction. -/
theorem moves_bd {B : Bk} (h : B.b3) (hok : ∀ x ∈ B, x.ok) {j : Int} : ∀ m ∈ B.moves j, (i64 m.t ∧ i64 m.x ∧ i64 m.v) ∧ 0 ≤ m.day ∧ m.day ≤ 3652058 := by
  intro m hm
  unfold Bk.moves at hm
  obtain ⟨x, hx, hm⟩ := List.mem_flatMap.1 hm
  unfold Kp.moves at hm
  by_cases hv : x.voided = true
  · rw [if_pos hv] at hm; cases hm
  rw [if_neg hv] at hm
  obtain ⟨l, hl, rfl⟩ := List.mem_map.1 hm
  have hd := (Ent.check_ok (hok x hx).chk).1
  unfold Ent.head at hd
  simp only [Bool.and_eq_true] at hd
  exact ⟨h x hx l (List.mem_filter.1 hl).1, win_bd hd.2⟩
theorem flat_le {α β : Type} {f : α → List β} {c : Nat} : ∀ {l : List α}, (∀ a ∈ l, (f a).length ≤ c) → (l.flatMap f).length ≤ c * l.length
  | [], _ => by simp
  | a :: l, h => by
    have h1 := h a (by simp)
    have h2 := flat_le (f := f) (c := c) (l := l) fun x hx => h x (by simp [hx])
    rw [List.flatMap_cons, List.length_append, List.length_cons, Nat.mul_add]
    omega
theorem moves_le {B : Bk} (hs : B.small) (j : Int) : (B.moves j).length ≤ 6400 * B.length := by
  unfold Bk.moves
  exact flat_le fun x hx => Nat.le_trans (moves_len x j) (hs x hx)
end Go.Proofs.YtokakpbpenndlaaGreatDoor

set_option linter.unusedVariables false
namespace Go.Proofs.YtokakpbpenndlaaGreatDoor
open Go.RowKit Go.Maps

def sub64Entry : Array Value → Sem Value := fun args => do
  let (x, y, b) ← Extern.MathBitsCarry.three "Sub64" args
  pure (Extern.MathBitsCarry.pair ((x + Extern.MathBitsCarry.m64 - y - b) % Extern.MathBitsCarry.m64) (if x < y + b then 1 else 0))
theorem run_sub64 {P : Program} (x y c : Int) (hx : 0 ≤ x) (hy : 0 ≤ y) (hx1 : x < 18446744073709551616) (hy1 : y < 18446744073709551616) (hc0 : 0 ≤ c) (hc : c ≤ 1) (w : World) :
    (sub64Entry #[.int .u64 x, .int .u64 y, .int .u64 c]).run P w =
      .ok (.tuple #[.int .u64 ((x - y - c) % 18446744073709551616), .int .u64 (if x < y + c then 1 else 0)]) w := by
  have key : ∀ k : Nat, k ≤ 1 → (sub64Entry #[.int .u64 x, .int .u64 y, .int .u64 (k : Int)]).run P w =
      .ok (Extern.MathBitsCarry.pair ((x.toNat + Extern.MathBitsCarry.m64 - y.toNat - k) % Extern.MathBitsCarry.m64) (if x.toNat < y.toNat + k then 1 else 0)) w := by
    intro k hk
    have : k = 0 ∨ k = 1 := by omega
    rcases this with rfl | rfl <;> rfl
  obtain ⟨k, rfl⟩ := Int.eq_ofNat_of_zero_le hc0
  rw [key k (by omega)]
  obtain ⟨X, rfl⟩ := Int.eq_ofNat_of_zero_le hx
  obtain ⟨Y, rfl⟩ := Int.eq_ofNat_of_zero_le hy
  simp only [Extern.MathBitsCarry.pair, Extern.MathBitsCarry.m64, Int.toNat_natCast]
  have e1 : (((X + 2 ^ 64 - Y - k) % 2 ^ 64 : Nat) : Int) = ((X : Int) - Y - k) % 18446744073709551616 := by omega
  have e2 : (((if X < Y + k then 1 else 0 : Nat)) : Int) = (if (X : Int) < Y + k then 1 else 0) := by split <;> split <;> omega
  rw [Int.ofNat_eq_natCast, Int.ofNat_eq_natCast, e1, e2]
theorem sub64_any (x y c : Int) (hx : 0 ≤ x) (hy : 0 ≤ y) (hx1 : x < 18446744073709551616) (hy1 : y < 18446744073709551616) (hc0 : 0 ≤ c) (hc : c ≤ 1) (w : World) : (callFunc 115 #[.int .u64 x, .int .u64 y, .int .u64 c]).run Tryz.prog w =
    .ok (.value (.tuple #[.int .u64 ((x - y - c) % 18446744073709551616), .int .u64 (if x < y + c then 1 else 0)])) w := by
  rw [run_callFunc_extern Tryz.func115 (by kernel_rfl) (by kernel_rfl) (by kernel_rfl) (e := sub64Entry) (by kernel_rfl), run_sub64 x y c hx hy hx1 hy1 hc0 hc]
  rfl
theorem sub64_0 (x y : Int) (hx : 0 ≤ x) (hy : 0 ≤ y) (hx1 : x < 18446744073709551616) (hy1 : y < 18446744073709551616) (w : World) : (callFunc 115 #[.int .u64 x, .int .u64 y, .int .u64 0]).run Tryz.prog w =
    .ok (.value (.tuple #[.int .u64 ((x - y) % 18446744073709551616), .int .u64 (if x < y then 1 else 0)])) w := by
  simpa using sub64_any x y 0 hx hy hx1 hy1 (Int.le_refl 0) (by decide) w
def offI (off : Bool) (s n : Int) : Int := if off then s - n else s + n
set_option maxRecDepth 100000 in
set_option maxHeartbeats 1000000 in
theorem sadd_any (S n : Int) (off : Bool) (g o : Nat) (t : TypeId) (cs : Array Value) (w : World) (hB : Blk w g t cs) (h0 : cs[o]? = some (.int .u64 (hiI S))) (h1 : cs[o + 1]? = some (.int .u64 (loI S))) (hn : i64 n) :
    Calls Tryz.prog 71 #[.pointer (some ⟨g, o, none⟩), .int .i64 n, .bool off] w fun e w' => e = .returned (.tuple #[]) ∧ w' = (w.setCell ⟨g, o + 1, none⟩ (.int .u64 (loI (offI off S n)))).setCell ⟨g, o, none⟩ (.int .u64 (hiI (offI off S n))) := by
  have k0 := (hB.cell o).trans h0
  have k1 := (hB.cell (o + 1)).trans h1
  have f0 := hB.frozen o
  have f1 := hB.frozen (o + 1)
  have hl := loI_bd S
  have hh := hiI_bd S
  have p3 : 0 ≤ IntKind.u64.wrap n ∧ IntKind.u64.wrap n < 18446744073709551616 := by rw [IntKind.wrap_u64]; omega
  have p4 : 0 ≤ IntKind.u64.wrap (n / 9223372036854775808) ∧ IntKind.u64.wrap (n / 9223372036854775808) < 18446744073709551616 := by rw [IntKind.wrap_u64]; omega
  clear hB h0 h1
  cases off
  · have e1 := Lib.hid (show loI (S + n) = (loI S + IntKind.u64.wrap n) % 18446744073709551616 by rw [IntKind.wrap_u64]; exact lo_add S n)
    have e2 := Lib.hid (show hiI (S + n) = (hiI S + IntKind.u64.wrap (n / 9223372036854775808) + (loI S + IntKind.u64.wrap n) / 18446744073709551616) % 18446744073709551616 by rw [IntKind.wrap_u64, IntKind.wrap_u64]; exact hi_add hn)
    have HO := Lib.hid (show offI false S n = S + n from rfl)
    generalize loI S = l at *
    generalize hiI S = h at *
    have p5 : 0 ≤ (l + IntKind.u64.wrap n) / 18446744073709551616 ∧ (l + IntKind.u64.wrap n) / 18446744073709551616 ≤ 1 := by omega
    go_enter Tryz.func71, Tryz.ntmps71
    go_wp2_with (first | simp only [add64_0 _ _ hl.1 p3.1] | simp only [add64_any _ _ _ hh.1 p4.1 p5.1 p5.2])
    go_end0
    rw [HO.out, e1.out, e2.out]
    exact ⟨rfl, rfl⟩
  · have e1 := Lib.hid (show loI (S - n) = (loI S - IntKind.u64.wrap n) % 18446744073709551616 by rw [IntKind.wrap_u64]; exact lo_sub S n)
    have e2 := Lib.hid (show hiI (S - n) = (hiI S - IntKind.u64.wrap (n / 9223372036854775808) - (if loI S < IntKind.u64.wrap n then 1 else 0)) % 18446744073709551616 by rw [IntKind.wrap_u64, IntKind.wrap_u64]; exact hi_sub hn)
    have HO := Lib.hid (show offI true S n = S - n from rfl)
    generalize loI S = l at *
    generalize hiI S = h at *
    obtain ⟨b, hb⟩ : ∃ b : Int, (if l < IntKind.u64.wrap n then 1 else 0) = b := ⟨_, rfl⟩
    have p5 : 0 ≤ b ∧ b ≤ 1 := by rw [← hb]; split <;> omega
    have hs := fun w => sub64_0 l (IntKind.u64.wrap n) hl.1 p3.1 hl.2 p3.2 w
    rw [hb] at hs
    rw [hb] at e2
    clear hb
    go_enter Tryz.func71, Tryz.ntmps71
    go_wp2_with (first | simp only [hs] | simp only [sub64_any _ _ _ hh.1 p4.1 hh.2 p4.2 p5.1 p5.2])
    all_goals
      refine bodyPost_ret (results_none rfl _ _ _) rfl ?_
      rw [HO.out, e1.out, e2.out]
      exact ⟨rfl, rfl⟩
set_option maxRecDepth 100000 in
set_option maxHeartbeats 1000000 in
theorem sint_any (S : Int) (w : World) (hb : -170141183460469231731687303715884105728 ≤ S ∧ S < 170141183460469231731687303715884105728) :
    Calls Tryz.prog 72 #[.agg #[.int .u64 (hiI S), .int .u64 (loI S)]] w fun e w' => ∃ n : Int, e = .returned (.tuple #[.int .i64 n, .bool (decide (i64 S))]) ∧ (i64 S → n = S) ∧ Ext w w' := by
  have hl := loI_bd S
  have hh := hiI_bd S
  have e1 := Lib.hid (show RowKit.wrap64 (loI S) = asI S by unfold RowKit.wrap64 asI; split <;> omega)
  have e2 : decide (i64 S) = (hiI S == IntKind.u64.wrap (asI S / 9223372036854775808)) := by
    rw [IntKind.wrap_u64, Bool.eq_iff_iff, decide_eq_true_iff, beq_iff_eq]
    exact (fits_iff hb).symm
  have e3 := Lib.hid (fun h : i64 S => asI_of h)
  have hi := asI_i64 S
  unfold i64 at hi
  rw [e2]
  clear e2
  generalize asI S = a at *
  generalize loI S = l at *
  generalize hiI S = h at *
  have hB := Blk.new w 134 #[.int .u64 h, .int .u64 l]
  obtain ⟨q, q'⟩ := hB.cells
  go_enter Tryz.func72, Tryz.ntmps72
  go_wp2_with fail
  rw [e1.out]
  go_quiet (fail)
  go_wp2_with fail
  go_ret2
  exact ⟨a, rfl, e3.out, ((Ext.refl w).alloc _).drewN _⟩
end Go.Proofs.YtokakpbpenndlaaGreatDoor
