/-
  Plain: periods that are; reports, their bytes, read as written.
-/
import Derived.Test.YtokakpbpenndlaaGreatDoorRr13
import Derived.Test.YtokakpbpenndlaaGreatDoorRr10
import Derived.Test.YtokakpbpenndlaaGreatDoorRr07
set_option linter.unusedVariables false
namespace Go.Proofs.YtokakpbpenndlaaGreatDoor

/-- A report. -/
structure Rep where
  j : Int
  k : Int
  p : Int
  t : Int
  x : Int
  v : Int
  s : Int
  r : Int
deriving DecidableEq
def Rep.zero : Rep := ⟨0, 0, 0, 0, 0, 0, 0, 0⟩
def Rep.ints (r : Rep) : List Int := [r.j, r.k, r.p, r.t, r.x, r.v, r.s, r.r]
/-- P30.2: the error. -/
def Rep.check (r : Rep) : Int := if perE r.k r.p ≠ 0 ∨ r.j < 1 ∨ 1099511627775 < r.j ∨ r.s < 0 ∨ 2147483647 < r.s ∨ r.r < 0 ∨ 2147483647 < r.r then 5 else 0
def Rep.bytes (r : Rep) : List UInt8 := if r.check = 0 then putsL r.ints else []
/-- The eight numbers of a report, read one behind the other. -/
def repP (b : List UInt8) : Rep × RS :=
  let a := (RS.start b).num (-9223372036854775808) 9223372036854775807 5
  let c := a.2.num (-9223372036854775808) 9223372036854775807 5
  let d := c.2.num (-9223372036854775808) 9223372036854775807 5
  let e := d.2.num (-9223372036854775808) 9223372036854775807 5
  let f := e.2.num (-9223372036854775808) 9223372036854775807 5
  let g := f.2.num (-9223372036854775808) 9223372036854775807 5
  let h := g.2.num (-9223372036854775808) 9223372036854775807 5
  let i := h.2.num (-9223372036854775808) 9223372036854775807 5
  (⟨a.1, c.1, d.1, e.1, f.1, g.1, h.1, i.1⟩, i.2)
def readRep (b : List UInt8) : Rep × Int := if (repP b).2.fin.1 ≠ 0 ∨ (repP b).1.check ≠ 0 then (Rep.zero, 4) else ((repP b).1, 0)
theorem Rep.bd {r : Rep} (h : r.check = 0) : (1 ≤ r.j ∧ r.j ≤ 1099511627775) ∧ (1 ≤ r.k ∧ r.k ≤ 4) ∧ (0 ≤ r.p ∧ r.p < 119988) ∧ (0 ≤ r.s ∧ r.s ≤ 2147483647) ∧ (0 ≤ r.r ∧ r.r ≤ 2147483647) ∧ perE r.k r.p = 0 := by
  unfold Rep.check at h
  by_cases hc : perE r.k r.p ≠ 0 ∨ r.j < 1 ∨ 1099511627775 < r.j ∨ r.s < 0 ∨ 2147483647 < r.s ∨ r.r < 0 ∨ 2147483647 < r.r
  · rw [if_pos hc] at h; cases h
  have hp : perE r.k r.p = 0 := by
    by_cases h0 : perE r.k r.p = 0
    · exact h0
    · exact absurd (.inl h0) hc
  have hp' := hp
  unfold perE longI at hp'
  have hk : 1 ≤ r.k ∧ r.k ≤ 4 := by
    by_cases h1 : r.k = 1
    · omega
    by_cases h2 : r.k = 2
    · omega
    by_cases h3 : r.k = 3
    · omega
    by_cases h4 : r.k = 4
    · omega
    rw [if_neg h1, if_neg h2, if_neg h3, if_neg h4, if_pos rfl] at hp'
    cases hp'
  refine ⟨by omega, hk, ?_, by omega, by omega, hp⟩
  have hl := longI_bd r.k
  unfold perE at hp
  by_cases h0 : longI r.k = 0
  · rw [if_pos h0] at hp; cases hp
  rw [if_neg h0] at hp
  by_cases h1 : r.p < 0 ∨ 119988 / longI r.k ≤ r.p
  · rw [if_pos h1] at hp; cases hp
  have : 119988 / longI r.k ≤ 119988 := Int.ediv_le_self _ (by decide)
  omega
/-- P30.2: reading returns what was written. (The sums are ints.) -/
theorem rep_put {r : Rep} (h : r.check = 0) (ht : i64 r.t) (hx : i64 r.x) (hv : i64 r.v) : readRep r.bytes = (r, 0) := by
  obtain ⟨b1, b2, b3, b4, b5, _⟩ := Rep.bd h
  have hb : r.bytes = putL r.j ++ (putL r.k ++ (putL r.p ++ (putL r.t ++ (putL r.x ++ (putL r.v ++ (putL r.s ++ (putL r.r ++ []))))))) := by
    unfold Rep.bytes Rep.ints
    rw [if_pos h, putsL_cons, putsL_cons, putsL_cons, putsL_cons, putsL_cons, putsL_cons, putsL_cons, putsL_one, List.append_nil]
  generalize r.bytes = b at *
  unfold i64 at ht hx hv
  obtain ⟨s1, e1, f1, g1, d1, a1⟩ := RS.num_put' (s := RS.start b) (lo := -9223372036854775808) (hi := 9223372036854775807) (above := 5) rfl hb (by omega) (by omega) (by unfold i64; omega)
  obtain ⟨s2, e2, f2, g2, d2, a2⟩ := RS.num_put' (s := s1) (lo := -9223372036854775808) (hi := 9223372036854775807) (above := 5) f1 d1 (by omega) (by omega) (by unfold i64; omega)
  obtain ⟨s3, e3, f3, g3, d3, a3⟩ := RS.num_put' (s := s2) (lo := -9223372036854775808) (hi := 9223372036854775807) (above := 5) f2 d2 (by omega) (by omega) (by unfold i64; omega)
  obtain ⟨s4, e4, f4, g4, d4, a4⟩ := RS.num_put' (s := s3) (lo := -9223372036854775808) (hi := 9223372036854775807) (above := 5) f3 d3 ht.1 ht.2 ht
  obtain ⟨s5, e5, f5, g5, d5, a5⟩ := RS.num_put' (s := s4) (lo := -9223372036854775808) (hi := 9223372036854775807) (above := 5) f4 d4 hx.1 hx.2 hx
  obtain ⟨s6, e6, f6, g6, d6, a6⟩ := RS.num_put' (s := s5) (lo := -9223372036854775808) (hi := 9223372036854775807) (above := 5) f5 d5 hv.1 hv.2 hv
  obtain ⟨s7, e7, f7, g7, d7, a7⟩ := RS.num_put' (s := s6) (lo := -9223372036854775808) (hi := 9223372036854775807) (above := 5) f6 d6 (by omega) (by omega) (by unfold i64; omega)
  obtain ⟨s8, e8, f8, g8, d8, a8⟩ := RS.num_put' (s := s7) (lo := -9223372036854775808) (hi := 9223372036854775807) (above := 5) f7 d7 (by omega) (by omega) (by unfold i64; omega)
  have hP : repP b = (r, s8) := by
    unfold repP
    simp only [e1, e2, e3, e4, e5, e6, e7, e8]
  have hF : s8.fin = (0, 0) := by
    unfold RS.fin
    have hl := drop_end d8
    rw [if_neg (by omega), f8, a8, a7, a6, a5, a4, a3, a2, a1]
    rfl
  unfold readRep
  rw [hP]
  simp only
  rw [hF, if_neg (by simp [h])]
/-- P30.2: writing returns the bytes that were read. -/
theorem rep_inv {b : List UInt8} (h : (readRep b).2 = 0) : (readRep b).1.check = 0 ∧ (readRep b).1.bytes = b := by
  unfold readRep at h ⊢
  by_cases hc : (repP b).2.fin.1 ≠ 0 ∨ (repP b).1.check ≠ 0
  · rw [if_pos hc] at h; cases h
  rw [if_neg hc]
  have hf : (repP b).2.fin.1 = 0 := by
    by_cases h0 : (repP b).2.fin.1 = 0
    · exact h0
    · exact absurd (.inl h0) hc
  have hk : (repP b).1.check = 0 := by
    by_cases h0 : (repP b).1.check = 0
    · exact h0
    · exact absurd (.inr h0) hc
  refine ⟨hk, ?_⟩
  have hfe := fin_fe _ hf
  have HH : (RS.start b).Has (repP b).1.ints (repP b).2 := by
    unfold repP at hfe ⊢
    simp only at hfe ⊢
    obtain ⟨p8, _⟩ := RS.num_inv (by decide) hfe
    obtain ⟨p7, _⟩ := RS.num_inv (by decide) p8.fe
    obtain ⟨p6, _⟩ := RS.num_inv (by decide) p7.fe
    obtain ⟨p5, _⟩ := RS.num_inv (by decide) p6.fe
    obtain ⟨p4, _⟩ := RS.num_inv (by decide) p5.fe
    obtain ⟨p3, _⟩ := RS.num_inv (by decide) p4.fe
    obtain ⟨p2, _⟩ := RS.num_inv (by decide) p3.fe
    obtain ⟨p1, _⟩ := RS.num_inv (by decide) p2.fe
    have := ((((((p1.trans p2).trans p3).trans p4).trans p5).trans p6).trans p7).trans p8
    simpa [Rep.ints] using this
  generalize (repP b).2 = s' at *
  have hend : b.length ≤ s'.at_ := by
    unfold RS.fin at hf
    by_cases hq : s'.fe = 0 ∧ s'.at_ < s'.b.length
    · rw [if_pos hq] at hf; cases hf
    · have hb : s'.b = b := HH.b
      rw [hb] at hq
      omega
  have ht := HH.txt
  have h0 : (RS.start b).b.drop (RS.start b).at_ = b := by simp [RS.start]
  have h1 : (RS.start b).b.drop s'.at_ = [] := List.drop_eq_nil_of_le hend
  rw [h0, h1, List.append_nil] at ht
  unfold Rep.bytes
  rw [if_pos hk]
  exact ht.symm
end Go.Proofs.YtokakpbpenndlaaGreatDoor

set_option linter.unusedVariables false
namespace Go.Proofs.YtokakpbpenndlaaGreatDoor

theorem flat_get {α β : Type} {f : α → List β} {c : Nat} (hf : ∀ a, (f a).length = c) : ∀ (l : List α) (k j : Nat) (h : k < l.length), j < c → (l.flatMap f)[k * c + j]? = (f l[k])[j]?
  | [], k, j, h, _ => by simp at h
  | a :: l, 0, j, _, hj => by
    rw [List.flatMap_cons, Nat.zero_mul, Nat.zero_add, List.getElem?_append_left (by rw [hf]; exact hj)]
    rfl
  | a :: l, k + 1, j, h, hj => by
    rw [List.flatMap_cons, List.getElem?_append_right (by rw [hf, Nat.add_mul]; omega), hf]
    rw [show (k + 1) * c + j - c = k * c + j by rw [Nat.add_mul]; omega]
    exact flat_get hf l k j (by simpa using h) hj
theorem flat_len {α β : Type} {f : α → List β} {c : Nat} (hf : ∀ a, (f a).length = c) (l : List α) : (l.flatMap f).length = l.length * c := by
  induction l with
  | nil => simp
  | cons a l ih => rw [List.flatMap_cons, List.length_append, ih, hf, List.length_cons, Nat.add_mul]; omega
theorem flat_take {α β : Type} {f : α → List β} {c : Nat} (hf : ∀ a, (f a).length = c) (l : List α) (n : Nat) : (l.take n).flatMap f = (l.flatMap f).take (n * c) := by
  have e : l.flatMap f = (l.take n).flatMap f ++ (l.drop n).flatMap f := by rw [← List.flatMap_append, List.take_append_drop]
  rcases Nat.lt_or_ge l.length n with h | h
  · rw [List.take_of_length_le (by omega), List.take_of_length_le]
    rw [flat_len hf]
    exact Nat.mul_le_mul_right _ (by omega)
  · have hl : ((l.take n).flatMap f).length = n * c := by rw [flat_len hf, List.length_take, Nat.min_eq_left h]
    rw [e, ← hl, List.take_left]
theorem flat_drop {α β : Type} {f : α → List β} {c : Nat} (hf : ∀ a, (f a).length = c) (l : List α) (n : Nat) : (l.drop n).flatMap f = (l.flatMap f).drop (n * c) := by
  have e : l.flatMap f = (l.take n).flatMap f ++ (l.drop n).flatMap f := by rw [← List.flatMap_append, List.take_append_drop]
  rcases Nat.lt_or_ge l.length n with h | h
  · rw [List.drop_of_length_le (by omega), List.drop_of_length_le]
    · rfl
    · rw [flat_len hf]
      exact Nat.mul_le_mul_right _ (by omega)
  · have hl : ((l.take n).flatMap f).length = n * c := by rw [flat_len hf, List.length_take, Nat.min_eq_left h]
    rw [e, ← hl, List.drop_left]
theorem flat_snoc {α β : Type} {f : α → List β} (l : List α) (a : α) : (l ++ [a]).flatMap f = l.flatMap f ++ f a := by simp

def Tx.cl (x : Tx) : List Value := [.int .i64 x.l, .int .i64 x.j, .int .i64 x.t, .int .i64 x.x, .int .i64 x.r, .int .i64 x.v]
def txCells (l : List Tx) : List Value := l.flatMap Tx.cl
theorem Tx.cl_len (x : Tx) : x.cl.length = 6 := rfl
theorem txCells_len (l : List Tx) : (txCells l).length = l.length * 6 := flat_len Tx.cl_len l
theorem txCells_at (l : List Tx) (k : Nat) (h : k < l.length) : (txCells l)[k * 6]? = some (.int .i64 l[k].l) ∧ (txCells l)[k * 6 + 1]? = some (.int .i64 l[k].j) ∧ (txCells l)[k * 6 + 2]? = some (.int .i64 l[k].t) ∧
    (txCells l)[k * 6 + 3]? = some (.int .i64 l[k].x) ∧ (txCells l)[k * 6 + 4]? = some (.int .i64 l[k].r) ∧ (txCells l)[k * 6 + 5]? = some (.int .i64 l[k].v) :=
  ⟨flat_get Tx.cl_len l k 0 h (by decide), flat_get Tx.cl_len l k 1 h (by decide), flat_get Tx.cl_len l k 2 h (by decide), flat_get Tx.cl_len l k 3 h (by decide), flat_get Tx.cl_len l k 4 h (by decide), flat_get Tx.cl_len l k 5 h (by decide)⟩
theorem cl_one (x : Tx) : ∀ u ∈ x.cl, u.oneCell' = true := by intro u hu; simp [Tx.cl] at hu; rcases hu with rfl | rfl | rfl | rfl | rfl | rfl <;> rfl
theorem txCells_one (l : List Tx) : ∀ u ∈ txCells l, u.oneCell' = true := by
  intro u hu
  simp only [txCells, List.mem_flatMap] at hu
  obtain ⟨x, _, hx⟩ := hu
  exact cl_one x u hx

/-- Does a line stand below the one ahead of it? -/
def Tx.below (pre : List Tx) (x : Tx) : Bool := match pre.getLast? with
  | some y => decide (x.l < y.l)
  | none => false
def Tx.key (x : Tx) : Int × Int := (x.l, x.j)
/-- What is wrong with a tax line behind others; 0: nothing. -/
def Tx.bad (pre : List Tx) (x : Tx) : Int := if x.ok = false then 5 else if Tx.below pre x = true then 2 else if x.key ∈ pre.map Tx.key then 7 else 0
def ckTx : List Tx → List Tx → Int × Nat
  | _, [] => (0, 0)
  | pre, x :: r => if Tx.bad pre x ≠ 0 then (Tx.bad pre x, pre.length) else ckTx (pre ++ [x]) r
/-- P25.2: the error, and at which tax line. -/
def checkTax (l : List Tx) : Int × Nat := if 6400 < l.length then (3, 0) else ckTx [] l
theorem ckTx_step {l : List Tx} {k : Nat} (h : k < l.length) (hb : Tx.bad (l.take k) l[k] = 0) : ckTx (l.take k) (l.drop k) = ckTx (l.take (k + 1)) (l.drop (k + 1)) := by
  rw [List.drop_eq_getElem_cons h, ckTx, if_neg (by simp [hb]), List.take_succ_eq_append_getElem h]
theorem ckTx_hit {l : List Tx} {k : Nat} {e : Int} (h : k < l.length) (hb : Tx.bad (l.take k) l[k] = e) (he : e ≠ 0) : ckTx (l.take k) (l.drop k) = (e, k) := by
  rw [List.drop_eq_getElem_cons h, ckTx, if_pos (by rw [hb]; exact he), hb, List.length_take]
  simp; omega
theorem ckTx_end {l : List Tx} {k : Nat} (h : l.length ≤ k) : ckTx (l.take k) (l.drop k) = (0, 0) := by
  rw [List.drop_eq_nil_of_le h, ckTx]
theorem below_at {l : List Tx} {m : Nat} (h : m + 1 < l.length) : Tx.below (l.take (m + 1)) l[m + 1] = decide (l[m + 1].l < l[m].l) := by
  unfold Tx.below
  have : (l.take (m + 1)).getLast? = some l[m] := by
    rw [List.take_succ_eq_append_getElem (show m < l.length by omega)]
    exact List.getLast?_concat
  rw [this]
theorem below_0 (x : Tx) : Tx.below [] x = false := rfl
/-- What checked tax lines are. -/
theorem ckTx_ok : ∀ (r pre : List Tx), (ckTx pre r).1 = 0 → ∀ k (h : k < r.length), Tx.bad (pre ++ r.take k) r[k] = 0
  | [], pre, _, k, h => by simp at h
  | x :: r, pre, h0, k, h => by
    unfold ckTx at h0
    by_cases hb : Tx.bad pre x ≠ 0
    · rw [if_pos hb] at h0; exact absurd h0 hb
    · rw [if_neg hb] at h0
      cases k with
      | zero => simpa using hb
      | succ k =>
        have := ckTx_ok r (pre ++ [x]) h0 k (by simpa using h)
        simpa using this
theorem bad_5 {pre : List Tx} {x : Tx} (h : x.ok = false) : Tx.bad pre x = 5 := by unfold Tx.bad; rw [if_pos h]
theorem bad_2 {pre : List Tx} {x : Tx} (h : x.ok = true) (h2 : Tx.below pre x = true) : Tx.bad pre x = 2 := by unfold Tx.bad; rw [if_neg (by simp [h]), if_pos h2]
theorem bad_7 {pre : List Tx} {x : Tx} (h : x.ok = true) (h2 : Tx.below pre x = false) (h3 : x.key ∈ pre.map Tx.key) : Tx.bad pre x = 7 := by unfold Tx.bad; rw [if_neg (by simp [h]), if_neg (by simp [h2]), if_pos h3]
theorem bad_no {pre : List Tx} {x : Tx} (h : x.ok = true) (h2 : Tx.below pre x = false) (h3 : x.key ∉ pre.map Tx.key) : Tx.bad pre x = 0 := by unfold Tx.bad; rw [if_neg (by simp [h]), if_neg (by simp [h2]), if_neg h3]
theorem bad_0 {pre : List Tx} {x : Tx} (h : Tx.bad pre x = 0) : x.ok = true ∧ Tx.below pre x = false ∧ x.key ∉ pre.map Tx.key := by
  unfold Tx.bad at h
  by_cases h1 : x.ok = false
  · rw [if_pos h1] at h; cases h
  rw [if_neg h1] at h
  by_cases h2 : Tx.below pre x = true
  · rw [if_pos h2] at h; cases h
  rw [if_neg h2] at h
  by_cases h3 : x.key ∈ pre.map Tx.key
  · rw [if_pos h3] at h; cases h
  · exact ⟨by simpa using h1, by simpa using h2, h3⟩
theorem checkTax_ok {l : List Tx} (h : (checkTax l).1 = 0) : l.length ≤ 6400 ∧ ∀ k (hk : k < l.length), l[k].ok = true ∧ Tx.below (l.take k) l[k] = false ∧ l[k].key ∉ (l.take k).map Tx.key := by
  unfold checkTax at h
  by_cases h1 : 6400 < l.length
  · rw [if_pos h1] at h; cases h
  rw [if_neg h1] at h
  exact ⟨by omega, fun k hk => bad_0 (by simpa using ckTx_ok l [] h k hk)⟩
theorem checkTax_mem {l : List Tx} (h : (checkTax l).1 = 0) : ∀ x ∈ l, x.ok = true := by
  intro x hx
  obtain ⟨k, hk, rfl⟩ := List.mem_iff_getElem.1 hx
  exact ((checkTax_ok h).2 k hk).1
theorem Tx.i64s {x : Tx} (h : x.ok = true) : i64 x.l ∧ i64 x.j ∧ i64 x.t ∧ i64 x.x ∧ i64 x.r ∧ i64 x.v := by
  obtain ⟨a, b, c, d, e, f⟩ := Tx.ok_bd h
  unfold i64
  omega
end Go.Proofs.YtokakpbpenndlaaGreatDoor
