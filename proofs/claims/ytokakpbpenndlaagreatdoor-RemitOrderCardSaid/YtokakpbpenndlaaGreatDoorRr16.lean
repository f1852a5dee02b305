/-
  The plain side of totals in two parts.
-/
import Derived.Test.YtokakpbpenndlaaGreatDoorRr15
set_option linter.unusedVariables false
namespace Go.Proofs.YtokakpbpenndlaaGreatDoor
theorem ckTx_all : ∀ (r pre : List Tx), (∀ k (h : k < r.length), Tx.bad (pre ++ r.take k) r[k] = 0) → ckTx pre r = (0, 0)
  | [], pre, _ => rfl
  | x :: r, pre, h => by
    have h0 := h 0 (by simp)
    simp only [List.take_zero, List.append_nil, List.getElem_cons_zero] at h0
    unfold ckTx
    rw [if_neg (by simp [h0])]
    refine ckTx_all r (pre ++ [x]) fun k hk => ?_
    have := h (k + 1) (by simpa using hk)
    simpa using this
theorem checkTax_mk {l : List Tx} (h : l.length ≤ 6400) (ha : ∀ k (hk : k < l.length), l[k].ok = true ∧ Tx.below (l.take k) l[k] = false ∧ l[k].key ∉ (l.take k).map Tx.key) : checkTax l = (0, 0) := by
  unfold checkTax
  rw [if_neg (by omega)]
  refine ckTx_all l [] fun k hk => ?_
  obtain ⟨h1, h2, h3⟩ := ha k hk
  simpa using bad_no h1 h2 h3
theorem checkTax_take {l : List Tx} (h : (checkTax l).1 = 0) (n : Nat) : (checkTax (l.take n)).1 = 0 := by
  obtain ⟨h0, ha⟩ := checkTax_ok h
  rw [checkTax_mk (by rw [List.length_take]; omega)]
  intro k hk
  have hk1 : k < n := by rw [List.length_take] at hk; omega
  have hk2 : k < l.length := by rw [List.length_take] at hk; omega
  have := ha k hk2
  rw [List.getElem_take, List.take_take, Nat.min_eq_left (by omega)]
  exact this
theorem below_mem {pre pre' : List Tx} {x : Tx} (h : pre.getLast? = pre'.getLast?) : Tx.below pre x = Tx.below pre' x := by unfold Tx.below; rw [h]
theorem checkTax_drop {l : List Tx} (h : (checkTax l).1 = 0) (n : Nat) : (checkTax (l.drop n)).1 = 0 := by
  obtain ⟨h0, ha⟩ := checkTax_ok h
  rw [checkTax_mk (by rw [List.length_drop]; omega)]
  intro k hk
  have hk2 : n + k < l.length := by rw [List.length_drop] at hk; omega
  obtain ⟨a, b, c⟩ := ha (n + k) hk2
  rw [List.getElem_drop]
  refine ⟨a, ?_, ?_⟩
  · rcases Nat.eq_zero_or_pos k with hk0 | hk0
    · subst hk0; rfl
    · obtain ⟨m, rfl⟩ : ∃ m, k = m + 1 := ⟨k - 1, by omega⟩
      have e1 : (l.take (n + (m + 1))).getLast? = some l[n + m] := by
        rw [show n + (m + 1) = n + m + 1 by omega, List.take_succ_eq_append_getElem (show n + m < l.length by omega)]
        exact List.getLast?_concat
      have e2 : ((l.drop n).take (m + 1)).getLast? = some l[n + m] := by
        have hm : m < (l.drop n).length := by rw [List.length_drop]; omega
        rw [List.take_succ_eq_append_getElem hm, List.getLast?_concat, List.getElem_drop]
      rw [below_mem (e2.trans e1.symm)]
      exact b
  · intro hm
    apply c
    obtain ⟨y, hy, he⟩ := List.mem_map.1 hm
    rw [← he]
    refine List.mem_map_of_mem ?_
    have : y ∈ (l.take (n + k)).drop n := by rw [List.drop_take]; simpa using hy
    exact List.mem_of_mem_drop this
theorem foldl_add (l : List Int) : ∀ a : Int, l.foldl (· + ·) a = a + sumL l := by
  induction l with
  | nil => intro a; simp [sumL]
  | cons x l ih =>
    intro a
    rw [List.foldl_cons, ih]
    unfold sumL
    rw [List.foldl_cons, ih (0 + x)]
    unfold sumL
    omega
theorem sumL_app (a b : List Int) : sumL (a ++ b) = sumL a + sumL b := by
  show (a ++ b).foldl (· + ·) 0 = _
  rw [List.foldl_append, foldl_add]
  rfl
theorem sumL_cons (n : Int) (l : List Int) : sumL (n :: l) = n + sumL l := by
  have := sumL_app [n] l
  simpa [sumL] using this
theorem sumL_nonneg (l : List Int) (h : ∀ n ∈ l, 0 ≤ n) : 0 ≤ sumL l := by
  induction l with
  | nil => simp [sumL]
  | cons a l ih =>
    rw [sumL_cons]
    have := h a (by simp)
    have := ih (fun n hn => h n (by simp [hn]))
    omega
theorem sumI_ok {l : List Int} (h : (sumI l).2 = 0) : (sumI l).1 = sumL l ∧ -9223372036854775808 ≤ sumL l ∧ sumL l ≤ 9223372036854775807 := by
  unfold sumI at h ⊢
  split
  · rename_i hc; exact ⟨rfl, hc⟩
  · rename_i hc; rw [if_neg hc] at h; simp at h
theorem sumI_mk {l : List Int} (h1 : -9223372036854775808 ≤ sumL l) (h2 : sumL l ≤ 9223372036854775807) : sumI l = (sumL l, 0) := by
  unfold sumI; rw [if_pos ⟨h1, h2⟩]
theorem sum_parts {l : List Int} (hn : ∀ n ∈ l, 0 ≤ n) (n : Nat) (h : (sumI l).2 = 0) : (sumI (l.take n)).2 = 0 ∧ (sumI (l.drop n)).2 = 0 ∧ (sumI l).1 = (sumI (l.take n)).1 + (sumI (l.drop n)).1 := by
  obtain ⟨h1, h2, h3⟩ := sumI_ok h
  have p1 := sumL_nonneg (l.take n) (fun x hx => hn x (List.mem_of_mem_take hx))
  have p2 := sumL_nonneg (l.drop n) (fun x hx => hn x (List.mem_of_mem_drop hx))
  have e : sumL l = sumL (l.take n) + sumL (l.drop n) := by
    conv => lhs; rw [← List.take_append_drop n l]
    exact sumL_app _ _
  rw [sumI_mk (l := l.take n) (by omega) (by omega), sumI_mk (l := l.drop n) (by omega) (by omega)]
  exact ⟨rfl, rfl, by rw [h1, e]⟩
theorem totalI_ok {l : List Tx} (h : (totalI l).2 = 0) : (checkTax l).1 = 0 ∧ (sumI (l.map Tx.t)).2 = 0 ∧ (sumI (l.map Tx.x)).2 = 0 ∧ (sumI (l.map Tx.v)).2 = 0 ∧ totalI l = (⟨0, 0, (sumI (l.map Tx.t)).1, (sumI (l.map Tx.x)).1, 0, (sumI (l.map Tx.v)).1⟩, 0) := by
  unfold totalI at h ⊢
  by_cases h1 : (checkTax l).1 ≠ 0
  · rw [if_pos h1] at h; exact absurd h h1
  rw [if_neg h1] at h ⊢
  by_cases h2 : (sumI (l.map Tx.t)).2 ≠ 0
  · rw [if_pos h2] at h; exact absurd h h2
  rw [if_neg h2] at h ⊢
  by_cases h3 : (sumI (l.map Tx.x)).2 ≠ 0
  · rw [if_pos h3] at h; exact absurd h h3
  rw [if_neg h3] at h ⊢
  by_cases h4 : (sumI (l.map Tx.v)).2 ≠ 0
  · rw [if_pos h4] at h; exact absurd h h4
  rw [if_neg h4]
  exact ⟨by simpa using h1, by simpa using h2, by simpa using h3, by simpa using h4, rfl⟩
theorem totalI_no {l : List Tx} (h : (totalI l).2 ≠ 0) : (totalI l).1 = Tx.zero := by
  unfold totalI at h ⊢
  split
  · rfl
  · rename_i h1
    rw [if_neg h1] at h
    split
    · rfl
    · rename_i h2
      rw [if_neg h2] at h
      split
      · rfl
      · rename_i h3
        rw [if_neg h3] at h
        split
        · rfl
        · rename_i h4
          rw [if_neg h4] at h
          exact absurd rfl h
theorem totalI_mk {l : List Tx} (h1 : (checkTax l).1 = 0) (h2 : (sumI (l.map Tx.t)).2 = 0) (h3 : (sumI (l.map Tx.x)).2 = 0) (h4 : (sumI (l.map Tx.v)).2 = 0) : totalI l = (⟨0, 0, (sumI (l.map Tx.t)).1, (sumI (l.map Tx.x)).1, 0, (sumI (l.map Tx.v)).1⟩, 0) := by
  unfold totalI
  rw [if_neg (by simp [h1]), if_neg (by simp [h2]), if_neg (by simp [h3]), if_neg (by simp [h4])]
/-- P25.4: two parts come to what they do together. -/
theorem totalI_parts {l : List Tx} (h : (totalI l).2 = 0) (n : Nat) : (totalI (l.take n)).2 = 0 ∧ (totalI (l.drop n)).2 = 0 ∧
    (totalI l).1 = ⟨0, 0, (totalI (l.take n)).1.t + (totalI (l.drop n)).1.t, (totalI (l.take n)).1.x + (totalI (l.drop n)).1.x, 0, (totalI (l.take n)).1.v + (totalI (l.drop n)).1.v⟩ ∧
    (0 ≤ (totalI (l.take n)).1.t ∧ 0 ≤ (totalI (l.drop n)).1.t ∧ (totalI (l.take n)).1.t + (totalI (l.drop n)).1.t ≤ 9223372036854775807) ∧ (0 ≤ (totalI (l.take n)).1.x ∧ 0 ≤ (totalI (l.drop n)).1.x ∧ (totalI (l.take n)).1.x + (totalI (l.drop n)).1.x ≤ 9223372036854775807) ∧ (0 ≤ (totalI (l.take n)).1.v ∧ 0 ≤ (totalI (l.drop n)).1.v ∧ (totalI (l.take n)).1.v + (totalI (l.drop n)).1.v ≤ 9223372036854775807) := by
  obtain ⟨h1, h2, h3, h4, h5⟩ := totalI_ok h
  have hm := checkTax_mem h1
  have gen : ∀ f : Tx → Int, (∀ x : Tx, x.ok = true → 0 ≤ f x) → (sumI (l.map f)).2 = 0 → (sumI ((l.take n).map f)).2 = 0 ∧ (sumI ((l.drop n).map f)).2 = 0 ∧ (sumI (l.map f)).1 = (sumI ((l.take n).map f)).1 + (sumI ((l.drop n).map f)).1 ∧
      (0 ≤ (sumI ((l.take n).map f)).1 ∧ 0 ≤ (sumI ((l.drop n).map f)).1 ∧ (sumI ((l.take n).map f)).1 + (sumI ((l.drop n).map f)).1 ≤ 9223372036854775807) := by
    intro f hf hs
    have hp : ∀ n ∈ l.map f, 0 ≤ n := by
      intro y hy
      obtain ⟨x, hx, rfl⟩ := List.mem_map.1 hy
      exact hf x (hm x hx)
    have := sum_parts hp n hs
    rw [← List.map_take, ← List.map_drop] at this
    obtain ⟨a, b, c⟩ := this
    obtain ⟨a1, _, _⟩ := sumI_ok a
    obtain ⟨b1, _, _⟩ := sumI_ok b
    obtain ⟨c1, _, c3⟩ := sumI_ok hs
    have p1 := sumL_nonneg ((l.take n).map f) (fun y hy => by
      obtain ⟨x, hx, rfl⟩ := List.mem_map.1 hy
      exact hf x (hm x (List.mem_of_mem_take hx)))
    have p2 := sumL_nonneg ((l.drop n).map f) (fun y hy => by
      obtain ⟨x, hx, rfl⟩ := List.mem_map.1 hy
      exact hf x (hm x (List.mem_of_mem_drop hx)))
    refine ⟨a, b, c, ?_, ?_, ?_⟩
    · rw [a1]; exact p1
    · rw [b1]; exact p2
    · rw [← c, c1]; exact c3
  obtain ⟨t1, t2, t3, t4⟩ := gen Tx.t (fun x hx => (Tx.ok_bd hx).2.2.1.1) h2
  obtain ⟨x1, x2, x3, x4⟩ := gen Tx.x (fun x hx => (Tx.ok_bd hx).2.2.2.1.1) h3
  obtain ⟨v1, v2, v3, v4⟩ := gen Tx.v (fun x hx => (Tx.ok_bd hx).2.2.2.2.2.1) h4
  have e1 := totalI_mk (checkTax_take h1 n) t1 x1 v1
  have e2 := totalI_mk (checkTax_drop h1 n) t2 x2 v2
  rw [e1, e2, h5, t3, x3, v3]
  exact ⟨rfl, rfl, rfl, t4, x4, v4⟩
end Go.Proofs.YtokakpbpenndlaaGreatDoor

set_option linter.unusedVariables false
namespace Go.Proofs.YtokakpbpenndlaaGreatDoor

structure Ent where
  k : Int
  id : Int
  of_ : Int
  day : Int
  am : List Int
  tax : List Tx
deriving DecidableEq
def Ent.zero : Ent := ⟨0, 0, 0, 0, [], []⟩
def Ent.head (e : Ent) : Bool := win e.id 1 1099511627775 && win e.of_ 0 1099511627775 && win e.day 0 3652058
def Ent.ams (e : Ent) : Bool := e.am.all fun n => win n 0 4611686018427387904
def manyI (n : Nat) : Bool := decide (1 ≤ n) && decide (n ≤ 100)
/-- Does a tax line fit the amounts? -/
def Tx.fits (am : List Int) (x : Tx) : Bool := decide (x.l.toNat < am.length) && decide (x.t + x.x = am.getD x.l.toNat 0)
def Ent.saleFine (e : Ent) : Bool := decide ((checkTax e.tax).1 = 0) && decide (e.of_ = 0) && manyI e.am.length && e.tax.all (Tx.fits e.am)
def Ent.refundFine (e : Ent) : Bool := decide (e.of_ ≠ 0) && manyI e.am.length && e.am.any (fun n => decide (n ≠ 0)) && decide (e.tax.length = 0)
def Ent.voidFine (e : Ent) : Bool := decide (e.of_ ≠ 0) && decide (e.day = 0) && decide (e.am.length + e.tax.length = 0)
def Ent.fine (e : Ent) : Bool := if e.k = 1 then e.saleFine else if e.k = 2 then e.refundFine else if e.k = 3 then e.voidFine else false
/-- P29.1. -/
def Ent.check (e : Ent) : Int := if e.head = false ∨ e.ams = false then 5 else if e.fine = false then 2 else 0

/-- An entry, its tax lines; of a sale what came back of each line, and whether it was voided. -/
structure Kp where
  e : Ent
  lines : List Tx
  back : List Int
  voided : Bool
abbrev Bk := List Kp
def Bk.find (B : Bk) (id : Int) : Option Kp := B.find? fun x => decide (x.e.id = id)
def Bk.sale (B : Bk) (id : Int) : Option Kp := (B.find id).filter fun x => decide (x.e.k = 1)
/-- More of a line than is left? -/
def overB : List Int → List Int → List Int → Bool
  | n :: r, a :: ra, b :: rb => decide (a - b < n) || overB r ra rb
  | _, _, _ => false
def Kp.refMay (s : Kp) (e : Ent) : Int := if s.voided then 9 else if e.am.length ≠ s.e.am.length ∨ e.day < s.e.day then 2 else if overB e.am s.e.am s.back then 5 else 0
def Kp.voidMay (s : Kp) : Int := if s.voided || s.back.any (fun n => decide (0 < n)) then 9 else 0
/-- P29.2: the error. -/
def Bk.may (B : Bk) (e : Ent) : Int :=
  if e.check ≠ 0 then e.check
  else if (B.find e.id).isSome then 7
  else if e.k = 2 then (match B.sale e.of_ with | none => 6 | some s => s.refMay e)
  else if e.k = 3 then (match B.sale e.of_ with | none => 6 | some s => s.voidMay)
  else 0
/-- What comes back of a tax line by a refund. -/
def Kp.refLine (s : Kp) (am : List Int) (x : Tx) : List Tx :=
  if am.getD x.l.toNat 0 = 0 then [] else [(x.ret (s.back.getD x.l.toNat 0) (s.back.getD x.l.toNat 0 + am.getD x.l.toNat 0)).1]
def Kp.refLines (s : Kp) (am : List Int) : List Tx := s.lines.flatMap (s.refLine am)
def addL : List Int → List Int → List Int
  | a :: r, b :: s => (a + b) :: addL r s
  | a, _ => a
def Bk.upd (B : Bk) (id : Int) (f : Kp → Kp) : Bk := B.map fun x => if x.e.id = id then f x else x
/-- What an entry that may be added makes of the book, and its tax lines. -/
def Bk.put (B : Bk) (e : Ent) : Bk × List Tx :=
  if e.k = 1 then (B ++ [⟨e, e.tax, List.replicate e.am.length 0, false⟩], e.tax)
  else if e.k = 2 then (match B.sale e.of_ with
    | none => (B ++ [⟨e, [], [], false⟩], [])
    | some s => (B.upd e.of_ (fun x => { x with back := addL x.back e.am }) ++ [⟨e, s.refLines e.am, [], false⟩], s.refLines e.am))
  else if e.k = 3 then (B.upd e.of_ (fun x => { x with voided := true }) ++ [⟨e, [], [], false⟩], [])
  else (B ++ [⟨e, [], [], false⟩], [])
def Bk.lines (B : Bk) (id : Int) : List Tx := match B.find id with | none => [] | some x => x.lines
/-- P29.2: the book behind it, the tax lines, the error. -/
def Bk.add (B : Bk) (e : Ent) : Bk × List Tx × Int :=
  if B.may e = 0 then ((B.put e).1, (B.put e).2, 0)
  else if B.may e = 7 ∧ (match B.find e.id with | none => false | some x => decide (x.e.k = e.k)) = true then (B, B.lines e.id, 7)
  else (B, [], B.may e)
def Bk.left (B : Bk) (id line : Int) : Int × Bool := match B.sale id with
  | none => (0, false)
  | some s => if line < 0 ∨ (s.e.am.length : Int) ≤ line then (0, false) else if s.voided then (0, true) else (s.e.am.getD line.toNat 0 - s.back.getD line.toNat 0, true)
def Bk.voided (B : Bk) (id : Int) : Bool := match B.sale id with | none => false | some s => s.voided
structure Mv where
  id : Int
  day : Int
  back : Bool
  t : Int
  x : Int
  v : Int
deriving DecidableEq
def Kp.moves (x : Kp) (j : Int) : List Mv := if x.voided then [] else (x.lines.filter fun l => decide (l.j = j)).map fun l => ⟨x.e.id, x.e.day, decide (x.e.k = 2), l.t, l.x, l.v⟩
def Bk.moves (B : Bk) (j : Int) : List Mv := B.flatMap fun x => x.moves j
def Bk.ids (B : Bk) : List Int := B.map fun x => x.e.id

/-- What holds of an entry in a book. -/
structure Kp.ok (x : Kp) : Prop where
  chk : x.e.check = 0
  lns : x.e.k = 1 → x.lines = x.e.tax
  bln : x.e.k = 1 → x.back.length = x.e.am.length
  bbd : x.e.k = 1 → ∀ i, i < x.e.am.length → 0 ≤ x.back.getD i 0 ∧ x.back.getD i 0 ≤ x.e.am.getD i 0
  oth : x.e.k ≠ 1 → x.back = [] ∧ x.voided = false
theorem Ent.check_ok {e : Ent} (h : e.check = 0) : e.head = true ∧ e.ams = true ∧ e.fine = true := by
  unfold Ent.check at h
  by_cases h1 : e.head = false ∨ e.ams = false
  · rw [if_pos h1] at h; cases h
  rw [if_neg h1] at h
  by_cases h2 : e.fine = false
  · rw [if_pos h2] at h; cases h
  obtain ⟨a, b⟩ := not_or.1 h1
  exact ⟨by simpa using a, by simpa using b, by simpa using h2⟩
theorem Kp.ok_id {x : Kp} (h : x.ok) : 1 ≤ x.e.id ∧ x.e.id ≤ 1099511627775 := by
  have := (Ent.check_ok h.chk).1
  unfold Ent.head at this
  simp only [Bool.and_eq_true] at this
  exact win_bd this.1.1
end Go.Proofs.YtokakpbpenndlaaGreatDoor
