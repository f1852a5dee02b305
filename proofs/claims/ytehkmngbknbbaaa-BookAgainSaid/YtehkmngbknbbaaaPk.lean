/-
  The plain side of a book: entries, what may be added, what is told. No program in sight.
-/
import Derived.Test.YtehkmngbknbbaaaPz
set_option linter.unusedVariables false
namespace Go.Proofs.Ytehkmngbknbbaaa

structure Ent where
  k : Int
  id : Int
  of_ : Int
  day : Int
  am : List Int
  tax : List Tx
deriving DecidableEq
def Ent.zero : Ent := ⟨0, 0, 0, 0, [], []⟩
def Ent.head (e : Ent) : Bool := win e.id 1 1099511627775 && win e.of_ 0 1099511627775 && win e.day 0 3652058
def Ent.ams (e : Ent) : Bool := e.am.all fun n => win n 0 4611686018427387904
def manyI (n : Nat) : Bool := decide (1 ≤ n) && decide (n ≤ 100)
/-- Does a tax line fit the amounts? -/
def Tx.fits (am : List Int) (x : Tx) : Bool := decide (x.l.toNat < am.length) && decide (x.t + x.x = am.getD x.l.toNat 0)
def Ent.saleFine (e : Ent) : Bool := decide ((checkTax e.tax).1 = 0) && decide (e.of_ = 0) && manyI e.am.length && e.tax.all (Tx.fits e.am)
def Ent.refundFine (e : Ent) : Bool := decide (e.of_ ≠ 0) && manyI e.am.length && e.am.any (fun n => decide (n ≠ 0)) && decide (e.tax.length = 0)
def Ent.voidFine (e : Ent) : Bool := decide (e.of_ ≠ 0) && decide (e.day = 0) && decide (e.am.length + e.tax.length = 0)
def Ent.fine (e : Ent) : Bool := if e.k = 1 then e.saleFine else if e.k = 2 then e.refundFine else if e.k = 3 then e.voidFine else false
/-- P29.1. -/
def Ent.check (e : Ent) : Int := if e.head = false ∨ e.ams = false then 5 else if e.fine = false then 2 else 0

/-- An entry, its tax lines; of a sale what came back of each line, and whether it was voided. -/
structure Kp where
  e : Ent
  lines : List Tx
  back : List Int
  voided : Bool
abbrev Bk := List Kp
def Bk.find (B : Bk) (id : Int) : Option Kp := B.find? fun x => decide (x.e.id = id)
def Bk.sale (B : Bk) (id : Int) : Option Kp := (B.find id).filter fun x => decide (x.e.k = 1)
/-- More of a line than is left? -/
def overB : List Int → List Int → List Int → Bool
  | n :: r, a :: ra, b :: rb => decide (a - b < n) || overB r ra rb
  | _, _, _ => false
def Kp.refMay (s : Kp) (e : Ent) : Int := if s.voided then 9 else if e.am.length ≠ s.e.am.length ∨ e.day < s.e.day then 2 else if overB e.am s.e.am s.back then 5 else 0
def Kp.voidMay (s : Kp) : Int := if s.voided || s.back.any (fun n => decide (0 < n)) then 9 else 0
/-- P29.2: the error. -/
def Bk.may (B : Bk) (e : Ent) : Int :=
  if e.check ≠ 0 then e.check
  else if (B.find e.id).isSome then 7
  else if e.k = 2 then (match B.sale e.of_ with | none => 6 | some s => s.refMay e)
  else if e.k = 3 then (match B.sale e.of_ with | none => 6 | some s => s.voidMay)
  else 0
/-- What comes back of a tax line by a refund. -/
def Kp.refLine (s : Kp) (am : List Int) (x : Tx) : List Tx :=
  if am.getD x.l.toNat 0 = 0 then [] else [(x.ret (s.back.getD x.l.toNat 0) (s.back.getD x.l.toNat 0 + am.getD x.l.toNat 0)).1]
def Kp.refLines (s : Kp) (am : List Int) : List Tx := s.lines.flatMap (s.refLine am)
def addL : List Int → List Int → List Int
  | a :: r, b :: s => (a + b) :: addL r s
  | a, _ => a
def Bk.upd (B : Bk) (id : Int) (f : Kp → Kp) : Bk := B.map fun x => if x.e.id = id then f x else x
/-- What an entry that may be added makes of the book, and its tax lines. -/
def Bk.put (B : Bk) (e : Ent) : Bk × List Tx :=
  if e.k = 1 then (B ++ [⟨e, e.tax, List.replicate e.am.length 0, false⟩], e.tax)
  else if e.k = 2 then (match B.sale e.of_ with
    | none => (B ++ [⟨e, [], [], false⟩], [])
    | some s => (B.upd e.of_ (fun x => { x with back := addL x.back e.am }) ++ [⟨e, s.refLines e.am, [], false⟩], s.refLines e.am))
  else if e.k = 3 then (B.upd e.of_ (fun x => { x with voided := true }) ++ [⟨e, [], [], false⟩], [])
  else (B ++ [⟨e, [], [], false⟩], [])
def Bk.lines (B : Bk) (id : Int) : List Tx := match B.find id with | none => [] | some x => x.lines
/-- P29.2: the book behind it, the tax lines, the error. -/
def Bk.add (B : Bk) (e : Ent) : Bk × List Tx × Int :=
  if B.may e = 0 then ((B.put e).1, (B.put e).2, 0)
  else if B.may e = 7 ∧ (match B.find e.id with | none => false | some x => decide (x.e.k = e.k)) = true then (B, B.lines e.id, 7)
  else (B, [], B.may e)
def Bk.left (B : Bk) (id line : Int) : Int × Bool := match B.sale id with
  | none => (0, false)
  | some s => if line < 0 ∨ (s.e.am.length : Int) ≤ line then (0, false) else if s.voided then (0, true) else (s.e.am.getD line.toNat 0 - s.back.getD line.toNat 0, true)
def Bk.voided (B : Bk) (id : Int) : Bool := match B.sale id with | none => false | some s => s.voided
structure Mv where
  id : Int
  day : Int
  back : Bool
  t : Int
  x : Int
  v : Int
deriving DecidableEq
def Kp.moves (x : Kp) (j : Int) : List Mv := if x.voided then [] else (x.lines.filter fun l => decide (l.j = j)).map fun l => ⟨x.e.id, x.e.day, decide (x.e.k = 2), l.t, l.x, l.v⟩
def Bk.moves (B : Bk) (j : Int) : List Mv := B.flatMap fun x => x.moves j
def Bk.ids (B : Bk) : List Int := B.map fun x => x.e.id

/-- What holds of an entry in a book. -/
structure Kp.ok (x : Kp) : Prop where
  chk : x.e.check = 0
  lns : x.e.k = 1 → x.lines = x.e.tax
  bln : x.e.k = 1 → x.back.length = x.e.am.length
  bbd : x.e.k = 1 → ∀ i, i < x.e.am.length → 0 ≤ x.back.getD i 0 ∧ x.back.getD i 0 ≤ x.e.am.getD i 0
  oth : x.e.k ≠ 1 → x.back = [] ∧ x.voided = false
theorem Ent.check_ok {e : Ent} (h : e.check = 0) : e.head = true ∧ e.ams = true ∧ e.fine = true := by
  unfold Ent.check at h
  by_cases h1 : e.head = false ∨ e.ams = false
  · rw [if_pos h1] at h; cases h
  rw [if_neg h1] at h
  by_cases h2 : e.fine = false
  · rw [if_pos h2] at h; cases h
  obtain ⟨a, b⟩ := not_or.1 h1
  exact ⟨by simpa using a, by simpa using b, by simpa using h2⟩
theorem Kp.ok_id {x : Kp} (h : x.ok) : 1 ≤ x.e.id ∧ x.e.id ≤ 1099511627775 := by
  have := (Ent.check_ok h.chk).1
  unfold Ent.head at this
  simp only [Bool.and_eq_true] at this
  exact win_bd this.1.1
end Go.Proofs.Ytehkmngbknbbaaa
