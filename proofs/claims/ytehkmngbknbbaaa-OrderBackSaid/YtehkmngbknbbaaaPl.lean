/-
  The plain side of orders: what the document says, over lists and integers. No program in sight.
-/
set_option linter.unusedVariables false
namespace Go.Proofs.Ytehkmngbknbbaaa

def win (n lo hi : Int) : Bool := decide (lo ≤ n) && decide (n ≤ hi)
theorem win_bd {n lo hi : Int} (h : win n lo hi = true) : lo ≤ n ∧ n ≤ hi := by simpa [win] using h
theorem win_mk {n lo hi : Int} (h : lo ≤ n) (h' : n ≤ hi) : win n lo hi = true := by simp [win, h, h']

def mAmt : Int := 1099511627775
structure Ln where
  c : Int
  a : Int
deriving DecidableEq
structure Ord where
  cu : Int
  day : Int
  px : Int
  py : Int
  ls : List Ln
deriving DecidableEq

def Ln.ok (l : Ln) : Bool := win l.c 1 1099511627775 && win l.a 0 1099511627775
/-- The place of the first line that may not be. -/
def badLn : List Ln → Nat → Option Nat
  | [], _ => none
  | l :: r, k => if l.ok then badLn r (k + 1) else some k
theorem badLn_take (ls : List Ln) : ∀ (s k : Nat) (hk : k < ls.length), badLn (ls.take k) s = none → (ls[k]).ok = true → badLn (ls.take (k + 1)) s = none := by
  induction ls with
  | nil => intro s k hk; simp at hk
  | cons l r ih =>
    intro s k hk h h'
    cases k with
    | zero => simp_all [badLn]
    | succ k =>
      simp only [List.take_succ_cons, badLn] at h ⊢
      split at h
      · rename_i hl; rw [if_pos hl]; exact ih _ k (by simpa using hk) h (by simpa using h')
      · cases h
theorem badLn_hit (ls : List Ln) : ∀ (s k : Nat) (hk : k < ls.length), badLn (ls.take k) s = none → (ls[k]).ok = false → badLn ls s = some (s + k) := by
  induction ls with
  | nil => intro s k hk; simp at hk
  | cons l r ih =>
    intro s k hk h h'
    cases k with
    | zero => simp_all [badLn]
    | succ k =>
      simp only [List.take_succ_cons, badLn] at h ⊢
      split at h
      · rename_i hl; rw [if_pos hl, ih (s + 1) k (by simpa using hk) h (by simpa using h')]; congr 1; omega
      · cases h
def Ord.head (o : Ord) : Bool := win o.cu 0 1099511627775 && win o.day 0 3652058 && win o.px (-1099511627775) 1099511627775 && win o.py (-1099511627775) 1099511627775
/-- P25.1: the error, and at which line. -/
def Ord.check (o : Ord) : Int × Int :=
  if o.head = false then (5, 0) else if o.ls.length = 0 then (2, 0) else if 100 < o.ls.length then (3, 0) else
    match badLn o.ls 0 with
    | some k => (5, k)
    | none => (0, 0)

theorem badLn_all (ls : List Ln) : ∀ s, badLn ls s = none → ∀ x ∈ ls, x.ok = true := by
  induction ls with
  | nil => intro s _ x hx; cases hx
  | cons l r ih =>
    intro s h x hx
    unfold badLn at h
    split at h
    · rename_i hl
      rcases List.mem_cons.1 hx with rfl | hx
      · exact hl
      · exact ih _ h x hx
    · cases h
/-- What a checked order is. -/
theorem Ord.check_ok {o : Ord} (h : o.check.1 = 0) : o.head = true ∧ 1 ≤ o.ls.length ∧ o.ls.length ≤ 100 ∧ ∀ x ∈ o.ls, x.ok = true := by
  unfold Ord.check at h
  by_cases h0 : o.head = false
  · rw [if_pos h0] at h; cases h
  rw [if_neg h0] at h
  by_cases h1 : o.ls.length = 0
  · rw [if_pos h1] at h; cases h
  rw [if_neg h1] at h
  by_cases h2 : 100 < o.ls.length
  · rw [if_pos h2] at h; cases h
  rw [if_neg h2] at h
  refine ⟨by simpa using h0, by omega, by omega, ?_⟩
  split at h
  · cases h
  · rename_i hb; exact badLn_all _ _ hb
theorem Ord.check_2 {o : Ord} (h : o.check.1 = 0) : o.check.2 = 0 := by
  unfold Ord.check at h ⊢
  by_cases h0 : o.head = false
  · rw [if_pos h0] at h; cases h
  rw [if_neg h0] at h ⊢
  by_cases h1 : o.ls.length = 0
  · rw [if_pos h1] at h; cases h
  rw [if_neg h1] at h ⊢
  by_cases h2 : 100 < o.ls.length
  · rw [if_pos h2] at h; cases h
  rw [if_neg h2] at h ⊢
  split at h
  · cases h
  · rename_i hb; simp [hb]
def lnInts (ls : List Ln) : List Int := ls.flatMap fun l => [l.c, l.a]
theorem lnInts_snoc (ls : List Ln) (k : Nat) (h : k < ls.length) : lnInts (ls.take (k + 1)) = lnInts (ls.take k) ++ [ls[k].c, ls[k].a] := by
  rw [List.take_succ_eq_append_getElem h]; unfold lnInts; rw [List.flatMap_append, List.flatMap_cons, List.flatMap_nil, List.append_nil]
theorem lnInts_len (ls : List Ln) : (lnInts ls).length = 2 * ls.length := by
  induction ls with
  | nil => rfl
  | cons a l ih => simp only [lnInts, List.flatMap_cons, List.length_append, List.length_cons] at *; rw [ih]; simp; omega
def Ord.hd (o : Ord) : List Int := [o.cu, o.day, o.px, o.py, o.ls.length]
end Go.Proofs.Ytehkmngbknbbaaa
