/-
  The plain side of orders: what the document says, over lists and integers. No program in sight.
-/
import Derived.Test.YtokakpbpenndlaaDoorRp04
import Derived.Test.YtokakpbpenndlaaDoorProg
import Derived.Test.YtokakpbpenndlaaDoorRp01
import Derived.Test.YtokakpbpenndlaaDoorRp03
import Derived.StillTailTactics
set_option linter.unusedVariables false
namespace Go.Proofs.YtokakpbpenndlaaDoor

def win (n lo hi : Int) : Bool := decide (lo ≤ n) && decide (n ≤ hi)
theorem win_bd {n lo hi : Int} (h : win n lo hi = true) : lo ≤ n ∧ n ≤ hi := by simpa [win] using h
theorem win_mk {n lo hi : Int} (h : lo ≤ n) (h' : n ≤ hi) : win n lo hi = true := by simp [win, h, h']

def mAmt : Int := 1099511627775
structure Ln where
  c : Int
  a : Int
deriving DecidableEq
structure Ord where
  cu : Int
  day : Int
  px : Int
  py : Int
  ls : List Ln
deriving DecidableEq

def Ln.ok (l : Ln) : Bool := win l.c 1 1099511627775 && win l.a 0 1099511627775
/-- The place of the first line that may not be. -/
def badLn : List Ln → Nat → Option Nat
  | [], _ => none
  | l :: r, k => if l.ok then badLn r (k + 1) else some k
theorem badLn_take (ls : List Ln) : ∀ (s k : Nat) (hk : k < ls.length), badLn (ls.take k) s = none → (ls[k]).ok = true → badLn (ls.take (k + 1)) s = none := by
  induction ls with
  | nil => intro s k hk; simp at hk
  | cons l r ih =>
    intro s k hk h h'
    cases k with
    | zero => simp_all [badLn]
    | succ k =>
      simp only [List.take_succ_cons, badLn] at h ⊢
      split at h
      · rename_i hl; rw [if_pos hl]; exact ih _ k (by simpa using hk) h (by simpa using h')
      · cases h
theorem badLn_hit (ls : List Ln) : ∀ (s k : Nat) (hk : k < ls.length), badLn (ls.take k) s = none → (ls[k]).ok = false → badLn ls s = some (s + k) := by
  induction ls with
  | nil => intro s k hk; simp at hk
  | cons l r ih =>
    intro s k hk h h'
    cases k with
    | zero => simp_all [badLn]
    | succ k =>
      simp only [List.take_succ_cons, badLn] at h ⊢
      split at h
      · rename_i hl; rw [if_pos hl, ih (s + 1) k (by simpa using hk) h (by simpa using h')]; congr 1; omega
      · cases h
def Ord.head (o : Ord) : Bool := win o.cu 0 1099511627775 && win o.day 0 3652058 && win o.px (-1099511627775) 1099511627775 && win o.py (-1099511627775) 1099511627775
/-- P25.1: the error, and at which line. -/
def Ord.check (o : Ord) : Int × Int :=
  if o.head = false then (5, 0) else if o.ls.length = 0 then (2, 0) else if 100 < o.ls.length then (3, 0) else
    match badLn o.ls 0 with
    | some k => (5, k)
    | none => (0, 0)

theorem badLn_all (ls : List Ln) : ∀ s, badLn ls s = none → ∀ x ∈ ls, x.ok = true := by
  induction ls with
  | nil => intro s _ x hx; cases hx
  | cons l r ih =>
    intro s h x hx
    unfold badLn at h
    split at h
    · rename_i hl
      rcases List.mem_cons.1 hx with rfl | hx
      · exact hl
      · exact ih _ h x hx
    · cases h
/-- What a checked order is. -/
theorem Ord.check_ok {o : Ord} (h : o.check.1 = 0) : o.head = true ∧ 1 ≤ o.ls.length ∧ o.ls.length ≤ 100 ∧ ∀ x ∈ o.ls, x.ok = true := by
  unfold Ord.check at h
  by_cases h0 : o.head = false
  · rw [if_pos h0] at h; cases h
  rw [if_neg h0] at h
  by_cases h1 : o.ls.length = 0
  · rw [if_pos h1] at h; cases h
  rw [if_neg h1] at h
  by_cases h2 : 100 < o.ls.length
  · rw [if_pos h2] at h; cases h
  rw [if_neg h2] at h
  refine ⟨by simpa using h0, by omega, by omega, ?_⟩
  split at h
  · cases h
  · rename_i hb; exact badLn_all _ _ hb
theorem Ord.check_2 {o : Ord} (h : o.check.1 = 0) : o.check.2 = 0 := by
  unfold Ord.check at h ⊢
  by_cases h0 : o.head = false
  · rw [if_pos h0] at h; cases h
  rw [if_neg h0] at h ⊢
  by_cases h1 : o.ls.length = 0
  · rw [if_pos h1] at h; cases h
  rw [if_neg h1] at h ⊢
  by_cases h2 : 100 < o.ls.length
  · rw [if_pos h2] at h; cases h
  rw [if_neg h2] at h ⊢
  split at h
  · cases h
  · rename_i hb; simp
def lnInts (ls : List Ln) : List Int := ls.flatMap fun l => [l.c, l.a]
theorem lnInts_snoc (ls : List Ln) (k : Nat) (h : k < ls.length) : lnInts (ls.take (k + 1)) = lnInts (ls.take k) ++ [ls[k].c, ls[k].a] := by
  rw [List.take_succ_eq_append_getElem h]; unfold lnInts; rw [List.flatMap_append, List.flatMap_cons, List.flatMap_nil, List.append_nil]
theorem lnInts_len (ls : List Ln) : (lnInts ls).length = 2 * ls.length := by
  induction ls with
  | nil => rfl
  | cons a l ih => simp only [lnInts, List.flatMap_cons, List.length_append, List.length_cons] at *; rw [ih]; simp; omega
def Ord.hd (o : Ord) : List Int := [o.cu, o.day, o.px, o.py, o.ls.length]
end Go.Proofs.YtokakpbpenndlaaDoor

set_option linter.unusedVariables false
namespace Go.Proofs.YtokakpbpenndlaaDoor

/-- n lines read one behind the other; none behind a fault. -/
def linesO : Nat → RS → List Ln × RS
  | 0, s => ([], s)
  | n + 1, s => if s.fe = 0 then (⟨(s.num 1 1099511627775 5).1, ((s.num 1 1099511627775 5).2.num 0 1099511627775 5).1⟩ :: (linesO n ((s.num 1 1099511627775 5).2.num 0 1099511627775 5).2).1, (linesO n ((s.num 1 1099511627775 5).2.num 0 1099511627775 5).2).2) else linesO n s
/-- The reference's: it goes on behind a fault. -/
def linesR : Nat → RS → List Ln × RS
  | 0, s => ([], s)
  | n + 1, s => (⟨(s.num 1 1099511627775 5).1, ((s.num 1 1099511627775 5).2.num 0 1099511627775 5).1⟩ :: (linesR n ((s.num 1 1099511627775 5).2.num 0 1099511627775 5).2).1, (linesR n ((s.num 1 1099511627775 5).2.num 0 1099511627775 5).2).2)
theorem linesR_bad (n : Nat) : ∀ s : RS, s.fe ≠ 0 → (linesR n s).2 = s := by
  induction n with
  | zero => intro s _; rfl
  | succ n ih =>
    intro s h
    simp only [linesR, RS.num_sticky h]
    exact ih s h
theorem linesO_bad (n : Nat) : ∀ s : RS, s.fe ≠ 0 → linesO n s = ([], s) := by
  induction n with
  | zero => intro s _; rfl
  | succ n ih =>
    intro s h
    simp only [linesO, if_neg h]
    exact ih s h
theorem linesOR (n : Nat) : ∀ s : RS, (linesO n s).2 = (linesR n s).2 ∧ ((linesR n s).2.fe = 0 → (linesO n s).1 = (linesR n s).1) := by
  induction n with
  | zero => intro s; exact ⟨rfl, fun _ => rfl⟩
  | succ n ih =>
    intro s
    by_cases h : s.fe = 0
    · simp only [linesO, linesR, if_pos h]
      have := ih ((s.num 1 1099511627775 5).2.num 0 1099511627775 5).2
      exact ⟨this.1, fun h1 => by rw [this.2 h1]⟩
    · have e := linesR_bad (n + 1) s h
      rw [linesO_bad (n + 1) s h]
      exact ⟨e.symm, fun h1 => absurd (by rw [e] at h1; exact h1) h⟩
theorem linesO_len (n : Nat) : ∀ s : RS, (linesO n s).1.length ≤ n := by
  induction n with
  | zero => intro s; simp [linesO]
  | succ n ih =>
    intro s
    unfold linesO
    split
    · simp only [List.length_cons]
      have := ih ((s.num 1 1099511627775 5).2.num 0 1099511627775 5).2
      omega
    · have := ih s; omega
theorem linesR_len (n : Nat) : ∀ s : RS, (linesR n s).1.length = n := by
  induction n with
  | zero => intro s; rfl
  | succ n ih => intro s; simp [linesR, ih]

/-- The head of an order that is read: currency, day, place, count; the place at which the count stands. -/
structure Head where
  cu : Int
  day : Int
  px : Int
  py : Int
  at_ : Nat
  n : Int
  s : RS
def headP (b : List UInt8) : Head :=
  let s0 := RS.start b
  let s1 := s0.num 0 1099511627775 5
  let s2 := s1.2.num 0 3652058 5
  let s3 := s2.2.num (-1099511627775) 1099511627775 5
  let s4 := s3.2.num (-1099511627775) 1099511627775 5
  let s5 := s4.2.num 0 100 3
  ⟨s1.1, s2.1, s3.1, s4.1, s4.2.at_, s5.1, s5.2⟩
/-- What reading an order gives: the order, the fault, its place. -/
def readP (b : List UInt8) : Ord × Int × Nat :=
  let h := headP b
  if h.s.fe = 0 ∧ h.n = 0 then (⟨0, 0, 0, 0, []⟩, 2, h.at_)
  else if (linesO h.n.toNat h.s).2.fin.1 ≠ 0 then (⟨0, 0, 0, 0, []⟩, (linesO h.n.toNat h.s).2.fin.1, (linesO h.n.toNat h.s).2.fin.2)
  else (⟨h.cu, h.day, h.px, h.py, (linesO h.n.toNat h.s).1⟩, 0, 0)
theorem head_n (b : List UInt8) : 0 ≤ (headP b).n ∧ (headP b).n ≤ 100 := RS.num_bd _ 0 100 3 (by decide) (by decide)
theorem fin_fe (s : RS) (h : s.fin.1 = 0) : s.fe = 0 := by
  unfold RS.fin at h
  split at h
  · simp at h
  · exact h
/-- The reference's reading comes to the same. -/
theorem readR (b : List UInt8) : readP b = 
    (let h := headP b
     if h.s.fe = 0 ∧ h.n = 0 then ((⟨0, 0, 0, 0, []⟩ : Ord), (2 : Int), h.at_)
     else if (linesR h.n.toNat h.s).2.fin.1 ≠ 0 then (⟨0, 0, 0, 0, []⟩, (linesR h.n.toNat h.s).2.fin.1, (linesR h.n.toNat h.s).2.fin.2)
     else (⟨h.cu, h.day, h.px, h.py, (linesR h.n.toNat h.s).1⟩, 0, 0)) := by
  unfold readP
  simp only
  obtain ⟨e1, e2⟩ := linesOR (headP b).n.toNat (headP b).s
  by_cases h0 : (headP b).s.fe = 0 ∧ (headP b).n = 0
  · rw [if_pos h0, if_pos h0]
  rw [if_neg h0, if_neg h0, e1]
  by_cases h1 : (linesR (headP b).n.toNat (headP b).s).2.fin.1 ≠ 0
  · rw [if_pos h1, if_pos h1]
  rw [if_neg h1, if_neg h1, e2 (fin_fe _ (by simpa using h1))]
/-- No fault has no place. -/
def RS.clean (s : RS) : Prop := s.fe = 0 → s.fa = 0
theorem RS.num_clean {s : RS} (h : s.clean) (lo hi above : Int) (ha : above ≠ 0) : (s.num lo hi above).2.clean := by
  unfold RS.num
  by_cases h0 : s.fe ≠ 0
  · rw [if_pos h0]; exact h
  rw [if_neg h0]
  simp only
  by_cases h1 : (getN s.b s.at_).fe ≠ 0
  · rw [if_pos h1]; exact fun h2 => absurd h2 h1
  rw [if_neg h1]
  by_cases h2 : hi < (getN s.b s.at_).n
  · rw [if_pos h2]; exact fun h3 => absurd h3 ha
  rw [if_neg h2]
  by_cases h3 : (getN s.b s.at_).n < lo
  · rw [if_pos h3]; exact fun h4 => absurd h4 (by show ¬ (5 : Int) = 0; decide)
  rw [if_neg h3]
  exact h
theorem linesR_clean (n : Nat) : ∀ s : RS, s.clean → (linesR n s).2.clean := by
  induction n with
  | zero => intro s h; exact h
  | succ n ih => intro s h; exact ih _ (RS.num_clean (RS.num_clean h _ _ _ (by decide)) _ _ _ (by decide))
theorem head_clean (b : List UInt8) : (headP b).s.clean :=
  RS.num_clean (RS.num_clean (RS.num_clean (RS.num_clean (RS.num_clean (s := RS.start b) (fun _ => rfl) _ _ _ (by decide)) _ _ _ (by decide)) _ _ _ (by decide)) _ _ _ (by decide)) _ _ _ (by decide)
theorem fin_clean {s : RS} (h : s.clean) (h0 : s.fin.1 = 0) : s.fin.2 = 0 := by
  unfold RS.fin at h0 ⊢
  split at h0
  · simp at h0
  · rename_i hc
    rw [if_neg hc]
    exact h h0
end Go.Proofs.YtokakpbpenndlaaDoor

set_option linter.unusedVariables false
namespace Go.Proofs.YtokakpbpenndlaaDoor
open Go.RowKit

theorem within_any (n lo hi : Int) (w : World) :
    Calls Tryd.prog 65 #[.int .i64 n, .int .i64 lo, .int .i64 hi] w fun e w' => e = .returned (.bool (win n lo hi)) ∧ w = w' := by
  unfold win
  by_cases h1 : lo ≤ n <;> by_cases h2 : n ≤ hi
  all_goals
    go_enter Tryd.func65, Tryd.ntmps65
    go_wp2
    go_ret
    exact ⟨ret_bool (by simp [h1, h2]), rfl⟩
def Ln.cells (l : Ln) : List Value := [.int .i64 l.c, .int .i64 l.a]
def lnCells (ls : List Ln) : List Value := ls.flatMap Ln.cells
theorem lnCells_at (ls : List Ln) : ∀ (k : Nat) (h : k < ls.length), (lnCells ls)[k * 2]? = some (.int .i64 ls[k].c) ∧ (lnCells ls)[k * 2 + 1]? = some (.int .i64 ls[k].a) := by
  induction ls with
  | nil => intro k h; simp at h
  | cons l r ih =>
    intro k h
    cases k with
    | zero => simp [lnCells, Ln.cells]
    | succ k =>
      have := ih k (by simpa using h)
      simpa [lnCells, Ln.cells, Nat.add_mul, Nat.add_assoc] using this

end Go.Proofs.YtokakpbpenndlaaDoor

set_option linter.unusedVariables false
namespace Go.Proofs.YtokakpbpenndlaaDoor
open Go.RowKit
theorem row_u8 : RowT Tryd.prog 120 5 1 1 (.int .u8 0) := rowT_mk Tryd.underlying120 (z := .int .u8 0) (by kernel_rfl) rfl (by decide)
theorem row_int : RowT Tryd.prog 25 3 1 8 (.int .i64 0) := rowT_mk Tryd.underlying25 (z := .int .i64 0) (by kernel_rfl) rfl (by decide)

/-- A round of a Put: so much is written, r is left. -/
def PutRel (w : World) (z : Nat) (s o : Value) (wr : World) : Prop :=
  ∃ (f r : Nat) (out : List UInt8), s = .int .u64 (r : Int) ∧ r < 128 ^ f ∧ r < 18446744073709551616 ∧ 1 ≤ f ∧ f + out.length ≤ 10 ∧ lebF 10 z = out ++ lebF f r ∧ wr.ownsRow w.heap.size 5 1 o out.length (bV out) ∧ Ext w wr ∧ AllP wr o u8P
theorem PutRel.next {w w1 : World} {z f r : Nat} {out : List UInt8} {v1 : Value} {n c : Int} (hr : r < 128 ^ (f + 1)) (hrl : r < 18446744073709551616) (hge : 128 ≤ r) (hfl : f + 1 + out.length ≤ 10) (h : lebF 10 z = out ++ lebF (f + 1) r)
    (hg : w1.ownsRow w.heap.size 5 1 v1 (out.length + 1) (bV out ++ [.int .u8 c])) (hc : c = ((UInt8.ofNat (r % 128 + 128)).toNat : Int)) (hx : Ext w w1) (hall : AllP w1 v1 u8P) (hn : n = ((r / 128 : Nat) : Int)) : PutRel w z (.int .u64 n) v1 w1 := by
  subst hn hc
  refine ⟨f, r / 128, out ++ [UInt8.ofNat (r % 128 + 128)], rfl, ?_, by omega, ?_, by simp; omega, by rw [h, lebF_big f r hge]; simp, ?_, hx, hall⟩
  · rw [Nat.pow_succ] at hr; exact Nat.div_lt_of_lt_mul (by omega)
  · rcases f with _ | f
    · simp at hr; omega
    · omega
  · rw [bV_app, List.length_append]
    simpa [bV] using hg
theorem PutRel.done {w w1 : World} {z f r : Nat} {out : List UInt8} {v1 : Value} (hlt : r < 128) (h : lebF 10 z = out ++ lebF (f + 1) r)
    (hg : w1.ownsRow w.heap.size 5 1 v1 (out.length + 1) (bV out ++ [.int .u8 ((UInt8.ofNat r).toNat : Int)])) : w1.ownsRow w.heap.size 5 1 v1 (lebF 10 z).length (bV (lebF 10 z)) := by
  rw [h, lebF_small f r hlt, bV_app, List.length_append]
  simpa [bV] using hg

end Go.Proofs.YtokakpbpenndlaaDoor

set_option linter.unusedVariables false
namespace Go.Proofs.YtokakpbpenndlaaDoor
open Go.RowKit

/-- Numbers as cells. -/
def iV (l : List Int) : List Value := l.map fun n => .int .i64 n
theorem iV_one (l : List Int) : ∀ u ∈ iV l, u.oneCell' = true := by
  intro u hu
  simp only [iV, List.mem_map] at hu
  obtain ⟨b, _, rfl⟩ := hu
  rfl
theorem iV_at (l : List Int) (k : Nat) (h : k < l.length) : (iV l)[k]? = some (.int .i64 l[k]) := by simp [iV, h]
def PutsRel (w : World) (l : List Int) (o i : Value) (wr : World) : Prop :=
  ∃ k : Nat, k ≤ l.length ∧ i = .int .i64 (k : Int) ∧ wr.ownsRow w.heap.size 5 1 o (putsL (l.take k)).length (bV (putsL (l.take k))) ∧ Ext w wr ∧ AllP wr o u8P
theorem PutsRel.next {w w1 : World} {l : List Int} {k : Nat} {v1 : Value} {n m : Nat} {xs : List Value} (hk : k < l.length) (hg : w1.ownsRow w.heap.size 5 1 v1 n xs) (hn : n = (putsL (l.take k)).length + (putL l[k]).length) (hxs : xs = bV (putsL (l.take k)) ++ bV (putL l[k])) (hx : Ext w w1) (hall : AllP w1 v1 u8P) (hm : m = k + 1) : PutsRel w l v1 (.int .i64 (m : Int)) w1 := by
  subst hm hn hxs
  refine ⟨k + 1, by omega, rfl, ?_, hx, hall⟩
  rw [putsL_snoc l k hk, bV_app, List.length_append]
  exact hg
theorem PutsRel.done {w w1 : World} {l : List Int} {k : Nat} {o : Value} (hk : k = l.length) (h : w1.ownsRow w.heap.size 5 1 o (putsL (l.take k)).length (bV (putsL (l.take k)))) : w1.ownsRow w.heap.size 5 1 o (putsL l).length (bV (putsL l)) := by
  subst hk; rwa [List.take_length] at h

end Go.Proofs.YtokakpbpenndlaaDoor

set_option linter.unusedVariables false
namespace Go.Proofs.YtokakpbpenndlaaDoor
open Go.RowKit

theorem conv_reads {w : World} {B n cap : Nat} {A : Option Addr} {l : List UInt8} (h : Reads w B 1 A n (bV l)) :
    (convert 120 9 (.slice A n cap)).run Tryd.prog w = .ok (.string ⟨l.toArray⟩) w := by
  have hl : l.length = n := by have := h.1; simpa [bV] using this
  rcases A with _ | ad
  · have h0 : n = 0 := by
      rcases Nat.eq_zero_or_pos n with h0 | h0
      · exact h0
      · obtain ⟨b, off, e, _⟩ := h.2 h0; cases e
    subst h0
    have : l = [] := List.eq_nil_of_length_eq_zero hl
    subst this
    exact run_convert_bytes_nil w _ _ Tryd.underlying120 Tryd.underlying5 _ _ _ Tryd.underlying9
  · rcases Nat.eq_zero_or_pos n with h0 | h0
    · subst h0
      have : l = [] := List.eq_nil_of_length_eq_zero hl
      subst this
      have h2 := run_convert_bytes_string (P := Tryd.prog) w 120 9 5 (some ad) 0 cap Tryd.underlying120 Tryd.underlying5 Tryd.underlying9
      have h3 := run_bytesToString (P := Tryd.prog) w ad 0 cap [] (by simp [loadCells, loadCellsFrom])
      rw [h2, h3]
      simp [ByteArray.empty, ByteArray.emptyWithCapacity]
      rfl
    · obtain ⟨b, off, e, hb, hc⟩ := h.2 h0
      obtain rfl := Option.some.inj e
      have := run_convert_bytes_arg w 120 5 Tryd.underlying120 Tryd.underlying5 b off n cap (l.map fun b => (b.toNat : Int)) (by simpa using hl) (fun i hi => by
        refine hc i _ ?_
        simp [bV, List.getD, List.getElem?_eq_getElem (show i < l.length by omega)]) _ Tryd.underlying9
      rw [this]
      simp [strOfNums, Function.comp_def]

theorem lnCells_one (l : List Ln) : ∀ u ∈ lnCells l, u.oneCell' = true := by
  intro u hu
  simp only [lnCells, List.mem_flatMap, Ln.cells] at hu
  obtain ⟨x, _, hx⟩ := hu
  simp at hx
  rcases hx with rfl | rfl <;> rfl
theorem lnCells_len (l : List Ln) : (lnCells l).length = l.length * 2 := by
  induction l with
  | nil => rfl
  | cons a l ih => simp only [lnCells, List.flatMap_cons, List.length_append, List.length_cons] at *; rw [ih]; simp [Ln.cells]; omega

def SameRel (w : World) (n : Nat) (P : Nat → Prop) (i : Value) (wr : World) : Prop := ∃ k : Nat, k ≤ n ∧ i = .int .i64 (k : Int) ∧ Ext w wr ∧ ∀ j, j < k → P j

theorem eq_of_at {α : Type} (a b : List α) (hl : a.length = b.length) (h : ∀ j (h1 : j < a.length) (h2 : j < b.length), a[j] = b[j]) : a = b := List.ext_getElem hl (fun j h1 h2 => h j h1 h2)

theorem SameRel.done {α : Type} {w wr : World} {a b : List α} {k : Nat} (hk : a.length ≤ k) (hl : a.length = b.length) (hP : ∀ j, j < k → a[j]? = b[j]?) : a = b := by
  refine List.ext_getElem hl fun j h1 h2 => ?_
  have := hP j (by omega)
  simpa [h1, h2] using this
theorem SameRel.next {w w1 : World} {n k m : Nat} {P : Nat → Prop} (hk : k < n) (hx : Ext w w1) (hP : ∀ j, j < k → P j) (h : P k) (hm : m = k + 1) : SameRel w n P (.int .i64 (m : Int)) w1 := by
  subst hm
  exact ⟨k + 1, by omega, rfl, hx, fun j hj => by rcases Nat.lt_or_ge j k with h1 | h1; exact hP j h1; rw [show j = k by omega]; exact h⟩
theorem len_ne {α : Type} {a b : List α} (h : a.length ≠ b.length) : decide ((a.length : Int) = b.length) = false := by simp; omega

theorem eql_pt (a b c d : Int) (w : World) : (binOp .eql 189 (.agg #[.int .i64 a, .int .i64 b]) (.agg #[.int .i64 c, .int .i64 d])).run Tryd.prog w = .ok (.bool (a == c && b == d)) w := by
  by_cases h1 : a = c <;> by_cases h2 : b = d <;> simp [go_sem, h1, h2]

def ordV (o : Ord) (A : Option Addr) (cap : Nat) : Value := .agg #[.int .i64 o.cu, .int .i64 o.day, .int .i64 o.px, .int .i64 o.py, .slice A o.ls.length cap]

end Go.Proofs.YtokakpbpenndlaaDoor

set_option linter.unusedVariables false
namespace Go.Proofs.YtokakpbpenndlaaDoor
open Go.RowKit

def Ord.bytes (o : Ord) : List UInt8 := if o.check.1 = 0 then putsL (o.hd ++ lnInts o.ls) else []
theorem Ord.bytes_ok {o : Ord} (h : o.check.1 = 0) : o.bytes = putsL o.hd ++ putsL (lnInts o.ls) := by rw [Ord.bytes, if_pos h, putsL_app]
theorem Ord.bytes_no {o : Ord} (h : o.check.1 ≠ 0) : o.bytes = [] := by rw [Ord.bytes, if_neg h]
theorem win_i64 {n lo hi : Int} (h : win n lo hi = true) (h1 : -9223372036854775808 ≤ lo) (h2 : hi ≤ 9223372036854775807) : i64 n := by
  have := win_bd h; exact ⟨by omega, by omega⟩
theorem Ord.hd_i64 {o : Ord} (h : o.check.1 = 0) : ∀ n ∈ o.hd, i64 n := by
  obtain ⟨h0, _, h2, _⟩ := Ord.check_ok h
  simp only [Ord.head, Bool.and_eq_true] at h0
  obtain ⟨⟨⟨a, b⟩, c⟩, d⟩ := h0
  intro n hn
  simp only [Ord.hd, List.mem_cons, List.not_mem_nil, or_false] at hn
  rcases hn with rfl | rfl | rfl | rfl | rfl
  · exact win_i64 a (by omega) (by omega)
  · exact win_i64 b (by omega) (by omega)
  · exact win_i64 c (by omega) (by omega)
  · exact win_i64 d (by omega) (by omega)
  · exact ⟨by omega, by omega⟩
theorem Ln.i64 {l : Ln} (h : l.ok = true) : ∀ n ∈ [l.c, l.a], Go.Proofs.YtokakpbpenndlaaDoor.i64 n := by
  simp only [Ln.ok, Bool.and_eq_true] at h
  intro n hn
  simp only [List.mem_cons, List.not_mem_nil, or_false] at hn
  rcases hn with rfl | rfl
  · exact win_i64 h.1 (by omega) (by omega)
  · exact win_i64 h.2 (by omega) (by omega)

def OBRel (w : World) (o : Ord) (out i : Value) (wr : World) : Prop :=
  ∃ k : Nat, k ≤ o.ls.length ∧ i = .int .i64 (k : Int) ∧ wr.ownsRow w.heap.size 5 1 out (putsL (o.hd ++ lnInts (o.ls.take k))).length (bV (putsL (o.hd ++ lnInts (o.ls.take k)))) ∧ Ext w wr ∧ AllP wr out u8P
theorem OBRel.next {w w1 : World} {o : Ord} {k : Nat} {v1 : Value} {n m : Nat} {xs : List Value} {x : Ln} (hk : k < o.ls.length) (hx0 : o.ls[k] = x) (hg : w1.ownsRow w.heap.size 5 1 v1 n xs) (hn : n = (putsL (o.hd ++ lnInts (o.ls.take k))).length + (putsL [x.c, x.a]).length) (hxs : xs = bV (putsL (o.hd ++ lnInts (o.ls.take k))) ++ bV (putsL [x.c, x.a])) (hx : Ext w w1) (hall : AllP w1 v1 u8P) (hm : m = k + 1) : OBRel w o v1 (.int .i64 (m : Int)) w1 := by
  subst hm hn hxs hx0
  refine ⟨k + 1, by omega, rfl, ?_, hx, hall⟩
  rw [lnInts_snoc _ k hk, ← List.append_assoc, putsL_app (o.hd ++ lnInts (o.ls.take k)), bV_app, List.length_append]
  exact hg
theorem OBRel.done {w w1 : World} {o : Ord} {k : Nat} {out : Value} (hc : o.check.1 = 0) (hk : k = o.ls.length) (h : w1.ownsRow w.heap.size 5 1 out (putsL (o.hd ++ lnInts (o.ls.take k))).length (bV (putsL (o.hd ++ lnInts (o.ls.take k))))) : w1.ownsRow w.heap.size 5 1 out o.bytes.length (bV o.bytes) := by
  subst hk; rw [List.take_length] at h; rw [Ord.bytes, if_pos hc]; exact h

end Go.Proofs.YtokakpbpenndlaaDoor
