/-
  The plain side of reading an order.
-/
import Derived.Test.YtokakpbpenndlaaGreatDoorRr11
import Derived.Test.YtokakpbpenndlaaGreatDoorRr05
import Derived.Test.YtokakpbpenndlaaGreatDoorRr02
import Derived.StillTailTactics
set_option linter.unusedVariables false
namespace Go.Proofs.YtokakpbpenndlaaGreatDoor

/-- n lines read one behind the other; none behind a fault. -/
def linesO : Nat → RS → List Ln × RS
  | 0, s => ([], s)
  | n + 1, s => if s.fe = 0 then (⟨(s.num 1 1099511627775 5).1, ((s.num 1 1099511627775 5).2.num 0 1099511627775 5).1⟩ :: (linesO n ((s.num 1 1099511627775 5).2.num 0 1099511627775 5).2).1, (linesO n ((s.num 1 1099511627775 5).2.num 0 1099511627775 5).2).2) else linesO n s
/-- The reference's: it goes on behind a fault. -/
def linesR : Nat → RS → List Ln × RS
  | 0, s => ([], s)
  | n + 1, s => (⟨(s.num 1 1099511627775 5).1, ((s.num 1 1099511627775 5).2.num 0 1099511627775 5).1⟩ :: (linesR n ((s.num 1 1099511627775 5).2.num 0 1099511627775 5).2).1, (linesR n ((s.num 1 1099511627775 5).2.num 0 1099511627775 5).2).2)
theorem linesR_bad (n : Nat) : ∀ s : RS, s.fe ≠ 0 → (linesR n s).2 = s := by
  induction n with
  | zero => intro s _; rfl
  | succ n ih =>
    intro s h
    simp only [linesR, RS.num_sticky h]
    exact ih s h
theorem linesO_bad (n : Nat) : ∀ s : RS, s.fe ≠ 0 → linesO n s = ([], s) := by
  induction n with
  | zero => intro s _; rfl
  | succ n ih =>
    intro s h
    simp only [linesO, if_neg h]
    exact ih s h
theorem linesOR (n : Nat) : ∀ s : RS, (linesO n s).2 = (linesR n s).2 ∧ ((linesR n s).2.fe = 0 → (linesO n s).1 = (linesR n s).1) := by
  induction n with
  | zero => intro s; exact ⟨rfl, fun _ => rfl⟩
  | succ n ih =>
    intro s
    by_cases h : s.fe = 0
    · simp only [linesO, linesR, if_pos h]
      have := ih ((s.num 1 1099511627775 5).2.num 0 1099511627775 5).2
      exact ⟨this.1, fun h1 => by rw [this.2 h1]⟩
    · have e := linesR_bad (n + 1) s h
      rw [linesO_bad (n + 1) s h]
      exact ⟨e.symm, fun h1 => absurd (by rw [e] at h1; exact h1) h⟩
theorem linesO_len (n : Nat) : ∀ s : RS, (linesO n s).1.length ≤ n := by
  induction n with
  | zero => intro s; simp [linesO]
  | succ n ih =>
    intro s
    unfold linesO
    split
    · simp only [List.length_cons]
      have := ih ((s.num 1 1099511627775 5).2.num 0 1099511627775 5).2
      omega
    · have := ih s; omega
theorem linesR_len (n : Nat) : ∀ s : RS, (linesR n s).1.length = n := by
  induction n with
  | zero => intro s; rfl
  | succ n ih => intro s; simp [linesR, ih]

/-- The head of an order that is read: currency, day, place, count; the place at which the count stands. -/
structure Head where
  cu : Int
  day : Int
  px : Int
  py : Int
  at_ : Nat
  n : Int
  s : RS
def headP (b : List UInt8) : Head :=
  let s0 := RS.start b
  let s1 := s0.num 0 1099511627775 5
  let s2 := s1.2.num 0 3652058 5
  let s3 := s2.2.num (-1099511627775) 1099511627775 5
  let s4 := s3.2.num (-1099511627775) 1099511627775 5
  let s5 := s4.2.num 0 100 3
  ⟨s1.1, s2.1, s3.1, s4.1, s4.2.at_, s5.1, s5.2⟩
/-- What reading an order gives: the order, the fault, its place. -/
def readP (b : List UInt8) : Ord × Int × Nat :=
  let h := headP b
  if h.s.fe = 0 ∧ h.n = 0 then (⟨0, 0, 0, 0, []⟩, 2, h.at_)
  else if (linesO h.n.toNat h.s).2.fin.1 ≠ 0 then (⟨0, 0, 0, 0, []⟩, (linesO h.n.toNat h.s).2.fin.1, (linesO h.n.toNat h.s).2.fin.2)
  else (⟨h.cu, h.day, h.px, h.py, (linesO h.n.toNat h.s).1⟩, 0, 0)
theorem head_n (b : List UInt8) : 0 ≤ (headP b).n ∧ (headP b).n ≤ 100 := RS.num_bd _ 0 100 3 (by decide) (by decide)
theorem fin_fe (s : RS) (h : s.fin.1 = 0) : s.fe = 0 := by
  unfold RS.fin at h
  split at h
  · simp at h
  · exact h
/-- The reference's reading comes to the same. -/
theorem readR (b : List UInt8) : readP b = 
    (let h := headP b
     if h.s.fe = 0 ∧ h.n = 0 then ((⟨0, 0, 0, 0, []⟩ : Ord), (2 : Int), h.at_)
     else if (linesR h.n.toNat h.s).2.fin.1 ≠ 0 then (⟨0, 0, 0, 0, []⟩, (linesR h.n.toNat h.s).2.fin.1, (linesR h.n.toNat h.s).2.fin.2)
     else (⟨h.cu, h.day, h.px, h.py, (linesR h.n.toNat h.s).1⟩, 0, 0)) := by
  unfold readP
  simp only
  obtain ⟨e1, e2⟩ := linesOR (headP b).n.toNat (headP b).s
  by_cases h0 : (headP b).s.fe = 0 ∧ (headP b).n = 0
  · rw [if_pos h0, if_pos h0]
  rw [if_neg h0, if_neg h0, e1]
  by_cases h1 : (linesR (headP b).n.toNat (headP b).s).2.fin.1 ≠ 0
  · rw [if_pos h1, if_pos h1]
  rw [if_neg h1, if_neg h1, e2 (fin_fe _ (by simpa using h1))]
/-- No fault has no place. -/
def RS.clean (s : RS) : Prop := s.fe = 0 → s.fa = 0
theorem RS.num_clean {s : RS} (h : s.clean) (lo hi above : Int) (ha : above ≠ 0) : (s.num lo hi above).2.clean := by
  unfold RS.num
  by_cases h0 : s.fe ≠ 0
  · rw [if_pos h0]; exact h
  rw [if_neg h0]
  simp only
  by_cases h1 : (getN s.b s.at_).fe ≠ 0
  · rw [if_pos h1]; exact fun h2 => absurd h2 h1
  rw [if_neg h1]
  by_cases h2 : hi < (getN s.b s.at_).n
  · rw [if_pos h2]; exact fun h3 => absurd h3 ha
  rw [if_neg h2]
  by_cases h3 : (getN s.b s.at_).n < lo
  · rw [if_pos h3]; exact fun h4 => absurd h4 (by show ¬ (5 : Int) = 0; decide)
  rw [if_neg h3]
  exact h
theorem linesR_clean (n : Nat) : ∀ s : RS, s.clean → (linesR n s).2.clean := by
  induction n with
  | zero => intro s h; exact h
  | succ n ih => intro s h; exact ih _ (RS.num_clean (RS.num_clean h _ _ _ (by decide)) _ _ _ (by decide))
theorem head_clean (b : List UInt8) : (headP b).s.clean :=
  RS.num_clean (RS.num_clean (RS.num_clean (RS.num_clean (RS.num_clean (s := RS.start b) (fun _ => rfl) _ _ _ (by decide)) _ _ _ (by decide)) _ _ _ (by decide)) _ _ _ (by decide)) _ _ _ (by decide)
theorem fin_clean {s : RS} (h : s.clean) (h0 : s.fin.1 = 0) : s.fin.2 = 0 := by
  unfold RS.fin at h0 ⊢
  split at h0
  · simp at h0
  · rename_i hc
    rw [if_neg hc]
    exact h h0
end Go.Proofs.YtokakpbpenndlaaGreatDoor

set_option linter.unusedVariables false
namespace Go.Proofs.YtokakpbpenndlaaGreatDoor
open Go.RowKit

/-- Numbers as cells. -/
def iV (l : List Int) : List Value := l.map fun n => .int .i64 n
theorem iV_one (l : List Int) : ∀ u ∈ iV l, u.oneCell' = true := by
  intro u hu
  simp only [iV, List.mem_map] at hu
  obtain ⟨b, _, rfl⟩ := hu
  rfl
theorem iV_at (l : List Int) (k : Nat) (h : k < l.length) : (iV l)[k]? = some (.int .i64 l[k]) := by simp [iV, h]
def PutsRel (w : World) (l : List Int) (o i : Value) (wr : World) : Prop :=
  ∃ k : Nat, k ≤ l.length ∧ i = .int .i64 (k : Int) ∧ wr.ownsRow w.heap.size 5 1 o (putsL (l.take k)).length (bV (putsL (l.take k))) ∧ Ext w wr ∧ AllP wr o u8P
theorem PutsRel.next {w w1 : World} {l : List Int} {k : Nat} {v1 : Value} {n m : Nat} {xs : List Value} (hk : k < l.length) (hg : w1.ownsRow w.heap.size 5 1 v1 n xs) (hn : n = (putsL (l.take k)).length + (putL l[k]).length) (hxs : xs = bV (putsL (l.take k)) ++ bV (putL l[k])) (hx : Ext w w1) (hall : AllP w1 v1 u8P) (hm : m = k + 1) : PutsRel w l v1 (.int .i64 (m : Int)) w1 := by
  subst hm hn hxs
  refine ⟨k + 1, by omega, rfl, ?_, hx, hall⟩
  rw [putsL_snoc l k hk, bV_app, List.length_append]
  exact hg
theorem PutsRel.done {w w1 : World} {l : List Int} {k : Nat} {o : Value} (hk : k = l.length) (h : w1.ownsRow w.heap.size 5 1 o (putsL (l.take k)).length (bV (putsL (l.take k)))) : w1.ownsRow w.heap.size 5 1 o (putsL l).length (bV (putsL l)) := by
  subst hk; rwa [List.take_length] at h

end Go.Proofs.YtokakpbpenndlaaGreatDoor

set_option linter.unusedVariables false
namespace Go.Proofs.YtokakpbpenndlaaGreatDoor
open Go.RowKit

theorem conv_reads {w : World} {B n cap : Nat} {A : Option Addr} {l : List UInt8} (h : Reads w B 1 A n (bV l)) :
    (convert 24 9 (.slice A n cap)).run Tryz.prog w = .ok (.string ⟨l.toArray⟩) w := by
  have hl : l.length = n := by have := h.1; simpa [bV] using this
  rcases A with _ | ad
  · have h0 : n = 0 := by
      rcases Nat.eq_zero_or_pos n with h0 | h0
      · exact h0
      · obtain ⟨b, off, e, _⟩ := h.2 h0; cases e
    subst h0
    have : l = [] := List.eq_nil_of_length_eq_zero hl
    subst this
    exact run_convert_bytes_nil w _ _ Tryz.underlying24 Tryz.underlying5 _ _ _ Tryz.underlying9
  · rcases Nat.eq_zero_or_pos n with h0 | h0
    · subst h0
      have : l = [] := List.eq_nil_of_length_eq_zero hl
      subst this
      have h2 := run_convert_bytes_string (P := Tryz.prog) w 24 9 5 (some ad) 0 cap Tryz.underlying24 Tryz.underlying5 Tryz.underlying9
      have h3 := run_bytesToString (P := Tryz.prog) w ad 0 cap [] (by simp [loadCells, loadCellsFrom])
      rw [h2, h3]
      simp [ByteArray.empty, ByteArray.emptyWithCapacity]
      rfl
    · obtain ⟨b, off, e, hb, hc⟩ := h.2 h0
      obtain rfl := Option.some.inj e
      have := run_convert_bytes_arg w 24 5 Tryz.underlying24 Tryz.underlying5 b off n cap (l.map fun b => (b.toNat : Int)) (by simpa using hl) (fun i hi => by
        refine hc i _ ?_
        simp [bV, List.getD, List.getElem?_eq_getElem (show i < l.length by omega)]) _ Tryz.underlying9
      rw [this]
      simp [strOfNums, Function.comp_def]

theorem sameBytes_any (a b : List UInt8) (A A' : Option Addr) (n n' c c' : Nat) (w : World) (h1 : Reads w w.heap.size 1 A n (bV a)) (h2 : Reads w w.heap.size 1 A' n' (bV b)) :
    Calls Tryz.prog 20 #[.slice A n c, .slice A' n' c'] w fun e w' => e = .returned (.bool (a == b)) ∧ w = w' := by
  have k1 := conv_reads (cap := c) h1
  have k2 := conv_reads (cap := c') h2
  clear h1 h2
  go_enter Tryz.func20, Tryz.ntmps20
  go_wp2
  go_ret
  exact ⟨rfl, rfl⟩

theorem lnCells_one (l : List Ln) : ∀ u ∈ lnCells l, u.oneCell' = true := by
  intro u hu
  simp only [lnCells, List.mem_flatMap, Ln.cells] at hu
  obtain ⟨x, _, hx⟩ := hu
  simp at hx
  rcases hx with rfl | rfl <;> rfl
theorem lnCells_len (l : List Ln) : (lnCells l).length = l.length * 2 := by
  induction l with
  | nil => rfl
  | cons a l ih => simp only [lnCells, List.flatMap_cons, List.length_append, List.length_cons] at *; rw [ih]; simp [Ln.cells]; omega

def SameRel (w : World) (n : Nat) (P : Nat → Prop) (i : Value) (wr : World) : Prop := ∃ k : Nat, k ≤ n ∧ i = .int .i64 (k : Int) ∧ Ext w wr ∧ ∀ j, j < k → P j

theorem eq_of_at {α : Type} (a b : List α) (hl : a.length = b.length) (h : ∀ j (h1 : j < a.length) (h2 : j < b.length), a[j] = b[j]) : a = b := List.ext_getElem hl (fun j h1 h2 => h j h1 h2)

theorem SameRel.done {α : Type} {w wr : World} {a b : List α} {k : Nat} (hk : a.length ≤ k) (hl : a.length = b.length) (hP : ∀ j, j < k → a[j]? = b[j]?) : a = b := by
  refine List.ext_getElem hl fun j h1 h2 => ?_
  have := hP j (by omega)
  simpa [h1, h2] using this
theorem SameRel.next {w w1 : World} {n k m : Nat} {P : Nat → Prop} (hk : k < n) (hx : Ext w w1) (hP : ∀ j, j < k → P j) (h : P k) (hm : m = k + 1) : SameRel w n P (.int .i64 (m : Int)) w1 := by
  subst hm
  exact ⟨k + 1, by omega, rfl, hx, fun j hj => by rcases Nat.lt_or_ge j k with h1 | h1; exact hP j h1; rw [show j = k by omega]; exact h⟩
theorem len_ne {α : Type} {a b : List α} (h : a.length ≠ b.length) : decide ((a.length : Int) = b.length) = false := by simp; omega

theorem eql_pt (a b c d : Int) (w : World) : (binOp .eql 241 (.agg #[.int .i64 a, .int .i64 b]) (.agg #[.int .i64 c, .int .i64 d])).run Tryz.prog w = .ok (.bool (a == c && b == d)) w := by
  by_cases h1 : a = c <;> by_cases h2 : b = d <;> simp [go_sem, h1, h2]

def ordV (o : Ord) (A : Option Addr) (cap : Nat) : Value := .agg #[.int .i64 o.cu, .int .i64 o.day, .int .i64 o.px, .int .i64 o.py, .slice A o.ls.length cap]

end Go.Proofs.YtokakpbpenndlaaGreatDoor

set_option linter.unusedVariables false
namespace Go.Proofs.YtokakpbpenndlaaGreatDoor
open Go.RowKit

def Ord.bytes (o : Ord) : List UInt8 := if o.check.1 = 0 then putsL (o.hd ++ lnInts o.ls) else []
theorem Ord.bytes_ok {o : Ord} (h : o.check.1 = 0) : o.bytes = putsL o.hd ++ putsL (lnInts o.ls) := by rw [Ord.bytes, if_pos h, putsL_app]
theorem Ord.bytes_no {o : Ord} (h : o.check.1 ≠ 0) : o.bytes = [] := by rw [Ord.bytes, if_neg h]
theorem win_i64 {n lo hi : Int} (h : win n lo hi = true) (h1 : -9223372036854775808 ≤ lo) (h2 : hi ≤ 9223372036854775807) : i64 n := by
  have := win_bd h; exact ⟨by omega, by omega⟩
theorem Ord.hd_i64 {o : Ord} (h : o.check.1 = 0) : ∀ n ∈ o.hd, i64 n := by
  obtain ⟨h0, _, h2, _⟩ := Ord.check_ok h
  simp only [Ord.head, Bool.and_eq_true] at h0
  obtain ⟨⟨⟨a, b⟩, c⟩, d⟩ := h0
  intro n hn
  simp only [Ord.hd, List.mem_cons, List.not_mem_nil, or_false] at hn
  rcases hn with rfl | rfl | rfl | rfl | rfl
  · exact win_i64 a (by omega) (by omega)
  · exact win_i64 b (by omega) (by omega)
  · exact win_i64 c (by omega) (by omega)
  · exact win_i64 d (by omega) (by omega)
  · exact ⟨by omega, by omega⟩
theorem Ln.i64 {l : Ln} (h : l.ok = true) : ∀ n ∈ [l.c, l.a], Go.Proofs.YtokakpbpenndlaaGreatDoor.i64 n := by
  simp only [Ln.ok, Bool.and_eq_true] at h
  intro n hn
  simp only [List.mem_cons, List.not_mem_nil, or_false] at hn
  rcases hn with rfl | rfl
  · exact win_i64 h.1 (by omega) (by omega)
  · exact win_i64 h.2 (by omega) (by omega)

def OBRel (w : World) (o : Ord) (out i : Value) (wr : World) : Prop :=
  ∃ k : Nat, k ≤ o.ls.length ∧ i = .int .i64 (k : Int) ∧ wr.ownsRow w.heap.size 5 1 out (putsL (o.hd ++ lnInts (o.ls.take k))).length (bV (putsL (o.hd ++ lnInts (o.ls.take k)))) ∧ Ext w wr ∧ AllP wr out u8P
theorem OBRel.next {w w1 : World} {o : Ord} {k : Nat} {v1 : Value} {n m : Nat} {xs : List Value} {x : Ln} (hk : k < o.ls.length) (hx0 : o.ls[k] = x) (hg : w1.ownsRow w.heap.size 5 1 v1 n xs) (hn : n = (putsL (o.hd ++ lnInts (o.ls.take k))).length + (putsL [x.c, x.a]).length) (hxs : xs = bV (putsL (o.hd ++ lnInts (o.ls.take k))) ++ bV (putsL [x.c, x.a])) (hx : Ext w w1) (hall : AllP w1 v1 u8P) (hm : m = k + 1) : OBRel w o v1 (.int .i64 (m : Int)) w1 := by
  subst hm hn hxs hx0
  refine ⟨k + 1, by omega, rfl, ?_, hx, hall⟩
  rw [lnInts_snoc _ k hk, ← List.append_assoc, putsL_app (o.hd ++ lnInts (o.ls.take k)), bV_app, List.length_append]
  exact hg
theorem OBRel.done {w w1 : World} {o : Ord} {k : Nat} {out : Value} (hc : o.check.1 = 0) (hk : k = o.ls.length) (h : w1.ownsRow w.heap.size 5 1 out (putsL (o.hd ++ lnInts (o.ls.take k))).length (bV (putsL (o.hd ++ lnInts (o.ls.take k))))) : w1.ownsRow w.heap.size 5 1 out o.bytes.length (bV o.bytes) := by
  subst hk; rw [List.take_length] at h; rw [Ord.bytes, if_pos hc]; exact h

end Go.Proofs.YtokakpbpenndlaaGreatDoor
