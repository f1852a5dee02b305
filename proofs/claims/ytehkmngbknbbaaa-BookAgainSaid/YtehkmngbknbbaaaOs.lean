/-
  Arguments opened: entries.
-/
import Derived.Test.YtehkmngbknbbaaaOr
import Derived.Test.YtehkmngbknbbaaaEd
set_option linter.unusedVariables false
namespace Go.Proofs.Ytehkmngbknbbaaa
open Go.RowKit Go.ChangeShapes Go.WideShapes Go.Deep

/-- An entry, and where its slices lie. -/
structure EV where
  e : Ent
  A : Option Addr
  A' : Option Addr
  c : Nat
  c' : Nat
def EV.cl (x : EV) : List Value := [.int .i64 x.e.k, .int .i64 x.e.id, .int .i64 x.e.of_, .int .i64 x.e.day, .slice x.A x.e.am.length x.c, .slice x.A' x.e.tax.length x.c']
theorem EV.cl_len (x : EV) : x.cl.length = 6 := rfl
def evCells (l : List EV) : List Value := l.flatMap EV.cl
structure EV.ok (W : World) (x : EV) : Prop where
  r : EntR W x.e x.A x.A'
  c1 : x.e.am.length ≤ x.c ∧ x.c ≤ maxLen
  c2 : x.e.tax.length ≤ x.c' ∧ x.c' ≤ maxLen
  ik : i64 x.e.k ∧ i64 x.e.id ∧ i64 x.e.of_ ∧ i64 x.e.day
  ia : ∀ n ∈ x.e.am, i64 n
  it : ∀ y ∈ x.e.tax, y.i64
theorem EV.ok.ext {W W' : World} {x : EV} (h : x.ok W) (hx : Ext W W') : x.ok W' := ⟨h.r.ext hx, h.c1, h.c2, h.ik, h.ia, h.it⟩
theorem opens_entry : Opens Try.prog 66 (fun w cs => ∃ x : EV, cs = x.cl ∧ x.ok w) :=
  (opens_fields Try.underlying66 (.cons 1 opens_i (by kernel_rfl) (.cons 1 opens_i (by kernel_rfl) (.cons 1 opens_i (by kernel_rfl) (.cons 1 opens_i (by kernel_rfl) (.cons 1 opens_ints (by kernel_rfl) (.cons 1 opens_taxs (by kernel_rfl) .nil)))))) (by kernel_rfl)).mono fun w cs h => by
    obtain ⟨_, _, rfl, _, ⟨a, rfl, h1⟩, _, _, rfl, _, ⟨b, rfl, h2⟩, _, _, rfl, _, ⟨c, rfl, h3⟩, _, _, rfl, _, ⟨d, rfl, h4⟩, _, _, rfl, _, ⟨A, ca, l, rfl, l1, l2, l3, l4⟩, _, _, rfl, _, ⟨B, cb, m, rfl, m1, m2, m3, m4⟩, rfl⟩ := h
    exact ⟨⟨⟨a, b, c, d, l, m⟩, A, B, ca, cb⟩, rfl, ⟨⟨l4, m4, Nat.le_trans l1 l2, Nat.le_trans m1 m2⟩, ⟨l1, l2⟩, ⟨m1, m2⟩, ⟨h1, h2, h3, h4⟩, l3, m3⟩⟩
theorem opens_entries : Opens Try.prog 82 (fun w cs => ∃ (A : Option Addr) (cap : Nat) (l : List EV), cs = [.slice A l.length cap] ∧ l.length ≤ cap ∧ cap ≤ maxLen ∧ (∀ x ∈ l, x.ok w) ∧ Reads w w.heap.size 6 A l.length (evCells l)) :=
  (opens_slice 6 Try.underlying82 (by kernel_rfl) (by decide) opens_entry).mono fun w cs h =>
    SliceOf.list (code := EV.cl) (p := fun x => x.ok w) h (fun x ⟨l, hl, hp⟩ => ⟨l, hl, hp⟩)
theorem evCells_at (l : List EV) (k : Nat) (h : k < l.length) : (evCells l)[k * 6]? = some (.int .i64 l[k].e.k) ∧ (evCells l)[k * 6 + 1]? = some (.int .i64 l[k].e.id) ∧ (evCells l)[k * 6 + 2]? = some (.int .i64 l[k].e.of_) ∧
    (evCells l)[k * 6 + 3]? = some (.int .i64 l[k].e.day) ∧ (evCells l)[k * 6 + 4]? = some (.slice l[k].A l[k].e.am.length l[k].c) ∧ (evCells l)[k * 6 + 5]? = some (.slice l[k].A' l[k].e.tax.length l[k].c') :=
  ⟨flat_get EV.cl_len l k 0 h (by decide), flat_get EV.cl_len l k 1 h (by decide), flat_get EV.cl_len l k 2 h (by decide), flat_get EV.cl_len l k 3 h (by decide), flat_get EV.cl_len l k 4 h (by decide), flat_get EV.cl_len l k 5 h (by decide)⟩
end Go.Proofs.Ytehkmngbknbbaaa
