/-
  Arguments opened: numbers, tax lines.
-/
import Derived.Test.YtehkmngbknbbaaaRj46
import Derived.Test.YtehkmngbknbbaaaRj35
import Derived.Test.YtehkmngbknbbaaaRj24
import Derived.Test.YtehkmngbknbbaaaRows
import Derived.ProofKit
set_option linter.unusedVariables false
namespace Go.Proofs.Ytehkmngbknbbaaa
open Go.RowKit Go.ChangeShapes Go.WideShapes Go.Deep

theorem opens_i : Opens Try.prog 3 (fun _ cs => ∃ n : Int, cs = [.int .i64 n] ∧ i64 n) :=
  (opens_int Try.underlying3).mono fun _ cs ⟨n, h, hw⟩ => ⟨n, h, by
    simp [Lit.wf, IntKind.min, IntKind.max, IntKind.signed, IntKind.bits] at hw
    exact hw⟩
theorem opens_u8 : Opens Try.prog 5 (fun _ cs => ∃ b : UInt8, cs = [.int .u8 (b.toNat : Int)]) :=
  (opens_int Try.underlying5).mono fun _ cs ⟨n, h, hw⟩ => by
    simp [Lit.wf, IntKind.min, IntKind.max, IntKind.signed, IntKind.bits] at hw
    refine ⟨UInt8.ofNat n.toNat, ?_⟩
    rw [h]
    have : (UInt8.ofNat n.toNat).toNat = n.toNat := by rw [UInt8.toNat_ofNat']; omega
    rw [this]
    have : ((n.toNat : Nat) : Int) = n := by omega
    rw [this]
theorem bV_flat (l : List UInt8) : l.flatMap (fun b => [Value.int .u8 (b.toNat : Int)]) = bV l := by
  unfold bV
  induction l with
  | nil => rfl
  | cons a l ih => rw [List.flatMap_cons, ih]; rfl
theorem opens_bytes : Opens Try.prog 27 (fun w cs => ∃ (A : Option Addr) (cap : Nat) (l : List UInt8), cs = [.slice A l.length cap] ∧ l.length ≤ cap ∧ cap ≤ maxLen ∧ Reads w w.heap.size 1 A l.length (bV l)) :=
  (opens_slice 1 Try.underlying27 (by kernel_rfl) (by decide) opens_u8).mono fun w cs h => by
    obtain ⟨A, cap, l, h1, h2, h3, _, h4⟩ := SliceOf.list (code := fun b : UInt8 => [Value.int .u8 (b.toNat : Int)]) (p := fun _ => True) h (fun x ⟨b, hb⟩ => ⟨b, hb, trivial⟩)
    exact ⟨A, cap, l, h1, h2, h3, by rw [bV_flat] at h4; exact h4⟩
theorem opens_point : Opens Try.prog 23 (fun _ cs => ∃ x y : Int, cs = [.int .i64 x, .int .i64 y] ∧ i64 x ∧ i64 y) :=
  (opens_fields Try.underlying23 (.cons 1 opens_i (by kernel_rfl) (.cons 1 opens_i (by kernel_rfl) .nil)) (by kernel_rfl)).mono fun w cs h => by
    obtain ⟨_, _, rfl, _, ⟨x, rfl, hx⟩, _, _, rfl, _, ⟨y, rfl, hy⟩, rfl⟩ := h
    exact ⟨x, y, rfl, hx, hy⟩
theorem opens_line : Opens Try.prog 110 (fun _ cs => ∃ l : Ln, cs = l.cells ∧ (i64 l.c ∧ i64 l.a)) :=
  (opens_fields Try.underlying110 (.cons 1 opens_i (by kernel_rfl) (.cons 1 opens_i (by kernel_rfl) .nil)) (by kernel_rfl)).mono fun w cs h => by
    obtain ⟨_, _, rfl, _, ⟨x, rfl, hx⟩, _, _, rfl, _, ⟨y, rfl, hy⟩, rfl⟩ := h
    exact ⟨⟨x, y⟩, rfl, hx, hy⟩
theorem opens_lines : Opens Try.prog 24 (fun w cs => ∃ (A : Option Addr) (cap : Nat) (l : List Ln), cs = [.slice A l.length cap] ∧ l.length ≤ cap ∧ cap ≤ maxLen ∧ (∀ x ∈ l, i64 x.c ∧ i64 x.a) ∧ Reads w w.heap.size 2 A l.length (lnCells l)) :=
  (opens_slice 2 Try.underlying24 (by kernel_rfl) (by decide) opens_line).mono fun w cs h =>
    SliceOf.list (code := Ln.cells) (p := fun l => i64 l.c ∧ i64 l.a) h (fun x ⟨l, hl, hp⟩ => ⟨l, hl, hp⟩)
theorem opens_order : Opens Try.prog 26 (fun w cs => ∃ (o : Ord) (A : Option Addr) (cap : Nat), cs = [.int .i64 o.cu, .int .i64 o.day, .int .i64 o.px, .int .i64 o.py, .slice A o.ls.length cap] ∧ Reads w w.heap.size 2 A o.ls.length (lnCells o.ls) ∧ o.ls.length ≤ cap ∧ cap ≤ maxLen) :=
  (opens_fields Try.underlying26 (.cons 1 opens_i (by kernel_rfl) (.cons 1 opens_i (by kernel_rfl) (.cons 2 opens_point (by kernel_rfl) (.cons 1 opens_lines (by kernel_rfl) .nil)))) (by kernel_rfl)).mono fun w cs h => by
    obtain ⟨_, _, rfl, _, ⟨cu, rfl, _⟩, _, _, rfl, _, ⟨day, rfl, _⟩, _, _, rfl, _, ⟨px, py, rfl, _⟩, _, _, rfl, _, ⟨A, cap, l, rfl, h1, h2, _, h3⟩, rfl⟩ := h
    exact ⟨⟨cu, day, px, py, l⟩, A, cap, rfl, h3, h1, h2⟩
end Go.Proofs.Ytehkmngbknbbaaa

namespace Go.Proofs.Ytehkmngbknbbaaa
open Go.RowKit Go.ChangeShapes Go.WideShapes Go.Deep

theorem iV_flat (l : List Int) : l.flatMap (fun n => [Value.int .i64 n]) = iV l := by
  unfold iV
  induction l with
  | nil => rfl
  | cons a l ih => rw [List.flatMap_cons, ih]; rfl
theorem opens_ints : Opens Try.prog 47 (fun w cs => ∃ (A : Option Addr) (cap : Nat) (l : List Int), cs = [.slice A l.length cap] ∧ l.length ≤ cap ∧ cap ≤ maxLen ∧ (∀ n ∈ l, i64 n) ∧ Reads w w.heap.size 1 A l.length (iV l)) :=
  (opens_slice 1 Try.underlying47 (by kernel_rfl) (by decide) opens_i).mono fun w cs h => by
    obtain ⟨A, cap, l, h1, h2, h3, hp, h4⟩ := SliceOf.list (code := fun n : Int => [Value.int .i64 n]) (p := i64) h (fun x ⟨b, hb, hi⟩ => ⟨b, hb, hi⟩)
    exact ⟨A, cap, l, h1, h2, h3, hp, by rw [iV_flat] at h4; exact h4⟩
def Tx.i64 (x : Tx) : Prop := Go.Proofs.Ytehkmngbknbbaaa.i64 x.l ∧ Go.Proofs.Ytehkmngbknbbaaa.i64 x.j ∧ Go.Proofs.Ytehkmngbknbbaaa.i64 x.t ∧ Go.Proofs.Ytehkmngbknbbaaa.i64 x.x ∧ Go.Proofs.Ytehkmngbknbbaaa.i64 x.r ∧ Go.Proofs.Ytehkmngbknbbaaa.i64 x.v
theorem opens_tax : Opens Try.prog 46 (fun _ cs => ∃ x : Tx, cs = x.cl ∧ x.i64) :=
  (opens_fields Try.underlying46 (.cons 1 opens_i (by kernel_rfl) (.cons 1 opens_i (by kernel_rfl) (.cons 1 opens_i (by kernel_rfl) (.cons 1 opens_i (by kernel_rfl) (.cons 1 opens_i (by kernel_rfl) (.cons 1 opens_i (by kernel_rfl) .nil)))))) (by kernel_rfl)).mono fun w cs h => by
    obtain ⟨_, _, rfl, _, ⟨a, rfl, h1⟩, _, _, rfl, _, ⟨b, rfl, h2⟩, _, _, rfl, _, ⟨c, rfl, h3⟩, _, _, rfl, _, ⟨d, rfl, h4⟩, _, _, rfl, _, ⟨e, rfl, h5⟩, _, _, rfl, _, ⟨f, rfl, h6⟩, rfl⟩ := h
    exact ⟨⟨a, b, c, d, e, f⟩, rfl, h1, h2, h3, h4, h5, h6⟩
theorem opens_taxs : Opens Try.prog 49 (fun w cs => ∃ (A : Option Addr) (cap : Nat) (l : List Tx), cs = [.slice A l.length cap] ∧ l.length ≤ cap ∧ cap ≤ maxLen ∧ (∀ x ∈ l, x.i64) ∧ Reads w w.heap.size 6 A l.length (txCells l)) :=
  (opens_slice 6 Try.underlying49 (by kernel_rfl) (by decide) opens_tax).mono fun w cs h =>
    SliceOf.list (code := Tx.cl) (p := Tx.i64) h (fun x ⟨l, hl, hp⟩ => ⟨l, hl, hp⟩)
end Go.Proofs.Ytehkmngbknbbaaa

set_option linter.unusedVariables false
namespace Go.Proofs.Ytehkmngbknbbaaa
theorem Try.own : ownKnob Try.prog.godebug = none := by kernel_rfl
theorem Try.laidOut : laidOutB Try.prog = true := by kernel_rfl
end Go.Proofs.Ytehkmngbknbbaaa
