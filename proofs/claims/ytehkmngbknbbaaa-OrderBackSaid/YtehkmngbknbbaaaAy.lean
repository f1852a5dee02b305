/-
  More words: makes, rows of one block that turned, structs read whole.
-/
import Derived.Test.YtehkmngbknbbaaaPb
import Derived.Laws.MakeOwn
import Derived.Laws.CopyOwn
set_option linter.unusedVariables false
namespace Go.Proofs.Ytehkmngbknbbaaa
open Go.RowKit

theorem run_make_rowN {P : Program} (t e : TypeId) (i : TypeInfo) (z : Value) (ht : P.underlying t = some (.slice e)) (hi : P.info? e = some i) (hz : i.zero = some z)
    (kl kc : IntKind) (n c : Nat) (hnc : n ≤ c) (hbytes : i.bytes * c ≤ 281474976710656) (h63 : c ≤ 9223372036854775807) (w : World) :
    (Instr.makeSlice t (.int kl (n : Int)) (.int kc (c : Int))).run P w = .ok (.slice (some ⟨w.heap.size, 0, none⟩) n c) (w.alloc (.cells (madeCells z.cells (c * i.size)) e)) := by
  have hb : (i.bytes : Int) * (c : Int) ≤ 281474976710656 := by
    have h : ((i.bytes * c : Nat) : Int) ≤ 281474976710656 := by omega
    rwa [Int.natCast_mul] at h
  have hr := run_make (P := P) w t e i z ht hi hz kl kc n c (by omega) (by omega) hb (by omega)
  simp only [Int.toNat_natCast] at hr
  exact hr
/-- n times one value, closed to simp. -/
def reps (n : Nat) (z : Value) : List Value := List.replicate n z
theorem RowT.make {P : Program} {t e : TypeId} {bytes : Nat} {z : Value} (T : RowT P t e 1 bytes z) (hz1 : z.cells = #[z]) (n : Nat) (hbytes : bytes * n ≤ 281474976710656) (h63 : n ≤ 9223372036854775807) (w : World) :
    (Instr.makeSlice t (.int .i64 (n : Int)) (.int .i64 (n : Int))).run P w = .ok (.slice (some ⟨w.heap.size, 0, none⟩) n n) (w.alloc (.cells (reps n z).toArray e)) := by
  obtain ⟨ht, ⟨i, hi, hz, hsize, hby⟩, hzs, hsz⟩ := T
  have := run_make_rowN t e i z ht hi hz .i64 .i64 n n (Nat.le_refl _) (by rw [hby]; exact hbytes) h63 w
  rw [this, hsize, Nat.mul_one]
  rw [hz1]
  unfold reps
  congr 3
  apply Array.ext'
  simpa [reps] using toList_madeCells_one z n

/-- Only block g has turned, and what is new. -/
theorem only_alloc {a w : World} {row : Option Nat} (h : a.grownBy w row) (o : Obj) : a.grownBy (w.alloc o) row :=
  ⟨h.os, h.tape, h.output, Nat.le_trans h.size (by simp), fun i hi hne => (Below.heap_alloc w o i (Nat.lt_of_lt_of_le hi h.size)).trans (h.block i hi hne)⟩
theorem only_drewN {a w : World} {row : Option Nat} (h : a.grownBy w row) (n : Nat) : a.grownBy (w.drewN n) row := ⟨h.os, h.tape, h.output, h.size, h.block⟩
theorem only_ext {a w w' : World} {row : Option Nat} (h : a.grownBy w row) (hx : Ext w w') : a.grownBy w' row :=
  ⟨hx.os.trans h.os, hx.tape.trans h.tape, hx.output.trans h.output, Nat.le_trans h.size hx.size, fun i hi hne => (hx.block i (Nat.lt_of_lt_of_le hi h.size)).trans (h.block i hi hne)⟩
theorem ext_only {a w w' : World} {row : Option Nat} (h : Ext a w) (hx : w.grownBy w' row) (hr : ∀ k, row = some k → a.heap.size ≤ k) : Ext a w' := h.grown hx hr
theorem only_set {a w : World} {g : Nat} (h : a.grownBy w (some g)) {p : Addr} (hp : p.block = g ∨ a.heap.size ≤ p.block) (u : Value) : a.grownBy (w.setCell p u) (some g) :=
  ⟨h.os, h.tape, h.output, by simpa [World.setCell] using h.size, fun i hi hne => (Below.heap_setCell w p u i (by
    rintro rfl
    rcases hp with hp | hp
    · exact hne (by rw [hp])
    · omega)).trans (h.block i hi hne)⟩
theorem only_trans {a b c : World} {row : Option Nat} (h : a.grownBy b row) (k : b.grownBy c row) : a.grownBy c row :=
  ⟨k.os.trans h.os, k.tape.trans h.tape, k.output.trans h.output, Nat.le_trans h.size k.size, fun i hi hne => (k.block i (Nat.lt_of_lt_of_le hi h.size) hne).trans (h.block i hi hne)⟩
theorem own_lit {w0 w : World} (hx : Ext w0 w) (cs : Array Value) (e : TypeId) (n size : Nat) {g : Nat} (hg : g = w.heap.size) (hm : n ≤ maxLen) (hs : cs.size = n * size) : (w.alloc (.cells cs e)).ownsRow w0.heap.size e size (.slice (some ⟨g, 0, none⟩) n n) n cs.toList := by
  subst hg
  exact World.ownsRow_lit w cs n hx.size hm hs
theorem own_set {w : World} {base : Nat} {e : TypeId} {size n : Nat} {v : Value} {xs : List Value} (h : w.ownsRow base e size v n xs) {a : Addr} (ha : v.ownBlock ≠ some a.block) (u : Value) : (w.setCell a u).ownsRow base e size v n xs := ownsRow_setCell_other h ha u

/-! ### Results that lie in memory -/
section
variable {fn : Func} {tmps : Array Value} {P : Program} {w : World}
theorem results_c {p : Tmp} {ty : TypeId} {a : Addr} {v : Value} (h : fn.results = #[.cell p ty]) (ha : tmps.getD p undef = .pointer (some a)) (hv : (loadVar ty a).run P w = .ok v w) : (results fn tmps).run P w = .ok v w := by
  simp only [results, h]
  simp at ha
  simp [Sem.run_bind, Result.andThen, ha, asAddr, hv]
theorem results_ct {p u : Tmp} {ty : TypeId} {a : Addr} {v : Value} (h : fn.results = #[.cell p ty, .tmp u]) (ha : tmps.getD p undef = .pointer (some a)) (hv : (loadVar ty a).run P w = .ok v w) : (results fn tmps).run P w = .ok (.tuple #[v, tmps.getD u undef]) w := by
  simp only [results, h]
  simp at ha
  simp [Sem.run_bind, Result.andThen, ha, asAddr, hv]
theorem results_tc {p u : Tmp} {ty : TypeId} {a : Addr} {v : Value} (h : fn.results = #[.tmp u, .cell p ty]) (ha : tmps.getD p undef = .pointer (some a)) (hv : (loadVar ty a).run P w = .ok v w) : (results fn tmps).run P w = .ok (.tuple #[tmps.getD u undef, v]) w := by
  simp only [results, h]
  simp at ha
  simp [Sem.run_bind, Result.andThen, ha, asAddr, hv]
theorem results_ttc {p u u' : Tmp} {ty : TypeId} {a : Addr} {v : Value} (h : fn.results = #[.tmp u, .tmp u', .cell p ty]) (ha : tmps.getD p undef = .pointer (some a)) (hv : (loadVar ty a).run P w = .ok v w) : (results fn tmps).run P w = .ok (.tuple #[tmps.getD u undef, tmps.getD u' undef, v]) w := by
  simp only [results, h]
  simp at ha
  simp [Sem.run_bind, Result.andThen, ha, asAddr, hv]
theorem results_cc {p q : Tmp} {ty tq : TypeId} {a b : Addr} {v u : Value} (h : fn.results = #[.cell p ty, .cell q tq]) (ha : tmps.getD p undef = .pointer (some a)) (hv : (loadVar ty a).run P w = .ok v w) (hb : tmps.getD q undef = .pointer (some b)) (hu : (loadVar tq b).run P w = .ok u w) : (results fn tmps).run P w = .ok (.tuple #[v, u]) w := by
  simp only [results, h]
  simp at ha hb
  simp [Sem.run_bind, Result.andThen, ha, hb, asAddr, hv, hu]
end
end Go.Proofs.Ytehkmngbknbbaaa
