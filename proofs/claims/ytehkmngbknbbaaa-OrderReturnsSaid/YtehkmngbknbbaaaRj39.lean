/-
  The program's reader: its methods.
-/
import Derived.Test.YtehkmngbknbbaaaRj38
import Derived.Defers
set_option linter.unusedVariables false
namespace Go.Proofs.Ytehkmngbknbbaaa
open Go.RowKit

/-- The cells of a reader. -/
def rdCells (A : Option Addr) (n cap at_ : Nat) (fe : Int) (fa : Nat) : Array Value := #[.slice A n cap, .int .i64 (at_ : Int), .int .i64 fe, .int .i64 (fa : Int), .bool true]
theorem RdO.upd {w w' : World} {g : Nat} {s s' : RS} (h : RdO w g s) (hg : w.grownBy w' (some g)) (hb : s'.b = s.b) (hok : s'.ok)
    (hB : ∀ A cap, Blk w g 156 (rdCells A s.b.length cap s.at_ s.fe s.fa) → Blk w' g 156 (rdCells A s.b.length cap s'.at_ s'.fe s'.fa)) : RdO w' g s' := by
  obtain ⟨A, cap, hB', hr, hc, hm⟩ := h.ex
  refine ⟨⟨A, cap, by rw [hb]; exact hB A cap hB', ?_, by rw [hb]; exact hc, hm⟩, hok⟩
  rw [hb]
  exact hr.keep fun b o hlt => World.cell?_of_block (a := ⟨b, o, none⟩) (hg.block b (Nat.lt_trans hlt hB'.lt) (fun e => by have := Option.some.inj e; omega))
theorem RdO.made {w : World} {g : Nat} {s : RS} (h : RdO w g s) : w.cell? ⟨g, 4, none⟩ = some (.bool true) := by
  obtain ⟨A, cap, hB', hr, hc, hm⟩ := h.ex
  exact hB'.cell 4
theorem RdO.at_ {w : World} {g : Nat} {s : RS} (h : RdO w g s) : w.cell? ⟨g, 1, none⟩ = some (.int .i64 (s.at_ : Int)) := by
  obtain ⟨A, cap, hB', hr, hc, hm⟩ := h.ex
  exact hB'.cell 1
theorem RdO.fe {w : World} {g : Nat} {s : RS} (h : RdO w g s) : w.cell? ⟨g, 2, none⟩ = some (.int .i64 s.fe) := by
  obtain ⟨A, cap, hB', hr, hc, hm⟩ := h.ex
  exact hB'.cell 2
theorem RdO.fa {w : World} {g : Nat} {s : RS} (h : RdO w g s) : w.cell? ⟨g, 3, none⟩ = some (.int .i64 (s.fa : Int)) := by
  obtain ⟨A, cap, hB', hr, hc, hm⟩ := h.ex
  exact hB'.cell 3
theorem RdO.bytes {w : World} {g : Nat} {s : RS} (h : RdO w g s) : ∃ A cap, w.cell? ⟨g, 0, none⟩ = some (.slice A s.b.length cap) := by
  obtain ⟨A, cap, hB', hr, hc, hm⟩ := h.ex
  exact ⟨A, cap, hB'.cell 0⟩
theorem RdO.frz {w : World} {g : Nat} {s : RS} (h : RdO w g s) (i : Nat) : w.frozen? ⟨g, i, none⟩ = false := by
  obtain ⟨A, cap, hB', hr, hc, hm⟩ := h.ex
  exact hB'.frozen i

theorem onone_any (g : Nat) (s : RS) (w : World) (h : RdO w g s) :
    Calls Try.prog 105 #[.pointer (some ⟨g, 0, none⟩)] w fun e w' => e = .returned (.bool false) ∧ w = w' := by
  have d4 := h.made
  clear h
  go_enter Try.func105, Try.ntmps105
  go_wp2
  go_ret
  exact ⟨rfl, rfl⟩

/-- The closure that reading defers. -/
theorem clo_bad {a2 a3 : Value} (g bf br bx bn : Nat) (fe : Int) (fa : Nat) (x : Value) (u : FrameMode) (w : World) (q : Blk w bf 37 #[.int .i64 fe, .int .i64 (fa : Int)]) (qr : w.cell? ⟨br, 0, none⟩ = some (.pointer (some ⟨g, 0, none⟩)))
    (d2 : w.cell? ⟨g, 2, none⟩ = some a2) (d3 : w.cell? ⟨g, 3, none⟩ = some a3) (f2 : w.frozen? ⟨g, 2, none⟩ = false) (f3 : w.frozen? ⟨g, 3, none⟩ = false) (qx : w.cell? ⟨bx, 0, none⟩ = some x) (fx : w.frozen? ⟨bx, 0, none⟩ = false) (hne : g ≠ bx) (h : fe ≠ 0) :
    CallsD Try.prog 134 #[.pointer (some ⟨bf, 0, none⟩), .pointer (some ⟨br, 0, none⟩), .pointer (some ⟨bx, 0, none⟩), .pointer (some ⟨bn, 0, none⟩)] u w fun e u' w' => u' = u ∧ (e = .returned (.tuple #[]) ∧
      w' = ((w.setCell ⟨g, 2, none⟩ (.int .i64 fe)).setCell ⟨g, 3, none⟩ (.int .i64 (fa : Int))).setCell ⟨bx, 0, none⟩ (.int .i64 0)) := by
  obtain ⟨q0, q0'⟩ := q.cells
  have hb : (fe == 0) = false := by rw [beq_eq_false_iff_ne]; exact h
  go_enter_d Try.func134, Try.ntmps134
  go_wp2
  exact bodyPost_ret (results_none rfl _ _ _) rfl ⟨rfl, rfl⟩

theorem clo_ok {a1 : Value} (g bf br bx bn : Nat) (next : Value) (fa : Nat) (u : FrameMode) (w : World) (q : Blk w bf 37 #[.int .i64 0, .int .i64 (fa : Int)]) (qr : w.cell? ⟨br, 0, none⟩ = some (.pointer (some ⟨g, 0, none⟩)))
    (d1 : w.cell? ⟨g, 1, none⟩ = some a1) (f1 : w.frozen? ⟨g, 1, none⟩ = false) (qn : w.cell? ⟨bn, 0, none⟩ = some next) (hn : ∃ z, next = .int .i64 z) :
    CallsD Try.prog 134 #[.pointer (some ⟨bf, 0, none⟩), .pointer (some ⟨br, 0, none⟩), .pointer (some ⟨bx, 0, none⟩), .pointer (some ⟨bn, 0, none⟩)] u w fun e u' w' => u' = u ∧ (e = .returned (.tuple #[]) ∧
      w' = w.setCell ⟨g, 1, none⟩ next) := by
  obtain ⟨z, rfl⟩ := hn
  obtain ⟨q0, q0'⟩ := q.cells
  go_enter_d Try.func134, Try.ntmps134
  go_wp2
  go_end0
  exact ⟨rfl, rfl⟩
end Go.Proofs.Ytehkmngbknbbaaa
