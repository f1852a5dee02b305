/-
  street.New told by the document's answer; what a table finds.
-/
import Derived.Test.YtjaponmpfdpemaaGreatDoorBa44
import Derived.Test.YtjaponmpfdpemaaGreatDoorMr
set_option linter.unusedSimpArgs false
set_option linter.unusedVariables false
namespace Go.Proofs.YtjaponmpfdpemaaGreatDoor
open Go.RowKit
def Finds (w : World) (v : Value) (l : List Sr) : Prop := ∀ a, AdS a 1000 → ∀ w', Ext w w' → Std w' → Calls Tryz.prog 22 #[v, adV a] w' fun e w3 => e = .returned (.tuple #[ptV (findR l a).1, .int .i64 (findR l a).2]) ∧ Ext w' w3
theorem srnew_table (l : List Sr) (hs : ∀ s ∈ l, SrS s 1000) (A : Option Addr) (cap : Nat) (w : World) (hr : Reads w w.heap.size 13 A l.length (srCells l)) (hl : l.length ≤ 1000) (hS : Std w) :
  Calls Tryz.prog 17 #[.slice A l.length cap] w fun e w' => ∃ v, e = .returned (.tuple #[v, .agg #[.int .i64 (newR l).1, .int .i64 (newR l).2]]) ∧ Ext w w' ∧
   (((newR l).1 = 0 ∧ ∃ tb T, v = .pointer (some ⟨tb, 0, none⟩) ∧ StrAt w w' tb l.length T ∧ SrTab T l.length ∧ ∀ a, findP T a = findR l a) ∨ ((newR l).1 ≠ 0 ∧ v = .pointer none)) := by
 refine (srnew_any l hs A cap w hr hl hS).mono ?_
 rintro e w' ⟨v, rfl, hx, hm⟩
 have hn := new_eq l
 by_cases h : (newR l).1 = 0
 ·obtain ⟨T, hT, hR, hF⟩ := new_table (newR_zero h) hs hl
  rw [hT] at hm
  obtain ⟨tb, rfl, hA⟩ := hm
  exact ⟨_, by rw [hn.1], hx, .inl ⟨h, tb, T, rfl, hA, hR, hF⟩⟩
 ·refine ⟨v, by rw [hn.1], hx, .inr ⟨h, ?_⟩⟩
  cases hP : (newP l).1 with
  | none => rw [hP] at hm; exact hm
  | some T => rw [hP] at hn; exact absurd (hn.2.1 rfl) h
theorem srfind_table {l : List Sr} {w0 w : World} {tb n : Nat} {T : STab} (hT : StrAt w0 w tb n T) (hR : SrTab T n) (hF : ∀ a, findP T a = findR l a) : Finds w (.pointer (some ⟨tb, 0, none⟩)) l := fun a ha w' hx hS => by
 have := srfind_any a ha w0 w' hS tb n T (hT.ext hx) hR
 rwa [hF a] at this
theorem srnew_two (l : List Sr) (hs : ∀ s ∈ l, SrS s 1000) (n : Nat) (hn : l.length = n) (A : Option Addr) (cap : Nat) (w : World) (hr : Reads w w.heap.size 13 A n (srCells l)) (hl : n ≤ 1000) (hS : Std w) :
  Calls Tryz.prog 17 #[.slice A n cap] w fun e w' => ∃ v, e = .returned (.tuple #[v, .agg #[.int .i64 (newR l).1, .int .i64 (newR l).2]]) ∧ Ext w w' ∧
   (((newR l).1 = 0 ∧ ∃ tb, v = .pointer (some ⟨tb, 0, none⟩) ∧ Finds w' v l) ∨ ((newR l).1 ≠ 0 ∧ v = .pointer none)) := by
 subst hn
 refine (srnew_table l hs A cap w hr hl hS).mono ?_
 rintro e w' ⟨v, he, hx, h⟩
 refine ⟨v, he, hx, h.imp (fun ⟨h0, tb, T, e1, hA, hR, hF⟩ => ⟨h0, tb, e1, ?_⟩) id⟩
 subst e1
 exact srfind_table hA hR hF
end Go.Proofs.YtjaponmpfdpemaaGreatDoor
