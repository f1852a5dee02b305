/-
  book.of and book.Check.
-/
import Derived.Test.YtehkmngbknbbaaaEe
set_option linter.unusedVariables false
namespace Go.Proofs.Ytehkmngbknbbaaa
open Go.RowKit Go.Maps

/-- An entry by its kind. -/
def ofV (k : Int) (v : Value) : Value := if k = 1 then .iface 142 v else if k = 2 then .iface 143 v else if k = 3 then .iface 146 v else .nilIface
set_option maxRecDepth 100000 in
set_option maxHeartbeats 1000000 in
theorem of_any (e : Ent) (Aa At : Option Addr) (ca ct : Nat) (w : World) :
    Calls Try.prog 92 #[entV e Aa At ca ct] w fun r w' => r = .returned (ofV e.k (entV e Aa At ca ct)) ∧ Ext w w' := by
  unfold ofV
  obtain ⟨k, i, o, d, am, tx⟩ := e
  dsimp only
  by_cases h1 : k = 1
  · rw [if_pos h1]
    subst h1
    go_enter Try.func92, Try.ntmps92
    go_wp2
    go_ret
    exact ⟨rfl, (Ext.refl _).alloc _⟩
  rw [if_neg h1]
  by_cases h2 : k = 2
  · rw [if_pos h2]
    subst h2
    go_enter Try.func92, Try.ntmps92
    go_wp2
    go_ret
    exact ⟨rfl, (Ext.refl _).alloc _⟩
  rw [if_neg h2]
  by_cases h3 : k = 3
  · rw [if_pos h3]
    subst h3
    go_enter Try.func92, Try.ntmps92
    go_wp2
    go_ret
    exact ⟨rfl, (Ext.refl _).alloc _⟩
  rw [if_neg h3]
  have q1 : (k == 1) = false := by simpa using h1
  have q2 : (k == 2) = false := by simpa using h2
  have q3 : (k == 3) = false := by simpa using h3
  go_enter Try.func92, Try.ntmps92
  go_wp2
  go_ret
  exact ⟨rfl, (Ext.refl _).alloc _⟩
end Go.Proofs.Ytehkmngbknbbaaa
