/-
  Steady operations in the order in which they stand: regions that draw and regions that don't; tests that are not known.
-/
import Derived.Still
import Derived.Test.YtjaponmpfdpemaaGreatDoorCp
set_option linter.unusedSimpArgs false
set_option linter.unusedVariables false
namespace Go.Proofs.YtjaponmpfdpemaaGreatDoor
open Go
section
variable {P : Program} {ops : Array Oper} {Q : Exit → Act → World → Prop} {md : Region.Mode} {S : World → Prop}
def StL (P : Program) (ops : Array Oper) (S : World → Prop) (Q : Exit → Act → World → Prop) : List Oper → Act → Prop
 | [], a => ∀ w, S w → Q .normal a w
 | o :: rest, a => ∃ v, Steady P ops S o v a ∧ StL P ops S Q rest (a.put o.dst v)
theorem StL.done {a : Act} (h : ∀ w, S w → Q .normal a w) : StL P ops S Q [] a := h
theorem StL.cons {o : Oper} {rest : List Oper} {v : Value} {dst : Option Tmp} {a : Act} (hd : o.dst = dst) (hy : Steady P ops S o v a) (h : StL P ops S Q rest (a.put dst v)) : StL P ops S Q (o :: rest) a := by
 subst hd
 exact ⟨v, hy, h⟩
theorem StL.y {o : Oper} {rest : List Oper} {a : Act} (dst : Option Tmp) (v : Value) (hg : ∀ w, S w → (execOp a.eval o).run P w = .ok (.value v) w) (h : StL P ops S Q rest (a.put dst v)) (hd : o.dst = dst := by rfl) (hw : Region.wanted o (yielded ops a.tmps) = true := by rfl) : StL P ops S Q (o :: rest) a :=
 StL.cons hd (Steady.of_yields (Or.inl ⟨hw, hg⟩)) h
theorem StL.conf : ∀ (l : List Oper) (k : Nat) (listed : Array Bool) (a : Act), (∀ j, l[j]? = ops[k + j]?) → Region.lexFrom md ops l.length k listed = true → StL P ops S Q l a → Conf P md ops Q S l.length listed a
 | [], _, _, _, _, hB, h => Conf.done (by simpa [Region.lexFrom] using hB) h
 | o :: l, k, listed, a, hl, hB, h => by
  have h0 : ops[k]? = some o := by simpa using (hl 0).symm
  simp only [List.length_cons, Region.lexFrom, Bool.and_eq_true] at hB
  obtain ⟨⟨hr, hf⟩, hB'⟩ := hB
  obtain ⟨v, hy, hK⟩ := h
  exact Conf.next h0 hf hr hy (StL.conf l (k + 1) _ _ (fun j => by have := hl (j + 1); simpa [Nat.add_assoc, Nat.add_comm 1 j] using this) hB' hK)
theorem region_lex (S : World → Prop) {id : Nat} {l : List Oper} {a : Act} {w : World} (hm : P.follows .mixedOrders = true) (hB : Region.lexB .any l.toArray = true) (hS : S w.drew)
  (h : StL P l.toArray S Q l a) : (Code.region id l.toArray true).wp P Q a w := by
 simp only [Region.lexB, Bool.and_eq_true] at hB
 refine region_conf S hm hB.1 hS ?_
 have := StL.conf (md := .any) l 0 (Array.replicate l.toArray.size false) a (by simp) (by simpa using hB.2) h
 simpa using this
theorem StL.list : ∀ (l : List Oper) (k : Nat) (a : Act) (w : World), (∀ j, l[j]? = ops[k + j]?) → S w → StL P ops S Q l a → wpOps P ops Q (List.range' k l.length) a w
 | [], _, _, w, _, hS, h => by
  simp only [List.length_nil, List.range'_zero, wpOps]
  exact h w hS
 | o :: l, k, a, w, hl, hS, h => by
  have h0 : ops[k]? = some o := by simpa using (hl 0).symm
  rw [List.length_cons, List.range'_succ, wpOps_cons]
  obtain ⟨v, hy, hK⟩ := h
  exact hy.wpOp h0 hS (fun w' hS' => StL.list l (k + 1) _ w' (fun j => by have := hl (j + 1); simpa [Nat.add_assoc, Nat.add_comm 1 j] using this) hS' hK)
theorem region_row (S : World → Prop) {id : Nat} {l : List Oper} {a : Act} {w : World} (hS : S w) (h : StL P l.toArray S Q l a) : (Code.region id l.toArray false).wp P Q a w := by
 refine wp_region ?_
 have := StL.list (ops := l.toArray) l 0 a w (by simp) hS h
 rw [List.range_eq_range']
 simpa using this
theorem Steady.of_if {o : Oper} {v : Value} {a : Act} {b : Bool} (h1 : b = true → Steady P ops S o v a) (h0 : b = false → Region.wanted o (yielded ops a.tmps) = false) : Steady P ops S o (if b = true then v else undef) a := by
 cases b with
 | true => exact h1 rfl
 | false => exact .inr ⟨h0 rfl, rfl⟩
theorem Steady.of_ifn {o : Oper} {v : Value} {a : Act} {b : Bool} (h1 : b = false → Steady P ops S o v a) (h0 : b = true → Region.wanted o (yielded ops a.tmps) = false) : Steady P ops S o (if b = true then undef else v) a := by
 cases b with
 | true => exact .inr ⟨h0 rfl, rfl⟩
 | false => exact h1 rfl
end
end Go.Proofs.YtjaponmpfdpemaaGreatDoor
