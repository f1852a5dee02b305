/-
  Steady regions: the steps with the slot told.
-/
import Derived.Test.YtjaponmpfdpemaaGreatDoorBa46
set_option linter.unusedSimpArgs false
set_option linter.unusedVariables false
namespace Go.Proofs.YtjaponmpfdpemaaGreatDoor
open Go

theorem nrm : (∀ (l : List Value) (i : Nat) (a : Value), l.toArray.setIfInBounds i a = (l.set i a).toArray) ∧ (∀ (x a : Value) (xs : List Value), (x :: xs).set 0 a = a :: xs) ∧ (∀ (x a : Value) (n : Nat) (xs : List Value), (x :: xs).set (n + 1) a = x :: xs.set n a) :=
  ⟨fun l i a => List.setIfInBounds_toArray l i a, fun _ _ _ => rfl, fun _ _ _ _ => rfl⟩
section
variable {P : Program} {ops : Array Oper} {Q : Exit → Act → World → Prop} {md : Region.Mode} {S : World → Prop}
theorem Conf.nextD {i : Nat} {oi : Oper} {v : Value} {dst : Option Tmp} {fuel : Nat} {listed : Array Bool} {a : Act} (hi : ops[i]? = some oi) (hd : oi.dst = dst) (hf : Region.free md ops listed i = true) (hr : (Region.ready md ops listed).contains i = true)
    (hy : Steady P ops S oi v a) (h : Conf P md ops Q S fuel (listed.setIfInBounds i true) (a.put dst v)) : Conf P md ops Q S (fuel + 1) listed a := by
  subst hd
  exact Conf.next hi hf hr hy h
def dstOk (d : Option Tmp) (n : Nat) : Bool := match d with
  | none => true
  | some d => decide (d < n)
theorem Steady.of_wpD {o : Oper} {v : Value} {dst : Option Tmp} {a : Act} (hw : Region.wanted o (yielded ops a.tmps) = true) (ho : o.dst = dst) (hd : dstOk dst a.tmps.size = true)
    (h : ∀ w, S w → ∀ K : Act → World → Prop, (∀ w', S w' → K (a.put dst v) w') → Oper.wp P o a w K (fun _ _ _ => False)) : Steady P ops S o v a := by
  subst ho
  refine Steady.of_wp hw ?_ h
  unfold dstOk at hd
  split at hd <;> rename_i e <;> rw [e]
  exact hd
theorem Conf.y {fuel : Nat} {listed : Array Bool} {a : Act} {oi : Oper} (i : Nat) (dst : Option Tmp) (v : Value) (hi : ops[i]? = some oi) (hg : ∀ w, S w → (execOp a.eval oi).run P w = .ok (.value v) w)
    (h : Conf P md ops Q S fuel (listed.setIfInBounds i true) (a.put dst v)) (hd : oi.dst = dst := by rfl) (hf : Region.free md ops listed i = true := by kernel_rfl) (hr : (Region.ready md ops listed).contains i = true := by kernel_rfl)
    (hw : Region.wanted oi (yielded ops a.tmps) = true := by rfl) : Conf P md ops Q S (fuel + 1) listed a :=
  Conf.nextD hi hd hf hr (Steady.of_yields (Or.inl ⟨hw, hg⟩)) h
end
end Go.Proofs.YtjaponmpfdpemaaGreatDoor
