/-
  Arguments opened: what a reading of an argument says of its cells, type by type.
-/
import Derived.Test.YtjaponmpfdpemaaGreatDoorKb01
import Derived.ProofKit
import Derived.Deep.Slices
import Derived.Test.YtjaponmpfdpemaaGreatDoorRows
import Derived.Test.YtjaponmpfdpemaaGreatDoorKb06
import Derived.Test.YtjaponmpfdpemaaGreatDoorKb17
import Derived.HandedShaped
import Derived.LaidMore
import Derived.Lay
import Derived.Stop.Joined
import Derived.Lib.LaidU8
import Derived.Shelf.Vars
set_option linter.unusedVariables false
namespace Go.Proofs.YtjaponmpfdpemaaGreatDoor
open Go.RowKit Go.ChangeShapes Go.WideShapes Go.Deep

/-- Whatever reads as a value of type t has cells of this shape. -/
structure Opens (P : Program) (t : TypeId) (S : World → List Value → Prop) : Prop where
  run : ∀ {H : Type} (enc : TypeId × Value → H) (w : World) (base : Nat) (spare : Nat → Bool) (held : Bool) (fuel : Nat) (cs : List Value) (x : DataW H × List MemPlace),
    DataW.trod enc P w base spare held fuel t cs = some x → S w cs
theorem Opens.mono {P : Program} {t : TypeId} {S S' : World → List Value → Prop} (h : Opens P t S) (hs : ∀ w cs, S w cs → S' w cs) : Opens P t S' :=
  ⟨fun enc w base spare held fuel cs x hx => hs _ _ (h.run enc w base spare held fuel cs x hx)⟩
inductive OpensAll (P : Program) : Nat → List (TypeId × Nat) → List (Nat × (World → List Value → Prop)) → Prop
  | nil {n : Nat} : OpensAll P n [] []
  | cons {n : Nat} (k : Nat) {t : TypeId} {S : World → List Value → Prop} {ts : List (TypeId × Nat)} {l : List (Nat × (World → List Value → Prop))} (h : Opens P t S) (hk : P.cellsOf t = k) (r : OpensAll P (n + k) ts l) : OpensAll P n ((t, n) :: ts) ((k, S) :: l)
/-- What an argument's reading says. -/
theorem Opens.arg {P : Program} {t : TypeId} {S : World → List Value → Prop} (h : Opens P t S) {H : Type} {enc : TypeId × Value → H} {w : World} {base : Nat} {spare : Nat → Bool} {held : Bool} {v : Value} {d : DataW H} {ps : List MemPlace}
    (ht : DataW.Trod enc P w base spare held t v d ps) : S w v.cells.toList := by
  obtain ⟨fuel, hf⟩ := ht
  exact h.run enc w base spare held fuel _ _ hf
end Go.Proofs.YtjaponmpfdpemaaGreatDoor

set_option linter.unusedVariables false
namespace Go.Proofs.YtjaponmpfdpemaaGreatDoor
theorem Tryz.own : ownKnob Tryz.prog.godebug = none := by kernel_rfl
end Go.Proofs.YtjaponmpfdpemaaGreatDoor

set_option linter.unusedVariables false
namespace Go.Proofs.YtjaponmpfdpemaaGreatDoor
open Go.RowKit Go.ChangeShapes Go.WideShapes

/-- 'returnsInHanded_of_change_and' with the world's shape kept for the contract. -/
theorem returnsShaped {H : Type} {enc : TypeId × Value → H} {a : Assume} {C : Checked} {os : Os} {f : FuncId} {fn : Func} {s : ChangeSpec} {conds : List PathCond} {apart fresh handsOn again : Bool} {X : World → Array Value → Prop}
    (hX : ∀ (w w' : World) (args : Array Value), w.heap = w'.heap → X w args → X w' args)
    (own : ownKnob C.prog.godebug = none) (started : os.Started) (noInit : C.prog.inits.idxOf? f = none) (hfn : C.prog.funcs[f]? = some fn)
    (witness : ∃ (w : World) (tape : Tape) (i : Input), w.os = os ∧ (w.forCall tape i).Shaped C.prog ∧ i.vars = [] ∧ Input.okWide C.prog (w.forCall tape i) .any w.heap.size f i ∧
      ((s.pre enc C.prog fn conds apart (w.forCall tape i).memory i.args ∧ X (w.forCall tape i).memory i.args) ∧ sizedMet enc C.prog fn (OpenSpec.ofChange s) apart (w.forCall tape i).memory i.args) ∧ a.holds C.prog (lone (Frame.enter C.prog f i.args .normal) [] (w.forCall tape i)))
    (contract : ∀ (W : World) (base : Nat) (args : Array Value) (ds gs : List (DataW H)) (before : List MemPlace),
      (∀ (j : Nat) t v, fn.params[j]? = some t → args[j]? = some v → Value.okWide C.prog W .any base t v) →
      DataW.Whole enc C.prog fn.params.toList s.vars apart W args.toList ds gs before →
      conds.all (PathCond.test C.prog ⟨fn.params.toList, ds, s.plain.varTypes C.prog, gs⟩) = true →
      (DataW.weightsEach C.prog (fn.params.toList ++ s.plain.varTypes C.prog) (ds ++ gs)).all (· ≤ reachBytes) = true → X W args → W.ShapedOpen C.prog →
      a.holds C.prog (lone (Frame.enter C.prog f args .normal) [] W) →
      Calls C.prog f args W fun e W' => ∃ v, e = .returned v ∧ s.post enc C.prog fn apart fresh handsOn again W args v W') :
    ReturnsInHanded a C os f .any (fun w args => (s.pre enc C.prog fn conds apart w args ∧ X w args) ∧ sizedMet enc C.prog fn (OpenSpec.ofChange s) apart w args) (s.post enc C.prog fn apart fresh handsOn again) := by
  refine returnsInHanded_of_calls own started noInit witness ?_
  intro w tape i _ hsh _ hok hpre hholds
  obtain ⟨_, _, _, fn', hfn', _, _, _, _, hval⟩ := hok
  have e : fn' = fn := Option.some.inj (hfn'.symm.trans hfn)
  subst e
  obtain ⟨⟨⟨ds, gs, before, hw, hc⟩, hx⟩, hz⟩ := hpre
  have hw' := DataW.Whole.of_heap (w' := w.forCall tape i) (by rfl) hw
  refine (contract (w.forCall tape i) w.heap.size i.args ds gs before hval hw' hc (hz.weights hw) (hX _ _ _ (by rfl) hx) hsh hholds).mono fun e W' ⟨v, he, hp⟩ => ?_
  subst he
  exact ChangeSpec.post_blind hp
/-- The row's list. -/
def laid9 : List (String × DataW Unit) := [("math/bits.deBruijn32tab", Rows.laid_math_bits_deBruijn32tab), ("math/bits.deBruijn64tab", Rows.laid_math_bits_deBruijn64tab), ("internal/strconv.uint64pow10", Rows.laid_internal_strconv_uint64pow10), ("unicode/utf8.acceptRanges", Rows.laid_unicode_utf8_acceptRanges), ("strconv.ErrRange", Rows.laid_strconv_ErrRange), ("strconv.ErrSyntax", Rows.laid_strconv_ErrSyntax), ("unicode.White_Space", Rows.laid_unicode_White_Space), ("strings.asciiSpace", Rows.laid_strings_asciiSpace), ("unicode/utf8.first", Rows.laid_unicode_utf8_first)]
theorem all_met9 (os : Os) (args : Array Value) : laidMetH Tryz.prog laid9 ((World.laidAll Tryz.prog os laid9).forCall (fun _ _ => 0) ⟨#[], args, []⟩).memory := by
  rw [MakeChecks.laidMetH_plain _ _ _ (by kernel_rfl)]
  exact laidMet_laidAll _ (by kernel_rfl) (by kernel_rfl)
theorem shaped9 (os : Os) : (World.laidAll Tryz.prog os laid9).Shaped Tryz.prog := World.shaped_of_ZipB (by kernel_rfl) (by kernel_rfl)
theorem iface_cell {W : World} {n : String} {g : Nat} {name : String} {d : DataW Unit} {ms : Array (String × TypeId)} {t : TypeId} (hg : Tryz.prog.globalNamed n = some g) (ht : (Tryz.prog.globals[g]?).map (·.type) = some t) (hi : Tryz.prog.underlying t = some (.interface ms)) (h : Lib.VarReads Tryz.prog W n (.iface name d)) :
    ∃ v, W.cell? ⟨g, 0, none⟩ = some v ∧ (v = .nilIface ∨ ∃ te pe, v = .iface te pe) := by
  obtain ⟨g', t', cs, fuel, p, hg', ht', hv, hd⟩ := h
  obtain rfl := Option.some.inj (hg.symm.trans hg')
  obtain rfl := Option.some.inj (ht.symm.trans ht')
  obtain ⟨_, u, v, e, _, _⟩ := iface_of_trod hi hd
  refine ⟨.iface u v, ?_, .inr ⟨u, v, rfl⟩⟩
  rw [var?_cell hg hv 0]
  have : cs[0]? = cs.toList[0]? := by simp
  rw [this, e]
  rfl
theorem std_of_laid {W : World} (h : laidMetH Tryz.prog laid9 W) (hsh : W.ShapedOpen Tryz.prog) : Std W := by
  rw [MakeChecks.laidMetH_plain _ _ _ (by kernel_rfl)] at h
  have rd := fun {n : String} {d : DataW Unit} (hm : (n, d) ∈ laid9) => Lib.laidMet.reads h hm
  refine ⟨?_, ?_, ?_, ?_, ?_⟩
  · obtain ⟨g', t', cs, fuel, p, hg', ht', hvar, hd⟩ := rd (n := "internal/strconv.uint64pow10") (d := Rows.laid_internal_strconv_uint64pow10) (by simp [laid9])
    have hg : Tryz.prog.globalNamed "internal/strconv.uint64pow10" = some 9 := by kernel_rfl
    have hty : (Tryz.prog.globals[9]?).map (·.type) = some 280 := by kernel_rfl
    obtain rfl := Option.some.inj (hg.symm.trans hg')
    obtain rfl := Option.some.inj (hty.symm.trans ht')
    have e : (Rows.laid_internal_strconv_uint64pow10 : DataW Unit) = Lib.tabData .u64 Lib.pow10Tab := by kernel_rfl
    rw [e] at hd
    unfold Lib.TabIs
    rw [hvar, ← Lib.cells_of_tab (zs := Lib.pow10Tab) Tryz.underlying280 Tryz.underlying96 (by kernel_rfl) (by kernel_rfl) hd]
  · obtain ⟨g', t', cs, fuel, p, hg', ht', hvar, hd⟩ := rd (n := "strings.asciiSpace") (d := Rows.laid_strings_asciiSpace) (by simp [laid9])
    have hg : Tryz.prog.globalNamed "strings.asciiSpace" = some 5 := by kernel_rfl
    have hty : (Tryz.prog.globals[5]?).map (·.type) = some 121 := by kernel_rfl
    obtain rfl := Option.some.inj (hg.symm.trans hg')
    obtain rfl := Option.some.inj (hty.symm.trans ht')
    have e : (Rows.laid_strings_asciiSpace : DataW Unit) = Lib.tabData .u8 Lib.asciiSpaceTab := by kernel_rfl
    rw [e] at hd
    unfold Lib.TabIs
    rw [hvar, ← Lib.cells_of_tab (zs := Lib.asciiSpaceTab) Tryz.underlying121 Tryz.underlying5 (by kernel_rfl) (by kernel_rfl) hd]
  · exact cell_of_shapedOpen_int (t := 3) (zero := #[.int .i64 0]) hsh (of_decide_eq_true (by kernel_rfl)) (by kernel_rfl) rfl (by kernel_rfl) (by kernel_rfl) Tryz.underlying3
  · exact iface_cell (n := "strconv.ErrSyntax") (t := 133) (by kernel_rfl) (by kernel_rfl) Tryz.underlying133 (rd (d := Rows.laid_strconv_ErrSyntax) (by simp [laid9]))
  · exact iface_cell (n := "strconv.ErrRange") (t := 133) (by kernel_rfl) (by kernel_rfl) Tryz.underlying133 (rd (d := Rows.laid_strconv_ErrRange) (by simp [laid9]))
end Go.Proofs.YtjaponmpfdpemaaGreatDoor
