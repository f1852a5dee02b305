/-
  apportionlaw17: AddrParses, AddrTexts (printed by tools/genIn.py).
-/
import Derived.Deep.RegionHeld3
import Derived.Test.YtjneghncmgjkeaaGreatDoorKa46
import Derived.Test.YtjneghncmgjkeaaGreatDoorKa04
import Derived.ProofKit
import Derived.Deep.Slices
import Derived.Test.YtjneghncmgjkeaaGreatDoorRows
import Derived.Test.YtjneghncmgjkeaaGreatDoorKa09
import Derived.Test.YtjneghncmgjkeaaGreatDoorKa18
import Derived.HandedShaped
import Derived.LaidMore
import Derived.Lay
import Derived.Stop.Joined
import Derived.Lib.LaidU8
import Derived.Shelf.Vars
set_option linter.unusedVariables false
namespace Go.Proofs.YtjneghncmgjkeaaGreatDoor
open Go.RowKit
set_option maxRecDepth 100000 in
set_option maxHeartbeats 4000000 in
theorem addrTexts_any (a : Ad) (hn : i64 a.n) (W : World) (hS : Std W) : Calls Tryz.prog 4 #[adV a] W fun e w' => e = .returned (.bool true) ∧ Ext W w' := by
  have HA := Lib.hid (fun w0 (hx0 : Ext W w0) w (hx : Ext w0 w) => (l17awake_any w (hS.ext (hx0.trans hx))).mono fun e w' (hh : _ ∧ _) => (⟨hh.1, hx.trans hh.2⟩ : _ ∧ Ext w0 w'))
  have HLg := Lib.hid (fun w => l17long_any a w)
  have HT := Lib.hid (fun (h : longA a = false) w (hx : Ext W w) => addText_any a (longA_no h) hn w (hS.ext hx))
  have HU := Lib.hid (fun (h : longA a = false) w (hx : Ext W w) => rtext_any a (longA_no h) hn w (hS.ext hx))
  have HC := Lib.hid (fun (h : longA a = false) w0 (hx0 : Ext W w0) w (hx : Ext w0 w) => (adcheck_any a (longA_no h) w (hS.ext (hx0.trans hx))).mono fun e w' (hh : _ ∧ _) => (⟨hh.1, hx.trans hh.2⟩ : _ ∧ Ext w0 w'))
  have HD := Lib.hid (fun (h : longA a = false) w0 (hx0 : Ext W w0) w (hx : Ext w0 w) => (rcheck_any a (longA_no h) w).mono fun e w' (hh : _ ∧ _) => (⟨hh.1, hx.trans hh.2⟩ : _ ∧ Ext w0 w'))
  clear hS hn
  generalize checkP a = q at *
  generalize textA a = t at *
  obtain ⟨tx, te⟩ := t
  generalize longA a = lg at *
  obtain ⟨zn, zh, zpre, zname, zsuf, zpost, zunit, zcity, zstate, zzip, zmore⟩ := a
  simp only [adV_eq] at *
  try dsimp only at *
  go_enter Tryz.func4, Tryz.ntmps4
  go_upto_region 1 with (fail)
  have BA := Lib.hid (Blk.new W 23 #[.int .i64 zn, .bool zh, .string ⟨zpre.toArray⟩, .string ⟨zname.toArray⟩, .string ⟨zsuf.toArray⟩, .string ⟨zpost.toArray⟩, .string ⟨zunit.toArray⟩, .string ⟨zcity.toArray⟩, .string ⟨zstate.toArray⟩, .string ⟨zzip.toArray⟩, .string ⟨zmore.toArray⟩])
  have X0 := Lib.hid ((Ext.refl W).alloc (.cells #[.int .i64 zn, .bool zh, .string ⟨zpre.toArray⟩, .string ⟨zname.toArray⟩, .string ⟨zsuf.toArray⟩, .string ⟨zpost.toArray⟩, .string ⟨zunit.toArray⟩, .string ⟨zcity.toArray⟩, .string ⟨zstate.toArray⟩, .string ⟨zzip.toArray⟩, .string ⟨zmore.toArray⟩] 23))
  generalize W.alloc (.cells #[.int .i64 zn, .bool zh, .string ⟨zpre.toArray⟩, .string ⟨zname.toArray⟩, .string ⟨zsuf.toArray⟩, .string ⟨zpost.toArray⟩, .string ⟨zunit.toArray⟩, .string ⟨zcity.toArray⟩, .string ⟨zstate.toArray⟩, .string ⟨zzip.toArray⟩, .string ⟨zmore.toArray⟩] 23) = w0 at *
  generalize W.heap.size = ga at *
  have BC := Lib.hid (fun w (hx : Ext w0 w) => (show (∀ i, w.cell? ⟨ga, i, none⟩ = (#[.int .i64 zn, .bool zh, .string ⟨zpre.toArray⟩, .string ⟨zname.toArray⟩, .string ⟨zsuf.toArray⟩, .string ⟨zpost.toArray⟩, .string ⟨zunit.toArray⟩, .string ⟨zcity.toArray⟩, .string ⟨zstate.toArray⟩, .string ⟨zzip.toArray⟩, .string ⟨zmore.toArray⟩] : Array Value)[i]?) ∧ ga < w.heap.size from have B := BA.out.ext hx; ⟨B.cell, B.lt⟩))
  obtain ⟨qa, la⟩ := BC.out _ (Ext.refl w0)
  go_wp2_with fail
  refine (HLg.out _).mono ?_
  rintro e w1 ⟨rfl, hx1⟩
  have X1 := Lib.hid (X0.out.trans hx1)
  have Y1 := Lib.hid hx1
  clear hx1 HLg qa la
  cases lg with
  | true =>
    go_wp2_with fail
    go_ret
    exact ⟨rfl, X1.out⟩
  | false =>
    replace HT := Lib.hid (HT.out rfl)
    replace HU := Lib.hid (HU.out rfl)
    replace HC := Lib.hid (HC.out rfl)
    replace HD := Lib.hid (HD.out rfl)
    obtain ⟨qa, la⟩ := BC.out _ Y1.out
    go_wp2_with fail
    refine (HT.out _ X1.out).mono ?_
    rintro e w2 ⟨rfl, hx2⟩
    have X2 := Lib.hid (X1.out.trans hx2)
    have Y2 := Lib.hid (Y1.out.trans hx2)
    clear hx2 HT qa la X1 Y1
    obtain ⟨qa, la⟩ := BC.out _ Y2.out
    go_wp2_with fail
    refine (HU.out _ X2.out).mono ?_
    rintro e w3 ⟨rfl, hx3⟩
    have X3 := Lib.hid (X2.out.trans hx3)
    have Y3 := Lib.hid (Y2.out.trans hx3)
    clear hx3 HU qa la X2 Y2
    have HX := Lib.hid (fun w' (hx : Ext w3 w') => (show w'.cell? ⟨ga, 0, none⟩ = some (.int .i64 zn) ∧ w'.cell? ⟨ga, 1, none⟩ = some (.bool zh) ∧ w'.cell? ⟨ga, 2, none⟩ = some (.string ⟨zpre.toArray⟩) ∧ w'.cell? ⟨ga, 3, none⟩ = some (.string ⟨zname.toArray⟩) ∧ w'.cell? ⟨ga, 4, none⟩ = some (.string ⟨zsuf.toArray⟩) ∧ w'.cell? ⟨ga, 5, none⟩ = some (.string ⟨zpost.toArray⟩) ∧ w'.cell? ⟨ga, 6, none⟩ = some (.string ⟨zunit.toArray⟩) ∧ w'.cell? ⟨ga, 7, none⟩ = some (.string ⟨zcity.toArray⟩) ∧ w'.cell? ⟨ga, 8, none⟩ = some (.string ⟨zstate.toArray⟩) ∧ w'.cell? ⟨ga, 9, none⟩ = some (.string ⟨zzip.toArray⟩) ∧ w'.cell? ⟨ga, 10, none⟩ = some (.string ⟨zmore.toArray⟩) from
      have B := BA.out.ext (Y3.out.trans hx); ⟨B.cell 0, B.cell 1, B.cell 2, B.cell 3, B.cell 4, B.cell 5, B.cell 6, B.cell 7, B.cell 8, B.cell 9, B.cell 10⟩))
    obtain ⟨k0, k1, k2, k3, k4, k5, k6, k7, k8, k9, k10⟩ := HX.out _ (Ext.refl w3)
    replace HA := Lib.hid (HA.out w3 X3.out)
    replace HC := Lib.hid (HC.out w3 X3.out)
    replace HD := Lib.hid (HD.out w3 X3.out)
    have Xr := Ext.refl w3
    go_upto_region 5 with (fail)
    go_region_held3 (fun w' => w'.cell? ⟨ga, 0, none⟩ = some (.int .i64 zn) ∧ w'.cell? ⟨ga, 1, none⟩ = some (.bool zh) ∧ w'.cell? ⟨ga, 2, none⟩ = some (.string ⟨zpre.toArray⟩) ∧ w'.cell? ⟨ga, 3, none⟩ = some (.string ⟨zname.toArray⟩) ∧ w'.cell? ⟨ga, 4, none⟩ = some (.string ⟨zsuf.toArray⟩) ∧ w'.cell? ⟨ga, 5, none⟩ = some (.string ⟨zpost.toArray⟩) ∧ w'.cell? ⟨ga, 6, none⟩ = some (.string ⟨zunit.toArray⟩) ∧ w'.cell? ⟨ga, 7, none⟩ = some (.string ⟨zcity.toArray⟩) ∧ w'.cell? ⟨ga, 8, none⟩ = some (.string ⟨zstate.toArray⟩) ∧ w'.cell? ⟨ga, 9, none⟩ = some (.string ⟨zzip.toArray⟩) ∧ w'.cell? ⟨ga, 10, none⟩ = some (.string ⟨zmore.toArray⟩))
      (with_reducible refine HX.out _ ?_; with_reducible repeat (first | assumption | refine Ext.drew ?_ | refine Ext.alloc ?_ _))
      (first
        | (go_at_call 18; refine (HC.out _ (by with_reducible repeat (first | assumption | exact Ext.refl _ | refine Ext.drew ?_ | refine Ext.alloc ?_ _))).mono ?_; rintro e v1 ⟨rfl, hv1⟩)
        | (go_at_call 19; refine (HD.out _ (by with_reducible repeat (first | assumption | exact Ext.refl _ | refine Ext.drew ?_ | refine Ext.alloc ?_ _))).mono ?_; rintro e v2 ⟨rfl, hv2⟩)
        | (go_at_call 14; refine (HA.out _ (by with_reducible repeat (first | assumption | exact Ext.refl _ | refine Ext.drew ?_ | refine Ext.alloc ?_ _))).mono ?_; rintro e v3 ⟨rfl, hv3⟩))
    all_goals
      go_wp2_with fail
      go_ret
      exact ⟨rfl, X3.out.trans (by assumption)⟩
end Go.Proofs.YtjneghncmgjkeaaGreatDoor

set_option linter.unusedVariables false
namespace Go.Proofs.YtjneghncmgjkeaaGreatDoor
open Go.RowKit Go.ChangeShapes Go.WideShapes Go.Deep

/-- Whatever reads as a value of type t has cells of this shape. -/
structure Opens (P : Program) (t : TypeId) (S : World → List Value → Prop) : Prop where
  run : ∀ {H : Type} (enc : TypeId × Value → H) (w : World) (base : Nat) (spare : Nat → Bool) (held : Bool) (fuel : Nat) (cs : List Value) (x : DataW H × List MemPlace),
    DataW.trod enc P w base spare held fuel t cs = some x → S w cs
theorem Opens.mono {P : Program} {t : TypeId} {S S' : World → List Value → Prop} (h : Opens P t S) (hs : ∀ w cs, S w cs → S' w cs) : Opens P t S' :=
  ⟨fun enc w base spare held fuel cs x hx => hs _ _ (h.run enc w base spare held fuel cs x hx)⟩
theorem opens_int {P : Program} {t : TypeId} {k : IntKind} (ht : P.underlying t = some (.int k)) : Opens P t (fun _ cs => ∃ n, cs = [.int k n] ∧ (Lit.int k n).wf = true) := by
  refine ⟨fun {H} enc w base spare held fuel cs x hx => ?_⟩
  obtain ⟨n, h1, _, h3⟩ := DataW.trod_int ht hx
  exact ⟨n, h1, h3⟩
theorem opens_bool {P : Program} {t : TypeId} (ht : P.underlying t = some .bool) : Opens P t (fun _ cs => ∃ b, cs = [.bool b]) := by
  refine ⟨fun {H} enc w base spare held fuel cs x hx => ?_⟩
  obtain ⟨n, h1, _⟩ := DataW.trod_bool ht hx
  exact ⟨n, h1⟩
theorem opens_string {P : Program} {t : TypeId} (ht : P.underlying t = some .string) : Opens P t (fun _ cs => ∃ s : ByteArray, cs = [.string s] ∧ s.size ≤ maxLen) := by
  refine ⟨fun {H} enc w base spare held fuel cs x hx => ?_⟩
  obtain ⟨n, h1, _, h3⟩ := DataW.trod_string ht hx
  exact ⟨n, h1, h3⟩
/-- Fields one behind the other: so many cells each, of this shape. -/
def FieldsShape : List (Nat × (World → List Value → Prop)) → World → List Value → Prop
  | [], _, cs => cs = []
  | (k, S) :: r, w, cs => ∃ a b, cs = a ++ b ∧ a.length = k ∧ S w a ∧ FieldsShape r w b
inductive OpensAll (P : Program) : Nat → List (TypeId × Nat) → List (Nat × (World → List Value → Prop)) → Prop
  | nil {n : Nat} : OpensAll P n [] []
  | cons {n : Nat} (k : Nat) {t : TypeId} {S : World → List Value → Prop} {ts : List (TypeId × Nat)} {l : List (Nat × (World → List Value → Prop))} (h : Opens P t S) (hk : P.cellsOf t = k) (r : OpensAll P (n + k) ts l) : OpensAll P n ((t, n) :: ts) ((k, S) :: l)
def cellsAll : List (Nat × (World → List Value → Prop)) → Nat
  | [] => 0
  | (k, _) :: r => k + cellsAll r
theorem opens_fields {P : Program} {t : TypeId} {fs : Array Field} (ht : P.underlying t = some (.struct fs)) {l : List (Nat × (World → List Value → Prop))} (h : OpensAll P 0 (fs.toList.map fun f => (f.type, f.offset)) l) (hn : P.cellsOf t = cellsAll l) : Opens P t (FieldsShape l) := by
  refine ⟨fun {H} enc w base spare held fuel cs x hx => ?_⟩
  obtain ⟨xs, m, _, _, hlen, hxl, hf⟩ := DataW.trod_struct ht hx
  have gen : ∀ (gs : List Field) (l : List (Nat × (World → List Value → Prop))) (n : Nat), OpensAll P n (gs.map fun f => (f.type, f.offset)) l → cs.length = n + cellsAll l →
      (∀ f ∈ gs, ∃ y, DataW.trod enc P w base spare held m f.type ((cs.drop f.offset).take (P.cellsOf f.type)) = some y) → FieldsShape l w (cs.drop n) := by
    intro gs
    induction gs with
    | nil =>
      intro l n ho hn' _
      cases ho
      simp only [cellsAll] at hn'
      exact List.drop_eq_nil_of_le (by omega)
    | cons g gs ih =>
      intro l n ho hn' hg
      simp only [List.map_cons] at ho
      generalize he : (g.type, g.offset) :: gs.map (fun f => (f.type, f.offset)) = ts at ho
      cases ho with
      | nil => cases he
      | @cons _ k t S ts l hS hk r =>
        injection he with he1 he2
        injection he1 with he3 he4
        subst he3
        subst he4
        subst he2
        obtain ⟨y, hy⟩ := hg g (by simp)
        rw [hk] at hy
        simp only [cellsAll] at hn'
        refine ⟨(cs.drop g.offset).take k, (cs.drop g.offset).drop k, (List.take_append_drop _ _).symm, by rw [List.length_take, List.length_drop]; omega, hS.run enc w base spare held m _ _ hy, ?_⟩
        rw [List.drop_drop]
        exact ih l _ r (by omega) (fun f hf => hg f (by simp [hf]))
  have := gen fs.toList l 0 h (by rw [hlen, hn]; omega) (fun f hfm => by
    obtain ⟨i, hi, he⟩ := List.mem_iff_getElem.1 hfm
    have h1 : fs[i]? = some f := by
      rw [← he]
      rw [Array.getElem?_eq_getElem (by simpa using hi)]
      simp
    have h2 := hf i f h1
    have : i < xs.length := by rw [hxl]; simpa using hi
    rw [List.getElem?_eq_getElem this] at h2
    exact ⟨_, h2⟩)
  simpa using this
/-- What an argument's reading says. -/
theorem Opens.arg {P : Program} {t : TypeId} {S : World → List Value → Prop} (h : Opens P t S) {H : Type} {enc : TypeId × Value → H} {w : World} {base : Nat} {spare : Nat → Bool} {held : Bool} {v : Value} {d : DataW H} {ps : List MemPlace}
    (ht : DataW.Trod enc P w base spare held t v d ps) : S w v.cells.toList := by
  obtain ⟨fuel, hf⟩ := ht
  exact h.run enc w base spare held fuel _ _ hf
theorem trod_below {P : Program} {t : TypeId} {H : Type} {enc : TypeId × Value → H} {w : World} {base : Nat} {spare : Nat → Bool} {held : Bool} {v : Value} {d : DataW H} {ps : List MemPlace}
    (ht : DataW.Trod enc P w base spare held t v d ps) : ∀ x ∈ ps, x.block < w.heap.size := by
  obtain ⟨m, hm⟩ := ht
  exact DataW.trod_lt m _ _ _ hm
end Go.Proofs.YtjneghncmgjkeaaGreatDoor

set_option linter.unusedVariables false
namespace Go.Proofs.YtjneghncmgjkeaaGreatDoor
theorem Tryz.own : ownKnob Tryz.prog.godebug = none := by kernel_rfl
theorem Tryz.laidOut : laidOutB Tryz.prog = true := by kernel_rfl
end Go.Proofs.YtjneghncmgjkeaaGreatDoor

set_option linter.unusedVariables false
namespace Go.Proofs.YtjneghncmgjkeaaGreatDoor
open Go.RowKit Go.ChangeShapes Go.WideShapes

/-- 'returnsInHanded_of_change_and' with the world's shape kept for the contract. -/
theorem returnsShaped {H : Type} {enc : TypeId × Value → H} {a : Assume} {C : Checked} {os : Os} {f : FuncId} {fn : Func} {s : ChangeSpec} {conds : List PathCond} {apart fresh handsOn again : Bool} {X : World → Array Value → Prop}
    (hX : ∀ (w w' : World) (args : Array Value), w.heap = w'.heap → X w args → X w' args)
    (own : ownKnob C.prog.godebug = none) (started : os.Started) (noInit : C.prog.inits.idxOf? f = none) (hfn : C.prog.funcs[f]? = some fn)
    (witness : ∃ (w : World) (tape : Tape) (i : Input), w.os = os ∧ (w.forCall tape i).Shaped C.prog ∧ i.vars = [] ∧ Input.okWide C.prog (w.forCall tape i) .any w.heap.size f i ∧
      ((s.pre enc C.prog fn conds apart (w.forCall tape i).memory i.args ∧ X (w.forCall tape i).memory i.args) ∧ sizedMet enc C.prog fn (OpenSpec.ofChange s) apart (w.forCall tape i).memory i.args) ∧ a.holds C.prog (lone (Frame.enter C.prog f i.args .normal) [] (w.forCall tape i)))
    (contract : ∀ (W : World) (base : Nat) (args : Array Value) (ds gs : List (DataW H)) (before : List MemPlace),
      (∀ (j : Nat) t v, fn.params[j]? = some t → args[j]? = some v → Value.okWide C.prog W .any base t v) →
      DataW.Whole enc C.prog fn.params.toList s.vars apart W args.toList ds gs before →
      conds.all (PathCond.test C.prog ⟨fn.params.toList, ds, s.plain.varTypes C.prog, gs⟩) = true →
      (DataW.weightsEach C.prog (fn.params.toList ++ s.plain.varTypes C.prog) (ds ++ gs)).all (· ≤ reachBytes) = true → X W args → W.ShapedOpen C.prog →
      a.holds C.prog (lone (Frame.enter C.prog f args .normal) [] W) →
      Calls C.prog f args W fun e W' => ∃ v, e = .returned v ∧ s.post enc C.prog fn apart fresh handsOn again W args v W') :
    ReturnsInHanded a C os f .any (fun w args => (s.pre enc C.prog fn conds apart w args ∧ X w args) ∧ sizedMet enc C.prog fn (OpenSpec.ofChange s) apart w args) (s.post enc C.prog fn apart fresh handsOn again) := by
  refine returnsInHanded_of_calls own started noInit witness ?_
  intro w tape i _ hsh _ hok hpre hholds
  obtain ⟨_, _, _, fn', hfn', _, _, _, _, hval⟩ := hok
  have e : fn' = fn := Option.some.inj (hfn'.symm.trans hfn)
  subst e
  obtain ⟨⟨⟨ds, gs, before, hw, hc⟩, hx⟩, hz⟩ := hpre
  have hw' := DataW.Whole.of_heap (w' := w.forCall tape i) (by rfl) hw
  refine (contract (w.forCall tape i) w.heap.size i.args ds gs before hval hw' hc (hz.weights hw) (hX _ _ _ (by rfl) hx) hsh hholds).mono fun e W' ⟨v, he, hp⟩ => ?_
  subst he
  exact ChangeSpec.post_blind hp
theorem opens_int0 : Opens Tryz.prog 3 (fun _ cs => ∃ n : Int, cs = [.int .i64 n] ∧ i64 n) :=
  (opens_int Tryz.underlying3).mono fun _ cs ⟨n, h, hw⟩ => ⟨n, h, by
    simp [Lit.wf, IntKind.min, IntKind.max, IntKind.signed, IntKind.bits] at hw
    exact hw⟩
theorem opens_str : Opens Tryz.prog 9 (fun _ cs => ∃ s : Bs, cs = [.string ⟨s.toArray⟩] ∧ s.length ≤ maxLen) :=
  (opens_string Tryz.underlying9).mono fun _ cs ⟨s, h, hl⟩ => ⟨s.data.toList, by rw [h], by
    have : s.data.toList.length = s.size := Array.length_toList
    rw [this]
    exact hl⟩
theorem opens_b : Opens Tryz.prog 4 (fun _ cs => ∃ b, cs = [.bool b]) := opens_bool Tryz.underlying4
theorem opens_ad : Opens Tryz.prog 23 (fun _ cs => ∃ a : Ad, cs = (adC a).toList ∧ i64 a.n) :=
  (opens_fields Tryz.underlying23 (.cons 1 opens_int0 (by kernel_rfl) (.cons 1 opens_b (by kernel_rfl) (.cons 1 opens_str (by kernel_rfl) (.cons 1 opens_str (by kernel_rfl) (.cons 1 opens_str (by kernel_rfl) (.cons 1 opens_str (by kernel_rfl) (.cons 1 opens_str (by kernel_rfl) (.cons 1 opens_str (by kernel_rfl) (.cons 1 opens_str (by kernel_rfl) (.cons 1 opens_str (by kernel_rfl) (.cons 1 opens_str (by kernel_rfl) .nil))))))))))) (by kernel_rfl)).mono fun w cs h => by
    obtain ⟨_, _, rfl, _, ⟨n, rfl, hn⟩, _, _, rfl, _, ⟨hf, rfl⟩, _, _, rfl, _, ⟨a, rfl, _⟩, _, _, rfl, _, ⟨b, rfl, _⟩, _, _, rfl, _, ⟨c, rfl, _⟩, _, _, rfl, _, ⟨d, rfl, _⟩, _, _, rfl, _, ⟨e, rfl, _⟩, _, _, rfl, _, ⟨f, rfl, _⟩, _, _, rfl, _, ⟨g, rfl, _⟩, _, _, rfl, _, ⟨h, rfl, _⟩, _, _, rfl, _, ⟨i, rfl, _⟩, rfl⟩ := h
    exact ⟨⟨n, hf, a, b, c, d, e, f, g, h, i⟩, rfl, hn⟩
/-- The row's list. -/
def laid9 : List (String × DataW Unit) := [("math/bits.deBruijn32tab", Rows.laid_math_bits_deBruijn32tab), ("math/bits.deBruijn64tab", Rows.laid_math_bits_deBruijn64tab), ("internal/strconv.uint64pow10", Rows.laid_internal_strconv_uint64pow10), ("unicode/utf8.acceptRanges", Rows.laid_unicode_utf8_acceptRanges), ("strconv.ErrRange", Rows.laid_strconv_ErrRange), ("strconv.ErrSyntax", Rows.laid_strconv_ErrSyntax), ("unicode.White_Space", Rows.laid_unicode_White_Space), ("strings.asciiSpace", Rows.laid_strings_asciiSpace), ("unicode/utf8.first", Rows.laid_unicode_utf8_first)]
theorem all_met9 (os : Os) (args : Array Value) : laidMetH Tryz.prog laid9 ((World.laidAll Tryz.prog os laid9).forCall (fun _ _ => 0) ⟨#[], args, []⟩).memory := by
  rw [MakeChecks.laidMetH_plain _ _ _ (by kernel_rfl)]
  exact laidMet_laidAll _ (by kernel_rfl) (by kernel_rfl)
theorem shaped9 (os : Os) : (World.laidAll Tryz.prog os laid9).Shaped Tryz.prog := World.shaped_of_ZipB (by kernel_rfl) (by kernel_rfl)
theorem iface_cell {W : World} {n : String} {g : Nat} {name : String} {d : DataW Unit} {ms : Array (String × TypeId)} {t : TypeId} (hg : Tryz.prog.globalNamed n = some g) (ht : (Tryz.prog.globals[g]?).map (·.type) = some t) (hi : Tryz.prog.underlying t = some (.interface ms)) (h : Lib.VarReads Tryz.prog W n (.iface name d)) :
    ∃ v, W.cell? ⟨g, 0, none⟩ = some v ∧ (v = .nilIface ∨ ∃ te pe, v = .iface te pe) := by
  obtain ⟨g', t', cs, fuel, p, hg', ht', hv, hd⟩ := h
  obtain rfl := Option.some.inj (hg.symm.trans hg')
  obtain rfl := Option.some.inj (ht.symm.trans ht')
  obtain ⟨_, u, v, e, _, _⟩ := iface_of_trod hi hd
  refine ⟨.iface u v, ?_, .inr ⟨u, v, rfl⟩⟩
  rw [var?_cell hg hv 0]
  have : cs[0]? = cs.toList[0]? := by simp
  rw [this, e]
  rfl
theorem std_of_laid {W : World} (h : laidMetH Tryz.prog laid9 W) (hsh : W.ShapedOpen Tryz.prog) : Std W := by
  rw [MakeChecks.laidMetH_plain _ _ _ (by kernel_rfl)] at h
  have rd := fun {n : String} {d : DataW Unit} (hm : (n, d) ∈ laid9) => Lib.laidMet.reads h hm
  refine ⟨?_, ?_, ?_, ?_, ?_⟩
  · obtain ⟨g', t', cs, fuel, p, hg', ht', hvar, hd⟩ := rd (n := "internal/strconv.uint64pow10") (d := Rows.laid_internal_strconv_uint64pow10) (by simp [laid9])
    have hg : Tryz.prog.globalNamed "internal/strconv.uint64pow10" = some 4 := by kernel_rfl
    have hty : (Tryz.prog.globals[4]?).map (·.type) = some 178 := by kernel_rfl
    obtain rfl := Option.some.inj (hg.symm.trans hg')
    obtain rfl := Option.some.inj (hty.symm.trans ht')
    have e : (Rows.laid_internal_strconv_uint64pow10 : DataW Unit) = Lib.tabData .u64 Lib.pow10Tab := by kernel_rfl
    rw [e] at hd
    unfold Lib.TabIs
    rw [hvar, ← Lib.cells_of_tab (zs := Lib.pow10Tab) Tryz.underlying178 Tryz.underlying141 (by kernel_rfl) (by kernel_rfl) hd]
  · obtain ⟨g', t', cs, fuel, p, hg', ht', hvar, hd⟩ := rd (n := "strings.asciiSpace") (d := Rows.laid_strings_asciiSpace) (by simp [laid9])
    have hg : Tryz.prog.globalNamed "strings.asciiSpace" = some 3 := by kernel_rfl
    have hty : (Tryz.prog.globals[3]?).map (·.type) = some 92 := by kernel_rfl
    obtain rfl := Option.some.inj (hg.symm.trans hg')
    obtain rfl := Option.some.inj (hty.symm.trans ht')
    have e : (Rows.laid_strings_asciiSpace : DataW Unit) = Lib.tabData .u8 Lib.asciiSpaceTab := by kernel_rfl
    rw [e] at hd
    unfold Lib.TabIs
    rw [hvar, ← Lib.cells_of_tab (zs := Lib.asciiSpaceTab) Tryz.underlying92 Tryz.underlying5 (by kernel_rfl) (by kernel_rfl) hd]
  · exact cell_of_shapedOpen_int (t := 3) (zero := #[.int .i64 0]) hsh (of_decide_eq_true (by kernel_rfl)) (by kernel_rfl) rfl (by kernel_rfl) (by kernel_rfl) Tryz.underlying3
  · exact iface_cell (n := "strconv.ErrSyntax") (t := 60) (by kernel_rfl) (by kernel_rfl) Tryz.underlying60 (rd (d := Rows.laid_strconv_ErrSyntax) (by simp [laid9]))
  · exact iface_cell (n := "strconv.ErrRange") (t := 60) (by kernel_rfl) (by kernel_rfl) Tryz.underlying60 (rd (d := Rows.laid_strconv_ErrRange) (by simp [laid9]))
end Go.Proofs.YtjneghncmgjkeaaGreatDoor
