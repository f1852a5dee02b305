/-
  Steady operations in the order in which they stand: regions that draw and regions that don't; tests that are not known.
-/
import Derived.Still
import Derived.Test.YtjaponmpfdpemaaGreatDoorBb43
import Derived.Test.YtjaponmpfdpemaaGreatDoorBb01
import Derived.ProofKit
import Derived.Deep.Slices
import Derived.Test.YtjaponmpfdpemaaGreatDoorRows
import Derived.Test.YtjaponmpfdpemaaGreatDoorBb07
import Derived.Test.YtjaponmpfdpemaaGreatDoorBb14
import Derived.HandedShaped
import Derived.LaidMore
import Derived.Lay
import Derived.Stop.Joined
import Derived.Lib.LaidU8
import Derived.Shelf.Vars
import Derived.Test.YtjaponmpfdpemaaGreatDoorBb20
set_option linter.unusedSimpArgs false
set_option linter.unusedVariables false
namespace Go.Proofs.YtjaponmpfdpemaaGreatDoor
open Go
section
variable {P : Program} {ops : Array Oper} {Q : Exit → Act → World → Prop} {md : Region.Mode} {S : World → Prop}
def StL (P : Program) (ops : Array Oper) (S : World → Prop) (Q : Exit → Act → World → Prop) : List Oper → Act → Prop
 | [], a => ∀ w, S w → Q .normal a w
 | o :: rest, a => ∃ v, Steady P ops S o v a ∧ StL P ops S Q rest (a.put o.dst v)
theorem StL.done {a : Act} (h : ∀ w, S w → Q .normal a w) : StL P ops S Q [] a := h
theorem StL.cons {o : Oper} {rest : List Oper} {v : Value} {dst : Option Tmp} {a : Act} (hd : o.dst = dst) (hy : Steady P ops S o v a) (h : StL P ops S Q rest (a.put dst v)) : StL P ops S Q (o :: rest) a := by
 subst hd
 exact ⟨v, hy, h⟩
theorem StL.y {o : Oper} {rest : List Oper} {a : Act} (dst : Option Tmp) (v : Value) (hg : ∀ w, S w → (execOp a.eval o).run P w = .ok (.value v) w) (h : StL P ops S Q rest (a.put dst v)) (hd : o.dst = dst := by rfl) (hw : Region.wanted o (yielded ops a.tmps) = true := by rfl) : StL P ops S Q (o :: rest) a :=
 StL.cons hd (Steady.of_yields (Or.inl ⟨hw, hg⟩)) h
theorem StL.conf : ∀ (l : List Oper) (k : Nat) (listed : Array Bool) (a : Act), (∀ j, l[j]? = ops[k + j]?) → Region.lexFrom md ops l.length k listed = true → StL P ops S Q l a → Conf P md ops Q S l.length listed a
 | [], _, _, _, _, hB, h => Conf.done (by simpa [Region.lexFrom] using hB) h
 | o :: l, k, listed, a, hl, hB, h => by
  have h0 : ops[k]? = some o := by simpa using (hl 0).symm
  simp only [List.length_cons, Region.lexFrom, Bool.and_eq_true] at hB
  obtain ⟨⟨hr, hf⟩, hB'⟩ := hB
  obtain ⟨v, hy, hK⟩ := h
  exact Conf.next h0 hf hr hy (StL.conf l (k + 1) _ _ (fun j => by have := hl (j + 1); simpa [Nat.add_assoc, Nat.add_comm 1 j] using this) hB' hK)
theorem region_lex (S : World → Prop) {id : Nat} {l : List Oper} {a : Act} {w : World} (hm : P.follows .mixedOrders = true) (hB : Region.lexB .any l.toArray = true) (hS : S w.drew)
  (h : StL P l.toArray S Q l a) : (Code.region id l.toArray true).wp P Q a w := by
 simp only [Region.lexB, Bool.and_eq_true] at hB
 refine region_conf S hm hB.1 hS ?_
 have := StL.conf (md := .any) l 0 (Array.replicate l.toArray.size false) a (by simp) (by simpa using hB.2) h
 simpa using this
theorem StL.list : ∀ (l : List Oper) (k : Nat) (a : Act) (w : World), (∀ j, l[j]? = ops[k + j]?) → S w → StL P ops S Q l a → wpOps P ops Q (List.range' k l.length) a w
 | [], _, _, w, _, hS, h => by
  simp only [List.length_nil, List.range'_zero, wpOps]
  exact h w hS
 | o :: l, k, a, w, hl, hS, h => by
  have h0 : ops[k]? = some o := by simpa using (hl 0).symm
  rw [List.length_cons, List.range'_succ, wpOps_cons]
  obtain ⟨v, hy, hK⟩ := h
  exact hy.wpOp h0 hS (fun w' hS' => StL.list l (k + 1) _ w' (fun j => by have := hl (j + 1); simpa [Nat.add_assoc, Nat.add_comm 1 j] using this) hS' hK)
end
end Go.Proofs.YtjaponmpfdpemaaGreatDoor
set_option linter.unusedSimpArgs false
set_option linter.unusedVariables false
namespace Go.Proofs.YtjaponmpfdpemaaGreatDoor
open Go.RowKit Go.ChangeShapes Go.WideShapes Go.Deep
structure Opens (P : Program) (t : TypeId) (S : World → List Value → Prop) : Prop where
 run : ∀ {H : Type} (enc : TypeId × Value → H) (w : World) (base : Nat) (spare : Nat → Bool) (held : Bool) (fuel : Nat) (cs : List Value) (x : DataW H × List MemPlace),
  DataW.trod enc P w base spare held fuel t cs = some x → S w cs
theorem Opens.mono {P : Program} {t : TypeId} {S S' : World → List Value → Prop} (h : Opens P t S) (hs : ∀ w cs, S w cs → S' w cs) : Opens P t S' :=
 ⟨fun enc w base spare held fuel cs x hx => hs _ _ (h.run enc w base spare held fuel cs x hx)⟩
theorem opens_int {P : Program} {t : TypeId} {k : IntKind} (ht : P.underlying t = some (.int k)) : Opens P t (fun _ cs => ∃ n, cs = [.int k n] ∧ (Lit.int k n).wf = true) := by
 refine ⟨fun {H} enc w base spare held fuel cs x hx => ?_⟩
 obtain ⟨n, h1, _, h3⟩ := DataW.trod_int ht hx
 exact ⟨n, h1, h3⟩
theorem opens_bool {P : Program} {t : TypeId} (ht : P.underlying t = some .bool) : Opens P t (fun _ cs => ∃ b, cs = [.bool b]) := by
 refine ⟨fun {H} enc w base spare held fuel cs x hx => ?_⟩
 obtain ⟨n, h1, _⟩ := DataW.trod_bool ht hx
 exact ⟨n, h1⟩
theorem opens_string {P : Program} {t : TypeId} (ht : P.underlying t = some .string) : Opens P t (fun _ cs => ∃ s : ByteArray, cs = [.string s] ∧ s.size ≤ maxLen) := by
 refine ⟨fun {H} enc w base spare held fuel cs x hx => ?_⟩
 obtain ⟨n, h1, _, h3⟩ := DataW.trod_string ht hx
 exact ⟨n, h1, h3⟩
def SliceOf (c : Nat) (S : World → List Value → Prop) (w : World) (cs : List Value) : Prop :=
 ∃ (A : Option Addr) (len cap : Nat) (L : List (List Value)), cs = [.slice A len cap] ∧ len ≤ cap ∧ cap ≤ maxLen ∧ L.length = len ∧ (∀ x ∈ L, x.length = c ∧ S w x) ∧ Reads w w.heap.size c A len L.flatten
theorem flat_at {c : Nat} : ∀ (L : List (List Value)) (_ : ∀ x ∈ L, x.length = c) (j : Nat) (u : Value), L.flatten[j]? = some u → ∃ i k, i < L.length ∧ k < c ∧ j = i * c + k ∧ ∃ x, L[i]? = some x ∧ x[k]? = some u
 | [], _, j, u, h => by simp at h
 | x :: L, hL, j, u, h => by
  have hx : x.length = c := hL x (by simp)
  rw [List.flatten_cons, List.getElem?_append] at h
  split at h
  ·rename_i hj
   exact ⟨0, j, by simp, by omega, by simp, x, by simp, h⟩
  ·rename_i hj
   obtain ⟨i, k, hi, hk, he, y, hy, hu⟩ := flat_at L (fun y hy => hL y (by simp [hy])) (j - x.length) u h
   refine ⟨i + 1, k, by simp; omega, hk, by rw [Nat.add_mul]; omega, y, by simpa using hy, hu⟩
theorem opens_slice {P : Program} {t e : TypeId} (c : Nat) {S : World → List Value → Prop} (ht : P.underlying t = some (.slice e)) (hC : P.cellsOf e = c) (hc : 0 < c) (h : Opens P e S) : Opens P t (SliceOf c S) := by
 refine ⟨fun {H} enc w base spare held fuel cs x hx => ?_⟩
 rcases open_slice ht hx with ⟨rfl, _⟩ | ⟨a, len, cap, m, n, D, Pl, rfl, hb, hl, hm, hmm, _, hi⟩
 ·exact ⟨none, 0, 0, [], rfl, Nat.le_refl _, by simp [maxLen], rfl, by simp, by simpa using Reads.none_⟩
 ·have hlm : len ≤ m := by rw [hmm]; split <;> omega
  rw [hC] at hi
  obtain ⟨f, hf⟩ : ∃ f : Nat → List Value, ∀ i, i < len → w.cells? base (a.add (i * c)) c = some (f i) ∧ DataW.trod enc P w base spare held n e (f i) = some (D i, Pl i) := by
   refine ⟨fun i => if hi' : i < m then (hi i hi').choose else [], fun i hil => ?_⟩
   have him : i < m := by omega
   simp only [dif_pos him]
   exact (hi i him).choose_spec
  refine ⟨some a, len, cap, (List.range len).map f, rfl, hl, hm, by simp, ?_, ?_⟩
  ·intro x hx
   simp only [List.mem_map, List.mem_range] at hx
   obtain ⟨i, hil, rfl⟩ := hx
   obtain ⟨h1, h2⟩ := hf i hil
   obtain ⟨_, hcl, _⟩ := World.cells?_some h1
   exact ⟨hcl, h.run enc w base spare held n _ _ h2⟩
  ·have hall : ∀ x ∈ (List.range len).map f, x.length = c := by
    intro x hx
    simp only [List.mem_map, List.mem_range] at hx
    obtain ⟨i, hil, rfl⟩ := hx
    exact (World.cells?_some (hf i hil).1).2.1
   have hlen : ((List.range len).map f).flatten.length = len * c := by
    have gen : ∀ (L : List (List Value)), (∀ x ∈ L, x.length = c) → L.flatten.length = L.length * c := by
     intro L
     induction L with
     | nil => intro _; simp
     | cons y L ih =>
      intro hL
      rw [List.flatten_cons, List.length_append, ih (fun z hz => hL z (by simp [hz])), hL y (by simp), List.length_cons, Nat.add_mul]
      omega
    rw [gen _ hall]; simp
   refine ⟨hlen, fun hp => ?_⟩
   have hget : ∀ i k u, i < len → k < c → (f i)[k]? = some u → w.cell? ((a.add (i * c)).add k) = some u := by
    intro i k u hil hk hu
    obtain ⟨_, hcl, hat⟩ := World.cells?_some (hf i hil).1
    exact (hat k hk).trans hu
   obtain ⟨b, off, spot⟩ := a
   have h0 : ∃ u, (f 0)[0]? = some u := by
    have := (World.cells?_some (hf 0 hp).1).2.1
    exact ⟨_, List.getElem?_eq_getElem (by omega)⟩
   obtain ⟨u0, hu0⟩ := h0
   have hc0 := hget 0 0 u0 hp hc hu0
   have hspot : spot = none := by
    have := World.cell?_spot hc0
    simpa [Addr.add] using this
   subst hspot
   refine ⟨b, off, rfl, ?_, fun j u hu => ?_⟩
   ·rcases Nat.lt_or_ge b w.heap.size with hlt | hge
    ·exact hlt
    ·exfalso
     rw [add_of_add, add_flat] at hc0
     unfold World.cell? at hc0
     rw [Array.getElem?_eq_none hge] at hc0
     simp at hc0
   ·obtain ⟨i, k, hil, hk, rfl, x, hx, hxk⟩ := flat_at _ hall j u hu
    have hil' : i < len := by simpa using hil
    have : x = f i := by
     rw [List.getElem?_eq_getElem hil] at hx
     simpa using hx.symm
    subst this
    have := hget i k u hil' hk hxk
    rw [add_of_add, add_flat] at this
    rw [← this]
theorem SliceOf.list {α : Type} {c : Nat} {S : World → List Value → Prop} {code : α → List Value} {p : α → Prop} {w : World} {cs : List Value} (h : SliceOf c S w cs) (hS : ∀ x, S w x → ∃ a, x = code a ∧ p a) :
  ∃ (A : Option Addr) (cap : Nat) (l : List α), cs = [.slice A l.length cap] ∧ l.length ≤ cap ∧ cap ≤ maxLen ∧ (∀ a ∈ l, p a) ∧ Reads w w.heap.size c A l.length (l.flatMap code) := by
 obtain ⟨A, len, cap, L, rfl, hl, hm, hL, hall, hr⟩ := h
 have gen : ∀ (M : List (List Value)), (∀ x ∈ M, S w x) → ∃ l : List α, M = l.map code ∧ ∀ a ∈ l, p a := by
  intro M
  induction M with
  | nil => intro _; exact ⟨[], rfl, by simp⟩
  | cons y M ih =>
   intro hM
   obtain ⟨l, rfl, hp⟩ := ih (fun z hz => hM z (by simp [hz]))
   obtain ⟨a, rfl, ha⟩ := hS y (hM y (by simp))
   exact ⟨a :: l, rfl, by simpa using ⟨ha, hp⟩⟩
 obtain ⟨l, rfl, hp⟩ := gen L (fun x hx => (hall x hx).2)
 simp only [List.length_map] at hL
 subst hL
 refine ⟨A, cap, l, rfl, hl, hm, hp, ?_⟩
 rw [← List.flatMap_def] at hr
 exact hr
def FieldsShape : List (Nat × (World → List Value → Prop)) → World → List Value → Prop
 | [], _, cs => cs = []
 | (k, S) :: r, w, cs => ∃ a b, cs = a ++ b ∧ a.length = k ∧ S w a ∧ FieldsShape r w b
inductive OpensAll (P : Program) : Nat → List (TypeId × Nat) → List (Nat × (World → List Value → Prop)) → Prop
 | nil {n : Nat} : OpensAll P n [] []
 | cons {n : Nat} (k : Nat) {t : TypeId} {S : World → List Value → Prop} {ts : List (TypeId × Nat)} {l : List (Nat × (World → List Value → Prop))} (h : Opens P t S) (hk : P.cellsOf t = k) (r : OpensAll P (n + k) ts l) : OpensAll P n ((t, n) :: ts) ((k, S) :: l)
def cellsAll : List (Nat × (World → List Value → Prop)) → Nat
 | [] => 0
 | (k, _) :: r => k + cellsAll r
theorem opens_fields {P : Program} {t : TypeId} {fs : Array Field} (ht : P.underlying t = some (.struct fs)) {l : List (Nat × (World → List Value → Prop))} (h : OpensAll P 0 (fs.toList.map fun f => (f.type, f.offset)) l) (hn : P.cellsOf t = cellsAll l) : Opens P t (FieldsShape l) := by
 refine ⟨fun {H} enc w base spare held fuel cs x hx => ?_⟩
 obtain ⟨xs, m, _, _, hlen, hxl, hf⟩ := DataW.trod_struct ht hx
 have gen : ∀ (gs : List Field) (l : List (Nat × (World → List Value → Prop))) (n : Nat), OpensAll P n (gs.map fun f => (f.type, f.offset)) l → cs.length = n + cellsAll l →
   (∀ f ∈ gs, ∃ y, DataW.trod enc P w base spare held m f.type ((cs.drop f.offset).take (P.cellsOf f.type)) = some y) → FieldsShape l w (cs.drop n) := by
  intro gs
  induction gs with
  | nil =>
   intro l n ho hn' _
   cases ho
   simp only [cellsAll] at hn'
   exact List.drop_eq_nil_of_le (by omega)
  | cons g gs ih =>
   intro l n ho hn' hg
   simp only [List.map_cons] at ho
   generalize he : (g.type, g.offset) :: gs.map (fun f => (f.type, f.offset)) = ts at ho
   cases ho with
   | nil => cases he
   | @cons _ k t S ts l hS hk r =>
    injection he with he1 he2
    injection he1 with he3 he4
    subst he3
    subst he4
    subst he2
    obtain ⟨y, hy⟩ := hg g (by simp)
    rw [hk] at hy
    simp only [cellsAll] at hn'
    refine ⟨(cs.drop g.offset).take k, (cs.drop g.offset).drop k, (List.take_append_drop _ _).symm, by rw [List.length_take, List.length_drop]; omega, hS.run enc w base spare held m _ _ hy, ?_⟩
    rw [List.drop_drop]
    exact ih l _ r (by omega) (fun f hf => hg f (by simp [hf]))
 have := gen fs.toList l 0 h (by rw [hlen, hn]; omega) (fun f hfm => by
  obtain ⟨i, hi, he⟩ := List.mem_iff_getElem.1 hfm
  have h1 : fs[i]? = some f := by
   rw [← he]
   rw [Array.getElem?_eq_getElem (by simpa using hi)]
   simp
  have h2 := hf i f h1
  have : i < xs.length := by rw [hxl]; simpa using hi
  rw [List.getElem?_eq_getElem this] at h2
  exact ⟨_, h2⟩)
 simpa using this
theorem Opens.arg {P : Program} {t : TypeId} {S : World → List Value → Prop} (h : Opens P t S) {H : Type} {enc : TypeId × Value → H} {w : World} {base : Nat} {spare : Nat → Bool} {held : Bool} {v : Value} {d : DataW H} {ps : List MemPlace}
  (ht : DataW.Trod enc P w base spare held t v d ps) : S w v.cells.toList := by
 obtain ⟨fuel, hf⟩ := ht
 exact h.run enc w base spare held fuel _ _ hf
theorem trod_below {P : Program} {t : TypeId} {H : Type} {enc : TypeId × Value → H} {w : World} {base : Nat} {spare : Nat → Bool} {held : Bool} {v : Value} {d : DataW H} {ps : List MemPlace}
  (ht : DataW.Trod enc P w base spare held t v d ps) : ∀ x ∈ ps, x.block < w.heap.size := by
 obtain ⟨m, hm⟩ := ht
 exact DataW.trod_lt m _ _ _ hm
end Go.Proofs.YtjaponmpfdpemaaGreatDoor
set_option linter.unusedSimpArgs false
set_option linter.unusedVariables false
namespace Go.Proofs.YtjaponmpfdpemaaGreatDoor
theorem Tryz.own : ownKnob Tryz.prog.godebug = none := by kernel_rfl
end Go.Proofs.YtjaponmpfdpemaaGreatDoor
set_option linter.unusedSimpArgs false
set_option linter.unusedVariables false
namespace Go.Proofs.YtjaponmpfdpemaaGreatDoor
open Go.RowKit Go.ChangeShapes Go.WideShapes
theorem returnsShaped {H : Type} {enc : TypeId × Value → H} {a : Assume} {C : Checked} {os : Os} {f : FuncId} {fn : Func} {s : ChangeSpec} {conds : List PathCond} {apart fresh handsOn again : Bool} {X : World → Array Value → Prop}
  (hX : ∀ (w w' : World) (args : Array Value), w.heap = w'.heap → X w args → X w' args)
  (own : ownKnob C.prog.godebug = none) (started : os.Started) (noInit : C.prog.inits.idxOf? f = none) (hfn : C.prog.funcs[f]? = some fn)
  (witness : ∃ (w : World) (tape : Tape) (i : Input), w.os = os ∧ (w.forCall tape i).Shaped C.prog ∧ i.vars = [] ∧ Input.okWide C.prog (w.forCall tape i) .any w.heap.size f i ∧
   ((s.pre enc C.prog fn conds apart (w.forCall tape i).memory i.args ∧ X (w.forCall tape i).memory i.args) ∧ sizedMet enc C.prog fn (OpenSpec.ofChange s) apart (w.forCall tape i).memory i.args) ∧ a.holds C.prog (lone (Frame.enter C.prog f i.args .normal) [] (w.forCall tape i)))
  (contract : ∀ (W : World) (base : Nat) (args : Array Value) (ds gs : List (DataW H)) (before : List MemPlace),
   (∀ (j : Nat) t v, fn.params[j]? = some t → args[j]? = some v → Value.okWide C.prog W .any base t v) →
   DataW.Whole enc C.prog fn.params.toList s.vars apart W args.toList ds gs before →
   conds.all (PathCond.test C.prog ⟨fn.params.toList, ds, s.plain.varTypes C.prog, gs⟩) = true →
   (DataW.weightsEach C.prog (fn.params.toList ++ s.plain.varTypes C.prog) (ds ++ gs)).all (· ≤ reachBytes) = true → X W args → W.ShapedOpen C.prog →
   a.holds C.prog (lone (Frame.enter C.prog f args .normal) [] W) →
   Calls C.prog f args W fun e W' => ∃ v, e = .returned v ∧ s.post enc C.prog fn apart fresh handsOn again W args v W') :
  ReturnsInHanded a C os f .any (fun w args => (s.pre enc C.prog fn conds apart w args ∧ X w args) ∧ sizedMet enc C.prog fn (OpenSpec.ofChange s) apart w args) (s.post enc C.prog fn apart fresh handsOn again) := by
 refine returnsInHanded_of_calls own started noInit witness ?_
 intro w tape i _ hsh _ hok hpre hholds
 obtain ⟨_, _, _, fn', hfn', _, _, _, _, hval⟩ := hok
 have e : fn' = fn := Option.some.inj (hfn'.symm.trans hfn)
 subst e
 obtain ⟨⟨⟨ds, gs, before, hw, hc⟩, hx⟩, hz⟩ := hpre
 have hw' := DataW.Whole.of_heap (w' := w.forCall tape i) (by rfl) hw
 refine (contract (w.forCall tape i) w.heap.size i.args ds gs before hval hw' hc (hz.weights hw) (hX _ _ _ (by rfl) hx) hsh hholds).mono fun e W' ⟨v, he, hp⟩ => ?_
 subst he
 exact ChangeSpec.post_blind hp
theorem opens_int0 : Opens Tryz.prog 3 (fun _ cs => ∃ n : Int, cs = [.int .i64 n] ∧ i64 n) :=
 (opens_int Tryz.underlying3).mono fun _ cs ⟨n, h, hw⟩ => ⟨n, h, by
  simp [Lit.wf, IntKind.min, IntKind.max, IntKind.signed, IntKind.bits] at hw
  exact hw⟩
theorem opens_str : Opens Tryz.prog 9 (fun _ cs => ∃ s : Bs, cs = [.string ⟨s.toArray⟩] ∧ s.length ≤ maxLen) :=
 (opens_string Tryz.underlying9).mono fun _ cs ⟨s, h, hl⟩ => ⟨s.data.toList, by rw [h], by
  have : s.data.toList.length = s.size := Array.length_toList
  rw [this]
  exact hl⟩
theorem opens_b : Opens Tryz.prog 4 (fun _ cs => ∃ b, cs = [.bool b]) := opens_bool Tryz.underlying4
theorem opens_ad : Opens Tryz.prog 45 (fun _ cs => ∃ a : Ad, cs = (adC a).toList ∧ i64 a.n) :=
 (opens_fields Tryz.underlying45 (.cons 1 opens_int0 (by kernel_rfl) (.cons 1 opens_b (by kernel_rfl) (.cons 1 opens_str (by kernel_rfl) (.cons 1 opens_str (by kernel_rfl) (.cons 1 opens_str (by kernel_rfl) (.cons 1 opens_str (by kernel_rfl) (.cons 1 opens_str (by kernel_rfl) (.cons 1 opens_str (by kernel_rfl) (.cons 1 opens_str (by kernel_rfl) (.cons 1 opens_str (by kernel_rfl) (.cons 1 opens_str (by kernel_rfl) .nil))))))))))) (by kernel_rfl)).mono fun w cs h => by
  obtain ⟨_, _, rfl, _, ⟨n, rfl, hn⟩, _, _, rfl, _, ⟨hf, rfl⟩, _, _, rfl, _, ⟨a, rfl, _⟩, _, _, rfl, _, ⟨b, rfl, _⟩, _, _, rfl, _, ⟨c, rfl, _⟩, _, _, rfl, _, ⟨d, rfl, _⟩, _, _, rfl, _, ⟨e, rfl, _⟩, _, _, rfl, _, ⟨f, rfl, _⟩, _, _, rfl, _, ⟨g, rfl, _⟩, _, _, rfl, _, ⟨h, rfl, _⟩, _, _, rfl, _, ⟨i, rfl, _⟩, rfl⟩ := h
  exact ⟨⟨n, hf, a, b, c, d, e, f, g, h, i⟩, rfl, hn⟩
def laid9 : List (String × DataW Unit) := [("math/bits.deBruijn32tab", Rows.laid_math_bits_deBruijn32tab), ("math/bits.deBruijn64tab", Rows.laid_math_bits_deBruijn64tab), ("internal/strconv.uint64pow10", Rows.laid_internal_strconv_uint64pow10), ("unicode/utf8.acceptRanges", Rows.laid_unicode_utf8_acceptRanges), ("strconv.ErrRange", Rows.laid_strconv_ErrRange), ("strconv.ErrSyntax", Rows.laid_strconv_ErrSyntax), ("unicode.White_Space", Rows.laid_unicode_White_Space), ("strings.asciiSpace", Rows.laid_strings_asciiSpace), ("unicode/utf8.first", Rows.laid_unicode_utf8_first)]
theorem all_met9 (os : Os) (args : Array Value) : laidMetH Tryz.prog laid9 ((World.laidAll Tryz.prog os laid9).forCall (fun _ _ => 0) ⟨#[], args, []⟩).memory := by
 rw [MakeChecks.laidMetH_plain _ _ _ (by kernel_rfl)]
 exact laidMet_laidAll _ (by kernel_rfl) (by kernel_rfl)
theorem shaped9 (os : Os) : (World.laidAll Tryz.prog os laid9).Shaped Tryz.prog := World.shaped_of_ZipB (by kernel_rfl) (by kernel_rfl)
theorem iface_cell {W : World} {n : String} {g : Nat} {name : String} {d : DataW Unit} {ms : Array (String × TypeId)} {t : TypeId} (hg : Tryz.prog.globalNamed n = some g) (ht : (Tryz.prog.globals[g]?).map (·.type) = some t) (hi : Tryz.prog.underlying t = some (.interface ms)) (h : Lib.VarReads Tryz.prog W n (.iface name d)) :
  ∃ v, W.cell? ⟨g, 0, none⟩ = some v ∧ (v = .nilIface ∨ ∃ te pe, v = .iface te pe) := by
 obtain ⟨g', t', cs, fuel, p, hg', ht', hv, hd⟩ := h
 obtain rfl := Option.some.inj (hg.symm.trans hg')
 obtain rfl := Option.some.inj (ht.symm.trans ht')
 obtain ⟨_, u, v, e, _, _⟩ := iface_of_trod hi hd
 refine ⟨.iface u v, ?_, .inr ⟨u, v, rfl⟩⟩
 rw [var?_cell hg hv 0]
 have : cs[0]? = cs.toList[0]? := by simp
 rw [this, e]
 rfl
theorem std_of_laid {W : World} (h : laidMetH Tryz.prog laid9 W) (hsh : W.ShapedOpen Tryz.prog) : Std W := by
 rw [MakeChecks.laidMetH_plain _ _ _ (by kernel_rfl)] at h
 have rd := fun {n : String} {d : DataW Unit} (hm : (n, d) ∈ laid9) => Lib.laidMet.reads h hm
 refine ⟨?_, ?_, ?_, ?_, ?_⟩
 ·obtain ⟨g', t', cs, fuel, p, hg', ht', hvar, hd⟩ := rd (n := "internal/strconv.uint64pow10") (d := Rows.laid_internal_strconv_uint64pow10) (by simp [laid9])
  have hg : Tryz.prog.globalNamed "internal/strconv.uint64pow10" = some 9 := by kernel_rfl
  have hty : (Tryz.prog.globals[9]?).map (·.type) = some 280 := by kernel_rfl
  obtain rfl := Option.some.inj (hg.symm.trans hg')
  obtain rfl := Option.some.inj (hty.symm.trans ht')
  have e : (Rows.laid_internal_strconv_uint64pow10 : DataW Unit) = Lib.tabData .u64 Lib.pow10Tab := by kernel_rfl
  rw [e] at hd
  unfold Lib.TabIs
  rw [hvar, ← Lib.cells_of_tab (zs := Lib.pow10Tab) Tryz.underlying280 Tryz.underlying96 (by kernel_rfl) (by kernel_rfl) hd]
 ·obtain ⟨g', t', cs, fuel, p, hg', ht', hvar, hd⟩ := rd (n := "strings.asciiSpace") (d := Rows.laid_strings_asciiSpace) (by simp [laid9])
  have hg : Tryz.prog.globalNamed "strings.asciiSpace" = some 5 := by kernel_rfl
  have hty : (Tryz.prog.globals[5]?).map (·.type) = some 121 := by kernel_rfl
  obtain rfl := Option.some.inj (hg.symm.trans hg')
  obtain rfl := Option.some.inj (hty.symm.trans ht')
  have e : (Rows.laid_strings_asciiSpace : DataW Unit) = Lib.tabData .u8 Lib.asciiSpaceTab := by kernel_rfl
  rw [e] at hd
  unfold Lib.TabIs
  rw [hvar, ← Lib.cells_of_tab (zs := Lib.asciiSpaceTab) Tryz.underlying121 Tryz.underlying5 (by kernel_rfl) (by kernel_rfl) hd]
 ·exact cell_of_shapedOpen_int (t := 3) (zero := #[.int .i64 0]) hsh (of_decide_eq_true (by kernel_rfl)) (by kernel_rfl) rfl (by kernel_rfl) (by kernel_rfl) Tryz.underlying3
 ·exact iface_cell (n := "strconv.ErrSyntax") (t := 133) (by kernel_rfl) (by kernel_rfl) Tryz.underlying133 (rd (d := Rows.laid_strconv_ErrSyntax) (by simp [laid9]))
 ·exact iface_cell (n := "strconv.ErrRange") (t := 133) (by kernel_rfl) (by kernel_rfl) Tryz.underlying133 (rd (d := Rows.laid_strconv_ErrRange) (by simp [laid9]))
end Go.Proofs.YtjaponmpfdpemaaGreatDoor
set_option linter.unusedSimpArgs false
set_option linter.unusedVariables false
namespace Go.Proofs.YtjaponmpfdpemaaGreatDoor
open Go.RowKit Go.ChangeShapes Go.WideShapes
structure Sr.I64 (s : Sr) : Prop where
 fr : i64 s.fr
 to_ : i64 s.to_
 side : i64 s.side
 ax : i64 s.ax
 ay : i64 s.ay
 bx : i64 s.bx
 by_ : i64 s.by_
theorem opens_pt : Opens Tryz.prog 23 (fun _ cs => ∃ x y : Int, cs = [.int .i64 x, .int .i64 y] ∧ i64 x ∧ i64 y) :=
 (opens_fields Tryz.underlying23 (.cons 1 opens_int0 (by kernel_rfl) (.cons 1 opens_int0 (by kernel_rfl) .nil)) (by kernel_rfl)).mono fun w cs h => by
  obtain ⟨_, _, rfl, _, ⟨x, rfl, hx⟩, _, _, rfl, _, ⟨y, rfl, hy⟩, rfl⟩ := h
  exact ⟨x, y, rfl, hx, hy⟩
theorem opens_sr : Opens Tryz.prog 25 (fun _ cs => ∃ s : Sr, cs = srL s ∧ s.I64) :=
 (opens_fields Tryz.underlying25 (.cons 1 opens_str (by kernel_rfl) (.cons 1 opens_str (by kernel_rfl) (.cons 1 opens_str (by kernel_rfl) (.cons 1 opens_str (by kernel_rfl) (.cons 1 opens_str (by kernel_rfl) (.cons 1 opens_str (by kernel_rfl) (.cons 1 opens_int0 (by kernel_rfl) (.cons 1 opens_int0 (by kernel_rfl) (.cons 1 opens_int0 (by kernel_rfl) (.cons 2 opens_pt (by kernel_rfl) (.cons 2 opens_pt (by kernel_rfl) .nil))))))))))) (by kernel_rfl)).mono fun w cs h => by
  obtain ⟨_, _, rfl, _, ⟨a, rfl, _⟩, _, _, rfl, _, ⟨b, rfl, _⟩, _, _, rfl, _, ⟨c, rfl, _⟩, _, _, rfl, _, ⟨d, rfl, _⟩, _, _, rfl, _, ⟨e, rfl, _⟩, _, _, rfl, _, ⟨f, rfl, _⟩, _, _, rfl, _, ⟨g, rfl, hg⟩, _, _, rfl, _, ⟨h, rfl, hh⟩, _, _, rfl, _, ⟨i, rfl, hi⟩, _, _, rfl, _, ⟨j, k, rfl, hj, hk⟩, _, _, rfl, _, ⟨m, n, rfl, hm, hn⟩, rfl⟩ := h
  exact ⟨⟨a, b, c, d, e, f, g, h, i, j, k, m, n⟩, rfl, hg, hh, hi, hj, hk, hm, hn⟩
theorem opens_srs : Opens Tryz.prog 27 (fun w cs => ∃ (A : Option Addr) (cap : Nat) (l : List Sr), cs = [.slice A l.length cap] ∧ l.length ≤ cap ∧ cap ≤ maxLen ∧ (∀ s ∈ l, s.I64) ∧ Reads w w.heap.size 13 A l.length (srCells l)) :=
 (opens_slice 13 Tryz.underlying27 (by kernel_rfl) (by decide) opens_sr).mono fun w cs h =>
  SliceOf.list (code := srL) (p := fun s => s.I64) h (fun x ⟨l, hl, hp⟩ => ⟨l, hl, hp⟩)
end Go.Proofs.YtjaponmpfdpemaaGreatDoor
set_option linter.unusedSimpArgs false
set_option linter.unusedVariables false
namespace Go.Proofs.YtjaponmpfdpemaaGreatDoor
open Go.RowKit Go.ChangeShapes Go.WideShapes
def adCells (l : List Ad) : List Value := l.flatMap fun a => (adC a).toList
theorem opens_ads : Opens Tryz.prog 55 (fun w cs => ∃ (A : Option Addr) (cap : Nat) (l : List Ad), cs = [.slice A l.length cap] ∧ l.length ≤ cap ∧ cap ≤ maxLen ∧ (∀ a ∈ l, i64 a.n) ∧ Reads w w.heap.size 11 A l.length (adCells l)) :=
 (opens_slice 11 Tryz.underlying55 (by kernel_rfl) (by decide) opens_ad).mono fun w cs h =>
  SliceOf.list (code := fun a => (adC a).toList) (p := fun a => i64 a.n) h (fun x ⟨l, hl, hp⟩ => ⟨l, hl, hp⟩)
theorem ad_at {w : World} {B : Nat} {A : Option Addr} {l : List Ad} (hr : Reads w B 11 A l.length (adCells l)) {k : Nat} (hk : k < l.length) : ∃ g off, A = some ⟨g, off, none⟩ ∧ g < B ∧ ∀ j, j < 11 → w.cell? ⟨g, off + k * 11 + j, none⟩ = (adC l[k])[j]? := by
 obtain ⟨g, off, rfl, hg, hc⟩ := hr.cellAt hk
 refine ⟨g, off, rfl, hg, fun j hj => ?_⟩
 rw [Nat.add_assoc, show (adC l[k])[j]? = (adC l[k]).toList[j]? by simp]
 cases hu : (adC l[k]).toList[j]? with
 | none =>
  rw [List.getElem?_eq_none_iff] at hu
  have : (adC l[k]).toList.length = 11 := rfl
  omega
 | some u => exact hc _ _ ((flat_get (f := fun a => (adC a).toList) (c := 11) (fun _ => rfl) l k j hk hj).trans hu)
end Go.Proofs.YtjaponmpfdpemaaGreatDoor
