/-
  Arguments opened: what a reading of an argument says of its cells, type by type.
-/
import Derived.Test.YtokakpbpenndlaaGreatDoorRs01
import Derived.ProofKit
import Derived.Deep.Slices
import Derived.Test.YtokakpbpenndlaaGreatDoorRs05
import Derived.Test.YtokakpbpenndlaaGreatDoorRs02
import Derived.StillTailTactics
import Derived.Deep.RegionLaw
import Derived.Test.YtokakpbpenndlaaGreatDoorRs07
set_option linter.unusedVariables false
namespace Go.Proofs.YtokakpbpenndlaaGreatDoor
open Go.RowKit Go.ChangeShapes Go.WideShapes Go.Deep

/-- Whatever reads as a value of type t has cells of this shape. -/
structure Opens (P : Program) (t : TypeId) (S : World → List Value → Prop) : Prop where
  run : ∀ {H : Type} (enc : TypeId × Value → H) (w : World) (base : Nat) (spare : Nat → Bool) (held : Bool) (fuel : Nat) (cs : List Value) (x : DataW H × List MemPlace),
    DataW.trod enc P w base spare held fuel t cs = some x → S w cs
theorem Opens.mono {P : Program} {t : TypeId} {S S' : World → List Value → Prop} (h : Opens P t S) (hs : ∀ w cs, S w cs → S' w cs) : Opens P t S' :=
  ⟨fun enc w base spare held fuel cs x hx => hs _ _ (h.run enc w base spare held fuel cs x hx)⟩
theorem opens_int {P : Program} {t : TypeId} {k : IntKind} (ht : P.underlying t = some (.int k)) : Opens P t (fun _ cs => ∃ n, cs = [.int k n] ∧ (Lit.int k n).wf = true) := by
  refine ⟨fun {H} enc w base spare held fuel cs x hx => ?_⟩
  obtain ⟨n, h1, _, h3⟩ := DataW.trod_int ht hx
  exact ⟨n, h1, h3⟩
theorem opens_bool {P : Program} {t : TypeId} (ht : P.underlying t = some .bool) : Opens P t (fun _ cs => ∃ b, cs = [.bool b]) := by
  refine ⟨fun {H} enc w base spare held fuel cs x hx => ?_⟩
  obtain ⟨n, h1, _⟩ := DataW.trod_bool ht hx
  exact ⟨n, h1⟩
theorem opens_string {P : Program} {t : TypeId} (ht : P.underlying t = some .string) : Opens P t (fun _ cs => ∃ s : ByteArray, cs = [.string s] ∧ s.size ≤ maxLen) := by
  refine ⟨fun {H} enc w base spare held fuel cs x hx => ?_⟩
  obtain ⟨n, h1, _, h3⟩ := DataW.trod_string ht hx
  exact ⟨n, h1, h3⟩
/-- A struct, field by field: each field's cells have its shape. -/
theorem opens_struct {P : Program} {t : TypeId} {fs : Array Field} (ht : P.underlying t = some (.struct fs)) (S : Nat → World → List Value → Prop) (n : Nat) (hn : P.cellsOf t = n)
    (h : ∀ i f, fs[i]? = some f → Opens P f.type (S i)) :
    Opens P t (fun w cs => cs.length = n ∧ ∀ i f, fs[i]? = some f → S i w ((cs.drop f.offset).take (P.cellsOf f.type))) := by
  refine ⟨fun {H} enc w base spare held fuel cs x hx => ?_⟩
  obtain ⟨xs, m, _, _, hlen, hxl, hf⟩ := DataW.trod_struct ht hx
  refine ⟨by rw [hlen, hn], fun i f hi => ?_⟩
  have hil : i < xs.length := by rw [hxl]; exact (Array.getElem?_eq_some_iff.1 hi).1
  have := hf i f hi
  rw [List.getElem?_eq_getElem hil] at this
  exact (h i f hi).run enc w base spare held m _ _ this
/-- A slice whose elements have c cells each, of shape S. -/
def SliceOf (c : Nat) (S : World → List Value → Prop) (w : World) (cs : List Value) : Prop :=
  ∃ (A : Option Addr) (len cap : Nat) (L : List (List Value)), cs = [.slice A len cap] ∧ len ≤ cap ∧ cap ≤ maxLen ∧ L.length = len ∧ (∀ x ∈ L, x.length = c ∧ S w x) ∧ Reads w w.heap.size c A len L.flatten
theorem flat_at {c : Nat} : ∀ (L : List (List Value)) (_ : ∀ x ∈ L, x.length = c) (j : Nat) (u : Value), L.flatten[j]? = some u → ∃ i k, i < L.length ∧ k < c ∧ j = i * c + k ∧ ∃ x, L[i]? = some x ∧ x[k]? = some u
  | [], _, j, u, h => by simp at h
  | x :: L, hL, j, u, h => by
    have hx : x.length = c := hL x (by simp)
    rw [List.flatten_cons, List.getElem?_append] at h
    split at h
    · rename_i hj
      exact ⟨0, j, by simp, by omega, by simp, x, by simp, h⟩
    · rename_i hj
      obtain ⟨i, k, hi, hk, he, y, hy, hu⟩ := flat_at L (fun y hy => hL y (by simp [hy])) (j - x.length) u h
      refine ⟨i + 1, k, by simp; omega, hk, by rw [Nat.add_mul]; omega, y, by simpa using hy, hu⟩
theorem opens_slice {P : Program} {t e : TypeId} (c : Nat) {S : World → List Value → Prop} (ht : P.underlying t = some (.slice e)) (hC : P.cellsOf e = c) (hc : 0 < c) (h : Opens P e S) : Opens P t (SliceOf c S) := by
  refine ⟨fun {H} enc w base spare held fuel cs x hx => ?_⟩
  rcases open_slice ht hx with ⟨rfl, _⟩ | ⟨a, len, cap, m, n, D, Pl, rfl, hb, hl, hm, hmm, _, hi⟩
  · exact ⟨none, 0, 0, [], rfl, Nat.le_refl _, by simp [maxLen], rfl, by simp, by simpa using Reads.none_⟩
  · have hlm : len ≤ m := by rw [hmm]; split <;> omega
    rw [hC] at hi
    obtain ⟨f, hf⟩ : ∃ f : Nat → List Value, ∀ i, i < len → w.cells? base (a.add (i * c)) c = some (f i) ∧ DataW.trod enc P w base spare held n e (f i) = some (D i, Pl i) := by
      refine ⟨fun i => if hi' : i < m then (hi i hi').choose else [], fun i hil => ?_⟩
      have him : i < m := by omega
      simp only [dif_pos him]
      exact (hi i him).choose_spec
    refine ⟨some a, len, cap, (List.range len).map f, rfl, hl, hm, by simp, ?_, ?_⟩
    · intro x hx
      simp only [List.mem_map, List.mem_range] at hx
      obtain ⟨i, hil, rfl⟩ := hx
      obtain ⟨h1, h2⟩ := hf i hil
      obtain ⟨_, hcl, _⟩ := World.cells?_some h1
      exact ⟨hcl, h.run enc w base spare held n _ _ h2⟩
    · have hall : ∀ x ∈ (List.range len).map f, x.length = c := by
        intro x hx
        simp only [List.mem_map, List.mem_range] at hx
        obtain ⟨i, hil, rfl⟩ := hx
        exact (World.cells?_some (hf i hil).1).2.1
      have hlen : ((List.range len).map f).flatten.length = len * c := by
        have gen : ∀ (L : List (List Value)), (∀ x ∈ L, x.length = c) → L.flatten.length = L.length * c := by
          intro L
          induction L with
          | nil => intro _; simp
          | cons y L ih =>
            intro hL
            rw [List.flatten_cons, List.length_append, ih (fun z hz => hL z (by simp [hz])), hL y (by simp), List.length_cons, Nat.add_mul]
            omega
        rw [gen _ hall]; simp
      refine ⟨hlen, fun hp => ?_⟩
      have hget : ∀ i k u, i < len → k < c → (f i)[k]? = some u → w.cell? ((a.add (i * c)).add k) = some u := by
        intro i k u hil hk hu
        obtain ⟨_, hcl, hat⟩ := World.cells?_some (hf i hil).1
        exact (hat k hk).trans hu
      obtain ⟨b, off, spot⟩ := a
      have h0 : ∃ u, (f 0)[0]? = some u := by
        have := (World.cells?_some (hf 0 hp).1).2.1
        exact ⟨_, List.getElem?_eq_getElem (by omega)⟩
      obtain ⟨u0, hu0⟩ := h0
      have hc0 := hget 0 0 u0 hp hc hu0
      have hspot : spot = none := by
        have := World.cell?_spot hc0
        simpa [Addr.add] using this
      subst hspot
      refine ⟨b, off, rfl, ?_, fun j u hu => ?_⟩
      · rcases Nat.lt_or_ge b w.heap.size with hlt | hge
        · exact hlt
        · exfalso
          rw [add_of_add, add_flat] at hc0
          unfold World.cell? at hc0
          rw [Array.getElem?_eq_none hge] at hc0
          simp at hc0
      · obtain ⟨i, k, hil, hk, rfl, x, hx, hxk⟩ := flat_at _ hall j u hu
        have hil' : i < len := by simpa using hil
        have : x = f i := by
          rw [List.getElem?_eq_getElem hil] at hx
          simpa using hx.symm
        subst this
        have := hget i k u hil' hk hxk
        rw [add_of_add, add_flat] at this
        rw [← this]
/-- The elements of a slice, each the coding of something plain. -/
theorem SliceOf.list {α : Type} {c : Nat} {S : World → List Value → Prop} {code : α → List Value} {p : α → Prop} {w : World} {cs : List Value} (h : SliceOf c S w cs) (hS : ∀ x, S w x → ∃ a, x = code a ∧ p a) :
    ∃ (A : Option Addr) (cap : Nat) (l : List α), cs = [.slice A l.length cap] ∧ l.length ≤ cap ∧ cap ≤ maxLen ∧ (∀ a ∈ l, p a) ∧ Reads w w.heap.size c A l.length (l.flatMap code) := by
  obtain ⟨A, len, cap, L, rfl, hl, hm, hL, hall, hr⟩ := h
  have gen : ∀ (M : List (List Value)), (∀ x ∈ M, S w x) → ∃ l : List α, M = l.map code ∧ ∀ a ∈ l, p a := by
    intro M
    induction M with
    | nil => intro _; exact ⟨[], rfl, by simp⟩
    | cons y M ih =>
      intro hM
      obtain ⟨l, rfl, hp⟩ := ih (fun z hz => hM z (by simp [hz]))
      obtain ⟨a, rfl, ha⟩ := hS y (hM y (by simp))
      exact ⟨a :: l, rfl, by simpa using ⟨ha, hp⟩⟩
  obtain ⟨l, rfl, hp⟩ := gen L (fun x hx => (hall x hx).2)
  simp only [List.length_map] at hL
  subst hL
  refine ⟨A, cap, l, rfl, hl, hm, hp, ?_⟩
  rw [← List.flatMap_def] at hr
  exact hr
/-- Fields one behind the other: so many cells each, of this shape. -/
def FieldsShape : List (Nat × (World → List Value → Prop)) → World → List Value → Prop
  | [], _, cs => cs = []
  | (k, S) :: r, w, cs => ∃ a b, cs = a ++ b ∧ a.length = k ∧ S w a ∧ FieldsShape r w b
inductive OpensAll (P : Program) : Nat → List (TypeId × Nat) → List (Nat × (World → List Value → Prop)) → Prop
  | nil {n : Nat} : OpensAll P n [] []
  | cons {n : Nat} (k : Nat) {t : TypeId} {S : World → List Value → Prop} {ts : List (TypeId × Nat)} {l : List (Nat × (World → List Value → Prop))} (h : Opens P t S) (hk : P.cellsOf t = k) (r : OpensAll P (n + k) ts l) : OpensAll P n ((t, n) :: ts) ((k, S) :: l)
def cellsAll : List (Nat × (World → List Value → Prop)) → Nat
  | [] => 0
  | (k, _) :: r => k + cellsAll r
theorem opens_fields {P : Program} {t : TypeId} {fs : Array Field} (ht : P.underlying t = some (.struct fs)) {l : List (Nat × (World → List Value → Prop))} (h : OpensAll P 0 (fs.toList.map fun f => (f.type, f.offset)) l) (hn : P.cellsOf t = cellsAll l) : Opens P t (FieldsShape l) := by
  refine ⟨fun {H} enc w base spare held fuel cs x hx => ?_⟩
  obtain ⟨xs, m, _, _, hlen, hxl, hf⟩ := DataW.trod_struct ht hx
  have gen : ∀ (gs : List Field) (l : List (Nat × (World → List Value → Prop))) (n : Nat), OpensAll P n (gs.map fun f => (f.type, f.offset)) l → cs.length = n + cellsAll l →
      (∀ f ∈ gs, ∃ y, DataW.trod enc P w base spare held m f.type ((cs.drop f.offset).take (P.cellsOf f.type)) = some y) → FieldsShape l w (cs.drop n) := by
    intro gs
    induction gs with
    | nil =>
      intro l n ho hn' _
      cases ho
      simp only [cellsAll] at hn'
      exact List.drop_eq_nil_of_le (by omega)
    | cons g gs ih =>
      intro l n ho hn' hg
      simp only [List.map_cons] at ho
      generalize he : (g.type, g.offset) :: gs.map (fun f => (f.type, f.offset)) = ts at ho
      cases ho with
      | nil => cases he
      | @cons _ k t S ts l hS hk r =>
        injection he with he1 he2
        injection he1 with he3 he4
        subst he3
        subst he4
        subst he2
        obtain ⟨y, hy⟩ := hg g (by simp)
        rw [hk] at hy
        simp only [cellsAll] at hn'
        refine ⟨(cs.drop g.offset).take k, (cs.drop g.offset).drop k, (List.take_append_drop _ _).symm, by rw [List.length_take, List.length_drop]; omega, hS.run enc w base spare held m _ _ hy, ?_⟩
        rw [List.drop_drop]
        exact ih l _ r (by omega) (fun f hf => hg f (by simp [hf]))
  have := gen fs.toList l 0 h (by rw [hlen, hn]; omega) (fun f hfm => by
    obtain ⟨i, hi, he⟩ := List.mem_iff_getElem.1 hfm
    have h1 : fs[i]? = some f := by
      rw [← he]
      rw [Array.getElem?_eq_getElem (by simpa using hi)]
      simp
    have h2 := hf i f h1
    have : i < xs.length := by rw [hxl]; simpa using hi
    rw [List.getElem?_eq_getElem this] at h2
    exact ⟨_, h2⟩)
  simpa using this
/-- What an argument's reading says. -/
theorem Opens.arg {P : Program} {t : TypeId} {S : World → List Value → Prop} (h : Opens P t S) {H : Type} {enc : TypeId × Value → H} {w : World} {base : Nat} {spare : Nat → Bool} {held : Bool} {v : Value} {d : DataW H} {ps : List MemPlace}
    (ht : DataW.Trod enc P w base spare held t v d ps) : S w v.cells.toList := by
  obtain ⟨fuel, hf⟩ := ht
  exact h.run enc w base spare held fuel _ _ hf
theorem trod_below {P : Program} {t : TypeId} {H : Type} {enc : TypeId × Value → H} {w : World} {base : Nat} {spare : Nat → Bool} {held : Bool} {v : Value} {d : DataW H} {ps : List MemPlace}
    (ht : DataW.Trod enc P w base spare held t v d ps) : ∀ x ∈ ps, x.block < w.heap.size := by
  obtain ⟨m, hm⟩ := ht
  exact DataW.trod_lt m _ _ _ hm
end Go.Proofs.YtokakpbpenndlaaGreatDoor

set_option linter.unusedVariables false
namespace Go.Proofs.YtokakpbpenndlaaGreatDoor
open Go.RowKit

/-- Numbers as cells. -/
def iV (l : List Int) : List Value := l.map fun n => .int .i64 n
theorem iV_one (l : List Int) : ∀ u ∈ iV l, u.oneCell' = true := by
  intro u hu
  simp only [iV, List.mem_map] at hu
  obtain ⟨b, _, rfl⟩ := hu
  rfl
theorem iV_at (l : List Int) (k : Nat) (h : k < l.length) : (iV l)[k]? = some (.int .i64 l[k]) := by simp [iV, h]
def PutsRel (w : World) (l : List Int) (o i : Value) (wr : World) : Prop :=
  ∃ k : Nat, k ≤ l.length ∧ i = .int .i64 (k : Int) ∧ wr.ownsRow w.heap.size 5 1 o (putsL (l.take k)).length (bV (putsL (l.take k))) ∧ Ext w wr ∧ AllP wr o u8P
theorem PutsRel.next {w w1 : World} {l : List Int} {k : Nat} {v1 : Value} {n m : Nat} {xs : List Value} (hk : k < l.length) (hg : w1.ownsRow w.heap.size 5 1 v1 n xs) (hn : n = (putsL (l.take k)).length + (putL l[k]).length) (hxs : xs = bV (putsL (l.take k)) ++ bV (putL l[k])) (hx : Ext w w1) (hall : AllP w1 v1 u8P) (hm : m = k + 1) : PutsRel w l v1 (.int .i64 (m : Int)) w1 := by
  subst hm hn hxs
  refine ⟨k + 1, by omega, rfl, ?_, hx, hall⟩
  rw [putsL_snoc l k hk, bV_app, List.length_append]
  exact hg
theorem PutsRel.done {w w1 : World} {l : List Int} {k : Nat} {o : Value} (hk : k = l.length) (h : w1.ownsRow w.heap.size 5 1 o (putsL (l.take k)).length (bV (putsL (l.take k)))) : w1.ownsRow w.heap.size 5 1 o (putsL l).length (bV (putsL l)) := by
  subst hk; rwa [List.take_length] at h

end Go.Proofs.YtokakpbpenndlaaGreatDoor

set_option linter.unusedVariables false
namespace Go.Proofs.YtokakpbpenndlaaGreatDoor
open Go.RowKit

theorem conv_reads {w : World} {B n cap : Nat} {A : Option Addr} {l : List UInt8} (h : Reads w B 1 A n (bV l)) :
    (convert 24 9 (.slice A n cap)).run Tryz.prog w = .ok (.string ⟨l.toArray⟩) w := by
  have hl : l.length = n := by have := h.1; simpa [bV] using this
  rcases A with _ | ad
  · have h0 : n = 0 := by
      rcases Nat.eq_zero_or_pos n with h0 | h0
      · exact h0
      · obtain ⟨b, off, e, _⟩ := h.2 h0; cases e
    subst h0
    have : l = [] := List.eq_nil_of_length_eq_zero hl
    subst this
    exact run_convert_bytes_nil w _ _ Tryz.underlying24 Tryz.underlying5 _ _ _ Tryz.underlying9
  · rcases Nat.eq_zero_or_pos n with h0 | h0
    · subst h0
      have : l = [] := List.eq_nil_of_length_eq_zero hl
      subst this
      have h2 := run_convert_bytes_string (P := Tryz.prog) w 24 9 5 (some ad) 0 cap Tryz.underlying24 Tryz.underlying5 Tryz.underlying9
      have h3 := run_bytesToString (P := Tryz.prog) w ad 0 cap [] (by simp [loadCells, loadCellsFrom])
      rw [h2, h3]
      simp [ByteArray.empty, ByteArray.emptyWithCapacity]
      rfl
    · obtain ⟨b, off, e, hb, hc⟩ := h.2 h0
      obtain rfl := Option.some.inj e
      have := run_convert_bytes_arg w 24 5 Tryz.underlying24 Tryz.underlying5 b off n cap (l.map fun b => (b.toNat : Int)) (by simpa using hl) (fun i hi => by
        refine hc i _ ?_
        simp [bV, List.getD, List.getElem?_eq_getElem (show i < l.length by omega)]) _ Tryz.underlying9
      rw [this]
      simp [strOfNums, Function.comp_def]

theorem sameBytes_any (a b : List UInt8) (A A' : Option Addr) (n n' c c' : Nat) (w : World) (h1 : Reads w w.heap.size 1 A n (bV a)) (h2 : Reads w w.heap.size 1 A' n' (bV b)) :
    Calls Tryz.prog 20 #[.slice A n c, .slice A' n' c'] w fun e w' => e = .returned (.bool (a == b)) ∧ w = w' := by
  have k1 := conv_reads (cap := c) h1
  have k2 := conv_reads (cap := c') h2
  clear h1 h2
  go_enter Tryz.func20, Tryz.ntmps20
  go_wp2
  go_ret
  exact ⟨rfl, rfl⟩

theorem lnCells_one (l : List Ln) : ∀ u ∈ lnCells l, u.oneCell' = true := by
  intro u hu
  simp only [lnCells, List.mem_flatMap, Ln.cells] at hu
  obtain ⟨x, _, hx⟩ := hu
  simp at hx
  rcases hx with rfl | rfl <;> rfl
theorem lnCells_len (l : List Ln) : (lnCells l).length = l.length * 2 := by
  induction l with
  | nil => rfl
  | cons a l ih => simp only [lnCells, List.flatMap_cons, List.length_append, List.length_cons] at *; rw [ih]; simp [Ln.cells]; omega

def SameRel (w : World) (n : Nat) (P : Nat → Prop) (i : Value) (wr : World) : Prop := ∃ k : Nat, k ≤ n ∧ i = .int .i64 (k : Int) ∧ Ext w wr ∧ ∀ j, j < k → P j

theorem eq_of_at {α : Type} (a b : List α) (hl : a.length = b.length) (h : ∀ j (h1 : j < a.length) (h2 : j < b.length), a[j] = b[j]) : a = b := List.ext_getElem hl (fun j h1 h2 => h j h1 h2)

theorem SameRel.done {α : Type} {w wr : World} {a b : List α} {k : Nat} (hk : a.length ≤ k) (hl : a.length = b.length) (hP : ∀ j, j < k → a[j]? = b[j]?) : a = b := by
  refine List.ext_getElem hl fun j h1 h2 => ?_
  have := hP j (by omega)
  simpa [h1, h2] using this
theorem SameRel.next {w w1 : World} {n k m : Nat} {P : Nat → Prop} (hk : k < n) (hx : Ext w w1) (hP : ∀ j, j < k → P j) (h : P k) (hm : m = k + 1) : SameRel w n P (.int .i64 (m : Int)) w1 := by
  subst hm
  exact ⟨k + 1, by omega, rfl, hx, fun j hj => by rcases Nat.lt_or_ge j k with h1 | h1; exact hP j h1; rw [show j = k by omega]; exact h⟩
theorem len_ne {α : Type} {a b : List α} (h : a.length ≠ b.length) : decide ((a.length : Int) = b.length) = false := by simp; omega

theorem eql_pt (a b c d : Int) (w : World) : (binOp .eql 241 (.agg #[.int .i64 a, .int .i64 b]) (.agg #[.int .i64 c, .int .i64 d])).run Tryz.prog w = .ok (.bool (a == c && b == d)) w := by
  by_cases h1 : a = c <;> by_cases h2 : b = d <;> simp [go_sem, h1, h2]

def ordV (o : Ord) (A : Option Addr) (cap : Nat) : Value := .agg #[.int .i64 o.cu, .int .i64 o.day, .int .i64 o.px, .int .i64 o.py, .slice A o.ls.length cap]

end Go.Proofs.YtokakpbpenndlaaGreatDoor

set_option linter.unusedVariables false
namespace Go.Proofs.YtokakpbpenndlaaGreatDoor
open Go.RowKit

def Ord.bytes (o : Ord) : List UInt8 := if o.check.1 = 0 then putsL (o.hd ++ lnInts o.ls) else []
theorem Ord.bytes_ok {o : Ord} (h : o.check.1 = 0) : o.bytes = putsL o.hd ++ putsL (lnInts o.ls) := by rw [Ord.bytes, if_pos h, putsL_app]
theorem Ord.bytes_no {o : Ord} (h : o.check.1 ≠ 0) : o.bytes = [] := by rw [Ord.bytes, if_neg h]
theorem win_i64 {n lo hi : Int} (h : win n lo hi = true) (h1 : -9223372036854775808 ≤ lo) (h2 : hi ≤ 9223372036854775807) : i64 n := by
  have := win_bd h; exact ⟨by omega, by omega⟩
theorem Ord.hd_i64 {o : Ord} (h : o.check.1 = 0) : ∀ n ∈ o.hd, i64 n := by
  obtain ⟨h0, _, h2, _⟩ := Ord.check_ok h
  simp only [Ord.head, Bool.and_eq_true] at h0
  obtain ⟨⟨⟨a, b⟩, c⟩, d⟩ := h0
  intro n hn
  simp only [Ord.hd, List.mem_cons, List.not_mem_nil, or_false] at hn
  rcases hn with rfl | rfl | rfl | rfl | rfl
  · exact win_i64 a (by omega) (by omega)
  · exact win_i64 b (by omega) (by omega)
  · exact win_i64 c (by omega) (by omega)
  · exact win_i64 d (by omega) (by omega)
  · exact ⟨by omega, by omega⟩
theorem Ln.i64 {l : Ln} (h : l.ok = true) : ∀ n ∈ [l.c, l.a], Go.Proofs.YtokakpbpenndlaaGreatDoor.i64 n := by
  simp only [Ln.ok, Bool.and_eq_true] at h
  intro n hn
  simp only [List.mem_cons, List.not_mem_nil, or_false] at hn
  rcases hn with rfl | rfl
  · exact win_i64 h.1 (by omega) (by omega)
  · exact win_i64 h.2 (by omega) (by omega)

def OBRel (w : World) (o : Ord) (out i : Value) (wr : World) : Prop :=
  ∃ k : Nat, k ≤ o.ls.length ∧ i = .int .i64 (k : Int) ∧ wr.ownsRow w.heap.size 5 1 out (putsL (o.hd ++ lnInts (o.ls.take k))).length (bV (putsL (o.hd ++ lnInts (o.ls.take k)))) ∧ Ext w wr ∧ AllP wr out u8P
theorem OBRel.next {w w1 : World} {o : Ord} {k : Nat} {v1 : Value} {n m : Nat} {xs : List Value} {x : Ln} (hk : k < o.ls.length) (hx0 : o.ls[k] = x) (hg : w1.ownsRow w.heap.size 5 1 v1 n xs) (hn : n = (putsL (o.hd ++ lnInts (o.ls.take k))).length + (putsL [x.c, x.a]).length) (hxs : xs = bV (putsL (o.hd ++ lnInts (o.ls.take k))) ++ bV (putsL [x.c, x.a])) (hx : Ext w w1) (hall : AllP w1 v1 u8P) (hm : m = k + 1) : OBRel w o v1 (.int .i64 (m : Int)) w1 := by
  subst hm hn hxs hx0
  refine ⟨k + 1, by omega, rfl, ?_, hx, hall⟩
  rw [lnInts_snoc _ k hk, ← List.append_assoc, putsL_app (o.hd ++ lnInts (o.ls.take k)), bV_app, List.length_append]
  exact hg
theorem OBRel.done {w w1 : World} {o : Ord} {k : Nat} {out : Value} (hc : o.check.1 = 0) (hk : k = o.ls.length) (h : w1.ownsRow w.heap.size 5 1 out (putsL (o.hd ++ lnInts (o.ls.take k))).length (bV (putsL (o.hd ++ lnInts (o.ls.take k))))) : w1.ownsRow w.heap.size 5 1 out o.bytes.length (bV o.bytes) := by
  subst hk; rw [List.take_length] at h; rw [Ord.bytes, if_pos hc]; exact h

end Go.Proofs.YtokakpbpenndlaaGreatDoor

set_option linter.unusedVariables false
namespace Go.Proofs.YtokakpbpenndlaaGreatDoor
open Go.RowKit

theorem rwithin_any (n lo hi : Int) (w : World) :
    Calls Tryz.prog 192 #[.int .i64 n, .int .i64 lo, .int .i64 hi] w fun e w' => e = .returned (.bool (win n lo hi)) ∧ w = w' := by
  unfold win
  by_cases h1 : lo ≤ n <;> by_cases h2 : n ≤ hi
  all_goals
    go_enter Tryz.func192, Tryz.ntmps192
    go_wp2
    go_ret
    exact ⟨ret_bool (by simp [h1, h2]), rfl⟩
def ordCells (o : Ord) (A : Option Addr) (cap : Nat) : Array Value := #[.int .i64 o.cu, .int .i64 o.day, .int .i64 o.px, .int .i64 o.py, .slice A o.ls.length cap]

end Go.Proofs.YtokakpbpenndlaaGreatDoor

set_option linter.unusedVariables false
namespace Go.Proofs.YtokakpbpenndlaaGreatDoor
open Go.RowKit
def smallO : Ord := ⟨0, 1, 2, -1, [⟨7, 5⟩]⟩
end Go.Proofs.YtokakpbpenndlaaGreatDoor

set_option linter.unusedVariables false
namespace Go.Proofs.YtokakpbpenndlaaGreatDoor
open Go.RowKit Go.ChangeShapes Go.WideShapes Go.Deep

theorem opens_i : Opens Tryz.prog 3 (fun _ cs => ∃ n : Int, cs = [.int .i64 n] ∧ i64 n) :=
  (opens_int Tryz.underlying3).mono fun _ cs ⟨n, h, hw⟩ => ⟨n, h, by
    simp [Lit.wf, IntKind.min, IntKind.max, IntKind.signed, IntKind.bits] at hw
    exact hw⟩
theorem opens_u8 : Opens Tryz.prog 5 (fun _ cs => ∃ b : UInt8, cs = [.int .u8 (b.toNat : Int)]) :=
  (opens_int Tryz.underlying5).mono fun _ cs ⟨n, h, hw⟩ => by
    simp [Lit.wf, IntKind.min, IntKind.max, IntKind.signed, IntKind.bits] at hw
    refine ⟨UInt8.ofNat n.toNat, ?_⟩
    rw [h]
    have : (UInt8.ofNat n.toNat).toNat = n.toNat := by rw [UInt8.toNat_ofNat']; omega
    rw [this]
    have : ((n.toNat : Nat) : Int) = n := by omega
    rw [this]
theorem bV_flat (l : List UInt8) : l.flatMap (fun b => [Value.int .u8 (b.toNat : Int)]) = bV l := by
  unfold bV
  induction l with
  | nil => rfl
  | cons a l ih => rw [List.flatMap_cons, ih]; rfl
theorem opens_bytes : Opens Tryz.prog 24 (fun w cs => ∃ (A : Option Addr) (cap : Nat) (l : List UInt8), cs = [.slice A l.length cap] ∧ l.length ≤ cap ∧ cap ≤ maxLen ∧ Reads w w.heap.size 1 A l.length (bV l)) :=
  (opens_slice 1 Tryz.underlying24 (by kernel_rfl) (by decide) opens_u8).mono fun w cs h => by
    obtain ⟨A, cap, l, h1, h2, h3, _, h4⟩ := SliceOf.list (code := fun b : UInt8 => [Value.int .u8 (b.toNat : Int)]) (p := fun _ => True) h (fun x ⟨b, hb⟩ => ⟨b, hb, trivial⟩)
    exact ⟨A, cap, l, h1, h2, h3, by rw [bV_flat] at h4; exact h4⟩
theorem opens_point : Opens Tryz.prog 241 (fun _ cs => ∃ x y : Int, cs = [.int .i64 x, .int .i64 y] ∧ i64 x ∧ i64 y) :=
  (opens_fields Tryz.underlying241 (.cons 1 opens_i (by kernel_rfl) (.cons 1 opens_i (by kernel_rfl) .nil)) (by kernel_rfl)).mono fun w cs h => by
    obtain ⟨_, _, rfl, _, ⟨x, rfl, hx⟩, _, _, rfl, _, ⟨y, rfl, hy⟩, rfl⟩ := h
    exact ⟨x, y, rfl, hx, hy⟩
end Go.Proofs.YtokakpbpenndlaaGreatDoor

namespace Go.Proofs.YtokakpbpenndlaaGreatDoor
open Go.RowKit Go.ChangeShapes Go.WideShapes Go.Deep

theorem iV_flat (l : List Int) : l.flatMap (fun n => [Value.int .i64 n]) = iV l := by
  unfold iV
  induction l with
  | nil => rfl
  | cons a l ih => rw [List.flatMap_cons, ih]; rfl
theorem opens_ints : Opens Tryz.prog 50 (fun w cs => ∃ (A : Option Addr) (cap : Nat) (l : List Int), cs = [.slice A l.length cap] ∧ l.length ≤ cap ∧ cap ≤ maxLen ∧ (∀ n ∈ l, i64 n) ∧ Reads w w.heap.size 1 A l.length (iV l)) :=
  (opens_slice 1 Tryz.underlying50 (by kernel_rfl) (by decide) opens_i).mono fun w cs h => by
    obtain ⟨A, cap, l, h1, h2, h3, hp, h4⟩ := SliceOf.list (code := fun n : Int => [Value.int .i64 n]) (p := i64) h (fun x ⟨b, hb, hi⟩ => ⟨b, hb, hi⟩)
    exact ⟨A, cap, l, h1, h2, h3, hp, by rw [iV_flat] at h4; exact h4⟩
def Tx.i64 (x : Tx) : Prop := Go.Proofs.YtokakpbpenndlaaGreatDoor.i64 x.l ∧ Go.Proofs.YtokakpbpenndlaaGreatDoor.i64 x.j ∧ Go.Proofs.YtokakpbpenndlaaGreatDoor.i64 x.t ∧ Go.Proofs.YtokakpbpenndlaaGreatDoor.i64 x.x ∧ Go.Proofs.YtokakpbpenndlaaGreatDoor.i64 x.r ∧ Go.Proofs.YtokakpbpenndlaaGreatDoor.i64 x.v
theorem opens_tax : Opens Tryz.prog 117 (fun _ cs => ∃ x : Tx, cs = x.cl ∧ x.i64) :=
  (opens_fields Tryz.underlying117 (.cons 1 opens_i (by kernel_rfl) (.cons 1 opens_i (by kernel_rfl) (.cons 1 opens_i (by kernel_rfl) (.cons 1 opens_i (by kernel_rfl) (.cons 1 opens_i (by kernel_rfl) (.cons 1 opens_i (by kernel_rfl) .nil)))))) (by kernel_rfl)).mono fun w cs h => by
    obtain ⟨_, _, rfl, _, ⟨a, rfl, h1⟩, _, _, rfl, _, ⟨b, rfl, h2⟩, _, _, rfl, _, ⟨c, rfl, h3⟩, _, _, rfl, _, ⟨d, rfl, h4⟩, _, _, rfl, _, ⟨e, rfl, h5⟩, _, _, rfl, _, ⟨f, rfl, h6⟩, rfl⟩ := h
    exact ⟨⟨a, b, c, d, e, f⟩, rfl, h1, h2, h3, h4, h5, h6⟩
theorem opens_taxs : Opens Tryz.prog 47 (fun w cs => ∃ (A : Option Addr) (cap : Nat) (l : List Tx), cs = [.slice A l.length cap] ∧ l.length ≤ cap ∧ cap ≤ maxLen ∧ (∀ x ∈ l, x.i64) ∧ Reads w w.heap.size 6 A l.length (txCells l)) :=
  (opens_slice 6 Tryz.underlying47 (by kernel_rfl) (by decide) opens_tax).mono fun w cs h =>
    SliceOf.list (code := Tx.cl) (p := Tx.i64) h (fun x ⟨l, hl, hp⟩ => ⟨l, hl, hp⟩)
end Go.Proofs.YtokakpbpenndlaaGreatDoor
