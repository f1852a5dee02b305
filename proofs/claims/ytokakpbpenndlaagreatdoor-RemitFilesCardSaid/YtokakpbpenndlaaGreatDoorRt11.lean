/-
  How a world changes in some blocks only.
-/
import Derived.Test.YtokakpbpenndlaaGreatDoorRt09
import Derived.Test.YtokakpbpenndlaaGreatDoorRt01
import Derived.ProofKit
import Derived.Deep.Slices
set_option linter.unusedVariables false
namespace Go.Proofs.YtokakpbpenndlaaGreatDoor
open Go.RowKit Go.Maps

theorem nodup_inj {α β : Type} {f : α → β} : ∀ {l : List α}, (l.map f).Nodup → ∀ {a b : α}, a ∈ l → b ∈ l → f a = f b → a = b
  | [], _, _, _, h, _, _ => by cases h
  | x :: l, hn, a, b, ha, hb, e => by
    simp only [List.map_cons, List.nodup_cons] at hn
    rcases List.mem_cons.1 ha with h1 | h1
    · rcases List.mem_cons.1 hb with h2 | h2
      · rw [h1, h2]
      · exact absurd (by rw [← h1, e]; exact List.mem_map_of_mem h2) hn.1
    · rcases List.mem_cons.1 hb with h2 | h2
      · exact absurd (by rw [← h2, ← e]; exact List.mem_map_of_mem h1) hn.1
      · exact nodup_inj hn.2 h1 h2 e
/-- Rows of different elements never lie in one block. -/
theorem own_own_ne {w : World} {b b' : Nat} {e e' : TypeId} {s s' n n' : Nat} {v v' : Value} {xs xs' : List Value} (h : w.ownsRow b e s v n xs) (h' : w.ownsRow b' e' s' v' n' xs') (hne : e ≠ e') {g : Nat} (hg : v.ownBlock = some g) : v'.ownBlock ≠ some g := by
  rcases h.2 with ⟨rfl, _⟩ | ⟨g1, cap, cur, rfl, _, hh, _⟩
  · simp [Value.ownBlock] at hg
  · have e1 : g1 = g := by simpa [Value.ownBlock] using hg
    subst e1
    intro he
    exact own_blk_ne h' (t := e) hh (fun e => hne e.symm) he
theorem ownsMap_blk_ne {w : World} {k : TypeId} {R : Value → Option (DataW Unit × List MemPlace)} {b n g : Nat} {D : DataW Unit} {t : TypeId} {cs : Array Value} (h : w.ownsMap Tryz.prog k R b n D) (hg : Blk w g t cs) : b ≠ g := by
  rintro rfl
  obtain ⟨es, clock, hb, _⟩ := h
  unfold Blk at hg
  rw [hb] at hg
  cases hg
theorem ownsMap_own_ne {w : World} {k : TypeId} {R : Value → Option (DataW Unit × List MemPlace)} {b n : Nat} {D : DataW Unit} {base : Nat} {e : TypeId} {size m : Nat} {v : Value} {xs : List Value} (h : w.ownsMap Tryz.prog k R b n D) (hv : w.ownsRow base e size v m xs) : v.ownBlock ≠ some b := by
  rcases hv.2 with ⟨rfl, _⟩ | ⟨g1, cap, cur, rfl, _, hh, _⟩
  · simp [Value.ownBlock]
  · intro he
    have e1 : g1 = b := by simpa [Value.ownBlock] using he
    subst e1
    exact ownsMap_blk_ne h (g := g1) (t := e) hh rfl

/-- Only blocks of S have turned, and what is new. -/
structure Chg (S : List Nat) (w w' : World) : Prop where
  os : w'.os = w.os
  tape : w'.tape = w.tape
  output : w'.output = w.output
  size : w.heap.size ≤ w'.heap.size
  block : ∀ k, k < w.heap.size → k ∉ S → w'.heap[k]? = w.heap[k]?
theorem Chg.refl (S : List Nat) (w : World) : Chg S w w := ⟨rfl, rfl, rfl, Nat.le_refl _, fun _ _ _ => rfl⟩
theorem Chg.ext {S : List Nat} {w w' : World} (h : Ext w w') : Chg S w w' := ⟨h.os, h.tape, h.output, h.size, fun k hk _ => h.block k hk⟩
theorem Chg.trans {S : List Nat} {a b c : World} (h : Chg S a b) (k : Chg S b c) : Chg S a c :=
  ⟨k.os.trans h.os, k.tape.trans h.tape, k.output.trans h.output, Nat.le_trans h.size k.size, fun i hi hn => (k.block i (Nat.lt_of_lt_of_le hi h.size) hn).trans (h.block i hi hn)⟩
theorem Chg.grown {S : List Nat} {w w' : World} {row : Option Nat} (h : w.grownBy w' row) (hr : ∀ k, row = some k → k ∈ S ∨ w.heap.size ≤ k) : Chg S w w' :=
  ⟨h.os, h.tape, h.output, h.size, fun k hk hn => h.block k hk (fun e => by rcases hr k e.symm with h1 | h1; exact hn h1; omega)⟩
theorem Chg.then_grown {S : List Nat} {a w w' : World} {row : Option Nat} (h : Chg S a w) (k : w.grownBy w' row) (hr : ∀ k, row = some k → k ∈ S ∨ a.heap.size ≤ k) : Chg S a w' :=
  ⟨k.os.trans h.os, k.tape.trans h.tape, k.output.trans h.output, Nat.le_trans h.size k.size, fun i hi hn => (k.block i (Nat.lt_of_lt_of_le hi h.size) (fun e => by rcases hr i e.symm with h1 | h1; exact hn h1; omega)).trans (h.block i hi hn)⟩
theorem Chg.then_ext {S : List Nat} {a w w' : World} (h : Chg S a w) (k : Ext w w') : Chg S a w' := h.trans (Chg.ext k)
theorem Chg.to_ext {S : List Nat} {w0 w w' : World} (hx : Ext w0 w) (h : Chg S w w') (hS : ∀ k ∈ S, w0.heap.size ≤ k) : Ext w0 w' :=
  ⟨h.os.trans hx.os, h.tape.trans hx.tape, h.output.trans hx.output, Nat.le_trans hx.size h.size, fun k hk => (h.block k (Nat.lt_of_lt_of_le hk hx.size) (fun hm => by have := hS k hm; omega)).trans (hx.block k hk)⟩
theorem Chg.own {S : List Nat} {w w' : World} (h : Chg S w w') {base : Nat} {e : TypeId} {size n : Nat} {v : Value} {xs : List Value} (ho : w.ownsRow base e size v n xs) (hv : ∀ g, v.ownBlock = some g → g ∉ S) : w'.ownsRow base e size v n xs := by
  refine ⟨ho.1, ?_⟩
  rcases ho.2 with h2 | ⟨g, cap, cur, rfl, hg, hh, r⟩
  · exact Or.inl h2
  · exact Or.inr ⟨g, cap, cur, rfl, hg, by rw [h.block g (Array.getElem?_eq_some_iff.1 hh).1 (hv g (by simp [Value.ownBlock]))]; exact hh, r⟩
theorem Chg.blk {S : List Nat} {w w' : World} (h : Chg S w w') {g : Nat} {t : TypeId} {cs : Array Value} (hb : Blk w g t cs) (hg : g ∉ S) : Blk w' g t cs := (h.block g hb.lt hg).trans hb
end Go.Proofs.YtokakpbpenndlaaGreatDoor

set_option linter.unusedVariables false
namespace Go.Proofs.YtokakpbpenndlaaGreatDoor

/-- What of t has come back when p of the whole W has. -/
def shI (t W p : Int) : Int := if W = 0 then 0 else (evenN t.toNat p.toNat W.toNat : Int)
theorem shI_step {t W a p : Int} (ht : 0 ≤ t) (htW : t ≤ W) (ha : 0 ≤ a) (h : a ≤ p) : shI t W p - shI t W a ≤ p - a := by
  unfold shI
  split
  · omega
  · have := evenN_step (a := t.toNat) (b := a.toNat) (b' := p.toNat) (c := W.toNat) (by omega) (by omega) (by omega)
    omega
theorem backI_sh {t W a p : Int} (ht : 0 ≤ t ∧ t ≤ 4611686018427387904) (hW : 0 ≤ W ∧ W ≤ 4611686018427387904) (ha : 0 ≤ a) (h : a ≤ p) (hp : p ≤ W) : backI t W a p = (shI t W p - shI t W a, 0) := by
  unfold backI shI
  rw [if_neg (by simp [win]; omega), if_neg (by omega)]
  split
  · rfl
  · rfl
end Go.Proofs.YtokakpbpenndlaaGreatDoor

set_option linter.unusedVariables false
namespace Go.Proofs.YtokakpbpenndlaaGreatDoor
open Go.RowKit Go.ChangeShapes Go.WideShapes Go.Deep

/-- Whatever reads as a value of type t has cells of this shape. -/
structure Opens (P : Program) (t : TypeId) (S : World → List Value → Prop) : Prop where
  run : ∀ {H : Type} (enc : TypeId × Value → H) (w : World) (base : Nat) (spare : Nat → Bool) (held : Bool) (fuel : Nat) (cs : List Value) (x : DataW H × List MemPlace),
    DataW.trod enc P w base spare held fuel t cs = some x → S w cs
theorem Opens.mono {P : Program} {t : TypeId} {S S' : World → List Value → Prop} (h : Opens P t S) (hs : ∀ w cs, S w cs → S' w cs) : Opens P t S' :=
  ⟨fun enc w base spare held fuel cs x hx => hs _ _ (h.run enc w base spare held fuel cs x hx)⟩
theorem opens_int {P : Program} {t : TypeId} {k : IntKind} (ht : P.underlying t = some (.int k)) : Opens P t (fun _ cs => ∃ n, cs = [.int k n] ∧ (Lit.int k n).wf = true) := by
  refine ⟨fun {H} enc w base spare held fuel cs x hx => ?_⟩
  obtain ⟨n, h1, _, h3⟩ := DataW.trod_int ht hx
  exact ⟨n, h1, h3⟩
/-- A slice whose elements have c cells each, of shape S. -/
def SliceOf (c : Nat) (S : World → List Value → Prop) (w : World) (cs : List Value) : Prop :=
  ∃ (A : Option Addr) (len cap : Nat) (L : List (List Value)), cs = [.slice A len cap] ∧ len ≤ cap ∧ cap ≤ maxLen ∧ L.length = len ∧ (∀ x ∈ L, x.length = c ∧ S w x) ∧ Reads w w.heap.size c A len L.flatten
theorem flat_at {c : Nat} : ∀ (L : List (List Value)) (_ : ∀ x ∈ L, x.length = c) (j : Nat) (u : Value), L.flatten[j]? = some u → ∃ i k, i < L.length ∧ k < c ∧ j = i * c + k ∧ ∃ x, L[i]? = some x ∧ x[k]? = some u
  | [], _, j, u, h => by simp at h
  | x :: L, hL, j, u, h => by
    have hx : x.length = c := hL x (by simp)
    rw [List.flatten_cons, List.getElem?_append] at h
    split at h
    · rename_i hj
      exact ⟨0, j, by simp, by omega, by simp, x, by simp, h⟩
    · rename_i hj
      obtain ⟨i, k, hi, hk, he, y, hy, hu⟩ := flat_at L (fun y hy => hL y (by simp [hy])) (j - x.length) u h
      refine ⟨i + 1, k, by simp; omega, hk, by rw [Nat.add_mul]; omega, y, by simpa using hy, hu⟩
theorem opens_slice {P : Program} {t e : TypeId} (c : Nat) {S : World → List Value → Prop} (ht : P.underlying t = some (.slice e)) (hC : P.cellsOf e = c) (hc : 0 < c) (h : Opens P e S) : Opens P t (SliceOf c S) := by
  refine ⟨fun {H} enc w base spare held fuel cs x hx => ?_⟩
  rcases open_slice ht hx with ⟨rfl, _⟩ | ⟨a, len, cap, m, n, D, Pl, rfl, hb, hl, hm, hmm, _, hi⟩
  · exact ⟨none, 0, 0, [], rfl, Nat.le_refl _, by simp [maxLen], rfl, by simp, by simpa using Reads.none_⟩
  · have hlm : len ≤ m := by rw [hmm]; split <;> omega
    rw [hC] at hi
    obtain ⟨f, hf⟩ : ∃ f : Nat → List Value, ∀ i, i < len → w.cells? base (a.add (i * c)) c = some (f i) ∧ DataW.trod enc P w base spare held n e (f i) = some (D i, Pl i) := by
      refine ⟨fun i => if hi' : i < m then (hi i hi').choose else [], fun i hil => ?_⟩
      have him : i < m := by omega
      simp only [dif_pos him]
      exact (hi i him).choose_spec
    refine ⟨some a, len, cap, (List.range len).map f, rfl, hl, hm, by simp, ?_, ?_⟩
    · intro x hx
      simp only [List.mem_map, List.mem_range] at hx
      obtain ⟨i, hil, rfl⟩ := hx
      obtain ⟨h1, h2⟩ := hf i hil
      obtain ⟨_, hcl, _⟩ := World.cells?_some h1
      exact ⟨hcl, h.run enc w base spare held n _ _ h2⟩
    · have hall : ∀ x ∈ (List.range len).map f, x.length = c := by
        intro x hx
        simp only [List.mem_map, List.mem_range] at hx
        obtain ⟨i, hil, rfl⟩ := hx
        exact (World.cells?_some (hf i hil).1).2.1
      have hlen : ((List.range len).map f).flatten.length = len * c := by
        have gen : ∀ (L : List (List Value)), (∀ x ∈ L, x.length = c) → L.flatten.length = L.length * c := by
          intro L
          induction L with
          | nil => intro _; simp
          | cons y L ih =>
            intro hL
            rw [List.flatten_cons, List.length_append, ih (fun z hz => hL z (by simp [hz])), hL y (by simp), List.length_cons, Nat.add_mul]
            omega
        rw [gen _ hall]; simp
      refine ⟨hlen, fun hp => ?_⟩
      have hget : ∀ i k u, i < len → k < c → (f i)[k]? = some u → w.cell? ((a.add (i * c)).add k) = some u := by
        intro i k u hil hk hu
        obtain ⟨_, hcl, hat⟩ := World.cells?_some (hf i hil).1
        exact (hat k hk).trans hu
      obtain ⟨b, off, spot⟩ := a
      have h0 : ∃ u, (f 0)[0]? = some u := by
        have := (World.cells?_some (hf 0 hp).1).2.1
        exact ⟨_, List.getElem?_eq_getElem (by omega)⟩
      obtain ⟨u0, hu0⟩ := h0
      have hc0 := hget 0 0 u0 hp hc hu0
      have hspot : spot = none := by
        have := World.cell?_spot hc0
        simpa [Addr.add] using this
      subst hspot
      refine ⟨b, off, rfl, ?_, fun j u hu => ?_⟩
      · rcases Nat.lt_or_ge b w.heap.size with hlt | hge
        · exact hlt
        · exfalso
          rw [add_of_add, add_flat] at hc0
          unfold World.cell? at hc0
          rw [Array.getElem?_eq_none hge] at hc0
          simp at hc0
      · obtain ⟨i, k, hil, hk, rfl, x, hx, hxk⟩ := flat_at _ hall j u hu
        have hil' : i < len := by simpa using hil
        have : x = f i := by
          rw [List.getElem?_eq_getElem hil] at hx
          simpa using hx.symm
        subst this
        have := hget i k u hil' hk hxk
        rw [add_of_add, add_flat] at this
        rw [← this]
/-- The elements of a slice, each the coding of something plain. -/
theorem SliceOf.list {α : Type} {c : Nat} {S : World → List Value → Prop} {code : α → List Value} {p : α → Prop} {w : World} {cs : List Value} (h : SliceOf c S w cs) (hS : ∀ x, S w x → ∃ a, x = code a ∧ p a) :
    ∃ (A : Option Addr) (cap : Nat) (l : List α), cs = [.slice A l.length cap] ∧ l.length ≤ cap ∧ cap ≤ maxLen ∧ (∀ a ∈ l, p a) ∧ Reads w w.heap.size c A l.length (l.flatMap code) := by
  obtain ⟨A, len, cap, L, rfl, hl, hm, hL, hall, hr⟩ := h
  have gen : ∀ (M : List (List Value)), (∀ x ∈ M, S w x) → ∃ l : List α, M = l.map code ∧ ∀ a ∈ l, p a := by
    intro M
    induction M with
    | nil => intro _; exact ⟨[], rfl, by simp⟩
    | cons y M ih =>
      intro hM
      obtain ⟨l, rfl, hp⟩ := ih (fun z hz => hM z (by simp [hz]))
      obtain ⟨a, rfl, ha⟩ := hS y (hM y (by simp))
      exact ⟨a :: l, rfl, by simpa using ⟨ha, hp⟩⟩
  obtain ⟨l, rfl, hp⟩ := gen L (fun x hx => (hall x hx).2)
  simp only [List.length_map] at hL
  subst hL
  refine ⟨A, cap, l, rfl, hl, hm, hp, ?_⟩
  rw [← List.flatMap_def] at hr
  exact hr
/-- Fields one behind the other: so many cells each, of this shape. -/
def FieldsShape : List (Nat × (World → List Value → Prop)) → World → List Value → Prop
  | [], _, cs => cs = []
  | (k, S) :: r, w, cs => ∃ a b, cs = a ++ b ∧ a.length = k ∧ S w a ∧ FieldsShape r w b
inductive OpensAll (P : Program) : Nat → List (TypeId × Nat) → List (Nat × (World → List Value → Prop)) → Prop
  | nil {n : Nat} : OpensAll P n [] []
  | cons {n : Nat} (k : Nat) {t : TypeId} {S : World → List Value → Prop} {ts : List (TypeId × Nat)} {l : List (Nat × (World → List Value → Prop))} (h : Opens P t S) (hk : P.cellsOf t = k) (r : OpensAll P (n + k) ts l) : OpensAll P n ((t, n) :: ts) ((k, S) :: l)
def cellsAll : List (Nat × (World → List Value → Prop)) → Nat
  | [] => 0
  | (k, _) :: r => k + cellsAll r
theorem opens_fields {P : Program} {t : TypeId} {fs : Array Field} (ht : P.underlying t = some (.struct fs)) {l : List (Nat × (World → List Value → Prop))} (h : OpensAll P 0 (fs.toList.map fun f => (f.type, f.offset)) l) (hn : P.cellsOf t = cellsAll l) : Opens P t (FieldsShape l) := by
  refine ⟨fun {H} enc w base spare held fuel cs x hx => ?_⟩
  obtain ⟨xs, m, _, _, hlen, hxl, hf⟩ := DataW.trod_struct ht hx
  have gen : ∀ (gs : List Field) (l : List (Nat × (World → List Value → Prop))) (n : Nat), OpensAll P n (gs.map fun f => (f.type, f.offset)) l → cs.length = n + cellsAll l →
      (∀ f ∈ gs, ∃ y, DataW.trod enc P w base spare held m f.type ((cs.drop f.offset).take (P.cellsOf f.type)) = some y) → FieldsShape l w (cs.drop n) := by
    intro gs
    induction gs with
    | nil =>
      intro l n ho hn' _
      cases ho
      simp only [cellsAll] at hn'
      exact List.drop_eq_nil_of_le (by omega)
    | cons g gs ih =>
      intro l n ho hn' hg
      simp only [List.map_cons] at ho
      generalize he : (g.type, g.offset) :: gs.map (fun f => (f.type, f.offset)) = ts at ho
      cases ho with
      | nil => cases he
      | @cons _ k t S ts l hS hk r =>
        injection he with he1 he2
        injection he1 with he3 he4
        subst he3
        subst he4
        subst he2
        obtain ⟨y, hy⟩ := hg g (by simp)
        rw [hk] at hy
        simp only [cellsAll] at hn'
        refine ⟨(cs.drop g.offset).take k, (cs.drop g.offset).drop k, (List.take_append_drop _ _).symm, by rw [List.length_take, List.length_drop]; omega, hS.run enc w base spare held m _ _ hy, ?_⟩
        rw [List.drop_drop]
        exact ih l _ r (by omega) (fun f hf => hg f (by simp [hf]))
  have := gen fs.toList l 0 h (by rw [hlen, hn]; omega) (fun f hfm => by
    obtain ⟨i, hi, he⟩ := List.mem_iff_getElem.1 hfm
    have h1 : fs[i]? = some f := by
      rw [← he]
      rw [Array.getElem?_eq_getElem (by simpa using hi)]
      simp
    have h2 := hf i f h1
    have : i < xs.length := by rw [hxl]; simpa using hi
    rw [List.getElem?_eq_getElem this] at h2
    exact ⟨_, h2⟩)
  simpa using this
/-- What an argument's reading says. -/
theorem Opens.arg {P : Program} {t : TypeId} {S : World → List Value → Prop} (h : Opens P t S) {H : Type} {enc : TypeId × Value → H} {w : World} {base : Nat} {spare : Nat → Bool} {held : Bool} {v : Value} {d : DataW H} {ps : List MemPlace}
    (ht : DataW.Trod enc P w base spare held t v d ps) : S w v.cells.toList := by
  obtain ⟨fuel, hf⟩ := ht
  exact h.run enc w base spare held fuel _ _ hf
theorem trod_below {P : Program} {t : TypeId} {H : Type} {enc : TypeId × Value → H} {w : World} {base : Nat} {spare : Nat → Bool} {held : Bool} {v : Value} {d : DataW H} {ps : List MemPlace}
    (ht : DataW.Trod enc P w base spare held t v d ps) : ∀ x ∈ ps, x.block < w.heap.size := by
  obtain ⟨m, hm⟩ := ht
  exact DataW.trod_lt m _ _ _ hm
end Go.Proofs.YtokakpbpenndlaaGreatDoor
