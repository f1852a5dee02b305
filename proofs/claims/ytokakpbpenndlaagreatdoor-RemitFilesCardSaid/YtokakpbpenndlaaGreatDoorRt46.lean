/-
  Arguments opened, with the form's reach: no slice is longer than what lies in memory. Jurisdictions whose rings are within it.
-/
import Derived.Test.YtokakpbpenndlaaGreatDoorRt44
import Derived.SizedLaws
import Derived.Test.YtokakpbpenndlaaGreatDoorRt43
import Derived.Test.YtokakpbpenndlaaGreatDoorRt45
set_option linter.unusedVariables false
namespace Go.Proofs.YtokakpbpenndlaaGreatDoor
open Go.RowKit Go.ChangeShapes Go.WideShapes Go.Deep

/-- Whatever reads as a value of type t, each of its weights within the reach, has cells of this shape. -/
structure OpensR (P : Program) (t : TypeId) (S : World → List Value → Prop) : Prop where
  run : ∀ {H : Type} (enc : TypeId × Value → H) (w : World) (base : Nat) (spare : Nat → Bool) (held : Bool) (fuel : Nat) (cs : List Value) (x : DataW H × List MemPlace),
    DataW.trod enc P w base spare held fuel t cs = some x → (∀ n ∈ x.1.weights P t, n ≤ reachBytes) → S w cs
theorem Opens.r {P : Program} {t : TypeId} {S : World → List Value → Prop} (h : Opens P t S) : OpensR P t S :=
  ⟨fun enc w base spare held fuel cs x hx _ => h.run enc w base spare held fuel cs x hx⟩
theorem OpensR.mono {P : Program} {t : TypeId} {S S' : World → List Value → Prop} (h : OpensR P t S) (hs : ∀ w cs, S w cs → S' w cs) : OpensR P t S' :=
  ⟨fun enc w base spare held fuel cs x hx hw => hs _ _ (h.run enc w base spare held fuel cs x hx hw)⟩
theorem weightsAll_mem {H : Type} {P : Program} {e : TypeId} : ∀ {l : List (DataW H)} {d : DataW H}, d ∈ l → ∀ n ∈ d.weights P e, n ∈ DataW.weightsAll P e l
  | [], d, h, _, _ => absurd h List.not_mem_nil
  | y :: l, d, h, n, hn => by
    simp only [DataW.weightsAll, List.mem_append]
    rcases List.mem_cons.1 h with rfl | h
    · exact .inl hn
    · exact .inr (weightsAll_mem h n hn)
theorem opensR_slice {P : Program} {t e : TypeId} (c : Nat) {S : World → List Value → Prop} (ht : P.underlying t = some (.slice e)) (hC : P.cellsOf e = c) (hc : 0 < c) (h : OpensR P e S) :
    OpensR P t (fun w cs => SliceOf c S w cs ∧ ∀ A len cap, cs = [.slice A len cap] → len * P.bytesOf e ≤ reachBytes) := by
  refine ⟨fun {H} enc w base spare held fuel cs x hx hw => ?_⟩
  rcases open_slice ht hx with ⟨rfl, _⟩ | ⟨a, len, cap, m, n, D, Pl, rfl, hb, hl, hm, hmm, hxe, hi⟩
  · refine ⟨⟨none, 0, 0, [], rfl, Nat.le_refl _, by simp [maxLen], rfl, by simp, by simpa using Reads.none_⟩, fun A len cap he => ?_⟩
    injection he with he _
    injection he with _ e2 _
    subst e2
    simp
  · have hlm : len ≤ m := by rw [hmm]; split <;> omega
    rw [hxe] at hw
    simp only [DataW.weights, ht] at hw
    have hw0 : len * P.bytesOf e ≤ reachBytes := by
      have h1 := hw _ (List.mem_cons_self ..)
      simp only [List.length_map, List.length_range] at h1
      exact Nat.le_trans (Nat.mul_le_mul_right _ (by omega)) h1
    have hwe : ∀ i, i < len → ∀ k ∈ (D i).weights P e, k ≤ reachBytes := fun i hil k hk => hw k (List.mem_cons_of_mem _ (List.mem_append_left _ (weightsAll_mem (List.mem_map.2 ⟨i, List.mem_range.2 hil, rfl⟩) k hk)))
    refine ⟨?_, fun A len' cap' he => by injection he with he _; injection he with _ e2 _; rw [← e2]; exact hw0⟩
    rw [hC] at hi
    obtain ⟨f, hf⟩ : ∃ f : Nat → List Value, ∀ i, i < len → w.cells? base (a.add (i * c)) c = some (f i) ∧ DataW.trod enc P w base spare held n e (f i) = some (D i, Pl i) := by
      refine ⟨fun i => if hi' : i < m then (hi i hi').choose else [], fun i hil => ?_⟩
      have him : i < m := by omega
      simp only [dif_pos him]
      exact (hi i him).choose_spec
    refine ⟨some a, len, cap, (List.range len).map f, rfl, hl, hm, by simp, ?_, ?_⟩
    · intro x hx
      simp only [List.mem_map, List.mem_range] at hx
      obtain ⟨i, hil, rfl⟩ := hx
      obtain ⟨h1, h2⟩ := hf i hil
      obtain ⟨_, hcl, _⟩ := World.cells?_some h1
      exact ⟨hcl, h.run enc w base spare held n _ _ h2 (hwe i hil)⟩
    · have hall : ∀ x ∈ (List.range len).map f, x.length = c := by
        intro x hx
        simp only [List.mem_map, List.mem_range] at hx
        obtain ⟨i, hil, rfl⟩ := hx
        exact (World.cells?_some (hf i hil).1).2.1
      have hlen : ((List.range len).map f).flatten.length = len * c := by
        have gen : ∀ (L : List (List Value)), (∀ x ∈ L, x.length = c) → L.flatten.length = L.length * c := by
          intro L
          induction L with
          | nil => intro _; simp
          | cons y L ih =>
            intro hL
            rw [List.flatten_cons, List.length_append, ih (fun z hz => hL z (by simp [hz])), hL y (by simp), List.length_cons, Nat.add_mul]
            omega
        rw [gen _ hall]; simp
      refine ⟨hlen, fun hp => ?_⟩
      have hget : ∀ i k u, i < len → k < c → (f i)[k]? = some u → w.cell? ((a.add (i * c)).add k) = some u := by
        intro i k u hil hk hu
        obtain ⟨_, hcl, hat⟩ := World.cells?_some (hf i hil).1
        exact (hat k hk).trans hu
      obtain ⟨b, off, spot⟩ := a
      have h0 : ∃ u, (f 0)[0]? = some u := by
        have := (World.cells?_some (hf 0 hp).1).2.1
        exact ⟨_, List.getElem?_eq_getElem (by omega)⟩
      obtain ⟨u0, hu0⟩ := h0
      have hc0 := hget 0 0 u0 hp hc hu0
      have hspot : spot = none := by
        have := World.cell?_spot hc0
        simpa [Addr.add] using this
      subst hspot
      refine ⟨b, off, rfl, ?_, fun j u hu => ?_⟩
      · rcases Nat.lt_or_ge b w.heap.size with hlt | hge
        · exact hlt
        · exfalso
          rw [add_of_add, add_flat] at hc0
          unfold World.cell? at hc0
          rw [Array.getElem?_eq_none hge] at hc0
          simp at hc0
      · obtain ⟨i, k, hil, hk, rfl, x, hx, hxk⟩ := flat_at _ hall j u hu
        have hil' : i < len := by simpa using hil
        have : x = f i := by
          rw [List.getElem?_eq_getElem hil] at hx
          simpa using hx.symm
        subst this
        have := hget i k u hil' hk hxk
        rw [add_of_add, add_flat] at this
        rw [← this]
inductive OpensAllR (P : Program) : Nat → List (TypeId × Nat) → List (Nat × (World → List Value → Prop)) → Prop
  | nil {n : Nat} : OpensAllR P n [] []
  | cons {n : Nat} (k : Nat) {t : TypeId} {S : World → List Value → Prop} {ts : List (TypeId × Nat)} {l : List (Nat × (World → List Value → Prop))} (h : OpensR P t S) (hk : P.cellsOf t = k) (r : OpensAllR P (n + k) ts l) : OpensAllR P n ((t, n) :: ts) ((k, S) :: l)
theorem opensR_fields {P : Program} {t : TypeId} {fs : Array Field} (ht : P.underlying t = some (.struct fs)) {l : List (Nat × (World → List Value → Prop))} (h : OpensAllR P 0 (fs.toList.map fun f => (f.type, f.offset)) l) (hn : P.cellsOf t = cellsAll l) : OpensR P t (FieldsShape l) := by
  refine ⟨fun {H} enc w base spare held fuel cs x hx hw => ?_⟩
  obtain ⟨xs, m, _, hxe, hlen, hxl, hf⟩ := DataW.trod_struct ht hx
  rw [hxe] at hw
  simp only [DataW.weights, ht] at hw
  have gen : ∀ (gs : List Field) (l : List (Nat × (World → List Value → Prop))) (n : Nat), OpensAllR P n (gs.map fun f => (f.type, f.offset)) l → cs.length = n + cellsAll l →
      (∀ f ∈ gs, ∃ y, DataW.trod enc P w base spare held m f.type ((cs.drop f.offset).take (P.cellsOf f.type)) = some y ∧ ∀ k ∈ y.1.weights P f.type, k ≤ reachBytes) → FieldsShape l w (cs.drop n) := by
    intro gs
    induction gs with
    | nil =>
      intro l n ho hn' _
      cases ho
      simp only [cellsAll] at hn'
      exact List.drop_eq_nil_of_le (by omega)
    | cons g gs ih =>
      intro l n ho hn' hg
      simp only [List.map_cons] at ho
      generalize he : (g.type, g.offset) :: gs.map (fun f => (f.type, f.offset)) = ts at ho
      cases ho with
      | nil => cases he
      | @cons _ k t S ts l hS hk r =>
        injection he with he1 he2
        injection he1 with he3 he4
        subst he3
        subst he4
        subst he2
        obtain ⟨y, hy, hyw⟩ := hg g (by simp)
        rw [hk] at hy
        simp only [cellsAll] at hn'
        refine ⟨(cs.drop g.offset).take k, (cs.drop g.offset).drop k, (List.take_append_drop _ _).symm, by rw [List.length_take, List.length_drop]; omega, hS.run enc w base spare held m _ _ hy hyw, ?_⟩
        rw [List.drop_drop]
        exact ih l _ r (by omega) (fun f hf => hg f (by simp [hf]))
  have := gen fs.toList l 0 h (by rw [hlen, hn]; omega) (fun f hfm => by
    obtain ⟨i, hi, he⟩ := List.mem_iff_getElem.1 hfm
    have h1 : fs[i]? = some f := by
      rw [← he]
      rw [Array.getElem?_eq_getElem (by simpa using hi)]
      simp
    have h2 := hf i f h1
    have hil : i < xs.length := by rw [hxl]; simpa using hi
    rw [List.getElem?_eq_getElem hil] at h2
    refine ⟨_, h2, fun k hk => hw k (DataW.weights_mem_each (j := i) (t := f.type) (d := xs[i].1) ?_ ?_ k hk)⟩
    · rw [List.getElem?_map, Array.getElem?_toList, h1]; rfl
    · rw [List.getElem?_map, List.getElem?_eq_getElem hil]; rfl)
  simpa using this
/-- What an argument's reading says, its weights within the reach. -/
theorem OpensR.arg {P : Program} {t : TypeId} {S : World → List Value → Prop} (h : OpensR P t S) {H : Type} {enc : TypeId × Value → H} {w : World} {base : Nat} {spare : Nat → Bool} {held : Bool} {v : Value} {d : DataW H} {ps : List MemPlace}
    (ht : DataW.Trod enc P w base spare held t v d ps) {ts : List TypeId} {ds : List (DataW H)} (hw : (DataW.weightsEach P ts ds).all (· ≤ reachBytes) = true) {j : Nat} (h1 : ts[j]? = some t) (h2 : ds[j]? = some d) : S w v.cells.toList := by
  obtain ⟨fuel, hf⟩ := ht
  exact h.run enc w base spare held fuel _ _ hf fun n hn => by simpa using List.all_eq_true.1 hw n (DataW.weights_mem_each h1 h2 n hn)
/-- No ring has more points than memory holds. -/
def Ring.few (r : Ring) : Prop := r.pts.length ≤ 8796093022208
theorem opensR_points : OpensR Tryz.prog 108 (fun w cs => ∃ r : Ring, cs = r.cl ∧ r.ok w ∧ r.few) :=
  (opensR_slice 2 Tryz.underlying108 (by kernel_rfl) (by decide) opens_point.r).mono fun w cs ⟨h, hb⟩ => by
    obtain ⟨A, cap, l, h1, h2, h3, hp, h4⟩ := SliceOf.list (code := ptC) (p := fun p => i64 p.1 ∧ i64 p.2) h (fun x ⟨a, b, hb, h1, h2⟩ => ⟨(a, b), hb, h1, h2⟩)
    refine ⟨⟨A, cap, l⟩, h1, ⟨h2, h3, hp, h4⟩, ?_⟩
    have := hb _ _ _ h1
    rw [show Tryz.prog.bytesOf 241 = 16 by kernel_rfl] at this
    unfold reachBytes at this
    show l.length ≤ _
    omega
theorem opensR_rings : OpensR Tryz.prog 79 (fun w cs => ∃ (A : Option Addr) (cap : Nat) (l : List Ring), cs = [.slice A l.length cap] ∧ l.length ≤ cap ∧ cap ≤ maxLen ∧ (∀ r ∈ l, r.ok w ∧ r.few) ∧ Reads w w.heap.size 1 A l.length (ringCells l)) :=
  (opensR_slice 1 Tryz.underlying79 (by kernel_rfl) (by decide) opensR_points).mono fun w cs h =>
    SliceOf.list (code := Ring.cl) (p := fun r => r.ok w ∧ r.few) h.1 (fun x ⟨l, hl, hp⟩ => ⟨l, hl, hp⟩)
theorem opensR_region : OpensR Tryz.prog 81 (fun w cs => ∃ (A : Option Addr) (cap : Nat) (l : List Ring), cs = [.slice A l.length cap] ∧ l.length ≤ cap ∧ cap ≤ maxLen ∧ (∀ r ∈ l, r.ok w ∧ r.few) ∧ Reads w w.heap.size 1 A l.length (ringCells l)) :=
  (opensR_fields Tryz.underlying81 (.cons 1 opensR_rings (by kernel_rfl) .nil) (by kernel_rfl)).mono fun w cs h => by
    obtain ⟨_, _, rfl, _, ⟨A, cap, l, rfl, h1⟩, rfl⟩ := h
    exact ⟨A, cap, l, rfl, h1⟩
def JX.few (x : JX) : Prop := ∀ r ∈ x.rings, r.few
theorem opensR_jur : OpensR Tryz.prog 83 (fun w cs => ∃ x : JX, cs = x.jv.cl ∧ x.ok w ∧ x.few) :=
  (opensR_fields Tryz.underlying83 (.cons 1 opens_i.r (by kernel_rfl) (.cons 1 opens_i.r (by kernel_rfl) (.cons 1 opens_i.r (by kernel_rfl) (.cons 1 opens_i.r (by kernel_rfl) (.cons 1 opensR_region (by kernel_rfl) .nil))))) (by kernel_rfl)).mono fun w cs h => by
    obtain ⟨_, _, rfl, _, ⟨a, rfl, h1⟩, _, _, rfl, _, ⟨b, rfl, h2⟩, _, _, rfl, _, ⟨c, rfl, h3⟩, _, _, rfl, _, ⟨d, rfl, h4⟩, _, _, rfl, _, ⟨A, cap, l, rfl, l1, l2, l3, l4⟩, rfl⟩ := h
    exact ⟨⟨⟨a, b, c, d⟩, A, cap, l⟩, rfl, ⟨l1, l2, h1, h2, h3, h4, fun r hr => (l3 r hr).1, l4⟩, fun r hr => (l3 r hr).2⟩
theorem opensR_juris : OpensR Tryz.prog 39 (fun w cs => ∃ (A : Option Addr) (cap : Nat) (l : List JX), cs = [.slice A l.length cap] ∧ l.length ≤ cap ∧ cap ≤ maxLen ∧ (∀ x ∈ l, x.ok w ∧ x.few) ∧ Reads w w.heap.size 5 A l.length (jvCells (jvs l))) :=
  (opensR_slice 5 Tryz.underlying39 (by kernel_rfl) (by decide) opensR_jur).mono fun w cs h => by
    obtain ⟨A, cap, l, h1, h2, h3, hp, h4⟩ := SliceOf.list (code := fun x : JX => x.jv.cl) (p := fun x => x.ok w ∧ x.few) h.1 (fun x ⟨l, hl, hp⟩ => ⟨l, hl, hp⟩)
    refine ⟨A, cap, l, h1, h2, h3, hp, ?_⟩
    unfold jvCells jvs
    rw [List.flatMap_map]
    exact h4
end Go.Proofs.YtokakpbpenndlaaGreatDoor

set_option linter.unusedVariables false
namespace Go.Proofs.YtokakpbpenndlaaGreatDoor
open Go.RowKit Go.Maps Go.Sort Go.Shelf

/-- The blocks of the reference's book. -/
def rfoot (rb : Nat) (u : Value) (R : List RE) : List Nat := rb :: (u.ownBlock.toList ++ R.flatMap fun x => x.va.ownBlock.toList ++ x.vt.ownBlock.toList)
theorem rfoot_b {rb : Nat} {u : Value} {R : List RE} : rb ∈ rfoot rb u R := by simp [rfoot]
theorem rfoot_u {rb g : Nat} {u : Value} {R : List RE} (h : u.ownBlock = some g) : g ∈ rfoot rb u R := by simp [rfoot, h]
theorem rfoot_a {rb g : Nat} {u : Value} {R : List RE} {x : RE} (hx : x ∈ R) (h : x.va.ownBlock = some g) : g ∈ rfoot rb u R := by
  simp only [rfoot, List.mem_cons, List.mem_append, List.mem_flatMap]
  exact .inr (.inr ⟨x, hx, .inl (by simp [h])⟩)
theorem rfoot_t {rb g : Nat} {u : Value} {R : List RE} {x : RE} (hx : x ∈ R) (h : x.vt.ownBlock = some g) : g ∈ rfoot rb u R := by
  simp only [rfoot, List.mem_cons, List.mem_append, List.mem_flatMap]
  exact .inr (.inr ⟨x, hx, .inr (by simp [h])⟩)
theorem rfoot_cases {rb g : Nat} {u : Value} {R : List RE} (h : g ∈ rfoot rb u R) : g = rb ∨ u.ownBlock = some g ∨ ∃ x ∈ R, x.va.ownBlock = some g ∨ x.vt.ownBlock = some g := by
  simp only [rfoot, List.mem_cons, List.mem_append, List.mem_flatMap, Option.mem_toList] at h
  rcases h with rfl | h | ⟨x, hx, h⟩
  · exact .inl rfl
  · exact .inr (.inl h)
  · exact .inr (.inr ⟨x, hx, h⟩)
theorem RBook.rfoot_lt {w0 W : World} {rb : Nat} {u : Value} {R : List RE} (h : RBook w0 W rb u R) : ∀ g ∈ rfoot rb u R, g < W.heap.size := by
  intro g hg
  rcases rfoot_cases hg with rfl | hg | ⟨x, hx, hg | hg⟩
  · exact h.blk.lt
  · exact (h.row.lt g hg).2
  · exact ((h.oa x hx).lt g hg).2
  · exact ((h.ot x hx).lt g hg).2
def RFar (S : List Nat) (rb : Nat) (u : Value) (R : List RE) : Prop := ∀ g ∈ rfoot rb u R, g ∉ S
theorem RBook.far {w0 W W' : World} {rb : Nat} {u : Value} {R : List RE} {S : List Nat} (h : RBook w0 W rb u R) (hc : Chg S W W') (hf : RFar S rb u R) : RBook w0 W' rb u R :=
  ⟨hc.blk h.blk (hf _ rfoot_b), hc.own h.row fun g hg => hf g (rfoot_u hg), fun x hx => hc.own (h.oa x hx) fun g hg => hf g (rfoot_a hx hg), fun x hx => hc.own (h.ot x hx) fun g hg => hf g (rfoot_t hx hg), h.ge⟩
/-- The two books. -/
def PR (w W : World) (bb mb rb : Nat) (K L : Bk) : Prop := ∃ v M u R, BookAt w W bb mb v M ∧ M.b = K ∧ RBook w W rb u R ∧ RP R L ∧ Ext w W ∧ BkM.far (rb :: u.ownBlock.toList) bb mb v M ∧ RFar (foot bb mb v M) rb u R
theorem PR.to {w W W' : World} {bb mb rb : Nat} {K L : Bk} (h : PR w W bb mb rb K L) (hx : Ext W W') : PR w W' bb mb rb K L := by
  obtain ⟨v, M, u, R, h1, h2, h3, h4, h5, h6, h7⟩ := h
  exact ⟨v, M, u, R, h1.ext hx, h2, h3.to hx, h4, h5.trans hx, h6, h7⟩
theorem PR.x {w W : World} {bb mb rb : Nat} {K L : Bk} (h : PR w W bb mb rb K L) : Ext w W := by
  obtain ⟨v, M, u, R, h1, h2, h3, h4, h5, h6, h7⟩ := h
  exact h5
theorem PR.one {w W : World} {bb mb rb : Nat} {K L : Bk} (h : PR w W bb mb rb K L) : One w W bb mb K := by
  obtain ⟨v, M, u, R, h1, h2, h3, h4, h5, h6, h7⟩ := h
  exact ⟨v, M, h1, h2, h5⟩
theorem PR.ref {w W : World} {bb mb rb : Nat} {K L : Bk} (h : PR w W bb mb rb K L) : ∃ u R, RBook w W rb u R ∧ RP R L := by
  obtain ⟨v, M, u, R, h1, h2, h3, h4, h5, h6, h7⟩ := h
  exact ⟨u, R, h3, h4⟩
theorem PR.new {w w1 : World} (h1 : BookAt w w1 (w.heap.size + 1) w.heap.size (.slice none 0 0) []) (x1 : Ext w w1) : PR w (w1.alloc (.cells #[.slice none 0 0] 46)) (w.heap.size + 1) w.heap.size w1.heap.size [] [] := by
  have X := (Ext.refl w1).alloc (.cells #[.slice none 0 0] 46)
  have hlt := h1.foot_ge
  have l1 := (hlt _ (by simp [foot] : w.heap.size + 1 ∈ foot (w.heap.size + 1) w.heap.size (.slice none 0 0) [])).2
  refine ⟨.slice none 0 0, [], .slice none 0 0, [], h1.ext X, rfl, ⟨Blk.new _ _ _, World.ownsRow_nil _ _ _ _, fun x hx => absurd hx List.not_mem_nil, fun x hx => absurd hx List.not_mem_nil, x1.size⟩, ⟨rfl, Bk.ri_nil, fun x hx => absurd hx List.not_mem_nil, by simp [Bk.ids]⟩, x1.trans X, ⟨?_, ?_, fun g hg => by simp [Value.ownBlock] at hg, fun p hp => absurd hp List.not_mem_nil⟩, fun g hg => ?_⟩
  · simp [Value.ownBlock]; omega
  · simp [Value.ownBlock]; omega
  · rcases rfoot_cases hg with rfl | hg | ⟨x, hx, _⟩
    · simp [foot, Value.ownBlock]; omega
    · simp [Value.ownBlock] at hg
    · cases hx
theorem PR.add {w W : World} {bb mb rb : Nat} {K L : Bk} (h : PR w W bb mb rb K L) (e : Ent) (Aa At : Option Addr) (ca ct : Nat) (he : EntR W e Aa At) (hs : K.small) (hk : K.length ≤ 100000) :
    Calls Tryz.prog 26 #[.pointer (some ⟨bb, 0, none⟩), entV e Aa At ca ct] W fun r W' => ∃ A c, r = .returned (.tuple #[.slice A (K.add e).2.1.length c, .int .i64 (K.add e).2.2]) ∧ PR w W' bb mb rb (K.add e).1 L := by
  obtain ⟨v, M, u, R, h1, rfl, h3, h4, h5, h6, h7⟩ := h
  refine (add_any h1 h5 e Aa At ca ct he (by rw [← BkM.len_b]; exact hk) hs).mono ?_
  rintro r W' ⟨A, c, v', M', B1, rfl, hA⟩
  have hlt := h3.rfoot_lt
  have hS : ∀ g ∈ rb :: u.ownBlock.toList, g < W.heap.size := fun g hg => by
    rcases List.mem_cons.1 hg with rfl | hg
    · exact hlt _ rfoot_b
    · exact hlt _ (rfoot_u (by simpa using hg))
  have hnc : ∀ g, W.heap.size ≤ g → g ∉ rb :: u.ownBlock.toList := fun g h1 h2 => by have := hS g h2; omega
  have hfo : ∀ g ∈ foot bb mb v' M', g ∉ rb :: u.ownBlock.toList := fun g hg => by
    rcases hA.foot g hg with h | h
    · exact h6.foot_ g h
    · exact hnc g h.1
  refine ⟨A, c, rfl, v', M', u, R, hA.at_, hA.b, h3.far hA.chg h7, h4, Chg.to_ext h5 hA.chg (fun k hk => (h1.foot_ge k hk).1), ⟨hfo bb (by simp [foot]), hfo mb (by simp [foot]), fun g hg => hfo g (foot_vids hg), fun p hp => ?_⟩, fun g hg hm => ?_⟩
  · rcases hA.slots p hp with ⟨q, hq, e⟩ | hge
    · rw [← e]; exact h6.all q hq
    · exact ⟨hnc _ hge.1, fun g hg => hnc g (hge.2.1 g hg), fun g hg => hnc g (hge.2.2.1 g hg), fun g hg => hnc g (hge.2.2.2.1 g hg), fun g hg => hnc g (hge.2.2.2.2 g hg)⟩
  · rcases hA.foot g hm with h | h
    · exact h7 g hg h
    · have := hlt g hg; omega
theorem PR.radd {w W : World} {bb mb rb : Nat} {L : Bk} (e : Ent) (h : PR w W bb mb rb (L.add e).1 L) (Aa At : Option Addr) (ca ct : Nat) (he : EntR W e Aa At) (hct : e.tax.length ≤ ct) (hcm : ct ≤ maxLen) (hk : L.length ≤ 100000) :
    Calls Tryz.prog 27 #[.pointer (some ⟨rb, 0, none⟩), entV e Aa At ca ct] W fun r W' => ∃ A n c E, r = .returned (.tuple #[.slice A n c, .int .i64 E]) ∧ PR w W' bb mb rb (L.add e).1 (L.add e).1 := by
  obtain ⟨v, M, u, R, h1, hMb, h3, h4, h5, h6, h7⟩ := h
  have hB : (∀ x ∈ (L.add e).1, x.ok) ∧ (L.add e).1.ids.Nodup := by
    rw [← hMb]
    exact ⟨fun x hx => by obtain ⟨q, hq, rfl⟩ := List.mem_map.1 hx; exact h1.ok q hq, h1.nodup⟩
  refine (radd29_any h3 h5 h4 e Aa At ca ct he hct hcm (by rw [h4.len]; exact hk) hB).mono ?_
  rintro r W' ⟨A, n, c, E, u', R', rfl, hA⟩
  have hlt := h1.foot_ge
  have hrl := h3.rfoot_lt
  refine ⟨A, n, c, E, rfl, v, M, u', R', h1.far hA.chg h6, hMb, hA.at_, hA.rp, Chg.to_ext h5 hA.chg (fun k hk => ?_), h1.far_new h6 (fun g hg => ?_), fun g hg hm => ?_⟩
  · rcases List.mem_cons.1 hk with rfl | hk
    · exact h3.ge
    · exact (h3.row.lt k (by simpa using hk)).1
  · rcases List.mem_cons.1 hg with rfl | hg
    · exact .inl (by simp)
    · rcases hA.vo g (by simpa using hg) with h | h
      · exact .inl (by simp [h])
      · exact .inr h
  · have hgl := (hlt g hm).2
    rcases rfoot_cases hg with rfl | hg | ⟨x, hx, hg⟩
    · exact h7 _ rfoot_b hm
    · rcases hA.vo g hg with h | h
      · exact h7 _ (rfoot_u h) hm
      · omega
    · rcases hA.slots x hx with h | ⟨ha, ht⟩
      · rcases hg with hg | hg
        · exact h7 _ (rfoot_a h hg) hm
        · exact h7 _ (rfoot_t h hg) hm
      · rcases hg with hg | hg
        · have := ha g hg; omega
        · have := ht g hg; omega
theorem PR.rfile {w W : World} {bb mb rb : Nat} {K L : Bk} (h : PR w W bb mb rb K L) (hs : L.small) (hml : L.length ≤ 1000) (l : List JV) (A : Option Addr) (cap n : Nat) (hn : l.length = n) (hr : Reads W W.heap.size 5 A n (jvCells l)) (hm : n ≤ maxLen) (id p : Int) {R : Rep} {E : Int} (hF : L.file (jsOf l) id p = (R, E)) :
    Calls Tryz.prog 30 #[.pointer (some ⟨rb, 0, none⟩), .slice A n cap, .int .i64 id, .int .i64 p] W fun r W' => r = .returned (.tuple #[R.V, .int .i64 E]) ∧ Ext W W' := by
  subst hn
  obtain ⟨u, RR, h3, h4⟩ := h.ref
  have := rfile30_any h3 h4 hs hml l A cap hr hm id p
  rw [hF] at this
  exact this
theorem PR.rall {w W : World} {bb mb rb : Nat} {K L : Bk} (h : PR w W bb mb rb K L) (hs : L.small) (hml : L.length ≤ 1000) (l : List JV) (A : Option Addr) (cap n : Nat) (hn : l.length = n) (hr : Reads W W.heap.size 5 A n (jvCells l)) (hm : n ≤ maxLen) :
    Calls Tryz.prog 32 #[.pointer (some ⟨rb, 0, none⟩), .slice A n cap] W fun r W' => ∃ v, r = .returned v ∧ W'.ownsRow W.heap.size 62 2 v (L.dueF (jsOf l)).length (dueCl (L.dueF (jsOf l))) ∧ Ext W W' := by
  subst hn
  obtain ⟨u, RR, h3, h4⟩ := h.ref
  exact rall30_any h3 h4 hs hml l A cap hr hm
theorem dueF_eq {B : Bk} {js : List Jur} {ss : List (Int × Int)} (h : DueAll (B.dues js) ss) : sortD ss = B.dueF js := by
  unfold Bk.dueF
  by_cases hc : (checkJ js).1 = 0
  · rw [if_neg (by simp [hc]), dueR_eq hc h]
  · rw [if_pos hc]
    unfold Bk.dues at h
    rw [if_pos hc] at h
    cases ss with
    | nil => simp [sortD]
    | cons q ss => exact absurd ((h.2 q).1 (by simp)) List.not_mem_nil
theorem JurisEq.js {a b : List JX} (h : JurisEq a b) : jsOf (jvs a) = jsOf (jvs b) := by
  have := h.j
  simpa [jsOf, jvs, JX.jv, Function.comp_def] using this
theorem JXOwn.ok_ {base : Nat} {W : World} {y : JX} (h : JXOwn base W y) (hi : i64 y.j.id ∧ i64 y.j.k ∧ i64 y.j.par ∧ i64 y.j.f) (hp : ∀ r ∈ y.rings, ∀ p ∈ r.pts, i64 p.1 ∧ i64 p.2) : y.ok W := by
  obtain ⟨A, c, e, l1, l2, rd⟩ := own_slice h.row
  injection e with e1 e2 e3
  subst e1 e3
  refine ⟨l1, l2, hi.1, hi.2.1, hi.2.2.1, hi.2.2.2, fun r hr => ?_, rd⟩
  obtain ⟨A, c, e, l1, l2, rd⟩ := own_slice (h.rings r hr)
  injection e with e1 e2 e3
  subst e1 e3
  exact ⟨l1, l2, hp r hr, rd⟩
end Go.Proofs.YtokakpbpenndlaaGreatDoor
