/-
  The plain side of tax lines: which may be; and words on lists of structs.
-/
import Derived.Test.YtokakpbpenndlaaGreatDoorRt08
import Derived.Maps.OwnSet
import Derived.DeepKeys4
import Derived.Test.YtokakpbpenndlaaGreatDoorRt06
import Derived.Laws.Externs
set_option linter.unusedVariables false
namespace Go.Proofs.YtokakpbpenndlaaGreatDoor

theorem flat_get {α β : Type} {f : α → List β} {c : Nat} (hf : ∀ a, (f a).length = c) : ∀ (l : List α) (k j : Nat) (h : k < l.length), j < c → (l.flatMap f)[k * c + j]? = (f l[k])[j]?
  | [], k, j, h, _ => by simp at h
  | a :: l, 0, j, _, hj => by
    rw [List.flatMap_cons, Nat.zero_mul, Nat.zero_add, List.getElem?_append_left (by rw [hf]; exact hj)]
    rfl
  | a :: l, k + 1, j, h, hj => by
    rw [List.flatMap_cons, List.getElem?_append_right (by rw [hf, Nat.add_mul]; omega), hf]
    rw [show (k + 1) * c + j - c = k * c + j by rw [Nat.add_mul]; omega]
    exact flat_get hf l k j (by simpa using h) hj
theorem flat_len {α β : Type} {f : α → List β} {c : Nat} (hf : ∀ a, (f a).length = c) (l : List α) : (l.flatMap f).length = l.length * c := by
  induction l with
  | nil => simp
  | cons a l ih => rw [List.flatMap_cons, List.length_append, ih, hf, List.length_cons, Nat.add_mul]; omega
theorem flat_take {α β : Type} {f : α → List β} {c : Nat} (hf : ∀ a, (f a).length = c) (l : List α) (n : Nat) : (l.take n).flatMap f = (l.flatMap f).take (n * c) := by
  have e : l.flatMap f = (l.take n).flatMap f ++ (l.drop n).flatMap f := by rw [← List.flatMap_append, List.take_append_drop]
  rcases Nat.lt_or_ge l.length n with h | h
  · rw [List.take_of_length_le (by omega), List.take_of_length_le]
    rw [flat_len hf]
    exact Nat.mul_le_mul_right _ (by omega)
  · have hl : ((l.take n).flatMap f).length = n * c := by rw [flat_len hf, List.length_take, Nat.min_eq_left h]
    rw [e, ← hl, List.take_left]
def Tx.cl (x : Tx) : List Value := [.int .i64 x.l, .int .i64 x.j, .int .i64 x.t, .int .i64 x.x, .int .i64 x.r, .int .i64 x.v]
def txCells (l : List Tx) : List Value := l.flatMap Tx.cl
theorem Tx.cl_len (x : Tx) : x.cl.length = 6 := rfl
theorem txCells_at (l : List Tx) (k : Nat) (h : k < l.length) : (txCells l)[k * 6]? = some (.int .i64 l[k].l) ∧ (txCells l)[k * 6 + 1]? = some (.int .i64 l[k].j) ∧ (txCells l)[k * 6 + 2]? = some (.int .i64 l[k].t) ∧
    (txCells l)[k * 6 + 3]? = some (.int .i64 l[k].x) ∧ (txCells l)[k * 6 + 4]? = some (.int .i64 l[k].r) ∧ (txCells l)[k * 6 + 5]? = some (.int .i64 l[k].v) :=
  ⟨flat_get Tx.cl_len l k 0 h (by decide), flat_get Tx.cl_len l k 1 h (by decide), flat_get Tx.cl_len l k 2 h (by decide), flat_get Tx.cl_len l k 3 h (by decide), flat_get Tx.cl_len l k 4 h (by decide), flat_get Tx.cl_len l k 5 h (by decide)⟩
theorem cl_one (x : Tx) : ∀ u ∈ x.cl, u.oneCell' = true := by intro u hu; simp [Tx.cl] at hu; rcases hu with rfl | rfl | rfl | rfl | rfl | rfl <;> rfl
theorem txCells_one (l : List Tx) : ∀ u ∈ txCells l, u.oneCell' = true := by
  intro u hu
  simp only [txCells, List.mem_flatMap] at hu
  obtain ⟨x, _, hx⟩ := hu
  exact cl_one x u hx

/-- Does a line stand below the one ahead of it? -/
def Tx.below (pre : List Tx) (x : Tx) : Bool := match pre.getLast? with
  | some y => decide (x.l < y.l)
  | none => false
def Tx.key (x : Tx) : Int × Int := (x.l, x.j)
/-- What is wrong with a tax line behind others; 0: nothing. -/
def Tx.bad (pre : List Tx) (x : Tx) : Int := if x.ok = false then 5 else if Tx.below pre x = true then 2 else if x.key ∈ pre.map Tx.key then 7 else 0
def ckTx : List Tx → List Tx → Int × Nat
  | _, [] => (0, 0)
  | pre, x :: r => if Tx.bad pre x ≠ 0 then (Tx.bad pre x, pre.length) else ckTx (pre ++ [x]) r
/-- P25.2: the error, and at which tax line. -/
def checkTax (l : List Tx) : Int × Nat := if 6400 < l.length then (3, 0) else ckTx [] l
theorem ckTx_step {l : List Tx} {k : Nat} (h : k < l.length) (hb : Tx.bad (l.take k) l[k] = 0) : ckTx (l.take k) (l.drop k) = ckTx (l.take (k + 1)) (l.drop (k + 1)) := by
  rw [List.drop_eq_getElem_cons h, ckTx, if_neg (by simp [hb]), List.take_succ_eq_append_getElem h]
theorem ckTx_hit {l : List Tx} {k : Nat} {e : Int} (h : k < l.length) (hb : Tx.bad (l.take k) l[k] = e) (he : e ≠ 0) : ckTx (l.take k) (l.drop k) = (e, k) := by
  rw [List.drop_eq_getElem_cons h, ckTx, if_pos (by rw [hb]; exact he), hb, List.length_take]
  simp; omega
theorem ckTx_end {l : List Tx} {k : Nat} (h : l.length ≤ k) : ckTx (l.take k) (l.drop k) = (0, 0) := by
  rw [List.drop_eq_nil_of_le h, ckTx]
theorem below_at {l : List Tx} {m : Nat} (h : m + 1 < l.length) : Tx.below (l.take (m + 1)) l[m + 1] = decide (l[m + 1].l < l[m].l) := by
  unfold Tx.below
  have : (l.take (m + 1)).getLast? = some l[m] := by
    rw [List.take_succ_eq_append_getElem (show m < l.length by omega)]
    exact List.getLast?_concat
  rw [this]
theorem below_0 (x : Tx) : Tx.below [] x = false := rfl
/-- What checked tax lines are. -/
theorem ckTx_ok : ∀ (r pre : List Tx), (ckTx pre r).1 = 0 → ∀ k (h : k < r.length), Tx.bad (pre ++ r.take k) r[k] = 0
  | [], pre, _, k, h => by simp at h
  | x :: r, pre, h0, k, h => by
    unfold ckTx at h0
    by_cases hb : Tx.bad pre x ≠ 0
    · rw [if_pos hb] at h0; exact absurd h0 hb
    · rw [if_neg hb] at h0
      cases k with
      | zero => simpa using hb
      | succ k =>
        have := ckTx_ok r (pre ++ [x]) h0 k (by simpa using h)
        simpa using this
theorem bad_5 {pre : List Tx} {x : Tx} (h : x.ok = false) : Tx.bad pre x = 5 := by unfold Tx.bad; rw [if_pos h]
theorem bad_2 {pre : List Tx} {x : Tx} (h : x.ok = true) (h2 : Tx.below pre x = true) : Tx.bad pre x = 2 := by unfold Tx.bad; rw [if_neg (by simp [h]), if_pos h2]
theorem bad_7 {pre : List Tx} {x : Tx} (h : x.ok = true) (h2 : Tx.below pre x = false) (h3 : x.key ∈ pre.map Tx.key) : Tx.bad pre x = 7 := by unfold Tx.bad; rw [if_neg (by simp [h]), if_neg (by simp [h2]), if_pos h3]
theorem bad_no {pre : List Tx} {x : Tx} (h : x.ok = true) (h2 : Tx.below pre x = false) (h3 : x.key ∉ pre.map Tx.key) : Tx.bad pre x = 0 := by unfold Tx.bad; rw [if_neg (by simp [h]), if_neg (by simp [h2]), if_neg h3]
theorem bad_0 {pre : List Tx} {x : Tx} (h : Tx.bad pre x = 0) : x.ok = true ∧ Tx.below pre x = false ∧ x.key ∉ pre.map Tx.key := by
  unfold Tx.bad at h
  by_cases h1 : x.ok = false
  · rw [if_pos h1] at h; cases h
  rw [if_neg h1] at h
  by_cases h2 : Tx.below pre x = true
  · rw [if_pos h2] at h; cases h
  rw [if_neg h2] at h
  by_cases h3 : x.key ∈ pre.map Tx.key
  · rw [if_pos h3] at h; cases h
  · exact ⟨by simpa using h1, by simpa using h2, h3⟩
theorem checkTax_ok {l : List Tx} (h : (checkTax l).1 = 0) : l.length ≤ 6400 ∧ ∀ k (hk : k < l.length), l[k].ok = true ∧ Tx.below (l.take k) l[k] = false ∧ l[k].key ∉ (l.take k).map Tx.key := by
  unfold checkTax at h
  by_cases h1 : 6400 < l.length
  · rw [if_pos h1] at h; cases h
  rw [if_neg h1] at h
  exact ⟨by omega, fun k hk => bad_0 (by simpa using ckTx_ok l [] h k hk)⟩
theorem checkTax_mem {l : List Tx} (h : (checkTax l).1 = 0) : ∀ x ∈ l, x.ok = true := by
  intro x hx
  obtain ⟨k, hk, rfl⟩ := List.mem_iff_getElem.1 hx
  exact ((checkTax_ok h).2 k hk).1
theorem Tx.i64s {x : Tx} (h : x.ok = true) : i64 x.l ∧ i64 x.j ∧ i64 x.t ∧ i64 x.x ∧ i64 x.r ∧ i64 x.v := by
  obtain ⟨a, b, c, d, e, f⟩ := Tx.ok_bd h
  unfold i64
  omega
end Go.Proofs.YtokakpbpenndlaaGreatDoor

set_option linter.unusedVariables false
namespace Go.Proofs.YtokakpbpenndlaaGreatDoor
open Go.RowKit Go.Maps

theorem laidK : laidOutB Tryz.prog = true := by kernel_rfl
theorem law2 : Keyed Tryz.prog 283 := Keyed.of_law (deep_law_laid laidK (m := 2) (by decide) (of_decide_eq_true (by kernel_rfl)) (by kernel_rfl) (by rw [Tryz.underlying283]))
/-- What a key reads as. -/
def kl2 (p : Int × Int) : Lit := .string (keyBytes [.int .i64 p.1, .int .i64 p.2])
theorem kl_t : Tryz.prog.types.size + 1 = Tryz.prog.types.size - 1 + 1 + 1 := by
  have : 1 ≤ Tryz.prog.types.size := of_decide_eq_true (by kernel_rfl)
  omega
theorem i64_wf {n : Int} (h : i64 n) : (Lit.int .i64 n).wf = true := by
  unfold i64 at h
  simp [Lit.wf, IntKind.min, IntKind.max, IntKind.signed, IntKind.bits]
  exact h
theorem key2 (l j : Int) (hl : i64 l) (hj : i64 j) : keyOf Tryz.prog 283 (.agg #[.int .i64 l, .int .i64 j]) = some (kl2 (l, j)) := by
  have h1 : Tryz.prog.keyType 283 = true := by kernel_rfl
  have h2 : Tryz.prog.cellsOf 283 = 2 := by kernel_rfl
  have h3 : Tryz.prog.cellsOf 3 = 1 := by kernel_rfl
  have e1 : ∀ d n, i64 n → Tryz.prog.keyLits (d + 1) 3 [.int .i64 n] = some [.int .i64 n] := by
    intro d n hn
    unfold Program.keyLits
    simp [Tryz.underlying3, i64_wf hn]
  unfold keyOf
  rw [Tryz.underlying283]
  simp only [h1, Value.formed, Tryz.underlying283, h2]
  rw [kl_t]
  unfold Program.keyLits
  simp only [Tryz.underlying283, Value.cells, h2, h3]
  simp [List.range, List.range.loop, e1 _ l hl, e1 _ j hj, kl2]
theorem kl2_inj {p q : Int × Int} (hp : i64 p.1 ∧ i64 p.2) (hq : i64 q.1 ∧ i64 q.2) (h : kl2 p = kl2 q) : p = q := by
  have h1 := key2 p.1 p.2 hp.1 hp.2
  have h2 := key2 q.1 q.2 hq.1 hq.2
  have e1 : (p.1, p.2) = p := rfl
  have e2 : (q.1, q.2) = q := rfl
  rw [e1] at h1
  rw [e2, ← h] at h2
  have := law2.inj h1 h2
  obtain ⟨a, b⟩ := p
  obtain ⟨c, d⟩ := q
  simp at this
  simp [this]
theorem kl2_key (p : Int × Int) : WideAt.IsKeyLit (kl2 p) := by trivial
theorem kl2_same {p q : Int × Int} (hp : i64 p.1 ∧ i64 p.2) (hq : i64 q.1 ∧ i64 q.2) : (kl2 p).sameKey (kl2 q) = decide (p = q) := by
  by_cases h : p = q
  · subst h; simp [kl2, Lit.sameKey]
  · rw [sameKey_ne (fun e => h (kl2_inj hp hq e))]
    simp [h]
/-- Block B is the set of these keys. -/
def MetIs (w : World) (B n : Nat) (ks : List (Int × Int)) : Prop := w.ownsMap Tryz.prog 283 (unitElem (H := Unit)) B n (setOf (.agg []) (ks.map kl2)) ∧ ∀ p ∈ ks, i64 p.1 ∧ i64 p.2
theorem MetIs.has {w : World} {B n : Nat} {ks : List (Int × Int)} (h : MetIs w B n ks) {p : Int × Int} (hp : i64 p.1 ∧ i64 p.2) : Maps.has (setOf (H := Unit) (.agg []) (ks.map kl2)) (kl2 p) = decide (p ∈ ks) := by
  rw [has_setOf _ _ _ (by intro x hx; obtain ⟨q, _, rfl⟩ := List.mem_map.1 hx; exact kl2_key q)]
  rw [Bool.eq_iff_iff]
  simp only [List.any_map, List.any_eq_true, Function.comp_apply, decide_eq_true_eq]
  constructor
  · rintro ⟨q, hq, he⟩
    rw [kl2_same (h.2 q hq) hp] at he
    have : q = p := by simpa using he
    rw [← this]; exact hq
  · intro hm
    exact ⟨p, hm, by rw [kl2_same hp hp]; simp⟩
theorem MetIs.snoc {w : World} {B n : Nat} {ks : List (Int × Int)} {p : Int × Int} (hp : i64 p.1 ∧ i64 p.2) (hk : ∀ q ∈ ks, i64 q.1 ∧ i64 q.2) (h : w.ownsMap Tryz.prog 283 (unitElem (H := Unit)) B n ((setOf (.agg []) (ks.map kl2)).put (kl2 p) (.agg []))) : MetIs w B n (ks ++ [p]) := by
  refine ⟨?_, ?_⟩
  · rw [List.map_append, List.map_cons, List.map_nil, setOf_snoc]; exact h
  · intro q hq
    rcases List.mem_append.1 hq with hq | hq
    · exact hk q hq
    · rw [List.mem_singleton.1 hq]; exact hp
theorem MetIs.made (w : World) : MetIs (w.alloc (.map #[] 0)) w.heap.size 0 [] := ⟨World.ownsMap_made _ _ _ _, by simp⟩
theorem MetIs.grown {w w' : World} {B n : Nat} {ks : List (Int × Int)} {row : Option Nat} (h : MetIs w B n ks) (hg : w.grownBy w' row) (hne : some B ≠ row) : MetIs w' B n ks := ⟨h.1.kept hg hne, h.2⟩
theorem MetIs.lt {w : World} {B n : Nat} {ks : List (Int × Int)} (h : MetIs w B n ks) : B < w.heap.size := by
  obtain ⟨es, clock, hb, _⟩ := h.1
  exact (Array.getElem?_eq_some_iff.1 hb).1
theorem MetIs.ext {w w' : World} {B n : Nat} {ks : List (Int × Int)} (h : MetIs w B n ks) (hx : Ext w w') : MetIs w' B n ks := by
  obtain ⟨es, clock, hb, r⟩ := h.1
  exact ⟨⟨es, clock, by rw [hx.block B h.lt]; exact hb, r⟩, h.2⟩
theorem MetIs.mono {w : World} {B n m : Nat} {ks : List (Int × Int)} (h : MetIs w B n ks) (hn : n ≤ m) : MetIs w B m ks := by
  obtain ⟨es, clock, hb, r, hs, e⟩ := h.1
  exact ⟨⟨es, clock, hb, r, by omega, e⟩, h.2⟩
theorem zeroU (w : World) : (zeroValue 147).run Tryz.prog w = .ok (.agg #[]) w := by kernel_rfl

set_option maxRecDepth 100000 in
set_option maxHeartbeats 1000000 in
theorem twice_any (B n : Nat) (ks : List (Int × Int)) (l j : Int) (hl : i64 l) (hj : i64 j) (w : World) (hn : n < maxLen) (h : MetIs w B n ks) :
    Calls Tryz.prog 233 #[.map (some B), .int .i64 l, .int .i64 j] w fun e w' => e = .returned (.bool (decide ((l, j) ∈ ks))) ∧ MetIs w' B (n + 1) (ks ++ [(l, j)]) ∧ w.grownBy w' (some B) := by
  have hkey := key2 l j hl hj
  have hh := h.has (p := (l, j)) ⟨hl, hj⟩
  have H1 := Lib.hid (h.1)
  have H2 := Lib.hid h.2
  replace hkey := Lib.hid hkey
  replace hh := Lib.hid hh
  clear h
  go_enter Tryz.func233, Tryz.ntmps233
  go_wp2_with (first
    | (at_lookup; refine wpList_lookup_own_unit _ rfl _ _ 281 rfl 283 147 law2 Tryz.underlying281 (zeroU _) B n _ rfl (H1.out.alloc _) _ _ rfl hkey.out ?_)
    | (at_mapUpdate; refine wpList_mapUpdate_own _ rfl _ _ _ 281 rfl 283 147 law2 Tryz.underlying281 _ B n _ rfl ((H1.out.alloc _).alloc _) hn _ _ _ rfl rfl hkey.out (.agg []) [] unitElem_mk ?_; intro w1 hown1 hgrow1))
  go_ret
  refine ⟨ret_bool hh.out, MetIs.snoc ⟨hl, hj⟩ H2.out hown1, ?_⟩
  exact only_trans (only_alloc (only_alloc (World.grownBy.refl _ _) _) _) hgrow1
end Go.Proofs.YtokakpbpenndlaaGreatDoor

set_option linter.unusedVariables false
namespace Go.Proofs.YtokakpbpenndlaaGreatDoor
open Go.RowKit Go.Maps

/-- Where the loop stands. -/
def CkRel (w : World) (l : List Tx) (i : Value) (wr : World) : Prop :=
  ∃ k : Nat, k ≤ l.length ∧ i = .int .i64 (k : Int) ∧ Ext w wr ∧ MetIs wr w.heap.size k ((l.take k).map Tx.key) ∧ ckTx [] l = ckTx (l.take k) (l.drop k)
theorem CkRel.next {w w1 : World} {l : List Tx} {k m : Nat} (hk : k < l.length) (hx : Ext w w1) (hm : MetIs w1 w.heap.size (k + 1) ((l.take k).map Tx.key ++ [(l[k].l, l[k].j)])) (hc : ckTx [] l = ckTx (l.take k) (l.drop k)) (hb : Tx.bad (l.take k) l[k] = 0) (e : m = k + 1) : CkRel w l (.int .i64 (m : Int)) w1 := by
  subst e
  refine ⟨k + 1, by omega, rfl, hx, ?_, by rw [hc, ckTx_step hk hb]⟩
  rw [List.take_succ_eq_append_getElem hk, List.map_append]
  exact hm

set_option maxRecDepth 100000 in
set_option maxHeartbeats 4000000 in
theorem checkTax_any (l : List Tx) (A : Option Addr) (cap : Nat) (w : World) (hr : Reads w w.heap.size 6 A l.length (txCells l)) (hm : l.length ≤ maxLen) :
    Calls Tryz.prog 231 #[.slice A l.length cap] w fun e w' => e = .returned (.tuple #[.int .i64 (checkTax l).1, .int .i64 ((checkTax l).2 : Int)]) ∧ Ext w w' := by
  unfold maxLen at hm
  by_cases h0 : 6400 < l.length
  · have hd : decide ((6400 : Int) < (l.length : Int)) = true := by simp; omega
    have HE := Lib.hid (show checkTax l = (3, 0) by unfold checkTax; rw [if_pos h0])
    go_enter Tryz.func231, Tryz.ntmps231
    go_wp2_with fail
    go_ret2
    exact ⟨by rw [HE.out]; rfl, Ext.refl _⟩
  have hd0 : decide ((6400 : Int) < (l.length : Int)) = false := by simp; omega
  have HE := Lib.hid (show checkTax l = ckTx [] l by unfold checkTax; rw [if_neg h0])
  have hmm := @run_makeMap Tryz.prog
  go_enter Tryz.func231, Tryz.ntmps231
  go_wp2_with fail
  clear hmm hd0
  go_loopw [13] (fun i wr => CkRel w l i wr) (fun i _ => l.length - (intOf i).toNat)
  case atStart => exact ⟨0, by omega, rfl, (Ext.refl w).alloc _, by simpa using MetIs.made w, by simp⟩
  case round =>
    obtain ⟨k, hk, rfl, hx, hM, hc⟩ := hrel
    by_cases hlt : k < l.length
    · have hd : decide ((k : Int) < (l.length : Int)) = true := by simp; omega
      obtain ⟨g, off, rfl, hg, hcl⟩ := (hr.extB (Nat.le_refl _) hx).cellAt hlt
      obtain ⟨e1, e2, e3, e4, e5, e6⟩ := txCells_at l k hlt
      have c1 := hcl _ _ e1
      have c2 : wr.cell? ⟨g, off + k * 6 + 1, none⟩ = _ := hcl _ _ e2
      have c3 : wr.cell? ⟨g, off + k * 6 + 2, none⟩ = _ := hcl _ _ e3
      have c4 : wr.cell? ⟨g, off + k * 6 + 3, none⟩ = _ := hcl _ _ e4
      have c5 : wr.cell? ⟨g, off + k * 6 + 4, none⟩ = _ := hcl _ _ e5
      have c6 : wr.cell? ⟨g, off + k * 6 + 5, none⟩ = _ := hcl _ _ e6
      have hgl : g < wr.heap.size := Nat.lt_of_lt_of_le hg hx.size
      have HC := Lib.hid hc
      obtain ⟨KS, hKS⟩ : ∃ KS, KS = (l.take k).map Tx.key := ⟨_, rfl⟩
      rw [← hKS] at hM
      replace hKS := Lib.hid hKS
      have HM := Lib.hid hM
      have HL := Lib.hid (fun W (h : Ext wr W) => fun j u (hu : (txCells l)[j]? = some u) => (h.cell g (off + j) none hgl).trans (hcl j u hu))
      clear e1 e2 e3 e4 e5 e6 hcl hr hc hM
      have hbad := Lib.hid (rfl : Tx.bad (l.take k) l[k] = Tx.bad (l.take k) l[k])
      generalize hxe : l[k] = x at *
      replace hxe := Lib.hid hxe
      have HB := (Blk.new wr 117 #[.int .i64 x.l, .int .i64 x.j, .int .i64 x.t, .int .i64 x.x, .int .i64 x.r, .int .i64 x.v])
      replace HB := Lib.hid HB
      go_wp2_with fail
      refine (one_any x.l x.j x.t x.x x.r x.v _).mono ?_
      rintro e v1 ⟨rfl, hx1⟩
      have B1 := HB.out.ext hx1
      clear HB
      have X1 := ((Ext.refl wr).alloc (.cells #[.int .i64 x.l, .int .i64 x.j, .int .i64 x.t, .int .i64 x.x, .int .i64 x.r, .int .i64 x.v] 117)).trans hx1
      clear hx1 c1 c2 c3 c4 c5 c6
      generalize wr.heap.size = g6 at B1 ⊢
      obtain ⟨q6, q6'⟩ := B1.cells
      cases hok : x.ok
      · have HH := Lib.hid (HE.out.trans (HC.out.trans (ckTx_hit (e := 5) hlt (by rw [hxe.out]; exact bad_5 hok) (by decide))))
        have hok' : Tax1 x.l x.j x.t x.x x.r x.v = false := hok
        rw [hok']
        clear hok hok'
        go_wp2_with fail
        go_ret2
        exact ⟨by rw [HH.out]; rfl, hx.trans X1⟩
      · have hok' : Tax1 x.l x.j x.t x.x x.r x.v = true := hok
        rw [hok']
        have HO := Lib.hid hok
        clear hok hok'
        rcases Nat.eq_zero_or_pos k with hk0 | hk0
        case' inl =>
          have hz : decide ((0 : Int) < (k : Int)) = false := by simp; omega
          have hz' : decide (0 < k) = false := by simp; omega
          have HW := Lib.hid (show Tx.below (l.take k) x = false by rw [hk0]; exact below_0 x)
          clear hk0
          go_wp2_with fail
          go_quiet (fail)
        case' inr =>
          obtain ⟨m, rfl⟩ : ∃ m, k = m + 1 := ⟨k - 1, by omega⟩
          have hml : m < l.length := by omega
          have hz : decide ((0 : Int) < (m : Int) + 1) = true := by rw [decide_eq_true_eq]; omega
          have hz' : decide (0 < m + 1) = true := by rw [decide_eq_true_eq]; omega
          have e1 := (txCells_at l m hml).1
          have c1 := HL.out _ X1 _ _ e1
          have HW := below_at (l := l) (m := m) hlt
          rw [hxe.out] at HW
          clear e1
          generalize hye : l[m] = y at *
          replace hye := Lib.hid hye
          by_cases hb : x.l < y.l
          case' pos =>
            have hb' : decide (x.l < y.l) = true := by simpa using hb
            rw [hb'] at HW
            have HH := Lib.hid (HE.out.trans (HC.out.trans (ckTx_hit (e := 2) hlt (by rw [hxe.out]; exact bad_2 HO.out HW) (by decide))))
            clear hb HW
            go_wp2_with fail
            go_quiet (fail)
            go_wp2_with fail
            go_ret2
            exact ⟨by rw [HH.out]; rfl, (hx.trans X1).drewN _⟩
          case' neg =>
            have hb' : decide (x.l < y.l) = false := by simpa using hb
            rw [hb'] at HW
            replace HW := Lib.hid HW
            clear hb
            go_wp2_with fail
            go_quiet (fail)
        all_goals
          obtain ⟨il, ij, _⟩ := Tx.i64s HO.out
          go_wp2_with fail
          refine (twice_any _ _ KS x.l x.j il ij _ (by unfold maxLen; omega) ((HM.out.ext X1).ext ((Ext.refl v1).drewN _))).mono ?_
          rintro e v2 ⟨rfl, hM2, hG⟩
          have X2 : Ext w v2 := (hx.trans (X1.drewN _)).grown hG (by intro q hq; have := Option.some.inj hq; omega)
          have HIN := Lib.hid (rfl : decide ((x.l, x.j) ∈ KS) = decide ((x.l, x.j) ∈ KS))
          cases hin : decide ((x.l, x.j) ∈ KS)
          · replace hin := Lib.hid hin
            go_wp2_with fail
            go_roundw
            case rel => exact CkRel.next hlt X2 (by rw [hxe.out, ← hKS.out]; exact hM2) HC.out (by rw [hxe.out]; exact bad_no HO.out HW.out (by rw [← hKS.out]; simpa [Tx.key] using hin.out)) rfl
            case measure => simp [intOf]; omega
          · have HH := Lib.hid (HE.out.trans (HC.out.trans (ckTx_hit (e := 7) hlt (by rw [hxe.out]; exact bad_7 HO.out HW.out (by rw [← hKS.out]; simpa [Tx.key] using hin)) (by decide))))
            replace hin := Lib.hid hin
            go_wp2_with fail
            go_ret2
            exact ⟨by rw [HH.out]; rfl, X2⟩
    · have hd : decide ((k : Int) < (l.length : Int)) = false := by simp; omega
      have HH := Lib.hid (HE.out.trans (hc.trans (ckTx_end (by omega))))
      go_wp2_with fail
      go_ret2
      exact ⟨by rw [HH.out]; rfl, hx⟩
end Go.Proofs.YtokakpbpenndlaaGreatDoor

set_option linter.unusedVariables false
namespace Go.Proofs.YtokakpbpenndlaaGreatDoor
open Go.RowKit

theorem add64_any (x y c : Int) (hx : 0 ≤ x) (hy : 0 ≤ y) (hc0 : 0 ≤ c) (hc : c ≤ 1) (w : World) : (callFunc 116 #[.int .u64 x, .int .u64 y, .int .u64 c]).run Tryz.prog w =
    .ok (.value (.tuple #[.int .u64 ((x + y + c) % 18446744073709551616), .int .u64 ((x + y + c) / 18446744073709551616)])) w := by
  rw [run_callFunc_extern Tryz.func116 (by kernel_rfl) (by kernel_rfl) (by kernel_rfl) (e := add64Entry) (by kernel_rfl), run_add64 x y c hx hy hc0 hc]
  rfl
theorem add64_0 (x y : Int) (hx : 0 ≤ x) (hy : 0 ≤ y) (w : World) : (callFunc 116 #[.int .u64 x, .int .u64 y, .int .u64 0]).run Tryz.prog w =
    .ok (.value (.tuple #[.int .u64 ((x + y) % 18446744073709551616), .int .u64 ((x + y) / 18446744073709551616)])) w := by
  simpa using add64_any x y 0 hx hy (Int.le_refl 0) (by decide) w

end Go.Proofs.YtokakpbpenndlaaGreatDoor

set_option linter.unusedVariables false
namespace Go.Proofs.YtokakpbpenndlaaGreatDoor
open Go.RowKit
/-- Two rows do not lie in one block. -/
def Apart (v v' : Value) : Prop := ∀ g, v.ownBlock = some g → v'.ownBlock ≠ some g
theorem Apart.symm {v v' : Value} (h : Apart v v') : Apart v' v := fun g h1 h2 => h g h2 h1
theorem Apart.nil (v : Value) (n c : Nat) : Apart (.slice none n c) v := fun g h => by simp [Value.ownBlock] at h
end Go.Proofs.YtokakpbpenndlaaGreatDoor

set_option linter.unusedVariables false
namespace Go.Proofs.YtokakpbpenndlaaGreatDoor
end Go.Proofs.YtokakpbpenndlaaGreatDoor

set_option linter.unusedVariables false
namespace Go.Proofs.YtokakpbpenndlaaGreatDoor

structure Ent where
  k : Int
  id : Int
  of_ : Int
  day : Int
  am : List Int
  tax : List Tx
deriving DecidableEq
def Ent.zero : Ent := ⟨0, 0, 0, 0, [], []⟩
def Ent.head (e : Ent) : Bool := win e.id 1 1099511627775 && win e.of_ 0 1099511627775 && win e.day 0 3652058
def Ent.ams (e : Ent) : Bool := e.am.all fun n => win n 0 4611686018427387904
def manyI (n : Nat) : Bool := decide (1 ≤ n) && decide (n ≤ 100)
/-- Does a tax line fit the amounts? -/
def Tx.fits (am : List Int) (x : Tx) : Bool := decide (x.l.toNat < am.length) && decide (x.t + x.x = am.getD x.l.toNat 0)
def Ent.saleFine (e : Ent) : Bool := decide ((checkTax e.tax).1 = 0) && decide (e.of_ = 0) && manyI e.am.length && e.tax.all (Tx.fits e.am)
def Ent.refundFine (e : Ent) : Bool := decide (e.of_ ≠ 0) && manyI e.am.length && e.am.any (fun n => decide (n ≠ 0)) && decide (e.tax.length = 0)
def Ent.voidFine (e : Ent) : Bool := decide (e.of_ ≠ 0) && decide (e.day = 0) && decide (e.am.length + e.tax.length = 0)
def Ent.fine (e : Ent) : Bool := if e.k = 1 then e.saleFine else if e.k = 2 then e.refundFine else if e.k = 3 then e.voidFine else false
/-- P29.1. -/
def Ent.check (e : Ent) : Int := if e.head = false ∨ e.ams = false then 5 else if e.fine = false then 2 else 0

/-- An entry, its tax lines; of a sale what came back of each line, and whether it was voided. -/
structure Kp where
  e : Ent
  lines : List Tx
  back : List Int
  voided : Bool
abbrev Bk := List Kp
def Bk.find (B : Bk) (id : Int) : Option Kp := B.find? fun x => decide (x.e.id = id)
def Bk.sale (B : Bk) (id : Int) : Option Kp := (B.find id).filter fun x => decide (x.e.k = 1)
/-- More of a line than is left? -/
def overB : List Int → List Int → List Int → Bool
  | n :: r, a :: ra, b :: rb => decide (a - b < n) || overB r ra rb
  | _, _, _ => false
def Kp.refMay (s : Kp) (e : Ent) : Int := if s.voided then 9 else if e.am.length ≠ s.e.am.length ∨ e.day < s.e.day then 2 else if overB e.am s.e.am s.back then 5 else 0
def Kp.voidMay (s : Kp) : Int := if s.voided || s.back.any (fun n => decide (0 < n)) then 9 else 0
/-- P29.2: the error. -/
def Bk.may (B : Bk) (e : Ent) : Int :=
  if e.check ≠ 0 then e.check
  else if (B.find e.id).isSome then 7
  else if e.k = 2 then (match B.sale e.of_ with | none => 6 | some s => s.refMay e)
  else if e.k = 3 then (match B.sale e.of_ with | none => 6 | some s => s.voidMay)
  else 0
/-- What comes back of a tax line by a refund. -/
def Kp.refLine (s : Kp) (am : List Int) (x : Tx) : List Tx :=
  if am.getD x.l.toNat 0 = 0 then [] else [(x.ret (s.back.getD x.l.toNat 0) (s.back.getD x.l.toNat 0 + am.getD x.l.toNat 0)).1]
def Kp.refLines (s : Kp) (am : List Int) : List Tx := s.lines.flatMap (s.refLine am)
def addL : List Int → List Int → List Int
  | a :: r, b :: s => (a + b) :: addL r s
  | a, _ => a
def Bk.upd (B : Bk) (id : Int) (f : Kp → Kp) : Bk := B.map fun x => if x.e.id = id then f x else x
/-- What an entry that may be added makes of the book, and its tax lines. -/
def Bk.put (B : Bk) (e : Ent) : Bk × List Tx :=
  if e.k = 1 then (B ++ [⟨e, e.tax, List.replicate e.am.length 0, false⟩], e.tax)
  else if e.k = 2 then (match B.sale e.of_ with
    | none => (B ++ [⟨e, [], [], false⟩], [])
    | some s => (B.upd e.of_ (fun x => { x with back := addL x.back e.am }) ++ [⟨e, s.refLines e.am, [], false⟩], s.refLines e.am))
  else if e.k = 3 then (B.upd e.of_ (fun x => { x with voided := true }) ++ [⟨e, [], [], false⟩], [])
  else (B ++ [⟨e, [], [], false⟩], [])
def Bk.lines (B : Bk) (id : Int) : List Tx := match B.find id with | none => [] | some x => x.lines
/-- P29.2: the book behind it, the tax lines, the error. -/
def Bk.add (B : Bk) (e : Ent) : Bk × List Tx × Int :=
  if B.may e = 0 then ((B.put e).1, (B.put e).2, 0)
  else if B.may e = 7 ∧ (match B.find e.id with | none => false | some x => decide (x.e.k = e.k)) = true then (B, B.lines e.id, 7)
  else (B, [], B.may e)
def Bk.left (B : Bk) (id line : Int) : Int × Bool := match B.sale id with
  | none => (0, false)
  | some s => if line < 0 ∨ (s.e.am.length : Int) ≤ line then (0, false) else if s.voided then (0, true) else (s.e.am.getD line.toNat 0 - s.back.getD line.toNat 0, true)
def Bk.voided (B : Bk) (id : Int) : Bool := match B.sale id with | none => false | some s => s.voided
structure Mv where
  id : Int
  day : Int
  back : Bool
  t : Int
  x : Int
  v : Int
deriving DecidableEq
def Kp.moves (x : Kp) (j : Int) : List Mv := if x.voided then [] else (x.lines.filter fun l => decide (l.j = j)).map fun l => ⟨x.e.id, x.e.day, decide (x.e.k = 2), l.t, l.x, l.v⟩
def Bk.moves (B : Bk) (j : Int) : List Mv := B.flatMap fun x => x.moves j
def Bk.ids (B : Bk) : List Int := B.map fun x => x.e.id

/-- What holds of an entry in a book. -/
structure Kp.ok (x : Kp) : Prop where
  chk : x.e.check = 0
  lns : x.e.k = 1 → x.lines = x.e.tax
  bln : x.e.k = 1 → x.back.length = x.e.am.length
  bbd : x.e.k = 1 → ∀ i, i < x.e.am.length → 0 ≤ x.back.getD i 0 ∧ x.back.getD i 0 ≤ x.e.am.getD i 0
  oth : x.e.k ≠ 1 → x.back = [] ∧ x.voided = false
theorem Ent.check_ok {e : Ent} (h : e.check = 0) : e.head = true ∧ e.ams = true ∧ e.fine = true := by
  unfold Ent.check at h
  by_cases h1 : e.head = false ∨ e.ams = false
  · rw [if_pos h1] at h; cases h
  rw [if_neg h1] at h
  by_cases h2 : e.fine = false
  · rw [if_pos h2] at h; cases h
  obtain ⟨a, b⟩ := not_or.1 h1
  exact ⟨by simpa using a, by simpa using b, by simpa using h2⟩
end Go.Proofs.YtokakpbpenndlaaGreatDoor
