/-
  The plain side of tax lines: which may be; and words on lists of structs.
-/
import Derived.Test.YtehkmngbknbbaaaRi08
import Derived.Maps.OwnSet
import Derived.DeepKeys4
set_option linter.unusedVariables false
namespace Go.Proofs.Ytehkmngbknbbaaa

theorem flat_get {α β : Type} {f : α → List β} {c : Nat} (hf : ∀ a, (f a).length = c) : ∀ (l : List α) (k j : Nat) (h : k < l.length), j < c → (l.flatMap f)[k * c + j]? = (f l[k])[j]?
  | [], k, j, h, _ => by simp at h
  | a :: l, 0, j, _, hj => by
    rw [List.flatMap_cons, Nat.zero_mul, Nat.zero_add, List.getElem?_append_left (by rw [hf]; exact hj)]
    rfl
  | a :: l, k + 1, j, h, hj => by
    rw [List.flatMap_cons, List.getElem?_append_right (by rw [hf, Nat.add_mul]; omega), hf]
    rw [show (k + 1) * c + j - c = k * c + j by rw [Nat.add_mul]; omega]
    exact flat_get hf l k j (by simpa using h) hj
theorem flat_len {α β : Type} {f : α → List β} {c : Nat} (hf : ∀ a, (f a).length = c) (l : List α) : (l.flatMap f).length = l.length * c := by
  induction l with
  | nil => simp
  | cons a l ih => rw [List.flatMap_cons, List.length_append, ih, hf, List.length_cons, Nat.add_mul]; omega
theorem flat_take {α β : Type} {f : α → List β} {c : Nat} (hf : ∀ a, (f a).length = c) (l : List α) (n : Nat) : (l.take n).flatMap f = (l.flatMap f).take (n * c) := by
  have e : l.flatMap f = (l.take n).flatMap f ++ (l.drop n).flatMap f := by rw [← List.flatMap_append, List.take_append_drop]
  rcases Nat.lt_or_ge l.length n with h | h
  · rw [List.take_of_length_le (by omega), List.take_of_length_le]
    rw [flat_len hf]
    exact Nat.mul_le_mul_right _ (by omega)
  · have hl : ((l.take n).flatMap f).length = n * c := by rw [flat_len hf, List.length_take, Nat.min_eq_left h]
    rw [e, ← hl, List.take_left]
theorem flat_drop {α β : Type} {f : α → List β} {c : Nat} (hf : ∀ a, (f a).length = c) (l : List α) (n : Nat) : (l.drop n).flatMap f = (l.flatMap f).drop (n * c) := by
  have e : l.flatMap f = (l.take n).flatMap f ++ (l.drop n).flatMap f := by rw [← List.flatMap_append, List.take_append_drop]
  rcases Nat.lt_or_ge l.length n with h | h
  · rw [List.drop_of_length_le (by omega), List.drop_of_length_le]
    · rfl
    · rw [flat_len hf]
      exact Nat.mul_le_mul_right _ (by omega)
  · have hl : ((l.take n).flatMap f).length = n * c := by rw [flat_len hf, List.length_take, Nat.min_eq_left h]
    rw [e, ← hl, List.drop_left]
theorem flat_snoc {α β : Type} {f : α → List β} (l : List α) (a : α) : (l ++ [a]).flatMap f = l.flatMap f ++ f a := by simp

def Tx.cl (x : Tx) : List Value := [.int .i64 x.l, .int .i64 x.j, .int .i64 x.t, .int .i64 x.x, .int .i64 x.r, .int .i64 x.v]
def txCells (l : List Tx) : List Value := l.flatMap Tx.cl
theorem Tx.cl_len (x : Tx) : x.cl.length = 6 := rfl
theorem txCells_len (l : List Tx) : (txCells l).length = l.length * 6 := flat_len Tx.cl_len l
theorem txCells_at (l : List Tx) (k : Nat) (h : k < l.length) : (txCells l)[k * 6]? = some (.int .i64 l[k].l) ∧ (txCells l)[k * 6 + 1]? = some (.int .i64 l[k].j) ∧ (txCells l)[k * 6 + 2]? = some (.int .i64 l[k].t) ∧
    (txCells l)[k * 6 + 3]? = some (.int .i64 l[k].x) ∧ (txCells l)[k * 6 + 4]? = some (.int .i64 l[k].r) ∧ (txCells l)[k * 6 + 5]? = some (.int .i64 l[k].v) :=
  ⟨flat_get Tx.cl_len l k 0 h (by decide), flat_get Tx.cl_len l k 1 h (by decide), flat_get Tx.cl_len l k 2 h (by decide), flat_get Tx.cl_len l k 3 h (by decide), flat_get Tx.cl_len l k 4 h (by decide), flat_get Tx.cl_len l k 5 h (by decide)⟩
theorem cl_one (x : Tx) : ∀ u ∈ x.cl, u.oneCell' = true := by intro u hu; simp [Tx.cl] at hu; rcases hu with rfl | rfl | rfl | rfl | rfl | rfl <;> rfl
theorem txCells_one (l : List Tx) : ∀ u ∈ txCells l, u.oneCell' = true := by
  intro u hu
  simp only [txCells, List.mem_flatMap] at hu
  obtain ⟨x, _, hx⟩ := hu
  exact cl_one x u hx

/-- Does a line stand below the one ahead of it? -/
def Tx.below (pre : List Tx) (x : Tx) : Bool := match pre.getLast? with
  | some y => decide (x.l < y.l)
  | none => false
def Tx.key (x : Tx) : Int × Int := (x.l, x.j)
/-- What is wrong with a tax line behind others; 0: nothing. -/
def Tx.bad (pre : List Tx) (x : Tx) : Int := if x.ok = false then 5 else if Tx.below pre x = true then 2 else if x.key ∈ pre.map Tx.key then 7 else 0
def ckTx : List Tx → List Tx → Int × Nat
  | _, [] => (0, 0)
  | pre, x :: r => if Tx.bad pre x ≠ 0 then (Tx.bad pre x, pre.length) else ckTx (pre ++ [x]) r
/-- P25.2: the error, and at which tax line. -/
def checkTax (l : List Tx) : Int × Nat := if 6400 < l.length then (3, 0) else ckTx [] l
theorem ckTx_step {l : List Tx} {k : Nat} (h : k < l.length) (hb : Tx.bad (l.take k) l[k] = 0) : ckTx (l.take k) (l.drop k) = ckTx (l.take (k + 1)) (l.drop (k + 1)) := by
  rw [List.drop_eq_getElem_cons h, ckTx, if_neg (by simp [hb]), List.take_succ_eq_append_getElem h]
theorem ckTx_hit {l : List Tx} {k : Nat} {e : Int} (h : k < l.length) (hb : Tx.bad (l.take k) l[k] = e) (he : e ≠ 0) : ckTx (l.take k) (l.drop k) = (e, k) := by
  rw [List.drop_eq_getElem_cons h, ckTx, if_pos (by rw [hb]; exact he), hb, List.length_take]
  simp; omega
theorem ckTx_end {l : List Tx} {k : Nat} (h : l.length ≤ k) : ckTx (l.take k) (l.drop k) = (0, 0) := by
  rw [List.drop_eq_nil_of_le h, ckTx]
theorem below_at {l : List Tx} {m : Nat} (h : m + 1 < l.length) : Tx.below (l.take (m + 1)) l[m + 1] = decide (l[m + 1].l < l[m].l) := by
  unfold Tx.below
  have : (l.take (m + 1)).getLast? = some l[m] := by
    rw [List.take_succ_eq_append_getElem (show m < l.length by omega)]
    exact List.getLast?_concat
  rw [this]
theorem below_0 (x : Tx) : Tx.below [] x = false := rfl
/-- What checked tax lines are. -/
theorem ckTx_ok : ∀ (r pre : List Tx), (ckTx pre r).1 = 0 → ∀ k (h : k < r.length), Tx.bad (pre ++ r.take k) r[k] = 0
  | [], pre, _, k, h => by simp at h
  | x :: r, pre, h0, k, h => by
    unfold ckTx at h0
    by_cases hb : Tx.bad pre x ≠ 0
    · rw [if_pos hb] at h0; exact absurd h0 hb
    · rw [if_neg hb] at h0
      cases k with
      | zero => simpa using hb
      | succ k =>
        have := ckTx_ok r (pre ++ [x]) h0 k (by simpa using h)
        simpa using this
theorem bad_5 {pre : List Tx} {x : Tx} (h : x.ok = false) : Tx.bad pre x = 5 := by unfold Tx.bad; rw [if_pos h]
theorem bad_2 {pre : List Tx} {x : Tx} (h : x.ok = true) (h2 : Tx.below pre x = true) : Tx.bad pre x = 2 := by unfold Tx.bad; rw [if_neg (by simp [h]), if_pos h2]
theorem bad_7 {pre : List Tx} {x : Tx} (h : x.ok = true) (h2 : Tx.below pre x = false) (h3 : x.key ∈ pre.map Tx.key) : Tx.bad pre x = 7 := by unfold Tx.bad; rw [if_neg (by simp [h]), if_neg (by simp [h2]), if_pos h3]
theorem bad_no {pre : List Tx} {x : Tx} (h : x.ok = true) (h2 : Tx.below pre x = false) (h3 : x.key ∉ pre.map Tx.key) : Tx.bad pre x = 0 := by unfold Tx.bad; rw [if_neg (by simp [h]), if_neg (by simp [h2]), if_neg h3]
theorem bad_0 {pre : List Tx} {x : Tx} (h : Tx.bad pre x = 0) : x.ok = true ∧ Tx.below pre x = false ∧ x.key ∉ pre.map Tx.key := by
  unfold Tx.bad at h
  by_cases h1 : x.ok = false
  · rw [if_pos h1] at h; cases h
  rw [if_neg h1] at h
  by_cases h2 : Tx.below pre x = true
  · rw [if_pos h2] at h; cases h
  rw [if_neg h2] at h
  by_cases h3 : x.key ∈ pre.map Tx.key
  · rw [if_pos h3] at h; cases h
  · exact ⟨by simpa using h1, by simpa using h2, h3⟩
theorem checkTax_ok {l : List Tx} (h : (checkTax l).1 = 0) : l.length ≤ 6400 ∧ ∀ k (hk : k < l.length), l[k].ok = true ∧ Tx.below (l.take k) l[k] = false ∧ l[k].key ∉ (l.take k).map Tx.key := by
  unfold checkTax at h
  by_cases h1 : 6400 < l.length
  · rw [if_pos h1] at h; cases h
  rw [if_neg h1] at h
  exact ⟨by omega, fun k hk => bad_0 (by simpa using ckTx_ok l [] h k hk)⟩
theorem checkTax_mem {l : List Tx} (h : (checkTax l).1 = 0) : ∀ x ∈ l, x.ok = true := by
  intro x hx
  obtain ⟨k, hk, rfl⟩ := List.mem_iff_getElem.1 hx
  exact ((checkTax_ok h).2 k hk).1
theorem Tx.i64s {x : Tx} (h : x.ok = true) : i64 x.l ∧ i64 x.j ∧ i64 x.t ∧ i64 x.x ∧ i64 x.r ∧ i64 x.v := by
  obtain ⟨a, b, c, d, e, f⟩ := Tx.ok_bd h
  unfold i64
  omega
end Go.Proofs.Ytehkmngbknbbaaa

set_option linter.unusedVariables false
namespace Go.Proofs.Ytehkmngbknbbaaa
open Go.RowKit Go.Maps

theorem laidK : laidOutB Try.prog = true := by kernel_rfl
theorem law2 : Keyed Try.prog 161 := Keyed.of_law (deep_law_laid laidK (m := 2) (by decide) (of_decide_eq_true (by kernel_rfl)) (by kernel_rfl) (by rw [Try.underlying161]))
/-- What a key reads as. -/
def kl2 (p : Int × Int) : Lit := .string (keyBytes [.int .i64 p.1, .int .i64 p.2])
theorem kl_t : Try.prog.types.size + 1 = Try.prog.types.size - 1 + 1 + 1 := by
  have : 1 ≤ Try.prog.types.size := of_decide_eq_true (by kernel_rfl)
  omega
theorem i64_wf {n : Int} (h : i64 n) : (Lit.int .i64 n).wf = true := by
  unfold i64 at h
  simp [Lit.wf, IntKind.min, IntKind.max, IntKind.signed, IntKind.bits]
  exact h
theorem key2 (l j : Int) (hl : i64 l) (hj : i64 j) : keyOf Try.prog 161 (.agg #[.int .i64 l, .int .i64 j]) = some (kl2 (l, j)) := by
  have h1 : Try.prog.keyType 161 = true := by kernel_rfl
  have h2 : Try.prog.cellsOf 161 = 2 := by kernel_rfl
  have h3 : Try.prog.cellsOf 3 = 1 := by kernel_rfl
  have e1 : ∀ d n, i64 n → Try.prog.keyLits (d + 1) 3 [.int .i64 n] = some [.int .i64 n] := by
    intro d n hn
    unfold Program.keyLits
    simp [Try.underlying3, i64_wf hn]
  unfold keyOf
  rw [Try.underlying161]
  simp only [h1, Value.formed, Try.underlying161, h2]
  rw [kl_t]
  unfold Program.keyLits
  simp only [Try.underlying161, Value.cells, h2, h3]
  simp [List.range, List.range.loop, e1 _ l hl, e1 _ j hj, kl2]
theorem kl2_inj {p q : Int × Int} (hp : i64 p.1 ∧ i64 p.2) (hq : i64 q.1 ∧ i64 q.2) (h : kl2 p = kl2 q) : p = q := by
  have h1 := key2 p.1 p.2 hp.1 hp.2
  have h2 := key2 q.1 q.2 hq.1 hq.2
  have e1 : (p.1, p.2) = p := rfl
  have e2 : (q.1, q.2) = q := rfl
  rw [e1] at h1
  rw [e2, ← h] at h2
  have := law2.inj h1 h2
  obtain ⟨a, b⟩ := p
  obtain ⟨c, d⟩ := q
  simp at this
  simp [this]
theorem kl2_key (p : Int × Int) : WideAt.IsKeyLit (kl2 p) := by trivial
theorem kl2_same {p q : Int × Int} (hp : i64 p.1 ∧ i64 p.2) (hq : i64 q.1 ∧ i64 q.2) : (kl2 p).sameKey (kl2 q) = decide (p = q) := by
  by_cases h : p = q
  · subst h; simp [kl2, Lit.sameKey]
  · rw [sameKey_ne (fun e => h (kl2_inj hp hq e))]
    simp [h]
/-- Block B is the set of these keys. -/
def MetIs (w : World) (B n : Nat) (ks : List (Int × Int)) : Prop := w.ownsMap Try.prog 161 (unitElem (H := Unit)) B n (setOf (.agg []) (ks.map kl2)) ∧ ∀ p ∈ ks, i64 p.1 ∧ i64 p.2
theorem MetIs.has {w : World} {B n : Nat} {ks : List (Int × Int)} (h : MetIs w B n ks) {p : Int × Int} (hp : i64 p.1 ∧ i64 p.2) : Maps.has (setOf (H := Unit) (.agg []) (ks.map kl2)) (kl2 p) = decide (p ∈ ks) := by
  rw [has_setOf _ _ _ (by intro x hx; obtain ⟨q, _, rfl⟩ := List.mem_map.1 hx; exact kl2_key q)]
  rw [Bool.eq_iff_iff]
  simp only [List.any_map, List.any_eq_true, Function.comp_apply, decide_eq_true_eq]
  constructor
  · rintro ⟨q, hq, he⟩
    rw [kl2_same (h.2 q hq) hp] at he
    have : q = p := by simpa using he
    rw [← this]; exact hq
  · intro hm
    exact ⟨p, hm, by rw [kl2_same hp hp]; simp⟩
theorem MetIs.snoc {w : World} {B n : Nat} {ks : List (Int × Int)} {p : Int × Int} (hp : i64 p.1 ∧ i64 p.2) (hk : ∀ q ∈ ks, i64 q.1 ∧ i64 q.2) (h : w.ownsMap Try.prog 161 (unitElem (H := Unit)) B n ((setOf (.agg []) (ks.map kl2)).put (kl2 p) (.agg []))) : MetIs w B n (ks ++ [p]) := by
  refine ⟨?_, ?_⟩
  · rw [List.map_append, List.map_cons, List.map_nil, setOf_snoc]; exact h
  · intro q hq
    rcases List.mem_append.1 hq with hq | hq
    · exact hk q hq
    · rw [List.mem_singleton.1 hq]; exact hp
theorem MetIs.made (w : World) : MetIs (w.alloc (.map #[] 0)) w.heap.size 0 [] := ⟨World.ownsMap_made _ _ _ _, by simp⟩
theorem MetIs.grown {w w' : World} {B n : Nat} {ks : List (Int × Int)} {row : Option Nat} (h : MetIs w B n ks) (hg : w.grownBy w' row) (hne : some B ≠ row) : MetIs w' B n ks := ⟨h.1.kept hg hne, h.2⟩
theorem MetIs.lt {w : World} {B n : Nat} {ks : List (Int × Int)} (h : MetIs w B n ks) : B < w.heap.size := by
  obtain ⟨es, clock, hb, _⟩ := h.1
  exact (Array.getElem?_eq_some_iff.1 hb).1
theorem MetIs.ext {w w' : World} {B n : Nat} {ks : List (Int × Int)} (h : MetIs w B n ks) (hx : Ext w w') : MetIs w' B n ks := by
  obtain ⟨es, clock, hb, r⟩ := h.1
  exact ⟨⟨es, clock, by rw [hx.block B h.lt]; exact hb, r⟩, h.2⟩
theorem MetIs.mono {w : World} {B n m : Nat} {ks : List (Int × Int)} (h : MetIs w B n ks) (hn : n ≤ m) : MetIs w B m ks := by
  obtain ⟨es, clock, hb, r, hs, e⟩ := h.1
  exact ⟨⟨es, clock, hb, r, by omega, e⟩, h.2⟩
theorem zeroU (w : World) : (zeroValue 162).run Try.prog w = .ok (.agg #[]) w := by kernel_rfl

set_option maxRecDepth 100000 in
set_option maxHeartbeats 1000000 in
theorem twice_any (B n : Nat) (ks : List (Int × Int)) (l j : Int) (hl : i64 l) (hj : i64 j) (w : World) (hn : n < maxLen) (h : MetIs w B n ks) :
    Calls Try.prog 83 #[.map (some B), .int .i64 l, .int .i64 j] w fun e w' => e = .returned (.bool (decide ((l, j) ∈ ks))) ∧ MetIs w' B (n + 1) (ks ++ [(l, j)]) ∧ w.grownBy w' (some B) := by
  have hkey := key2 l j hl hj
  have hh := h.has (p := (l, j)) ⟨hl, hj⟩
  have H1 := Lib.hid (h.1)
  have H2 := Lib.hid h.2
  replace hkey := Lib.hid hkey
  replace hh := Lib.hid hh
  clear h
  go_enter Try.func83, Try.ntmps83
  go_wp2_with (first
    | (at_lookup; refine wpList_lookup_own_unit _ rfl _ _ 126 rfl 161 162 law2 Try.underlying126 (zeroU _) B n _ rfl (H1.out.alloc _) _ _ rfl hkey.out ?_)
    | (at_mapUpdate; refine wpList_mapUpdate_own _ rfl _ _ _ 126 rfl 161 162 law2 Try.underlying126 _ B n _ rfl ((H1.out.alloc _).alloc _) hn _ _ _ rfl rfl hkey.out (.agg []) [] unitElem_mk ?_; intro w1 hown1 hgrow1))
  go_ret
  refine ⟨ret_bool hh.out, MetIs.snoc ⟨hl, hj⟩ H2.out hown1, ?_⟩
  exact only_trans (only_alloc (only_alloc (World.grownBy.refl _ _) _) _) hgrow1
end Go.Proofs.Ytehkmngbknbbaaa
