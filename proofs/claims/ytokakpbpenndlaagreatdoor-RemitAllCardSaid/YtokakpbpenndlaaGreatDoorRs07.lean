/-
  order.Return, whole.
-/
import Derived.Test.YtokakpbpenndlaaGreatDoorRs06
set_option linter.unusedVariables false
namespace Go.Proofs.YtokakpbpenndlaaGreatDoor
open Go.RowKit

/-- What is stored in the result's block, cell by cell. -/
def put6 (W : World) (g : Nat) (a b c d e f : Value) : World := (((((W.setCell ⟨g, 0, none⟩ a).setCell ⟨g, 1, none⟩ b).setCell ⟨g, 2, none⟩ c).setCell ⟨g, 3, none⟩ d).setCell ⟨g, 4, none⟩ e).setCell ⟨g, 5, none⟩ f
theorem put6_blk {W : World} {g : Nat} {t : TypeId} {a b c d e f a' b' c' d' e' f' : Value} (h : Blk W g t #[a', b', c', d', e', f']) : Blk (put6 W g a b c d e f) g t #[a, b, c, d, e, f] :=
  (((((h.set_ 0 a).set_ 1 b).set_ 2 c).set_ 3 d).set_ 4 e).set_ 5 f
theorem put6_ext {V W : World} {g : Nat} {a b c d e f : Value} (h : Ext V W) (hg : V.heap.size ≤ g) : Ext V (put6 W g a b c d e f) :=
  (((((h.set (p := ⟨g, 0, none⟩) hg a).set (p := ⟨g, 1, none⟩) hg b).set (p := ⟨g, 2, none⟩) hg c).set (p := ⟨g, 3, none⟩) hg d).set (p := ⟨g, 4, none⟩) hg e).set (p := ⟨g, 5, none⟩) hg f

set_option maxRecDepth 100000 in
set_option maxHeartbeats 2000000 in
theorem return_any (x : Tx) (b a : Int) (w : World) : Calls Tryz.prog 105 #[x.V, .int .i64 b, .int .i64 a] w fun r w' => r = .returned (.tuple #[(x.ret b a).1.V, .int .i64 (x.ret b a).2]) ∧ Ext w w' := by
  have B3 := Lib.hid ((Blk.new w 117 #[.int .i64 x.l, .int .i64 x.j, .int .i64 x.t, .int .i64 x.x, .int .i64 x.r, .int .i64 x.v]).alloc (.cells #[.int .i64 0, .int .i64 0, .int .i64 0, .int .i64 0, .int .i64 0, .int .i64 0] 117))
  have B6 : Hid (Blk ((w.alloc (.cells #[.int .i64 x.l, .int .i64 x.j, .int .i64 x.t, .int .i64 x.x, .int .i64 x.r, .int .i64 x.v] 117)).alloc (.cells #[.int .i64 0, .int .i64 0, .int .i64 0, .int .i64 0, .int .i64 0, .int .i64 0] 117)) (w.heap.size + 1) 117 #[.int .i64 0, .int .i64 0, .int .i64 0, .int .i64 0, .int .i64 0, .int .i64 0]) := Lib.hid (by
    have := Blk.new (w.alloc (.cells #[.int .i64 x.l, .int .i64 x.j, .int .i64 x.t, .int .i64 x.x, .int .i64 x.r, .int .i64 x.v] 117)) 117 #[.int .i64 0, .int .i64 0, .int .i64 0, .int .i64 0, .int .i64 0, .int .i64 0]
    simpa using this)
  have kk : w.heap.size ≤ w.heap.size + 1 := by omega
  have nn : w.heap.size + 1 ≠ w.heap.size := by omega
  cases hok : x.ok
  · have HR := Lib.hid (show x.ret b a = (Tx.zero, 5) by unfold Tx.ret; rw [if_pos hok])
    replace hok := Lib.hid hok
    unfold Tx.V taxV
    go_enter Tryz.func105, Tryz.ntmps105
    go_wp2_with fail
    refine (one_any x.l x.j x.t x.x x.r x.v _).mono ?_
    rintro e v1 ⟨rfl, hx1⟩
    rw [show Tax1 x.l x.j x.t x.x x.r x.v = false from hok.out]
    have X1 := (((Ext.refl w).alloc _).alloc _).trans hx1
    have C6 := B6.out.ext hx1
    clear hx1 B3 B6
    obtain ⟨q6, q6'⟩ := C6.cells
    go_wp2_with fail
    refine bodyPost_ret (results_ct rfl rfl (ld_tax (put6_blk (a := .int .i64 0) (b := .int .i64 0) (c := .int .i64 0) (d := .int .i64 0) (e := .int .i64 0) (f := .int .i64 0) C6))) rfl ⟨by rw [HR.out]; rfl, put6_ext X1 kk⟩
  · obtain ⟨b1, b2, b3, b4, b5, b6⟩ := Tx.ok_bd hok
    have hu := Lib.hid (show x.ret b a = if (backI x.t (x.t + x.x) b a).2 ≠ 0 then (Tx.zero, (backI x.t (x.t + x.x) b a).2)
      else ({ x with t := (backI x.t (x.t + x.x) b a).1, x := a - b - (backI x.t (x.t + x.x) b a).1, v := (backI x.v (x.t + x.x) b a).1 }, 0) by
        unfold Tx.ret; rw [if_neg (by simp [hok])])
    replace hok := Lib.hid hok
    by_cases he : (backI x.t (x.t + x.x) b a).2 = 0
    · have HR := Lib.hid (hu.out.trans (if_neg (by simpa using he)))
      have hbd := backI_ok he
      have he0 : ((backI x.t (x.t + x.x) b a).2 != 0) = false := by simp [he]
      clear hu
      replace he := Lib.hid he
      generalize hT : (backI x.t (x.t + x.x) b a).1 = T at *
      generalize hE : (backI x.t (x.t + x.x) b a).2 = E at *
      replace hT := Lib.hid hT
      replace hE := Lib.hid hE
      obtain ⟨_, _, c1, c2, c3, c4, c5⟩ := hbd
      unfold Tx.V taxV
      go_enter Tryz.func105, Tryz.ntmps105
      go_wp2_with fail
      refine (one_any x.l x.j x.t x.x x.r x.v _).mono ?_
      rintro e v1 ⟨rfl, hx1⟩
      rw [show Tax1 x.l x.j x.t x.x x.r x.v = true from hok.out]
      have X1 := (((Ext.refl w).alloc _).alloc _).trans hx1
      have C3 := B3.out.ext hx1
      have C6 := B6.out.ext hx1
      clear hx1 B3 B6
      obtain ⟨q3, q3'⟩ := C3.cells
      go_wp2_with fail
      refine (back_any x.t (x.t + x.x) b a _).mono ?_
      rintro e v2 ⟨rfl, hx2⟩
      rw [hT.out, hE.out]
      have X2 := X1.trans hx2
      replace C3 := C3.ext hx2
      replace C6 := C6.ext hx2
      clear hx2 X1 q3 q3'
      obtain ⟨q3, q3'⟩ := C3.cells
      go_wp2_with fail
      refine (back_any x.v (x.t + x.x) b a _).mono ?_
      rintro e v3 ⟨rfl, hx3⟩
      have X3 := X2.trans hx3
      replace C3 := C3.ext hx3
      replace C6 := C6.ext hx3
      clear hx3 X2 q3 q3'
      obtain ⟨q3, q3'⟩ := C3.cells
      obtain ⟨q6, q6'⟩ := C6.cells
      generalize hV : (backI x.v (x.t + x.x) b a).1 = V at *
      generalize hV2 : (backI x.v (x.t + x.x) b a).2 = V2 at *
      replace hV := Lib.hid hV
      replace hV2 := Lib.hid hV2
      go_wp2_with fail
      have B : Blk _ (w.heap.size + 1) 117 #[.int .i64 x.l, .int .i64 x.j, .int .i64 T, .int .i64 (a - b - T), .int .i64 x.r, .int .i64 V] :=
        put6_blk (((C6.far (p := ⟨w.heap.size, 5, none⟩) nn (.int .i64 V)).far (p := ⟨w.heap.size, 2, none⟩) nn (.int .i64 T)).far (p := ⟨w.heap.size, 3, none⟩) nn (.int .i64 (a - b - T)))
      refine bodyPost_ret (results_ct rfl rfl (ld_tax B)) rfl ⟨by rw [HR.out]; rfl, put6_ext (((X3.set (p := ⟨w.heap.size, 5, none⟩) (Nat.le_refl _) (.int .i64 V)).set (p := ⟨w.heap.size, 2, none⟩) (Nat.le_refl _) (.int .i64 T)).set (p := ⟨w.heap.size, 3, none⟩) (Nat.le_refl _) (.int .i64 (a - b - T))) kk⟩
    · have HR := Lib.hid (hu.out.trans (if_pos he))
      have he0 : ((backI x.t (x.t + x.x) b a).2 != 0) = true := by simpa using he
      clear hu
      replace he := Lib.hid he
      generalize hT : (backI x.t (x.t + x.x) b a).1 = T at *
      generalize hE : (backI x.t (x.t + x.x) b a).2 = E at *
      replace hT := Lib.hid hT
      replace hE := Lib.hid hE
      unfold Tx.V taxV
      go_enter Tryz.func105, Tryz.ntmps105
      go_wp2_with fail
      refine (one_any x.l x.j x.t x.x x.r x.v _).mono ?_
      rintro e v1 ⟨rfl, hx1⟩
      rw [show Tax1 x.l x.j x.t x.x x.r x.v = true from hok.out]
      have X1 := (((Ext.refl w).alloc _).alloc _).trans hx1
      have C3 := B3.out.ext hx1
      have C6 := B6.out.ext hx1
      clear hx1 B3 B6
      obtain ⟨q3, q3'⟩ := C3.cells
      go_wp2_with fail
      refine (back_any x.t (x.t + x.x) b a _).mono ?_
      rintro e v2 ⟨rfl, hx2⟩
      rw [hT.out, hE.out]
      have X2 := X1.trans hx2
      replace C6 := C6.ext hx2
      clear hx2 X1 q3 q3' C3
      obtain ⟨q6, q6'⟩ := C6.cells
      go_wp2_with fail
      refine bodyPost_ret (results_ct rfl rfl (ld_tax (put6_blk (a := .int .i64 0) (b := .int .i64 0) (c := .int .i64 0) (d := .int .i64 0) (e := .int .i64 0) (f := .int .i64 0) C6))) rfl ⟨by rw [HR.out]; rfl, put6_ext X2 kk⟩
end Go.Proofs.YtokakpbpenndlaaGreatDoor

set_option linter.unusedVariables false
namespace Go.Proofs.YtokakpbpenndlaaGreatDoor

theorem flat_get {α β : Type} {f : α → List β} {c : Nat} (hf : ∀ a, (f a).length = c) : ∀ (l : List α) (k j : Nat) (h : k < l.length), j < c → (l.flatMap f)[k * c + j]? = (f l[k])[j]?
  | [], k, j, h, _ => by simp at h
  | a :: l, 0, j, _, hj => by
    rw [List.flatMap_cons, Nat.zero_mul, Nat.zero_add, List.getElem?_append_left (by rw [hf]; exact hj)]
    rfl
  | a :: l, k + 1, j, h, hj => by
    rw [List.flatMap_cons, List.getElem?_append_right (by rw [hf, Nat.add_mul]; omega), hf]
    rw [show (k + 1) * c + j - c = k * c + j by rw [Nat.add_mul]; omega]
    exact flat_get hf l k j (by simpa using h) hj
theorem flat_len {α β : Type} {f : α → List β} {c : Nat} (hf : ∀ a, (f a).length = c) (l : List α) : (l.flatMap f).length = l.length * c := by
  induction l with
  | nil => simp
  | cons a l ih => rw [List.flatMap_cons, List.length_append, ih, hf, List.length_cons, Nat.add_mul]; omega
theorem flat_take {α β : Type} {f : α → List β} {c : Nat} (hf : ∀ a, (f a).length = c) (l : List α) (n : Nat) : (l.take n).flatMap f = (l.flatMap f).take (n * c) := by
  have e : l.flatMap f = (l.take n).flatMap f ++ (l.drop n).flatMap f := by rw [← List.flatMap_append, List.take_append_drop]
  rcases Nat.lt_or_ge l.length n with h | h
  · rw [List.take_of_length_le (by omega), List.take_of_length_le]
    rw [flat_len hf]
    exact Nat.mul_le_mul_right _ (by omega)
  · have hl : ((l.take n).flatMap f).length = n * c := by rw [flat_len hf, List.length_take, Nat.min_eq_left h]
    rw [e, ← hl, List.take_left]
theorem flat_drop {α β : Type} {f : α → List β} {c : Nat} (hf : ∀ a, (f a).length = c) (l : List α) (n : Nat) : (l.drop n).flatMap f = (l.flatMap f).drop (n * c) := by
  have e : l.flatMap f = (l.take n).flatMap f ++ (l.drop n).flatMap f := by rw [← List.flatMap_append, List.take_append_drop]
  rcases Nat.lt_or_ge l.length n with h | h
  · rw [List.drop_of_length_le (by omega), List.drop_of_length_le]
    · rfl
    · rw [flat_len hf]
      exact Nat.mul_le_mul_right _ (by omega)
  · have hl : ((l.take n).flatMap f).length = n * c := by rw [flat_len hf, List.length_take, Nat.min_eq_left h]
    rw [e, ← hl, List.drop_left]
theorem flat_snoc {α β : Type} {f : α → List β} (l : List α) (a : α) : (l ++ [a]).flatMap f = l.flatMap f ++ f a := by simp

def Tx.cl (x : Tx) : List Value := [.int .i64 x.l, .int .i64 x.j, .int .i64 x.t, .int .i64 x.x, .int .i64 x.r, .int .i64 x.v]
def txCells (l : List Tx) : List Value := l.flatMap Tx.cl
theorem Tx.cl_len (x : Tx) : x.cl.length = 6 := rfl
theorem txCells_len (l : List Tx) : (txCells l).length = l.length * 6 := flat_len Tx.cl_len l
theorem txCells_at (l : List Tx) (k : Nat) (h : k < l.length) : (txCells l)[k * 6]? = some (.int .i64 l[k].l) ∧ (txCells l)[k * 6 + 1]? = some (.int .i64 l[k].j) ∧ (txCells l)[k * 6 + 2]? = some (.int .i64 l[k].t) ∧
    (txCells l)[k * 6 + 3]? = some (.int .i64 l[k].x) ∧ (txCells l)[k * 6 + 4]? = some (.int .i64 l[k].r) ∧ (txCells l)[k * 6 + 5]? = some (.int .i64 l[k].v) :=
  ⟨flat_get Tx.cl_len l k 0 h (by decide), flat_get Tx.cl_len l k 1 h (by decide), flat_get Tx.cl_len l k 2 h (by decide), flat_get Tx.cl_len l k 3 h (by decide), flat_get Tx.cl_len l k 4 h (by decide), flat_get Tx.cl_len l k 5 h (by decide)⟩
theorem cl_one (x : Tx) : ∀ u ∈ x.cl, u.oneCell' = true := by intro u hu; simp [Tx.cl] at hu; rcases hu with rfl | rfl | rfl | rfl | rfl | rfl <;> rfl
theorem txCells_one (l : List Tx) : ∀ u ∈ txCells l, u.oneCell' = true := by
  intro u hu
  simp only [txCells, List.mem_flatMap] at hu
  obtain ⟨x, _, hx⟩ := hu
  exact cl_one x u hx

/-- Does a line stand below the one ahead of it? -/
def Tx.below (pre : List Tx) (x : Tx) : Bool := match pre.getLast? with
  | some y => decide (x.l < y.l)
  | none => false
def Tx.key (x : Tx) : Int × Int := (x.l, x.j)
/-- What is wrong with a tax line behind others; 0: nothing. -/
def Tx.bad (pre : List Tx) (x : Tx) : Int := if x.ok = false then 5 else if Tx.below pre x = true then 2 else if x.key ∈ pre.map Tx.key then 7 else 0
def ckTx : List Tx → List Tx → Int × Nat
  | _, [] => (0, 0)
  | pre, x :: r => if Tx.bad pre x ≠ 0 then (Tx.bad pre x, pre.length) else ckTx (pre ++ [x]) r
/-- P25.2: the error, and at which tax line. -/
def checkTax (l : List Tx) : Int × Nat := if 6400 < l.length then (3, 0) else ckTx [] l
theorem ckTx_step {l : List Tx} {k : Nat} (h : k < l.length) (hb : Tx.bad (l.take k) l[k] = 0) : ckTx (l.take k) (l.drop k) = ckTx (l.take (k + 1)) (l.drop (k + 1)) := by
  rw [List.drop_eq_getElem_cons h, ckTx, if_neg (by simp [hb]), List.take_succ_eq_append_getElem h]
theorem ckTx_hit {l : List Tx} {k : Nat} {e : Int} (h : k < l.length) (hb : Tx.bad (l.take k) l[k] = e) (he : e ≠ 0) : ckTx (l.take k) (l.drop k) = (e, k) := by
  rw [List.drop_eq_getElem_cons h, ckTx, if_pos (by rw [hb]; exact he), hb, List.length_take]
  simp; omega
theorem ckTx_end {l : List Tx} {k : Nat} (h : l.length ≤ k) : ckTx (l.take k) (l.drop k) = (0, 0) := by
  rw [List.drop_eq_nil_of_le h, ckTx]
theorem below_at {l : List Tx} {m : Nat} (h : m + 1 < l.length) : Tx.below (l.take (m + 1)) l[m + 1] = decide (l[m + 1].l < l[m].l) := by
  unfold Tx.below
  have : (l.take (m + 1)).getLast? = some l[m] := by
    rw [List.take_succ_eq_append_getElem (show m < l.length by omega)]
    exact List.getLast?_concat
  rw [this]
theorem below_0 (x : Tx) : Tx.below [] x = false := rfl
/-- What checked tax lines are. -/
theorem ckTx_ok : ∀ (r pre : List Tx), (ckTx pre r).1 = 0 → ∀ k (h : k < r.length), Tx.bad (pre ++ r.take k) r[k] = 0
  | [], pre, _, k, h => by simp at h
  | x :: r, pre, h0, k, h => by
    unfold ckTx at h0
    by_cases hb : Tx.bad pre x ≠ 0
    · rw [if_pos hb] at h0; exact absurd h0 hb
    · rw [if_neg hb] at h0
      cases k with
      | zero => simpa using hb
      | succ k =>
        have := ckTx_ok r (pre ++ [x]) h0 k (by simpa using h)
        simpa using this
theorem bad_5 {pre : List Tx} {x : Tx} (h : x.ok = false) : Tx.bad pre x = 5 := by unfold Tx.bad; rw [if_pos h]
theorem bad_2 {pre : List Tx} {x : Tx} (h : x.ok = true) (h2 : Tx.below pre x = true) : Tx.bad pre x = 2 := by unfold Tx.bad; rw [if_neg (by simp [h]), if_pos h2]
theorem bad_7 {pre : List Tx} {x : Tx} (h : x.ok = true) (h2 : Tx.below pre x = false) (h3 : x.key ∈ pre.map Tx.key) : Tx.bad pre x = 7 := by unfold Tx.bad; rw [if_neg (by simp [h]), if_neg (by simp [h2]), if_pos h3]
theorem bad_no {pre : List Tx} {x : Tx} (h : x.ok = true) (h2 : Tx.below pre x = false) (h3 : x.key ∉ pre.map Tx.key) : Tx.bad pre x = 0 := by unfold Tx.bad; rw [if_neg (by simp [h]), if_neg (by simp [h2]), if_neg h3]
theorem bad_0 {pre : List Tx} {x : Tx} (h : Tx.bad pre x = 0) : x.ok = true ∧ Tx.below pre x = false ∧ x.key ∉ pre.map Tx.key := by
  unfold Tx.bad at h
  by_cases h1 : x.ok = false
  · rw [if_pos h1] at h; cases h
  rw [if_neg h1] at h
  by_cases h2 : Tx.below pre x = true
  · rw [if_pos h2] at h; cases h
  rw [if_neg h2] at h
  by_cases h3 : x.key ∈ pre.map Tx.key
  · rw [if_pos h3] at h; cases h
  · exact ⟨by simpa using h1, by simpa using h2, h3⟩
theorem checkTax_ok {l : List Tx} (h : (checkTax l).1 = 0) : l.length ≤ 6400 ∧ ∀ k (hk : k < l.length), l[k].ok = true ∧ Tx.below (l.take k) l[k] = false ∧ l[k].key ∉ (l.take k).map Tx.key := by
  unfold checkTax at h
  by_cases h1 : 6400 < l.length
  · rw [if_pos h1] at h; cases h
  rw [if_neg h1] at h
  exact ⟨by omega, fun k hk => bad_0 (by simpa using ckTx_ok l [] h k hk)⟩
theorem checkTax_mem {l : List Tx} (h : (checkTax l).1 = 0) : ∀ x ∈ l, x.ok = true := by
  intro x hx
  obtain ⟨k, hk, rfl⟩ := List.mem_iff_getElem.1 hx
  exact ((checkTax_ok h).2 k hk).1
theorem Tx.i64s {x : Tx} (h : x.ok = true) : i64 x.l ∧ i64 x.j ∧ i64 x.t ∧ i64 x.x ∧ i64 x.r ∧ i64 x.v := by
  obtain ⟨a, b, c, d, e, f⟩ := Tx.ok_bd h
  unfold i64
  omega
end Go.Proofs.YtokakpbpenndlaaGreatDoor

set_option linter.unusedVariables false
namespace Go.Proofs.YtokakpbpenndlaaGreatDoor

/-- What of t has come back when p of the whole W has. -/
def shI (t W p : Int) : Int := if W = 0 then 0 else (evenN t.toNat p.toNat W.toNat : Int)
theorem shI_zero (t W : Int) (hW : 0 ≤ W) : shI t W 0 = 0 := by
  unfold shI
  split
  · rfl
  · rw [show (0 : Int).toNat = 0 from rfl, evenN_zero (by omega)]; rfl
theorem shI_all {t W : Int} (ht : 0 ≤ t) (hW : 0 < W) : shI t W W = t := by
  unfold shI
  rw [if_neg (by omega), evenN_all (by omega)]
  omega
theorem shI_mono {t W a p : Int} (hW : 0 ≤ W) (h : a ≤ p) : shI t W a ≤ shI t W p := by
  unfold shI
  split
  · omega
  · have := evenN_mono (a := t.toNat) (b := a.toNat) (b' := p.toNat) (c := W.toNat) (by omega) (by omega)
    omega
theorem shI_nonneg (t W p : Int) : 0 ≤ shI t W p := by
  unfold shI; split <;> omega
theorem shI_le {t W p : Int} (ht : 0 ≤ t) (hp : p ≤ W) (hW : 0 ≤ W) : shI t W p ≤ t := by
  unfold shI
  split
  · exact ht
  · have := evenN_le (a := t.toNat) (b := p.toNat) (c := W.toNat) (by omega) (by omega)
    omega
theorem shI_step {t W a p : Int} (ht : 0 ≤ t) (htW : t ≤ W) (ha : 0 ≤ a) (h : a ≤ p) : shI t W p - shI t W a ≤ p - a := by
  unfold shI
  split
  · omega
  · have := evenN_step (a := t.toNat) (b := a.toNat) (b' := p.toNat) (c := W.toNat) (by omega) (by omega) (by omega)
    omega
theorem backI_sh {t W a p : Int} (ht : 0 ≤ t ∧ t ≤ 4611686018427387904) (hW : 0 ≤ W ∧ W ≤ 4611686018427387904) (ha : 0 ≤ a) (h : a ≤ p) (hp : p ≤ W) : backI t W a p = (shI t W p - shI t W a, 0) := by
  unfold backI shI
  rw [if_neg (by simp [win]; omega), if_neg (by omega)]
  split
  · rfl
  · rfl
theorem Tx.ret_eq {x : Tx} (hok : x.ok = true) {a p : Int} (ha : 0 ≤ a) (h : a ≤ p) (hp : p ≤ x.t + x.x) :
    x.ret a p = ({ x with t := shI x.t (x.t + x.x) p - shI x.t (x.t + x.x) a, x := p - a - (shI x.t (x.t + x.x) p - shI x.t (x.t + x.x) a), v := shI x.v (x.t + x.x) p - shI x.v (x.t + x.x) a }, 0) := by
  obtain ⟨_, _, b3, b4, _, b6⟩ := Tx.ok_bd hok
  unfold Tx.ret
  rw [if_neg (by simp [hok]), backI_sh b3 (by omega) ha h hp, backI_sh b6 (by omega) ha h hp]
  rfl
/-- A number from 0 on below n. -/
def pickI (x n : Int) : Int := if n < 1 then 0 else if Int.tmod x n < 0 then Int.tmod x n + n else Int.tmod x n
theorem tmod_bd {x n : Int} (h : 1 ≤ n) : -n < Int.tmod x n ∧ Int.tmod x n < n := by
  refine ⟨?_, Int.tmod_lt_of_pos x (by omega)⟩
  have := Int.tmod_lt_of_pos (-x) (show 0 < n by omega)
  rw [Int.neg_tmod] at this
  omega
theorem pickI_bd {x n : Int} (h : 1 ≤ n) : 0 ≤ pickI x n ∧ pickI x n < n := by
  have := tmod_bd (x := x) h
  unfold pickI
  rw [if_neg (by omega)]
  split <;> omega
end Go.Proofs.YtokakpbpenndlaaGreatDoor
