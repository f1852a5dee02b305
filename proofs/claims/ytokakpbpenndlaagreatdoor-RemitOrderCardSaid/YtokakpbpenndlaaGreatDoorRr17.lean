/-
  Plain: what a report has of a book; sums in 128 bits.
-/
import Derived.Test.YtokakpbpenndlaaGreatDoorRr11
import Derived.Test.YtokakpbpenndlaaGreatDoorRr14
import Derived.Test.YtokakpbpenndlaaGreatDoorRr16
import Derived.Test.YtokakpbpenndlaaGreatDoorRr01
import Derived.ProofKit
import Derived.Deep.Slices
set_option linter.unusedVariables false
namespace Go.Proofs.YtokakpbpenndlaaGreatDoor

/-- A sum of moves, what came back taken off. -/
def sgS (c : Mv → Int) : List Mv → Int
  | [] => 0
  | m :: l => (if m.back then - c m else c m) + sgS c l
theorem sgS_app (c : Mv → Int) : ∀ a b : List Mv, sgS c (a ++ b) = sgS c a + sgS c b
  | [], b => by simp [sgS]
  | m :: a, b => by
    show (if m.back then - c m else c m) + sgS c (a ++ b) = (if m.back then - c m else c m) + sgS c a + sgS c b
    rw [sgS_app c a b]
    omega
noncomputable def inP (f p : Int) (m : Mv) : Bool := decide (ofI f m.day = p)
noncomputable def perM (f p : Int) (ms : List Mv) : List Mv := ms.filter (inP f p)
def salesN (ms : List Mv) : Nat := (ms.filter fun m => !m.back).length
def backsN (ms : List Mv) : Nat := (ms.filter fun m => m.back).length
/-- The report of moves, be it an int's or not. -/
noncomputable def repOf (id f p : Int) (ms : List Mv) : Rep :=
  ⟨id, f, p, sgS Mv.t (perM f p ms), sgS Mv.x (perM f p ms), sgS Mv.v (perM f p ms), (salesN (perM f p ms) : Int), (backsN (perM f p ms) : Int)⟩
instance (n : Int) : Decidable (i64 n) := inferInstanceAs (Decidable (_ ∧ _))
def Rep.fits (r : Rep) : Prop := i64 r.t ∧ i64 r.x ∧ i64 r.v
instance (r : Rep) : Decidable r.fits := inferInstanceAs (Decidable (_ ∧ _))
/-- P30.1. -/
noncomputable def Bk.file (B : Bk) (l : List Jur) (id p : Int) : Rep × Int :=
  if (checkJ l).1 ≠ 0 then (Rep.zero, 2)
  else match findJ l id with
    | none => (Rep.zero, 6)
    | some j => if perE j.f p ≠ 0 then (Rep.zero, 5)
      else if (repOf id j.f p (B.moves id)).fits then (repOf id j.f p (B.moves id), 0) else (Rep.zero, 5)
theorem perM_take {f p : Int} {ms : List Mv} {k : Nat} (hk : k < ms.length) : perM f p (ms.take (k + 1)) = perM f p (ms.take k) ++ (if ofI f ms[k].day = p then [ms[k]] else []) := by
  unfold perM
  rw [List.take_succ_eq_append_getElem hk, List.filter_append]
  congr 1
  unfold inP
  by_cases h : ofI f ms[k].day = p <;> simp [h]
theorem salesN_app (a b : List Mv) : salesN (a ++ b) = salesN a + salesN b := by simp [salesN]
theorem backsN_app (a b : List Mv) : backsN (a ++ b) = backsN a + backsN b := by simp [backsN]
theorem perM_le (f p : Int) (ms : List Mv) : (perM f p ms).length ≤ ms.length := List.length_filter_le _ _
theorem salesN_le (ms : List Mv) : salesN ms ≤ ms.length := List.length_filter_le _ _
theorem backsN_le (ms : List Mv) : backsN ms ≤ ms.length := List.length_filter_le _ _

/-- A sum's two halves. -/
def hiI (n : Int) : Int := n / 18446744073709551616 % 18446744073709551616
def loI (n : Int) : Int := n % 18446744073709551616
theorem loI_bd (n : Int) : 0 ≤ loI n ∧ loI n < 18446744073709551616 := by unfold loI; omega
theorem hiI_bd (n : Int) : 0 ≤ hiI n ∧ hiI n < 18446744073709551616 := by unfold hiI; omega
/-- A number added. -/
theorem lo_add (s n : Int) : loI (s + n) = (loI s + n % 18446744073709551616) % 18446744073709551616 := by unfold loI; omega
theorem hi_add {s n : Int} (h : i64 n) : hiI (s + n) = (hiI s + (n / 9223372036854775808) % 18446744073709551616 + (loI s + n % 18446744073709551616) / 18446744073709551616) % 18446744073709551616 := by
  unfold hiI loI
  unfold i64 at h
  have hr : 0 ≤ s % 18446744073709551616 ∧ s % 18446744073709551616 < 18446744073709551616 := by omega
  have e0 : s = 18446744073709551616 * (s / 18446744073709551616) + s % 18446744073709551616 := by omega
  generalize s / 18446744073709551616 = q at *
  generalize s % 18446744073709551616 = r at *
  subst e0
  by_cases h0 : 0 ≤ n
  · have e1 : n / 9223372036854775808 % 18446744073709551616 = 0 := by omega
    have e2 : n % 18446744073709551616 = n := by omega
    have e3 : (18446744073709551616 * q + r + n) / 18446744073709551616 = q + (r + n) / 18446744073709551616 := by omega
    rw [e1, e2, e3]
    omega
  · have e1 : n / 9223372036854775808 % 18446744073709551616 = 18446744073709551615 := by omega
    have e2 : n % 18446744073709551616 = n + 18446744073709551616 := by omega
    have e3 : (18446744073709551616 * q + r + n) / 18446744073709551616 = q - 1 + (r + (n + 18446744073709551616)) / 18446744073709551616 := by omega
    rw [e1, e2, e3]
    omega
/-- A number taken off. -/
theorem lo_sub (s n : Int) : loI (s - n) = (loI s - n % 18446744073709551616) % 18446744073709551616 := by unfold loI; omega
theorem hi_sub {s n : Int} (h : i64 n) : hiI (s - n) = (hiI s - (n / 9223372036854775808) % 18446744073709551616 - (if loI s < n % 18446744073709551616 then 1 else 0)) % 18446744073709551616 := by
  unfold hiI loI
  unfold i64 at h
  have hr : 0 ≤ s % 18446744073709551616 ∧ s % 18446744073709551616 < 18446744073709551616 := by omega
  have e0 : s = 18446744073709551616 * (s / 18446744073709551616) + s % 18446744073709551616 := by omega
  generalize s / 18446744073709551616 = q at *
  generalize s % 18446744073709551616 = r at *
  subst e0
  by_cases h0 : 0 ≤ n
  · have e1 : n / 9223372036854775808 % 18446744073709551616 = 0 := by omega
    have e2 : n % 18446744073709551616 = n := by omega
    rw [e1, e2]
    by_cases hl : r < n
    · have e3 : (18446744073709551616 * q + r - n) / 18446744073709551616 = q - 1 := by omega
      rw [if_pos hl, e3]
      omega
    · have e3 : (18446744073709551616 * q + r - n) / 18446744073709551616 = q := by omega
      rw [if_neg hl, e3]
      omega
  · have e1 : n / 9223372036854775808 % 18446744073709551616 = 18446744073709551615 := by omega
    have e2 : n % 18446744073709551616 = n + 18446744073709551616 := by omega
    rw [e1, e2]
    by_cases hl : r < n + 18446744073709551616
    · have e3 : (18446744073709551616 * q + r - n) / 18446744073709551616 = q := by omega
      rw [if_pos hl, e3]
      omega
    · have e3 : (18446744073709551616 * q + r - n) / 18446744073709551616 = q + 1 := by omega
      rw [if_neg hl, e3]
      omega
/-- A sum that is not too great, as an int. -/
def asI (n : Int) : Int := if loI n < 9223372036854775808 then loI n else loI n - 18446744073709551616
theorem asI_of {n : Int} (h : i64 n) : asI n = n := by unfold asI loI; unfold i64 at h; omega
theorem asI_i64 (n : Int) : i64 (asI n) := by unfold asI i64; have := loI_bd n; split <;> omega
theorem fits_iff {n : Int} (h : -170141183460469231731687303715884105728 ≤ n ∧ n < 170141183460469231731687303715884105728) : (hiI n = asI n / 9223372036854775808 % 18446744073709551616) ↔ i64 n := by
  unfold asI hiI loI i64
  have hr : 0 ≤ n % 18446744073709551616 ∧ n % 18446744073709551616 < 18446744073709551616 := by omega
  have hq : -9223372036854775808 ≤ n / 18446744073709551616 ∧ n / 18446744073709551616 < 9223372036854775808 := by omega
  have e0 : n = 18446744073709551616 * (n / 18446744073709551616) + n % 18446744073709551616 := by omega
  generalize n / 18446744073709551616 = q at *
  generalize n % 18446744073709551616 = r at *
  subst e0
  by_cases hl : r < 9223372036854775808
  · rw [if_pos hl, show r / 9223372036854775808 = 0 by omega]
    constructor
    · intro e
      have : q = 0 := by omega
      subst this
      omega
    · intro e
      have : q = 0 := by omega
      subst this
      rfl
  · rw [if_neg hl, show (r - 18446744073709551616) / 9223372036854775808 = -1 by omega]
    constructor
    · intro e
      have : q = -1 := by omega
      subst this
      omega
    · intro e
      have : q = -1 := by omega
      subst this
      rfl
/-- A sum of many ints is not too great. -/
theorem sgS_bd {c : Mv → Int} : ∀ {l : List Mv}, (∀ m ∈ l, i64 (c m)) → -(9223372036854775808 * (l.length : Int)) ≤ sgS c l ∧ sgS c l ≤ 9223372036854775808 * (l.length : Int)
  | [], _ => by simp [sgS]
  | m :: l, h => by
    have h1 := h m (by simp)
    have h2 := sgS_bd (c := c) (l := l) fun x hx => h x (by simp [hx])
    unfold i64 at h1
    rw [show sgS c (m :: l) = (if m.back then - c m else c m) + sgS c l from rfl]
    simp only [List.length_cons]
    split <;> omega
end Go.Proofs.YtokakpbpenndlaaGreatDoor

set_option linter.unusedVariables false
namespace Go.Proofs.YtokakpbpenndlaaGreatDoor

/-- What of t has come back when p of the whole W has. -/
def shI (t W p : Int) : Int := if W = 0 then 0 else (evenN t.toNat p.toNat W.toNat : Int)
theorem shI_zero (t W : Int) (hW : 0 ≤ W) : shI t W 0 = 0 := by
  unfold shI
  split
  · rfl
  · rw [show (0 : Int).toNat = 0 from rfl, evenN_zero (by omega)]; rfl
theorem shI_all {t W : Int} (ht : 0 ≤ t) (hW : 0 < W) : shI t W W = t := by
  unfold shI
  rw [if_neg (by omega), evenN_all (by omega)]
  omega
theorem shI_mono {t W a p : Int} (hW : 0 ≤ W) (h : a ≤ p) : shI t W a ≤ shI t W p := by
  unfold shI
  split
  · omega
  · have := evenN_mono (a := t.toNat) (b := a.toNat) (b' := p.toNat) (c := W.toNat) (by omega) (by omega)
    omega
theorem shI_nonneg (t W p : Int) : 0 ≤ shI t W p := by
  unfold shI; split <;> omega
theorem shI_le {t W p : Int} (ht : 0 ≤ t) (hp : p ≤ W) (hW : 0 ≤ W) : shI t W p ≤ t := by
  unfold shI
  split
  · exact ht
  · have := evenN_le (a := t.toNat) (b := p.toNat) (c := W.toNat) (by omega) (by omega)
    omega
theorem shI_step {t W a p : Int} (ht : 0 ≤ t) (htW : t ≤ W) (ha : 0 ≤ a) (h : a ≤ p) : shI t W p - shI t W a ≤ p - a := by
  unfold shI
  split
  · omega
  · have := evenN_step (a := t.toNat) (b := a.toNat) (b' := p.toNat) (c := W.toNat) (by omega) (by omega) (by omega)
    omega
theorem backI_sh {t W a p : Int} (ht : 0 ≤ t ∧ t ≤ 4611686018427387904) (hW : 0 ≤ W ∧ W ≤ 4611686018427387904) (ha : 0 ≤ a) (h : a ≤ p) (hp : p ≤ W) : backI t W a p = (shI t W p - shI t W a, 0) := by
  unfold backI shI
  rw [if_neg (by simp [win]; omega), if_neg (by omega)]
  split
  · rfl
  · rfl
theorem Tx.ret_eq {x : Tx} (hok : x.ok = true) {a p : Int} (ha : 0 ≤ a) (h : a ≤ p) (hp : p ≤ x.t + x.x) :
    x.ret a p = ({ x with t := shI x.t (x.t + x.x) p - shI x.t (x.t + x.x) a, x := p - a - (shI x.t (x.t + x.x) p - shI x.t (x.t + x.x) a), v := shI x.v (x.t + x.x) p - shI x.v (x.t + x.x) a }, 0) := by
  obtain ⟨_, _, b3, b4, _, b6⟩ := Tx.ok_bd hok
  unfold Tx.ret
  rw [if_neg (by simp [hok]), backI_sh b3 (by omega) ha h hp, backI_sh b6 (by omega) ha h hp]
  rfl
/-- A number from 0 on below n. -/
def pickI (x n : Int) : Int := if n < 1 then 0 else if Int.tmod x n < 0 then Int.tmod x n + n else Int.tmod x n
theorem tmod_bd {x n : Int} (h : 1 ≤ n) : -n < Int.tmod x n ∧ Int.tmod x n < n := by
  refine ⟨?_, Int.tmod_lt_of_pos x (by omega)⟩
  have := Int.tmod_lt_of_pos (-x) (show 0 < n by omega)
  rw [Int.neg_tmod] at this
  omega
theorem pickI_bd {x n : Int} (h : 1 ≤ n) : 0 ≤ pickI x n ∧ pickI x n < n := by
  have := tmod_bd (x := x) h
  unfold pickI
  rw [if_neg (by omega)]
  split <;> omega
end Go.Proofs.YtokakpbpenndlaaGreatDoor

set_option linter.unusedVariables false
namespace Go.Proofs.YtokakpbpenndlaaGreatDoor
open Go.RowKit Go.ChangeShapes Go.WideShapes Go.Deep

/-- Whatever reads as a value of type t has cells of this shape. -/
structure Opens (P : Program) (t : TypeId) (S : World → List Value → Prop) : Prop where
  run : ∀ {H : Type} (enc : TypeId × Value → H) (w : World) (base : Nat) (spare : Nat → Bool) (held : Bool) (fuel : Nat) (cs : List Value) (x : DataW H × List MemPlace),
    DataW.trod enc P w base spare held fuel t cs = some x → S w cs
theorem Opens.mono {P : Program} {t : TypeId} {S S' : World → List Value → Prop} (h : Opens P t S) (hs : ∀ w cs, S w cs → S' w cs) : Opens P t S' :=
  ⟨fun enc w base spare held fuel cs x hx => hs _ _ (h.run enc w base spare held fuel cs x hx)⟩
theorem opens_int {P : Program} {t : TypeId} {k : IntKind} (ht : P.underlying t = some (.int k)) : Opens P t (fun _ cs => ∃ n, cs = [.int k n] ∧ (Lit.int k n).wf = true) := by
  refine ⟨fun {H} enc w base spare held fuel cs x hx => ?_⟩
  obtain ⟨n, h1, _, h3⟩ := DataW.trod_int ht hx
  exact ⟨n, h1, h3⟩
theorem opens_bool {P : Program} {t : TypeId} (ht : P.underlying t = some .bool) : Opens P t (fun _ cs => ∃ b, cs = [.bool b]) := by
  refine ⟨fun {H} enc w base spare held fuel cs x hx => ?_⟩
  obtain ⟨n, h1, _⟩ := DataW.trod_bool ht hx
  exact ⟨n, h1⟩
theorem opens_string {P : Program} {t : TypeId} (ht : P.underlying t = some .string) : Opens P t (fun _ cs => ∃ s : ByteArray, cs = [.string s] ∧ s.size ≤ maxLen) := by
  refine ⟨fun {H} enc w base spare held fuel cs x hx => ?_⟩
  obtain ⟨n, h1, _, h3⟩ := DataW.trod_string ht hx
  exact ⟨n, h1, h3⟩
/-- A struct, field by field: each field's cells have its shape. -/
theorem opens_struct {P : Program} {t : TypeId} {fs : Array Field} (ht : P.underlying t = some (.struct fs)) (S : Nat → World → List Value → Prop) (n : Nat) (hn : P.cellsOf t = n)
    (h : ∀ i f, fs[i]? = some f → Opens P f.type (S i)) :
    Opens P t (fun w cs => cs.length = n ∧ ∀ i f, fs[i]? = some f → S i w ((cs.drop f.offset).take (P.cellsOf f.type))) := by
  refine ⟨fun {H} enc w base spare held fuel cs x hx => ?_⟩
  obtain ⟨xs, m, _, _, hlen, hxl, hf⟩ := DataW.trod_struct ht hx
  refine ⟨by rw [hlen, hn], fun i f hi => ?_⟩
  have hil : i < xs.length := by rw [hxl]; exact (Array.getElem?_eq_some_iff.1 hi).1
  have := hf i f hi
  rw [List.getElem?_eq_getElem hil] at this
  exact (h i f hi).run enc w base spare held m _ _ this
/-- A slice whose elements have c cells each, of shape S. -/
def SliceOf (c : Nat) (S : World → List Value → Prop) (w : World) (cs : List Value) : Prop :=
  ∃ (A : Option Addr) (len cap : Nat) (L : List (List Value)), cs = [.slice A len cap] ∧ len ≤ cap ∧ cap ≤ maxLen ∧ L.length = len ∧ (∀ x ∈ L, x.length = c ∧ S w x) ∧ Reads w w.heap.size c A len L.flatten
theorem flat_at {c : Nat} : ∀ (L : List (List Value)) (_ : ∀ x ∈ L, x.length = c) (j : Nat) (u : Value), L.flatten[j]? = some u → ∃ i k, i < L.length ∧ k < c ∧ j = i * c + k ∧ ∃ x, L[i]? = some x ∧ x[k]? = some u
  | [], _, j, u, h => by simp at h
  | x :: L, hL, j, u, h => by
    have hx : x.length = c := hL x (by simp)
    rw [List.flatten_cons, List.getElem?_append] at h
    split at h
    · rename_i hj
      exact ⟨0, j, by simp, by omega, by simp, x, by simp, h⟩
    · rename_i hj
      obtain ⟨i, k, hi, hk, he, y, hy, hu⟩ := flat_at L (fun y hy => hL y (by simp [hy])) (j - x.length) u h
      refine ⟨i + 1, k, by simp; omega, hk, by rw [Nat.add_mul]; omega, y, by simpa using hy, hu⟩
theorem opens_slice {P : Program} {t e : TypeId} (c : Nat) {S : World → List Value → Prop} (ht : P.underlying t = some (.slice e)) (hC : P.cellsOf e = c) (hc : 0 < c) (h : Opens P e S) : Opens P t (SliceOf c S) := by
  refine ⟨fun {H} enc w base spare held fuel cs x hx => ?_⟩
  rcases open_slice ht hx with ⟨rfl, _⟩ | ⟨a, len, cap, m, n, D, Pl, rfl, hb, hl, hm, hmm, _, hi⟩
  · exact ⟨none, 0, 0, [], rfl, Nat.le_refl _, by simp [maxLen], rfl, by simp, by simpa using Reads.none_⟩
  · have hlm : len ≤ m := by rw [hmm]; split <;> omega
    rw [hC] at hi
    obtain ⟨f, hf⟩ : ∃ f : Nat → List Value, ∀ i, i < len → w.cells? base (a.add (i * c)) c = some (f i) ∧ DataW.trod enc P w base spare held n e (f i) = some (D i, Pl i) := by
      refine ⟨fun i => if hi' : i < m then (hi i hi').choose else [], fun i hil => ?_⟩
      have him : i < m := by omega
      simp only [dif_pos him]
      exact (hi i him).choose_spec
    refine ⟨some a, len, cap, (List.range len).map f, rfl, hl, hm, by simp, ?_, ?_⟩
    · intro x hx
      simp only [List.mem_map, List.mem_range] at hx
      obtain ⟨i, hil, rfl⟩ := hx
      obtain ⟨h1, h2⟩ := hf i hil
      obtain ⟨_, hcl, _⟩ := World.cells?_some h1
      exact ⟨hcl, h.run enc w base spare held n _ _ h2⟩
    · have hall : ∀ x ∈ (List.range len).map f, x.length = c := by
        intro x hx
        simp only [List.mem_map, List.mem_range] at hx
        obtain ⟨i, hil, rfl⟩ := hx
        exact (World.cells?_some (hf i hil).1).2.1
      have hlen : ((List.range len).map f).flatten.length = len * c := by
        have gen : ∀ (L : List (List Value)), (∀ x ∈ L, x.length = c) → L.flatten.length = L.length * c := by
          intro L
          induction L with
          | nil => intro _; simp
          | cons y L ih =>
            intro hL
            rw [List.flatten_cons, List.length_append, ih (fun z hz => hL z (by simp [hz])), hL y (by simp), List.length_cons, Nat.add_mul]
            omega
        rw [gen _ hall]; simp
      refine ⟨hlen, fun hp => ?_⟩
      have hget : ∀ i k u, i < len → k < c → (f i)[k]? = some u → w.cell? ((a.add (i * c)).add k) = some u := by
        intro i k u hil hk hu
        obtain ⟨_, hcl, hat⟩ := World.cells?_some (hf i hil).1
        exact (hat k hk).trans hu
      obtain ⟨b, off, spot⟩ := a
      have h0 : ∃ u, (f 0)[0]? = some u := by
        have := (World.cells?_some (hf 0 hp).1).2.1
        exact ⟨_, List.getElem?_eq_getElem (by omega)⟩
      obtain ⟨u0, hu0⟩ := h0
      have hc0 := hget 0 0 u0 hp hc hu0
      have hspot : spot = none := by
        have := World.cell?_spot hc0
        simpa [Addr.add] using this
      subst hspot
      refine ⟨b, off, rfl, ?_, fun j u hu => ?_⟩
      · rcases Nat.lt_or_ge b w.heap.size with hlt | hge
        · exact hlt
        · exfalso
          rw [add_of_add, add_flat] at hc0
          unfold World.cell? at hc0
          rw [Array.getElem?_eq_none hge] at hc0
          simp at hc0
      · obtain ⟨i, k, hil, hk, rfl, x, hx, hxk⟩ := flat_at _ hall j u hu
        have hil' : i < len := by simpa using hil
        have : x = f i := by
          rw [List.getElem?_eq_getElem hil] at hx
          simpa using hx.symm
        subst this
        have := hget i k u hil' hk hxk
        rw [add_of_add, add_flat] at this
        rw [← this]
/-- The elements of a slice, each the coding of something plain. -/
theorem SliceOf.list {α : Type} {c : Nat} {S : World → List Value → Prop} {code : α → List Value} {p : α → Prop} {w : World} {cs : List Value} (h : SliceOf c S w cs) (hS : ∀ x, S w x → ∃ a, x = code a ∧ p a) :
    ∃ (A : Option Addr) (cap : Nat) (l : List α), cs = [.slice A l.length cap] ∧ l.length ≤ cap ∧ cap ≤ maxLen ∧ (∀ a ∈ l, p a) ∧ Reads w w.heap.size c A l.length (l.flatMap code) := by
  obtain ⟨A, len, cap, L, rfl, hl, hm, hL, hall, hr⟩ := h
  have gen : ∀ (M : List (List Value)), (∀ x ∈ M, S w x) → ∃ l : List α, M = l.map code ∧ ∀ a ∈ l, p a := by
    intro M
    induction M with
    | nil => intro _; exact ⟨[], rfl, by simp⟩
    | cons y M ih =>
      intro hM
      obtain ⟨l, rfl, hp⟩ := ih (fun z hz => hM z (by simp [hz]))
      obtain ⟨a, rfl, ha⟩ := hS y (hM y (by simp))
      exact ⟨a :: l, rfl, by simpa using ⟨ha, hp⟩⟩
  obtain ⟨l, rfl, hp⟩ := gen L (fun x hx => (hall x hx).2)
  simp only [List.length_map] at hL
  subst hL
  refine ⟨A, cap, l, rfl, hl, hm, hp, ?_⟩
  rw [← List.flatMap_def] at hr
  exact hr
/-- Fields one behind the other: so many cells each, of this shape. -/
def FieldsShape : List (Nat × (World → List Value → Prop)) → World → List Value → Prop
  | [], _, cs => cs = []
  | (k, S) :: r, w, cs => ∃ a b, cs = a ++ b ∧ a.length = k ∧ S w a ∧ FieldsShape r w b
inductive OpensAll (P : Program) : Nat → List (TypeId × Nat) → List (Nat × (World → List Value → Prop)) → Prop
  | nil {n : Nat} : OpensAll P n [] []
  | cons {n : Nat} (k : Nat) {t : TypeId} {S : World → List Value → Prop} {ts : List (TypeId × Nat)} {l : List (Nat × (World → List Value → Prop))} (h : Opens P t S) (hk : P.cellsOf t = k) (r : OpensAll P (n + k) ts l) : OpensAll P n ((t, n) :: ts) ((k, S) :: l)
def cellsAll : List (Nat × (World → List Value → Prop)) → Nat
  | [] => 0
  | (k, _) :: r => k + cellsAll r
theorem opens_fields {P : Program} {t : TypeId} {fs : Array Field} (ht : P.underlying t = some (.struct fs)) {l : List (Nat × (World → List Value → Prop))} (h : OpensAll P 0 (fs.toList.map fun f => (f.type, f.offset)) l) (hn : P.cellsOf t = cellsAll l) : Opens P t (FieldsShape l) := by
  refine ⟨fun {H} enc w base spare held fuel cs x hx => ?_⟩
  obtain ⟨xs, m, _, _, hlen, hxl, hf⟩ := DataW.trod_struct ht hx
  have gen : ∀ (gs : List Field) (l : List (Nat × (World → List Value → Prop))) (n : Nat), OpensAll P n (gs.map fun f => (f.type, f.offset)) l → cs.length = n + cellsAll l →
      (∀ f ∈ gs, ∃ y, DataW.trod enc P w base spare held m f.type ((cs.drop f.offset).take (P.cellsOf f.type)) = some y) → FieldsShape l w (cs.drop n) := by
    intro gs
    induction gs with
    | nil =>
      intro l n ho hn' _
      cases ho
      simp only [cellsAll] at hn'
      exact List.drop_eq_nil_of_le (by omega)
    | cons g gs ih =>
      intro l n ho hn' hg
      simp only [List.map_cons] at ho
      generalize he : (g.type, g.offset) :: gs.map (fun f => (f.type, f.offset)) = ts at ho
      cases ho with
      | nil => cases he
      | @cons _ k t S ts l hS hk r =>
        injection he with he1 he2
        injection he1 with he3 he4
        subst he3
        subst he4
        subst he2
        obtain ⟨y, hy⟩ := hg g (by simp)
        rw [hk] at hy
        simp only [cellsAll] at hn'
        refine ⟨(cs.drop g.offset).take k, (cs.drop g.offset).drop k, (List.take_append_drop _ _).symm, by rw [List.length_take, List.length_drop]; omega, hS.run enc w base spare held m _ _ hy, ?_⟩
        rw [List.drop_drop]
        exact ih l _ r (by omega) (fun f hf => hg f (by simp [hf]))
  have := gen fs.toList l 0 h (by rw [hlen, hn]; omega) (fun f hfm => by
    obtain ⟨i, hi, he⟩ := List.mem_iff_getElem.1 hfm
    have h1 : fs[i]? = some f := by
      rw [← he]
      rw [Array.getElem?_eq_getElem (by simpa using hi)]
      simp
    have h2 := hf i f h1
    have : i < xs.length := by rw [hxl]; simpa using hi
    rw [List.getElem?_eq_getElem this] at h2
    exact ⟨_, h2⟩)
  simpa using this
/-- What an argument's reading says. -/
theorem Opens.arg {P : Program} {t : TypeId} {S : World → List Value → Prop} (h : Opens P t S) {H : Type} {enc : TypeId × Value → H} {w : World} {base : Nat} {spare : Nat → Bool} {held : Bool} {v : Value} {d : DataW H} {ps : List MemPlace}
    (ht : DataW.Trod enc P w base spare held t v d ps) : S w v.cells.toList := by
  obtain ⟨fuel, hf⟩ := ht
  exact h.run enc w base spare held fuel _ _ hf
theorem trod_below {P : Program} {t : TypeId} {H : Type} {enc : TypeId × Value → H} {w : World} {base : Nat} {spare : Nat → Bool} {held : Bool} {v : Value} {d : DataW H} {ps : List MemPlace}
    (ht : DataW.Trod enc P w base spare held t v d ps) : ∀ x ∈ ps, x.block < w.heap.size := by
  obtain ⟨m, hm⟩ := ht
  exact DataW.trod_lt m _ _ _ hm
end Go.Proofs.YtokakpbpenndlaaGreatDoor
