/-
  Numbers as bytes: the walks through both Puts.
-/
import Derived.Test.YtokakpbpenndlaaGreatDoorProg
import Derived.Test.YtokakpbpenndlaaGreatDoorRn02
import Derived.Test.YtokakpbpenndlaaGreatDoorRn03
import Derived.StillTailTactics
set_option linter.unusedVariables false
namespace Go.Proofs.YtokakpbpenndlaaGreatDoor
open Go.RowKit
theorem row_u8 : RowT Tryz.prog 24 5 1 1 (.int .u8 0) := rowT_mk Tryz.underlying24 (z := .int .u8 0) (by kernel_rfl) rfl (by decide)
theorem row_int : RowT Tryz.prog 50 3 1 8 (.int .i64 0) := rowT_mk Tryz.underlying50 (z := .int .i64 0) (by kernel_rfl) rfl (by decide)

/-- A round of a Put: so much is written, r is left. -/
def PutRel (w : World) (z : Nat) (s o : Value) (wr : World) : Prop :=
  ∃ (f r : Nat) (out : List UInt8), s = .int .u64 (r : Int) ∧ r < 128 ^ f ∧ r < 18446744073709551616 ∧ 1 ≤ f ∧ f + out.length ≤ 10 ∧ lebF 10 z = out ++ lebF f r ∧ wr.ownsRow w.heap.size 5 1 o out.length (bV out) ∧ Ext w wr ∧ AllP wr o u8P
theorem PutRel.next {w w1 : World} {z f r : Nat} {out : List UInt8} {v1 : Value} {n c : Int} (hr : r < 128 ^ (f + 1)) (hrl : r < 18446744073709551616) (hge : 128 ≤ r) (hfl : f + 1 + out.length ≤ 10) (h : lebF 10 z = out ++ lebF (f + 1) r)
    (hg : w1.ownsRow w.heap.size 5 1 v1 (out.length + 1) (bV out ++ [.int .u8 c])) (hc : c = ((UInt8.ofNat (r % 128 + 128)).toNat : Int)) (hx : Ext w w1) (hall : AllP w1 v1 u8P) (hn : n = ((r / 128 : Nat) : Int)) : PutRel w z (.int .u64 n) v1 w1 := by
  subst hn hc
  refine ⟨f, r / 128, out ++ [UInt8.ofNat (r % 128 + 128)], rfl, ?_, by omega, ?_, by simp; omega, by rw [h, lebF_big f r hge]; simp, ?_, hx, hall⟩
  · rw [Nat.pow_succ] at hr; exact Nat.div_lt_of_lt_mul (by omega)
  · rcases f with _ | f
    · simp at hr; omega
    · omega
  · rw [bV_app, List.length_append]
    simpa [bV] using hg
theorem PutRel.done {w w1 : World} {z f r : Nat} {out : List UInt8} {v1 : Value} (hlt : r < 128) (h : lebF 10 z = out ++ lebF (f + 1) r)
    (hg : w1.ownsRow w.heap.size 5 1 v1 (out.length + 1) (bV out ++ [.int .u8 ((UInt8.ofNat r).toNat : Int)])) : w1.ownsRow w.heap.size 5 1 v1 (lebF 10 z).length (bV (lebF 10 z)) := by
  rw [h, lebF_small f r hlt, bV_app, List.length_append]
  simpa [bV] using hg

set_option maxHeartbeats 400000 in
theorem oput_any (n : Int) (h1 : -9223372036854775808 ≤ n) (h2 : n ≤ 9223372036854775807) (w : World) :
    Calls Tryz.prog 43 #[.int .i64 n] w fun e w' => ∃ v, e = .returned v ∧ w'.ownsRow w.heap.size 5 1 v (putL n).length (bV (putL n)) ∧ Ext w w' ∧ AllP w' v u8P := by
  have hz := zig_o n h1 h2
  have hz1 := zig_lt n h1 h2
  go_enter Tryz.func43, Tryz.ntmps43
  go_wp2
  clear hz
  go_loopw [3, 4] (fun s o wr => PutRel w (zig n) s o wr) (fun s _ _ => (intOf s).toNat)
  case atStart => exact ⟨10, zig n, [], rfl, by omega, by omega, by omega, by simp, rfl, World.ownsRow_nil _ _ _ _, Ext.refl _, AllP.nil _ _ _ _⟩
  case round =>
    obtain ⟨f, r, out, rfl, hr, hrl, hf, hfl, heq, hown, hx, hall⟩ := hrel
    obtain ⟨f, rfl⟩ : ∃ g, f = g + 1 := ⟨f - 1, by omega⟩
    have HE := Lib.hid heq
    have HR := Lib.hid hr
    have HL := Lib.hid hrl
    clear heq hrl hr hz1
    by_cases hlt : r < 128
    · have hb := byte_lo r hlt
      have hd : decide ((128 : Int) ≤ (r : Int)) = false := by simp; omega
      go_wp2_with (at_builtin; refine wpl_app1 row_u8 w wr (.tmp 22) (.tmp 25) rfl rfl rfl hown hx rfl (by simp) rfl (by simp [Value.oneCell']) (by omega) (by unfold maxLen; omega) ?_; intro v1 w1 hg)
      go_ret
      exact ⟨_, rfl, PutRel.done hlt HE.out hg.own, hg.ext, hg.all u8P u8z (u8b1 _ _) (hall.ext ((Ext.refl _).alloc _))⟩
    · have hb := byte_o' r
      have hd : decide ((128 : Int) ≤ (r : Int)) = true := by simp; omega
      go_wp2_with (at_builtin; refine wpl_app1 row_u8 w wr (.tmp 16) (.tmp 20) rfl rfl rfl hown hx rfl (by simp) rfl (by simp [Value.oneCell']) (by omega) (by unfold maxLen; omega) ?_; intro v1 w1 hg)
      go_roundw
      case rel => exact PutRel.next HR.out HL.out (by omega) hfl HE.out hg.own (byte_o2 r) hg.ext (hg.all u8P u8z (u8b1 _ _) (hall.ext ((Ext.refl _).alloc _))) rfl
      case measure => simp [intOf]; omega

set_option maxHeartbeats 400000 in
theorem rput_any (n : Int) (h1 : -9223372036854775808 ≤ n) (h2 : n ≤ 9223372036854775807) (w : World) :
    Calls Tryz.prog 45 #[.int .i64 n] w fun e w' => ∃ v, e = .returned v ∧ w'.ownsRow w.heap.size 5 1 v (putL n).length (bV (putL n)) ∧ Ext w w' ∧ AllP w' v u8P := by
  have hz1 := zig_lt n h1 h2
  by_cases hn : n < 0
  case' pos =>
    have hz := zig_r2 n h1 hn
    have hd0 : decide (n < (0 : Int)) = true := by simpa using hn
  case' neg =>
    have hz := zig_r1 n h2 (by omega)
    have hd0 : decide (n < (0 : Int)) = false := by simpa using hn
  all_goals
    clear hn
    go_enter Tryz.func45, Tryz.ntmps45
    go_wp2
    clear hz
    go_loopw [3, 4] (fun s o wr => PutRel w (zig n) s o wr) (fun s _ _ => (intOf s).toNat)
    case atStart => exact ⟨10, zig n, [], rfl, by omega, by omega, by omega, by simp, rfl, World.ownsRow_nil _ _ _ _, Ext.refl _, AllP.nil _ _ _ _⟩
    case round =>
      obtain ⟨f, r, out, rfl, hr, hrl, hf, hfl, heq, hown, hx, hall⟩ := hrel
      obtain ⟨f, rfl⟩ : ∃ g, f = g + 1 := ⟨f - 1, by omega⟩
      have HE := Lib.hid heq
      have HR := Lib.hid hr
      have HL := Lib.hid hrl
      clear heq hrl hr hz1
      by_cases hlt : r < 128
      · have hb := byte_lo r hlt
        have hd : decide ((128 : Int) ≤ (r : Int)) = false := by simp; omega
        go_wp2_with (at_builtin; refine wpl_app1 row_u8 w wr (.tmp 23) (.tmp 26) rfl rfl rfl hown hx rfl (by simp) rfl (by simp [Value.oneCell']) (by omega) (by unfold maxLen; omega) ?_; intro v1 w1 hg)
        go_ret
        exact ⟨_, rfl, PutRel.done hlt HE.out hg.own, hg.ext, hg.all u8P u8z (u8b1 _ _) (hall.ext ((Ext.refl _).alloc _))⟩
      · skip
        have hd : decide ((128 : Int) ≤ (r : Int)) = true := by simp; omega
        go_wp2_with (at_builtin; refine wpl_app1 row_u8 w wr (.tmp 14) (.tmp 19) rfl rfl rfl hown hx rfl (by simp) rfl (by simp [Value.oneCell']) (by omega) (by unfold maxLen; omega) ?_; intro v1 w1 hg)
        go_roundw
        case rel => exact PutRel.next HR.out HL.out (by omega) hfl HE.out hg.own (byte_r' r) hg.ext (hg.all u8P u8z (u8b1 _ _) (hall.ext ((Ext.refl _).alloc _))) (u64_div r HL.out)
        case measure => have hq := u64_div r HL.out; simp only [intOf]; rw [hq]; omega
end Go.Proofs.YtokakpbpenndlaaGreatDoor

set_option linter.unusedVariables false
namespace Go.Proofs.YtokakpbpenndlaaGreatDoor
open Go.RowKit

/-- Numbers as cells. -/
def iV (l : List Int) : List Value := l.map fun n => .int .i64 n
theorem iV_one (l : List Int) : ∀ u ∈ iV l, u.oneCell' = true := by
  intro u hu
  simp only [iV, List.mem_map] at hu
  obtain ⟨b, _, rfl⟩ := hu
  rfl
theorem iV_at (l : List Int) (k : Nat) (h : k < l.length) : (iV l)[k]? = some (.int .i64 l[k]) := by simp [iV, h]
def PutsRel (w : World) (l : List Int) (o i : Value) (wr : World) : Prop :=
  ∃ k : Nat, k ≤ l.length ∧ i = .int .i64 (k : Int) ∧ wr.ownsRow w.heap.size 5 1 o (putsL (l.take k)).length (bV (putsL (l.take k))) ∧ Ext w wr ∧ AllP wr o u8P
theorem PutsRel.next {w w1 : World} {l : List Int} {k : Nat} {v1 : Value} {n m : Nat} {xs : List Value} (hk : k < l.length) (hg : w1.ownsRow w.heap.size 5 1 v1 n xs) (hn : n = (putsL (l.take k)).length + (putL l[k]).length) (hxs : xs = bV (putsL (l.take k)) ++ bV (putL l[k])) (hx : Ext w w1) (hall : AllP w1 v1 u8P) (hm : m = k + 1) : PutsRel w l v1 (.int .i64 (m : Int)) w1 := by
  subst hm hn hxs
  refine ⟨k + 1, by omega, rfl, ?_, hx, hall⟩
  rw [putsL_snoc l k hk, bV_app, List.length_append]
  exact hg
theorem PutsRel.done {w w1 : World} {l : List Int} {k : Nat} {o : Value} (hk : k = l.length) (h : w1.ownsRow w.heap.size 5 1 o (putsL (l.take k)).length (bV (putsL (l.take k)))) : w1.ownsRow w.heap.size 5 1 o (putsL l).length (bV (putsL l)) := by
  subst hk; rwa [List.take_length] at h

end Go.Proofs.YtokakpbpenndlaaGreatDoor

set_option linter.unusedVariables false
namespace Go.Proofs.YtokakpbpenndlaaGreatDoor
open Go.RowKit

theorem conv_reads {w : World} {B n cap : Nat} {A : Option Addr} {l : List UInt8} (h : Reads w B 1 A n (bV l)) :
    (convert 24 9 (.slice A n cap)).run Tryz.prog w = .ok (.string ⟨l.toArray⟩) w := by
  have hl : l.length = n := by have := h.1; simpa [bV] using this
  rcases A with _ | ad
  · have h0 : n = 0 := by
      rcases Nat.eq_zero_or_pos n with h0 | h0
      · exact h0
      · obtain ⟨b, off, e, _⟩ := h.2 h0; cases e
    subst h0
    have : l = [] := List.eq_nil_of_length_eq_zero hl
    subst this
    exact run_convert_bytes_nil w _ _ Tryz.underlying24 Tryz.underlying5 _ _ _ Tryz.underlying9
  · rcases Nat.eq_zero_or_pos n with h0 | h0
    · subst h0
      have : l = [] := List.eq_nil_of_length_eq_zero hl
      subst this
      have h2 := run_convert_bytes_string (P := Tryz.prog) w 24 9 5 (some ad) 0 cap Tryz.underlying24 Tryz.underlying5 Tryz.underlying9
      have h3 := run_bytesToString (P := Tryz.prog) w ad 0 cap [] (by simp [loadCells, loadCellsFrom])
      rw [h2, h3]
      simp [ByteArray.empty, ByteArray.emptyWithCapacity]
      rfl
    · obtain ⟨b, off, e, hb, hc⟩ := h.2 h0
      obtain rfl := Option.some.inj e
      have := run_convert_bytes_arg w 24 5 Tryz.underlying24 Tryz.underlying5 b off n cap (l.map fun b => (b.toNat : Int)) (by simpa using hl) (fun i hi => by
        refine hc i _ ?_
        simp [bV, List.getD, List.getElem?_eq_getElem (show i < l.length by omega)]) _ Tryz.underlying9
      rw [this]
      simp [strOfNums, Function.comp_def]

theorem sameBytes_any (a b : List UInt8) (A A' : Option Addr) (n n' c c' : Nat) (w : World) (h1 : Reads w w.heap.size 1 A n (bV a)) (h2 : Reads w w.heap.size 1 A' n' (bV b)) :
    Calls Tryz.prog 20 #[.slice A n c, .slice A' n' c'] w fun e w' => e = .returned (.bool (a == b)) ∧ w = w' := by
  have k1 := conv_reads (cap := c) h1
  have k2 := conv_reads (cap := c') h2
  clear h1 h2
  go_enter Tryz.func20, Tryz.ntmps20
  go_wp2
  go_ret
  exact ⟨rfl, rfl⟩

theorem lnCells_one (l : List Ln) : ∀ u ∈ lnCells l, u.oneCell' = true := by
  intro u hu
  simp only [lnCells, List.mem_flatMap, Ln.cells] at hu
  obtain ⟨x, _, hx⟩ := hu
  simp at hx
  rcases hx with rfl | rfl <;> rfl
theorem lnCells_len (l : List Ln) : (lnCells l).length = l.length * 2 := by
  induction l with
  | nil => rfl
  | cons a l ih => simp only [lnCells, List.flatMap_cons, List.length_append, List.length_cons] at *; rw [ih]; simp [Ln.cells]; omega

def SameRel (w : World) (n : Nat) (P : Nat → Prop) (i : Value) (wr : World) : Prop := ∃ k : Nat, k ≤ n ∧ i = .int .i64 (k : Int) ∧ Ext w wr ∧ ∀ j, j < k → P j

theorem eq_of_at {α : Type} (a b : List α) (hl : a.length = b.length) (h : ∀ j (h1 : j < a.length) (h2 : j < b.length), a[j] = b[j]) : a = b := List.ext_getElem hl (fun j h1 h2 => h j h1 h2)

theorem SameRel.done {α : Type} {w wr : World} {a b : List α} {k : Nat} (hk : a.length ≤ k) (hl : a.length = b.length) (hP : ∀ j, j < k → a[j]? = b[j]?) : a = b := by
  refine List.ext_getElem hl fun j h1 h2 => ?_
  have := hP j (by omega)
  simpa [h1, h2] using this
theorem SameRel.next {w w1 : World} {n k m : Nat} {P : Nat → Prop} (hk : k < n) (hx : Ext w w1) (hP : ∀ j, j < k → P j) (h : P k) (hm : m = k + 1) : SameRel w n P (.int .i64 (m : Int)) w1 := by
  subst hm
  exact ⟨k + 1, by omega, rfl, hx, fun j hj => by rcases Nat.lt_or_ge j k with h1 | h1; exact hP j h1; rw [show j = k by omega]; exact h⟩
theorem len_ne {α : Type} {a b : List α} (h : a.length ≠ b.length) : decide ((a.length : Int) = b.length) = false := by simp; omega

theorem eql_pt (a b c d : Int) (w : World) : (binOp .eql 241 (.agg #[.int .i64 a, .int .i64 b]) (.agg #[.int .i64 c, .int .i64 d])).run Tryz.prog w = .ok (.bool (a == c && b == d)) w := by
  by_cases h1 : a = c <;> by_cases h2 : b = d <;> simp [go_sem, h1, h2]

def ordV (o : Ord) (A : Option Addr) (cap : Nat) : Value := .agg #[.int .i64 o.cu, .int .i64 o.day, .int .i64 o.px, .int .i64 o.py, .slice A o.ls.length cap]

end Go.Proofs.YtokakpbpenndlaaGreatDoor

set_option linter.unusedVariables false
namespace Go.Proofs.YtokakpbpenndlaaGreatDoor
open Go.RowKit

def Ord.bytes (o : Ord) : List UInt8 := if o.check.1 = 0 then putsL (o.hd ++ lnInts o.ls) else []
theorem Ord.bytes_ok {o : Ord} (h : o.check.1 = 0) : o.bytes = putsL o.hd ++ putsL (lnInts o.ls) := by rw [Ord.bytes, if_pos h, putsL_app]
theorem Ord.bytes_no {o : Ord} (h : o.check.1 ≠ 0) : o.bytes = [] := by rw [Ord.bytes, if_neg h]
theorem win_i64 {n lo hi : Int} (h : win n lo hi = true) (h1 : -9223372036854775808 ≤ lo) (h2 : hi ≤ 9223372036854775807) : i64 n := by
  have := win_bd h; exact ⟨by omega, by omega⟩
theorem Ord.hd_i64 {o : Ord} (h : o.check.1 = 0) : ∀ n ∈ o.hd, i64 n := by
  obtain ⟨h0, _, h2, _⟩ := Ord.check_ok h
  simp only [Ord.head, Bool.and_eq_true] at h0
  obtain ⟨⟨⟨a, b⟩, c⟩, d⟩ := h0
  intro n hn
  simp only [Ord.hd, List.mem_cons, List.not_mem_nil, or_false] at hn
  rcases hn with rfl | rfl | rfl | rfl | rfl
  · exact win_i64 a (by omega) (by omega)
  · exact win_i64 b (by omega) (by omega)
  · exact win_i64 c (by omega) (by omega)
  · exact win_i64 d (by omega) (by omega)
  · exact ⟨by omega, by omega⟩
theorem Ln.i64 {l : Ln} (h : l.ok = true) : ∀ n ∈ [l.c, l.a], Go.Proofs.YtokakpbpenndlaaGreatDoor.i64 n := by
  simp only [Ln.ok, Bool.and_eq_true] at h
  intro n hn
  simp only [List.mem_cons, List.not_mem_nil, or_false] at hn
  rcases hn with rfl | rfl
  · exact win_i64 h.1 (by omega) (by omega)
  · exact win_i64 h.2 (by omega) (by omega)

def OBRel (w : World) (o : Ord) (out i : Value) (wr : World) : Prop :=
  ∃ k : Nat, k ≤ o.ls.length ∧ i = .int .i64 (k : Int) ∧ wr.ownsRow w.heap.size 5 1 out (putsL (o.hd ++ lnInts (o.ls.take k))).length (bV (putsL (o.hd ++ lnInts (o.ls.take k)))) ∧ Ext w wr ∧ AllP wr out u8P
theorem OBRel.next {w w1 : World} {o : Ord} {k : Nat} {v1 : Value} {n m : Nat} {xs : List Value} {x : Ln} (hk : k < o.ls.length) (hx0 : o.ls[k] = x) (hg : w1.ownsRow w.heap.size 5 1 v1 n xs) (hn : n = (putsL (o.hd ++ lnInts (o.ls.take k))).length + (putsL [x.c, x.a]).length) (hxs : xs = bV (putsL (o.hd ++ lnInts (o.ls.take k))) ++ bV (putsL [x.c, x.a])) (hx : Ext w w1) (hall : AllP w1 v1 u8P) (hm : m = k + 1) : OBRel w o v1 (.int .i64 (m : Int)) w1 := by
  subst hm hn hxs hx0
  refine ⟨k + 1, by omega, rfl, ?_, hx, hall⟩
  rw [lnInts_snoc _ k hk, ← List.append_assoc, putsL_app (o.hd ++ lnInts (o.ls.take k)), bV_app, List.length_append]
  exact hg
theorem OBRel.done {w w1 : World} {o : Ord} {k : Nat} {out : Value} (hc : o.check.1 = 0) (hk : k = o.ls.length) (h : w1.ownsRow w.heap.size 5 1 out (putsL (o.hd ++ lnInts (o.ls.take k))).length (bV (putsL (o.hd ++ lnInts (o.ls.take k))))) : w1.ownsRow w.heap.size 5 1 out o.bytes.length (bV o.bytes) := by
  subst hk; rw [List.take_length] at h; rw [Ord.bytes, if_pos hc]; exact h

end Go.Proofs.YtokakpbpenndlaaGreatDoor
