/-
  The reference's Check and Bytes; the chapter's small order.
-/
import Derived.Test.YtokakpbpenndlaaGreatDoorRr12
import Derived.Deep.RegionLaw
import Derived.Test.YtokakpbpenndlaaGreatDoorRr17
import Derived.Test.YtokakpbpenndlaaGreatDoorRr14
import Derived.LaidEql
set_option linter.unusedVariables false
namespace Go.Proofs.YtokakpbpenndlaaGreatDoor
open Go.RowKit

theorem rwithin_any (n lo hi : Int) (w : World) :
    Calls Tryz.prog 192 #[.int .i64 n, .int .i64 lo, .int .i64 hi] w fun e w' => e = .returned (.bool (win n lo hi)) ∧ w = w' := by
  unfold win
  by_cases h1 : lo ≤ n <;> by_cases h2 : n ≤ hi
  all_goals
    go_enter Tryz.func192, Tryz.ntmps192
    go_wp2
    go_ret
    exact ⟨ret_bool (by simp [h1, h2]), rfl⟩
def ordCells (o : Ord) (A : Option Addr) (cap : Nat) : Array Value := #[.int .i64 o.cu, .int .i64 o.day, .int .i64 o.px, .int .i64 o.py, .slice A o.ls.length cap]

end Go.Proofs.YtokakpbpenndlaaGreatDoor

set_option linter.unusedVariables false
namespace Go.Proofs.YtokakpbpenndlaaGreatDoor
open Go.RowKit
def smallO : Ord := ⟨0, 1, 2, -1, [⟨7, 5⟩]⟩
end Go.Proofs.YtokakpbpenndlaaGreatDoor

set_option linter.unusedVariables false
namespace Go.Proofs.YtokakpbpenndlaaGreatDoor
open Go.RowKit Go.ChangeShapes Go.WideShapes Go.Deep

theorem opens_i : Opens Tryz.prog 3 (fun _ cs => ∃ n : Int, cs = [.int .i64 n] ∧ i64 n) :=
  (opens_int Tryz.underlying3).mono fun _ cs ⟨n, h, hw⟩ => ⟨n, h, by
    simp [Lit.wf, IntKind.min, IntKind.max, IntKind.signed, IntKind.bits] at hw
    exact hw⟩
theorem opens_u8 : Opens Tryz.prog 5 (fun _ cs => ∃ b : UInt8, cs = [.int .u8 (b.toNat : Int)]) :=
  (opens_int Tryz.underlying5).mono fun _ cs ⟨n, h, hw⟩ => by
    simp [Lit.wf, IntKind.min, IntKind.max, IntKind.signed, IntKind.bits] at hw
    refine ⟨UInt8.ofNat n.toNat, ?_⟩
    rw [h]
    have : (UInt8.ofNat n.toNat).toNat = n.toNat := by rw [UInt8.toNat_ofNat']; omega
    rw [this]
    have : ((n.toNat : Nat) : Int) = n := by omega
    rw [this]
theorem bV_flat (l : List UInt8) : l.flatMap (fun b => [Value.int .u8 (b.toNat : Int)]) = bV l := by
  unfold bV
  induction l with
  | nil => rfl
  | cons a l ih => rw [List.flatMap_cons, ih]; rfl
theorem opens_bytes : Opens Tryz.prog 24 (fun w cs => ∃ (A : Option Addr) (cap : Nat) (l : List UInt8), cs = [.slice A l.length cap] ∧ l.length ≤ cap ∧ cap ≤ maxLen ∧ Reads w w.heap.size 1 A l.length (bV l)) :=
  (opens_slice 1 Tryz.underlying24 (by kernel_rfl) (by decide) opens_u8).mono fun w cs h => by
    obtain ⟨A, cap, l, h1, h2, h3, _, h4⟩ := SliceOf.list (code := fun b : UInt8 => [Value.int .u8 (b.toNat : Int)]) (p := fun _ => True) h (fun x ⟨b, hb⟩ => ⟨b, hb, trivial⟩)
    exact ⟨A, cap, l, h1, h2, h3, by rw [bV_flat] at h4; exact h4⟩
theorem opens_point : Opens Tryz.prog 241 (fun _ cs => ∃ x y : Int, cs = [.int .i64 x, .int .i64 y] ∧ i64 x ∧ i64 y) :=
  (opens_fields Tryz.underlying241 (.cons 1 opens_i (by kernel_rfl) (.cons 1 opens_i (by kernel_rfl) .nil)) (by kernel_rfl)).mono fun w cs h => by
    obtain ⟨_, _, rfl, _, ⟨x, rfl, hx⟩, _, _, rfl, _, ⟨y, rfl, hy⟩, rfl⟩ := h
    exact ⟨x, y, rfl, hx, hy⟩
end Go.Proofs.YtokakpbpenndlaaGreatDoor

namespace Go.Proofs.YtokakpbpenndlaaGreatDoor
open Go.RowKit Go.ChangeShapes Go.WideShapes Go.Deep

theorem iV_flat (l : List Int) : l.flatMap (fun n => [Value.int .i64 n]) = iV l := by
  unfold iV
  induction l with
  | nil => rfl
  | cons a l ih => rw [List.flatMap_cons, ih]; rfl
theorem opens_ints : Opens Tryz.prog 50 (fun w cs => ∃ (A : Option Addr) (cap : Nat) (l : List Int), cs = [.slice A l.length cap] ∧ l.length ≤ cap ∧ cap ≤ maxLen ∧ (∀ n ∈ l, i64 n) ∧ Reads w w.heap.size 1 A l.length (iV l)) :=
  (opens_slice 1 Tryz.underlying50 (by kernel_rfl) (by decide) opens_i).mono fun w cs h => by
    obtain ⟨A, cap, l, h1, h2, h3, hp, h4⟩ := SliceOf.list (code := fun n : Int => [Value.int .i64 n]) (p := i64) h (fun x ⟨b, hb, hi⟩ => ⟨b, hb, hi⟩)
    exact ⟨A, cap, l, h1, h2, h3, hp, by rw [iV_flat] at h4; exact h4⟩
def Tx.i64 (x : Tx) : Prop := Go.Proofs.YtokakpbpenndlaaGreatDoor.i64 x.l ∧ Go.Proofs.YtokakpbpenndlaaGreatDoor.i64 x.j ∧ Go.Proofs.YtokakpbpenndlaaGreatDoor.i64 x.t ∧ Go.Proofs.YtokakpbpenndlaaGreatDoor.i64 x.x ∧ Go.Proofs.YtokakpbpenndlaaGreatDoor.i64 x.r ∧ Go.Proofs.YtokakpbpenndlaaGreatDoor.i64 x.v
theorem opens_tax : Opens Tryz.prog 117 (fun _ cs => ∃ x : Tx, cs = x.cl ∧ x.i64) :=
  (opens_fields Tryz.underlying117 (.cons 1 opens_i (by kernel_rfl) (.cons 1 opens_i (by kernel_rfl) (.cons 1 opens_i (by kernel_rfl) (.cons 1 opens_i (by kernel_rfl) (.cons 1 opens_i (by kernel_rfl) (.cons 1 opens_i (by kernel_rfl) .nil)))))) (by kernel_rfl)).mono fun w cs h => by
    obtain ⟨_, _, rfl, _, ⟨a, rfl, h1⟩, _, _, rfl, _, ⟨b, rfl, h2⟩, _, _, rfl, _, ⟨c, rfl, h3⟩, _, _, rfl, _, ⟨d, rfl, h4⟩, _, _, rfl, _, ⟨e, rfl, h5⟩, _, _, rfl, _, ⟨f, rfl, h6⟩, rfl⟩ := h
    exact ⟨⟨a, b, c, d, e, f⟩, rfl, h1, h2, h3, h4, h5, h6⟩
theorem opens_taxs : Opens Tryz.prog 47 (fun w cs => ∃ (A : Option Addr) (cap : Nat) (l : List Tx), cs = [.slice A l.length cap] ∧ l.length ≤ cap ∧ cap ≤ maxLen ∧ (∀ x ∈ l, x.i64) ∧ Reads w w.heap.size 6 A l.length (txCells l)) :=
  (opens_slice 6 Tryz.underlying47 (by kernel_rfl) (by decide) opens_tax).mono fun w cs h =>
    SliceOf.list (code := Tx.cl) (p := Tx.i64) h (fun x ⟨l, hl, hp⟩ => ⟨l, hl, hp⟩)
end Go.Proofs.YtokakpbpenndlaaGreatDoor

set_option linter.unusedVariables false
namespace Go.Proofs.YtokakpbpenndlaaGreatDoor
open Go.RowKit

theorem row_tx : RowT Tryz.prog 47 117 6 48 (.agg #[.int .i64 0, .int .i64 0, .int .i64 0, .int .i64 0, .int .i64 0, .int .i64 0]) := rowT_mk Tryz.underlying47 (by kernel_rfl) rfl (by decide)
theorem bwithin_any (n lo hi : Int) (w : World) :
    Calls Tryz.prog 140 #[.int .i64 n, .int .i64 lo, .int .i64 hi] w fun e w' => e = .returned (.bool (win n lo hi)) ∧ w = w' := by
  unfold win
  by_cases h1 : lo ≤ n <;> by_cases h2 : n ≤ hi
  all_goals
    go_enter Tryz.func140, Tryz.ntmps140
    go_wp2
    go_ret
    exact ⟨ret_bool (by simp [h1, h2]), rfl⟩
theorem many_any (n : Nat) (A : Option Addr) (cap : Nat) (w : World) (hn : n ≤ 9223372036854775807) :
    Calls Tryz.prog 232 #[.slice A n cap] w fun e w' => e = .returned (.bool (win (n : Int) 1 100)) ∧ w = w' := by
  go_enter Tryz.func232, Tryz.ntmps232
  go_wp2_with (go_at_call 140; refine (bwithin_any _ _ _ _).mono ?_; rintro e w' ⟨rfl, rfl⟩)
  go_ret
  exact ⟨rfl, rfl⟩

/-- Cloned: in memory of its own. -/
theorem cloneInts_any (l : List Int) (n : Nat) (A : Option Addr) (cap : Nat) (w : World) (hn : l.length = n) (hr : Reads w w.heap.size 1 A n (iV l)) (hm : n ≤ 1000000) :
    Calls Tryz.prog 59 #[.slice A n cap] w fun e w' => ∃ A' c', e = .returned (.slice A' n c') ∧ w'.ownsRow w.heap.size 3 1 (.slice A' n c') n (iV l) ∧ Ext w w' := by
  have hk := fun W : World => Lib.run_eql_slice_nil (P := Tryz.prog) W 50 3 A n cap 0 0 Tryz.underlying50
  rcases A with _ | a
  · have h0 : n = 0 := by
      rcases Nat.eq_zero_or_pos n with h0 | h0
      · exact h0
      · obtain ⟨b, off, e, _⟩ := hr.2 h0; cases e
    subst h0
    have hl : l = [] := List.eq_nil_of_length_eq_zero hn
    subst hl
    simp only [Option.isNone_none] at hk
    clear hr hn
    go_enter Tryz.func59, Tryz.ntmps59
    go_wp2
    go_ret
    exact ⟨none, 0, rfl, World.ownsRow_nil _ _ _ _, Ext.refl _⟩
  · simp only [Option.isNone_some] at hk
    have RR := Lib.hid (fun o1 : Obj => hr.ext ((Ext.refl w).alloc o1))
    clear hr
    replace hn := Lib.hid hn
    go_enter Tryz.func59, Tryz.ntmps59
    go_wp2_with (at_builtin; refine wpl_app row_int w _ (.tmp 5) (.tmp 6) rfl rfl rfl (own_lit (Ext.refl w) #[] _ 0 1 rfl (by simp [maxLen]) rfl) ((Ext.refl w).alloc _) rfl (RR.out _) (iV_one _) (by omega) (by unfold maxLen; omega) ?_; intro v1 w1 hg; obtain ⟨A1, c1, rfl, _, _, _⟩ := own_slice hg.own)
    go_ret
    refine ⟨A1, c1, by simp, ?_, hg.ext⟩
    have := hg.own
    simpa using this
theorem cloneTax_any (l : List Tx) (n : Nat) (A : Option Addr) (cap : Nat) (w : World) (hn : l.length = n) (hr : Reads w w.heap.size 6 A n (txCells l)) (hm : n ≤ 1000000) :
    Calls Tryz.prog 60 #[.slice A n cap] w fun e w' => ∃ A' c', e = .returned (.slice A' n c') ∧ w'.ownsRow w.heap.size 117 6 (.slice A' n c') n (txCells l) ∧ Ext w w' := by
  have hk := fun W : World => Lib.run_eql_slice_nil (P := Tryz.prog) W 47 117 A n cap 0 0 Tryz.underlying47
  rcases A with _ | a
  · have h0 : n = 0 := by
      rcases Nat.eq_zero_or_pos n with h0 | h0
      · exact h0
      · obtain ⟨b, off, e, _⟩ := hr.2 h0; cases e
    subst h0
    have hl : l = [] := List.eq_nil_of_length_eq_zero hn
    subst hl
    simp only [Option.isNone_none] at hk
    clear hr hn
    go_enter Tryz.func60, Tryz.ntmps60
    go_wp2
    go_ret
    exact ⟨none, 0, rfl, World.ownsRow_nil _ _ _ _, Ext.refl _⟩
  · simp only [Option.isNone_some] at hk
    have RR := Lib.hid (fun o1 : Obj => hr.ext ((Ext.refl w).alloc o1))
    clear hr
    replace hn := Lib.hid hn
    go_enter Tryz.func60, Tryz.ntmps60
    go_wp2_with (at_builtin; refine wpl_app row_tx w _ (.tmp 5) (.tmp 6) rfl rfl rfl (own_lit (Ext.refl w) #[] _ 0 6 rfl (by simp [maxLen]) rfl) ((Ext.refl w).alloc _) rfl (RR.out _) (txCells_one _) (by omega) (by unfold maxLen; omega) ?_; intro v1 w1 hg; obtain ⟨A1, c1, rfl, _, _, _⟩ := own_slice hg.own)
    go_ret
    refine ⟨A1, c1, by simp, ?_, hg.ext⟩
    have := hg.own
    simpa using this

theorem neq_tx (x y : Tx) (r : Bool) (h : r = decide (x ≠ y)) (w : World) : (binOp .neq 117 (.agg #[.int .i64 x.l, .int .i64 x.j, .int .i64 x.t, .int .i64 x.x, .int .i64 x.r, .int .i64 x.v]) (.agg #[.int .i64 y.l, .int .i64 y.j, .int .i64 y.t, .int .i64 y.x, .int .i64 y.r, .int .i64 y.v])).run Tryz.prog w = .ok (.bool r) w := by
  subst h
  obtain ⟨a, b, c, d, e, f⟩ := x
  obtain ⟨a', b', c', d', e', f'⟩ := y
  by_cases h1 : a = a'
  · by_cases h2 : b = b'
    · by_cases h3 : c = c'
      · by_cases h4 : d = d'
        · by_cases h5 : e = e'
          · by_cases h6 : f = f' <;> simp [go_sem, h1, h2, h3, h4, h5, h6]
          · simp [go_sem, h1, h2, h3, h4, h5]
        · simp [go_sem, h1, h2, h3, h4]
      · simp [go_sem, h1, h2, h3]
    · simp [go_sem, h1, h2]
  · simp [go_sem, h1]

theorem iV_get (l : List Int) (k : Nat) (h : k < l.length) : (iV l)[k]? = some (.int .i64 l[k]) := by simp [iV, h]
theorem reads_int {w : World} {B n : Nat} {A : Option Addr} {l : List Int} (h : Reads w B 1 A n (iV l)) {k : Nat} (hk : k < l.length) (hn : n = l.length) : ∃ b off, A = some ⟨b, off, none⟩ ∧ b < B ∧ w.cell? ⟨b, off + k, none⟩ = some (.int .i64 l[k]) := by
  subst hn
  obtain ⟨b, off, u, h1, h2, h3, h4⟩ := h.at_ hk
  refine ⟨b, off, h1, h2, ?_⟩
  rw [h4, ← h3]
  simp [iV, hk]

end Go.Proofs.YtokakpbpenndlaaGreatDoor
