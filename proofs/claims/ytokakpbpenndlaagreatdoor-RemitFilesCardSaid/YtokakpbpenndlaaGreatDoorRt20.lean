/-
  Plain: what came back of a sale, entry by entry; when all came back its moves come to nothing.
-/
import Derived.Test.YtokakpbpenndlaaGreatDoorRt11
import Derived.Test.YtokakpbpenndlaaGreatDoorRt19
import Derived.Test.YtokakpbpenndlaaGreatDoorRt13
import Derived.Test.YtokakpbpenndlaaGreatDoorRt10
import Derived.Test.YtokakpbpenndlaaGreatDoorRt09
import Derived.Test.YtokakpbpenndlaaGreatDoorRt02
import Derived.Test.YtokakpbpenndlaaGreatDoorRt05
import Derived.Test.YtokakpbpenndlaaGreatDoorProg
set_option linter.unusedVariables false
namespace Go.Proofs.YtokakpbpenndlaaGreatDoor

/-- A part of a tax line, and its share of what came back. -/
structure Gd (c : Tx → Int) (g : Tx → Int → Int) : Prop where
  zero : ∀ x, x.ok = true → g x 0 = 0
  step : ∀ x a p, x.ok = true → 0 ≤ a → a ≤ p → p ≤ x.t + x.x → c (x.ret a p).1 = g x p - g x a
/-- What lines have in a jurisdiction. -/
def jsum (c : Tx → Int) (j : Int) : List Tx → Int
  | [] => 0
  | y :: r => (if y.j = j then c y else 0) + jsum c j r
/-- What came back of them. -/
def shS (g : Tx → Int → Int) (j : Int) (back : List Int) : List Tx → Int
  | [] => 0
  | y :: r => (if y.j = j then g y (back.getD y.l.toNat 0) else 0) + shS g j back r
/-- What refunds of a sale have. -/
def rfS (c : Tx → Int) (j id : Int) : Bk → Int
  | [] => 0
  | r :: B => (if r.e.k = 2 ∧ r.e.of_ = id then jsum c j r.lines else 0) + rfS c j id B
theorem addL_getD : ∀ (a b : List Int) (i : Nat), i < a.length → i < b.length → (addL a b).getD i 0 = a.getD i 0 + b.getD i 0
  | x :: r, y :: s, 0, _, _ => by simp [addL]
  | x :: r, y :: s, i + 1, h1, h2 => by
    have := addL_getD r s i (by simpa using h1) (by simpa using h2)
    simpa [addL] using this
/-- What holds of a book beside its entries. -/
structure Bk.inv (B : Bk) : Prop where
  ref : ∀ r ∈ B, r.e.k = 2 → r.e.of_ ∈ B.ids
  void : ∀ r ∈ B, r.e.k = 3 → r.lines = []
  sum : ∀ c g, Gd c g → ∀ s ∈ B, s.e.k = 1 → ∀ j, rfS c j s.e.id B = shS g j s.back s.lines
theorem mem_ids {B : Bk} {x : Kp} (h : x ∈ B) : x.e.id ∈ B.ids := List.mem_map.2 ⟨x, h, rfl⟩
theorem nodup_at {B : Bk} (h : B.ids.Nodup) {x y : Kp} (hx : x ∈ B) (hy : y ∈ B) (e : x.e.id = y.e.id) : x = y := nodup_inj (f := fun x : Kp => x.e.id) h hx hy e
theorem sale_lines {s : Kp} (h : s.ok) (hk : s.e.k = 1) : (∀ y ∈ s.lines, y.ok = true ∧ y.l.toNat < s.e.am.length ∧ y.t + y.x = s.e.am.getD y.l.toNat 0) ∧ s.e.of_ = 0 := by
  rw [h.lns hk]
  have hf := (Ent.check_ok h.chk).2.2
  unfold Ent.fine at hf
  rw [if_pos hk] at hf
  unfold Ent.saleFine at hf
  simp only [Bool.and_eq_true, decide_eq_true_eq] at hf
  obtain ⟨⟨⟨h1, h2⟩, _⟩, h4⟩ := hf
  refine ⟨fun y hy => ⟨checkTax_mem h1 y hy, ?_⟩, h2⟩
  have := List.all_eq_true.1 h4 y hy
  unfold Tx.fits at this
  simp only [Bool.and_eq_true, decide_eq_true_eq] at this
  exact this
end Go.Proofs.YtokakpbpenndlaaGreatDoor

set_option linter.unusedVariables false
namespace Go.Proofs.YtokakpbpenndlaaGreatDoor
end Go.Proofs.YtokakpbpenndlaaGreatDoor

set_option linter.unusedVariables false
namespace Go.Proofs.YtokakpbpenndlaaGreatDoor
open Go.RowKit Go.Maps
theorem add_len_le (B : Bk) (e : Ent) : (B.add e).1.length ≤ B.length + 1 := by
  by_cases hm : B.may e = 0
  · obtain ⟨_, _, h⟩ := add_yes hm; omega
  · rw [add_no hm]; omega
theorem evCells_six' {w W : World} {A : Option Addr} {l : List EV} {k : Nat} (hr : Reads w w.heap.size 6 A l.length (evCells l)) (hk : k < l.length) : ∃ g off, A = some ⟨g, off, none⟩ ∧ g < w.heap.size ∧ ∀ W, Ext w W → W.cell? ⟨g, off + k * 6, none⟩ = some (.int .i64 l[k].e.k) ∧ W.cell? ⟨g, off + k * 6 + 1, none⟩ = some (.int .i64 l[k].e.id) ∧ W.cell? ⟨g, off + k * 6 + 2, none⟩ = some (.int .i64 l[k].e.of_) ∧
    W.cell? ⟨g, off + k * 6 + 3, none⟩ = some (.int .i64 l[k].e.day) ∧ W.cell? ⟨g, off + k * 6 + 4, none⟩ = some (.slice l[k].A l[k].e.am.length l[k].c) ∧ W.cell? ⟨g, off + k * 6 + 5, none⟩ = some (.slice l[k].A' l[k].e.tax.length l[k].c') := by
  obtain ⟨g, off, rfl, hg, hc⟩ := hr.cellAt hk
  obtain ⟨e1, e2, e3, e4, e5, e6⟩ := evCells_at l k hk
  refine ⟨g, off, rfl, hg, fun W hx => ?_⟩
  have hr' := hr.extB (Nat.le_refl _) hx
  obtain ⟨g', off', e, _, hc'⟩ := hr'.cellAt hk
  injection e with e
  injection e with ea eb _
  subst ea eb
  exact ⟨hc' _ _ e1, hc' _ _ e2, hc' _ _ e3, hc' _ _ e4, hc' _ _ e5, hc' _ _ e6⟩
end Go.Proofs.YtokakpbpenndlaaGreatDoor

set_option linter.unusedVariables false
namespace Go.Proofs.YtokakpbpenndlaaGreatDoor

def b3T (l : Tx) : Prop := i64 l.t ∧ i64 l.x ∧ i64 l.v
def Bk.b3 (B : Bk) : Prop := ∀ x ∈ B, ∀ l ∈ x.lines, b3T l
theorem b3T_ok {x : Tx} (h : x.ok = true) : b3T x := by
  obtain ⟨_, _, h3, h4, _, h6⟩ := Tx.ok_bd h
  unfold b3T i64
  omega
theorem b3T_zero : b3T Tx.zero := by unfold b3T i64 Tx.zero; simp
theorem b3T_ret (x : Tx) (b a : Int) : b3T (x.ret b a).1 := by
  unfold Tx.ret
  by_cases hok : x.ok = false
  · rw [if_pos hok]; exact b3T_zero
  rw [if_neg hok]
  by_cases he : (backI x.t (x.t + x.x) b a).2 = 0
  · rw [if_neg (by simpa using he)]
    obtain ⟨_, _, _, _, h3, h4, _, h6⟩ : x.ok = true ∧ True ∧ True ∧ True ∧ (0 ≤ x.t ∧ x.t ≤ 4611686018427387904) ∧ (0 ≤ x.x ∧ x.x ≤ 4611686018427387904 - x.t) ∧ True ∧ (0 ≤ x.v ∧ x.v ≤ 4611686018427387904) := by
      have ht : x.ok = true := by simpa using hok
      obtain ⟨_, _, h3, h4, _, h6⟩ := Tx.ok_bd ht
      exact ⟨ht, trivial, trivial, trivial, h3, h4, trivial, h6⟩
    obtain ⟨_, n1, b1, b2, b3, b4, b5⟩ := backI_ok he
    have he' := backI_err (t' := x.v) h6 he
    obtain ⟨_, _, _, _, _, c4, c5⟩ := backI_ok he'
    unfold b3T i64
    simp only
    omega
  · rw [if_pos (by simpa using he)]; exact b3T_zero
theorem Bk.b3_nil : Bk.b3 [] := fun x hx => absurd hx (by simp)
theorem Bk.b3_snoc {B : Bk} (h : B.b3) {x : Kp} (hx : ∀ l ∈ x.lines, b3T l) : Bk.b3 (B ++ [x]) := by
  intro y hy
  rcases List.mem_append.1 hy with hy | hy
  · exact h y hy
  · rw [List.mem_singleton.1 hy]; exact hx
theorem Bk.b3_upd {B : Bk} (h : B.b3) (i : Int) (f : Kp → Kp) (hf : ∀ x, (f x).lines = x.lines) : (B.upd i f).b3 := by
  intro y hy
  unfold Bk.upd at hy
  obtain ⟨x, hx, rfl⟩ := List.mem_map.1 hy
  by_cases hc : x.e.id = i
  · rw [if_pos hc, hf]; exact h x hx
  · rw [if_neg hc]; exact h x hx
theorem refLines_b3 (s : Kp) (am : List Int) : ∀ l ∈ s.refLines am, b3T l := by
  intro l hl
  unfold Kp.refLines at hl
  obtain ⟨x, _, hx⟩ := List.mem_flatMap.1 hl
  unfold Kp.refLine at hx
  by_cases hc : am.getD x.l.toNat 0 = 0
  · rw [if_pos hc] at hx; cases hx
  · rw [if_neg hc] at hx
    rw [List.mem_singleton.1 hx]
    exact b3T_ret _ _ _
theorem put_b3 {B : Bk} (h : B.b3) {e : Ent} (hc : e.check = 0) : (B.put e).1.b3 := by
  unfold Bk.put
  by_cases hk : e.k = 1
  · rw [if_pos hk]
    refine Bk.b3_snoc h fun l hl => ?_
    have hf := (Ent.check_ok hc).2.2
    unfold Ent.fine at hf
    rw [if_pos hk] at hf
    unfold Ent.saleFine at hf
    simp only [Bool.and_eq_true, decide_eq_true_eq] at hf
    exact b3T_ok (checkTax_mem hf.1.1.1 l hl)
  rw [if_neg hk]
  by_cases hk2 : e.k = 2
  · rw [if_pos hk2]
    cases B.sale e.of_ with
    | none => exact Bk.b3_snoc h fun l hl => absurd hl (by simp)
    | some s => exact Bk.b3_snoc (Bk.b3_upd h e.of_ (fun x => { x with back := addL x.back e.am }) fun _ => rfl) (refLines_b3 s e.am)
  rw [if_neg hk2]
  by_cases hk3 : e.k = 3
  · rw [if_pos hk3]
    exact Bk.b3_snoc (Bk.b3_upd h e.of_ (fun x => { x with voided := true }) fun _ => rfl) fun l hl => absurd hl (by simp)
  rw [if_neg hk3]
  exact Bk.b3_snoc h fun l hl => absurd hl (by simp)
theorem add_b3 {B : Bk} (h : B.b3) (e : Ent) : (B.add e).1.b3 := by
  by_cases hm : B.may e = 0
  · have : (B.add e).1 = (B.put e).1 := by unfold Bk.add; rw [if_pos hm]
    rw [this]; exact put_b3 h (may_check hm)
  · rw [add_no hm]; exact h
/-- What is moved of any jurisdiction. -/
theorem moves_bd {B : Bk} (h : B.b3) (hok : ∀ x ∈ B, x.ok) {j : Int} : ∀ m ∈ B.moves j, (i64 m.t ∧ i64 m.x ∧ i64 m.v) ∧ 0 ≤ m.day ∧ m.day ≤ 3652058 := by
  intro m hm
  unfold Bk.moves at hm
  obtain ⟨x, hx, hm⟩ := List.mem_flatMap.1 hm
  unfold Kp.moves at hm
  by_cases hv : x.voided = true
  · rw [if_pos hv] at hm; cases hm
  rw [if_neg hv] at hm
  obtain ⟨l, hl, rfl⟩ := List.mem_map.1 hm
  have hd := (Ent.check_ok (hok x hx).chk).1
  unfold Ent.head at hd
  simp only [Bool.and_eq_true] at hd
  exact ⟨h x hx l (List.mem_filter.1 hl).1, win_bd hd.2⟩
theorem flat_le {α β : Type} {f : α → List β} {c : Nat} : ∀ {l : List α}, (∀ a ∈ l, (f a).length ≤ c) → (l.flatMap f).length ≤ c * l.length
  | [], _ => by simp
  | a :: l, h => by
    have h1 := h a (by simp)
    have h2 := flat_le (f := f) (c := c) (l := l) fun x hx => h x (by simp [hx])
    rw [List.flatMap_cons, List.length_append, List.length_cons, Nat.mul_add]
    omega
theorem moves_le {B : Bk} (hs : B.small) (j : Int) : (B.moves j).length ≤ 6400 * B.length := by
  unfold Bk.moves
  exact flat_le fun x hx => Nat.le_trans (moves_len x j) (hs x hx)
end Go.Proofs.YtokakpbpenndlaaGreatDoor

set_option linter.unusedVariables false
namespace Go.Proofs.YtokakpbpenndlaaGreatDoor
open Go.RowKit Go.Maps

def sub64Entry : Array Value → Sem Value := fun args => do
  let (x, y, b) ← Extern.MathBitsCarry.three "Sub64" args
  pure (Extern.MathBitsCarry.pair ((x + Extern.MathBitsCarry.m64 - y - b) % Extern.MathBitsCarry.m64) (if x < y + b then 1 else 0))
theorem run_sub64 {P : Program} (x y c : Int) (hx : 0 ≤ x) (hy : 0 ≤ y) (hx1 : x < 18446744073709551616) (hy1 : y < 18446744073709551616) (hc0 : 0 ≤ c) (hc : c ≤ 1) (w : World) :
    (sub64Entry #[.int .u64 x, .int .u64 y, .int .u64 c]).run P w =
      .ok (.tuple #[.int .u64 ((x - y - c) % 18446744073709551616), .int .u64 (if x < y + c then 1 else 0)]) w := by
  have key : ∀ k : Nat, k ≤ 1 → (sub64Entry #[.int .u64 x, .int .u64 y, .int .u64 (k : Int)]).run P w =
      .ok (Extern.MathBitsCarry.pair ((x.toNat + Extern.MathBitsCarry.m64 - y.toNat - k) % Extern.MathBitsCarry.m64) (if x.toNat < y.toNat + k then 1 else 0)) w := by
    intro k hk
    have : k = 0 ∨ k = 1 := by omega
    rcases this with rfl | rfl <;> rfl
  obtain ⟨k, rfl⟩ := Int.eq_ofNat_of_zero_le hc0
  rw [key k (by omega)]
  obtain ⟨X, rfl⟩ := Int.eq_ofNat_of_zero_le hx
  obtain ⟨Y, rfl⟩ := Int.eq_ofNat_of_zero_le hy
  simp only [Extern.MathBitsCarry.pair, Extern.MathBitsCarry.m64, Int.toNat_natCast]
  have e1 : (((X + 2 ^ 64 - Y - k) % 2 ^ 64 : Nat) : Int) = ((X : Int) - Y - k) % 18446744073709551616 := by omega
  have e2 : (((if X < Y + k then 1 else 0 : Nat)) : Int) = (if (X : Int) < Y + k then 1 else 0) := by split <;> split <;> omega
  rw [Int.ofNat_eq_natCast, Int.ofNat_eq_natCast, e1, e2]
theorem sub64_any (x y c : Int) (hx : 0 ≤ x) (hy : 0 ≤ y) (hx1 : x < 18446744073709551616) (hy1 : y < 18446744073709551616) (hc0 : 0 ≤ c) (hc : c ≤ 1) (w : World) : (callFunc 115 #[.int .u64 x, .int .u64 y, .int .u64 c]).run Tryz.prog w =
    .ok (.value (.tuple #[.int .u64 ((x - y - c) % 18446744073709551616), .int .u64 (if x < y + c then 1 else 0)])) w := by
  rw [run_callFunc_extern Tryz.func115 (by kernel_rfl) (by kernel_rfl) (by kernel_rfl) (e := sub64Entry) (by kernel_rfl), run_sub64 x y c hx hy hx1 hy1 hc0 hc]
  rfl
theorem sub64_0 (x y : Int) (hx : 0 ≤ x) (hy : 0 ≤ y) (hx1 : x < 18446744073709551616) (hy1 : y < 18446744073709551616) (w : World) : (callFunc 115 #[.int .u64 x, .int .u64 y, .int .u64 0]).run Tryz.prog w =
    .ok (.value (.tuple #[.int .u64 ((x - y) % 18446744073709551616), .int .u64 (if x < y then 1 else 0)])) w := by
  simpa using sub64_any x y 0 hx hy hx1 hy1 (Int.le_refl 0) (by decide) w
def offI (off : Bool) (s n : Int) : Int := if off then s - n else s + n
set_option maxRecDepth 100000 in
set_option maxHeartbeats 1000000 in
theorem sadd_any (S n : Int) (off : Bool) (g o : Nat) (t : TypeId) (cs : Array Value) (w : World) (hB : Blk w g t cs) (h0 : cs[o]? = some (.int .u64 (hiI S))) (h1 : cs[o + 1]? = some (.int .u64 (loI S))) (hn : i64 n) :
    Calls Tryz.prog 71 #[.pointer (some ⟨g, o, none⟩), .int .i64 n, .bool off] w fun e w' => e = .returned (.tuple #[]) ∧ w' = (w.setCell ⟨g, o + 1, none⟩ (.int .u64 (loI (offI off S n)))).setCell ⟨g, o, none⟩ (.int .u64 (hiI (offI off S n))) := by
  have k0 := (hB.cell o).trans h0
  have k1 := (hB.cell (o + 1)).trans h1
  have f0 := hB.frozen o
  have f1 := hB.frozen (o + 1)
  have hl := loI_bd S
  have hh := hiI_bd S
  have p3 : 0 ≤ IntKind.u64.wrap n ∧ IntKind.u64.wrap n < 18446744073709551616 := by rw [IntKind.wrap_u64]; omega
  have p4 : 0 ≤ IntKind.u64.wrap (n / 9223372036854775808) ∧ IntKind.u64.wrap (n / 9223372036854775808) < 18446744073709551616 := by rw [IntKind.wrap_u64]; omega
  clear hB h0 h1
  cases off
  · have e1 := Lib.hid (show loI (S + n) = (loI S + IntKind.u64.wrap n) % 18446744073709551616 by rw [IntKind.wrap_u64]; exact lo_add S n)
    have e2 := Lib.hid (show hiI (S + n) = (hiI S + IntKind.u64.wrap (n / 9223372036854775808) + (loI S + IntKind.u64.wrap n) / 18446744073709551616) % 18446744073709551616 by rw [IntKind.wrap_u64, IntKind.wrap_u64]; exact hi_add hn)
    have HO := Lib.hid (show offI false S n = S + n from rfl)
    generalize loI S = l at *
    generalize hiI S = h at *
    have p5 : 0 ≤ (l + IntKind.u64.wrap n) / 18446744073709551616 ∧ (l + IntKind.u64.wrap n) / 18446744073709551616 ≤ 1 := by omega
    go_enter Tryz.func71, Tryz.ntmps71
    go_wp2_with (first | simp only [add64_0 _ _ hl.1 p3.1] | simp only [add64_any _ _ _ hh.1 p4.1 p5.1 p5.2])
    go_end0
    rw [HO.out, e1.out, e2.out]
    exact ⟨rfl, rfl⟩
  · have e1 := Lib.hid (show loI (S - n) = (loI S - IntKind.u64.wrap n) % 18446744073709551616 by rw [IntKind.wrap_u64]; exact lo_sub S n)
    have e2 := Lib.hid (show hiI (S - n) = (hiI S - IntKind.u64.wrap (n / 9223372036854775808) - (if loI S < IntKind.u64.wrap n then 1 else 0)) % 18446744073709551616 by rw [IntKind.wrap_u64, IntKind.wrap_u64]; exact hi_sub hn)
    have HO := Lib.hid (show offI true S n = S - n from rfl)
    generalize loI S = l at *
    generalize hiI S = h at *
    obtain ⟨b, hb⟩ : ∃ b : Int, (if l < IntKind.u64.wrap n then 1 else 0) = b := ⟨_, rfl⟩
    have p5 : 0 ≤ b ∧ b ≤ 1 := by rw [← hb]; split <;> omega
    have hs := fun w => sub64_0 l (IntKind.u64.wrap n) hl.1 p3.1 hl.2 p3.2 w
    rw [hb] at hs
    rw [hb] at e2
    clear hb
    go_enter Tryz.func71, Tryz.ntmps71
    go_wp2_with (first | simp only [hs] | simp only [sub64_any _ _ _ hh.1 p4.1 hh.2 p4.2 p5.1 p5.2])
    all_goals
      refine bodyPost_ret (results_none rfl _ _ _) rfl ?_
      rw [HO.out, e1.out, e2.out]
      exact ⟨rfl, rfl⟩
set_option maxRecDepth 100000 in
set_option maxHeartbeats 1000000 in
theorem sint_any (S : Int) (w : World) (hb : -170141183460469231731687303715884105728 ≤ S ∧ S < 170141183460469231731687303715884105728) :
    Calls Tryz.prog 72 #[.agg #[.int .u64 (hiI S), .int .u64 (loI S)]] w fun e w' => ∃ n : Int, e = .returned (.tuple #[.int .i64 n, .bool (decide (i64 S))]) ∧ (i64 S → n = S) ∧ Ext w w' := by
  have hl := loI_bd S
  have hh := hiI_bd S
  have e1 := Lib.hid (show RowKit.wrap64 (loI S) = asI S by unfold RowKit.wrap64 asI; split <;> omega)
  have e2 : decide (i64 S) = (hiI S == IntKind.u64.wrap (asI S / 9223372036854775808)) := by
    rw [IntKind.wrap_u64, Bool.eq_iff_iff, decide_eq_true_iff, beq_iff_eq]
    exact (fits_iff hb).symm
  have e3 := Lib.hid (fun h : i64 S => asI_of h)
  have hi := asI_i64 S
  unfold i64 at hi
  rw [e2]
  clear e2
  generalize asI S = a at *
  generalize loI S = l at *
  generalize hiI S = h at *
  have hB := Blk.new w 134 #[.int .u64 h, .int .u64 l]
  obtain ⟨q, q'⟩ := hB.cells
  go_enter Tryz.func72, Tryz.ntmps72
  go_wp2_with fail
  rw [e1.out]
  go_quiet (fail)
  go_wp2_with fail
  go_ret2
  exact ⟨a, rfl, e3.out, ((Ext.refl w).alloc _).drewN _⟩
end Go.Proofs.YtokakpbpenndlaaGreatDoor

set_option linter.unusedVariables false
namespace Go.Proofs.YtokakpbpenndlaaGreatDoor
open Go.RowKit Go.Maps

/-- A jurisdiction in memory: the numbers, and where its rings lie. -/
structure JV where
  j : Jur
  A : Option Addr
  n : Nat
  c : Nat
def JV.cl (x : JV) : List Value := [.int .i64 x.j.id, .int .i64 x.j.k, .int .i64 x.j.par, .int .i64 x.j.f, .slice x.A x.n x.c]
theorem JV.cl_len (x : JV) : x.cl.length = 5 := rfl
def JV.zero : JV := ⟨Jur.zero, none, 0, 0⟩
abbrev JV.v (x : JV) : Value := .agg #[.int .i64 x.j.id, .int .i64 x.j.k, .int .i64 x.j.par, .int .i64 x.j.f, .slice x.A x.n x.c]
def jvCells (l : List JV) : List Value := l.flatMap JV.cl
def jsOf (l : List JV) : List Jur := l.map JV.j
theorem jsOf_len (l : List JV) : (jsOf l).length = l.length := by simp [jsOf]
theorem jsOf_at (l : List JV) (k : Nat) (h : k < l.length) : (jsOf l).getD k Jur.zero = l[k].j := by simp [jsOf, List.getD, h]
theorem jvCells_at (l : List JV) (k : Nat) (h : k < l.length) : (jvCells l)[k * 5]? = some (.int .i64 l[k].j.id) ∧ (jvCells l)[k * 5 + 1]? = some (.int .i64 l[k].j.k) ∧ (jvCells l)[k * 5 + 2]? = some (.int .i64 l[k].j.par) ∧
    (jvCells l)[k * 5 + 3]? = some (.int .i64 l[k].j.f) ∧ (jvCells l)[k * 5 + 4]? = some (.slice l[k].A l[k].n l[k].c) :=
  ⟨flat_get JV.cl_len l k 0 h (by decide), flat_get JV.cl_len l k 1 h (by decide), flat_get JV.cl_len l k 2 h (by decide), flat_get JV.cl_len l k 3 h (by decide), flat_get JV.cl_len l k 4 h (by decide)⟩
/-- The cells of the k-th jurisdiction. -/
theorem jv_at {w : World} {A : Option Addr} {l : List JV} (hr : Reads w w.heap.size 5 A l.length (jvCells l)) {k : Nat} (hk : k < l.length) : ∃ g off, A = some ⟨g, off, none⟩ ∧ g < w.heap.size ∧ ∀ W, Ext w W →
    W.cell? ⟨g, off + k * 5, none⟩ = some (.int .i64 l[k].j.id) ∧ W.cell? ⟨g, off + k * 5 + 1, none⟩ = some (.int .i64 l[k].j.k) ∧ W.cell? ⟨g, off + k * 5 + 2, none⟩ = some (.int .i64 l[k].j.par) ∧
    W.cell? ⟨g, off + k * 5 + 3, none⟩ = some (.int .i64 l[k].j.f) ∧ W.cell? ⟨g, off + k * 5 + 4, none⟩ = some (.slice l[k].A l[k].n l[k].c) := by
  obtain ⟨g, off, rfl, hg, hc⟩ := hr.cellAt hk
  obtain ⟨e1, e2, e3, e4, e5⟩ := jvCells_at l k hk
  refine ⟨g, off, rfl, hg, fun W hx => ?_⟩
  rw [hx.cell _ _ _ hg, hx.cell _ _ _ hg, hx.cell _ _ _ hg, hx.cell _ _ _ hg, hx.cell _ _ _ hg]
  exact ⟨hc _ _ e1, hc _ _ e2, hc _ _ e3, hc _ _ e4, hc _ _ e5⟩

set_option maxRecDepth 100000 in
theorem jis_any (x : JV) (id : Int) (g : Nat) (w : World) (h : w.cell? ⟨g, 0, none⟩ = some (.int .i64 id)) (hg : g < w.heap.size) : Calls Tryz.prog 151 #[x.v, .pointer (some ⟨g, 0, none⟩)] w fun e w' => e = .returned (.bool (decide (x.j.id = id))) ∧ Ext w w' := by
  have h2 := (((Ext.refl w).alloc (.cells #[.int .i64 x.j.id, .int .i64 x.j.k, .int .i64 x.j.par, .int .i64 x.j.f, .slice x.A x.n x.c] 83)).cell g 0 none hg).trans h
  clear h
  go_enter Tryz.func151, Tryz.ntmps151
  go_wp2
  go_ret
  exact ⟨ret_bool (by by_cases e : x.j.id = id <;> simp [e]), (Ext.refl w).alloc _⟩
def JpRel (w : World) (l : List JV) (id : Int) (i : Value) (wr : World) : Prop := ∃ k : Nat, k ≤ l.length ∧ i = .int .i64 (k : Int) ∧ (∀ i, i < k → ((jsOf l).getD i Jur.zero).id ≠ id) ∧ Ext w wr
set_option maxRecDepth 100000 in
set_option maxHeartbeats 1000000 in
theorem jindex_any (l : List JV) (id : Int) (g0 : Nat) (A : Option Addr) (cap : Nat) (w : World) (hr : Reads w w.heap.size 5 A l.length (jvCells l)) (hm : l.length ≤ maxLen) (h0 : w.cell? ⟨g0, 0, none⟩ = some (.int .i64 id)) (hg0 : g0 < w.heap.size) :
    Calls Tryz.prog 150 #[.slice A l.length cap, .func (.func 151) #[] #[.pointer (some ⟨g0, 0, none⟩)]] w fun e w' => e = .returned (.int .i64 (placeJ (jsOf l) id)) ∧ Ext w w' := by
  unfold maxLen at hm
  have H0 := Lib.hid h0
  clear h0
  go_enter Tryz.func150, Tryz.ntmps150
  go_wp2_with fail
  go_loopw [8] (fun i wr => JpRel w l id i wr) (fun i _ => l.length - (intOf i).toNat)
  case atStart => exact ⟨0, by omega, rfl, fun i hi => absurd hi (by omega), Ext.refl _⟩
  case round =>
    obtain ⟨k, hk, rfl, hP, hx⟩ := hrel
    by_cases hlt : k < l.length
    · have hd : decide ((k : Int) < (l.length : Int)) = true := by simp; omega
      obtain ⟨g, off, rfl, hg, hc⟩ := jv_at hr hlt
      obtain ⟨c1, c2, c3, c4, c5⟩ := hc wr hx
      have kl : (k : Int) < (l.length : Int) := by omega
      have kz : (0 : Int) ≤ (k : Int) := by omega
      have HI := Lib.hid (fun h => (placeJ_at (l := jsOf l) (id := id) (k := k) (by rw [jsOf_len]; exact hlt) hP h).1)
      have HK := Lib.hid (fun (h : l[k].j.id ≠ id) (W : World) (hx : Ext w W) => (show JpRel w l id (.int .i64 ((k + 1 : Nat) : Int)) W from ⟨k + 1, by omega, rfl, fun i hi => by
        by_cases e : i = k
        · subst e; rw [jsOf_at l i hlt]; exact h
        · exact hP i (by omega), hx⟩))
      have hj : ((jsOf l).getD k Jur.zero).id = l[k].j.id := by rw [jsOf_at l k hlt]
      rw [hj] at HI
      clear hc hr hP hj
      generalize l[k] = x at *
      go_wp2_with fail
      refine (jis_any x id g0 _ ((hx.cell g0 0 none hg0).trans H0.out) (Nat.lt_of_lt_of_le hg0 hx.size)).mono ?_
      rintro e w' ⟨rfl, hx2⟩
      by_cases hi : x.j.id = id
      · have HI2 := Lib.hid (HI.out hi)
        have hb : decide (x.j.id = id) = true := by simpa using hi
        clear HI HK hi
        go_wp2_with fail
        go_ret
        exact ⟨by rw [HI2.out]; rfl, hx.trans hx2⟩
      · have HK2 := Lib.hid (HK.out hi _ (hx.trans hx2))
        have hb : decide (x.j.id = id) = false := by simpa using hi
        clear HI HK hi
        go_wp2_with fail
        go_roundw
        case rel => exact HK2.out
        case measure => simp [intOf]; omega
    · have hd : decide ((k : Int) < (l.length : Int)) = false := by simp; omega
      have HA := Lib.hid (placeJ_none (l := jsOf l) (id := id) (fun i hi => hP i (by rw [jsOf_len] at hi; omega))).1
      clear hP hr
      go_wp2_with fail
      go_ret
      exact ⟨by rw [HA.out]; rfl, hx⟩
set_option maxRecDepth 100000 in
theorem jplace_any (l : List JV) (id : Int) (A : Option Addr) (cap : Nat) (w : World) (hr : Reads w w.heap.size 5 A l.length (jvCells l)) (hm : l.length ≤ maxLen) :
    Calls Tryz.prog 112 #[.slice A l.length cap, .int .i64 id] w fun e w' => e = .returned (.int .i64 (placeJ (jsOf l) id)) ∧ Ext w w' := by
  have X := (Ext.refl w).alloc (.cells #[.int .i64 id] 3)
  have HR := Lib.hid (hr.ext X)
  have HB := Lib.hid (Blk.new w 3 #[.int .i64 id])
  clear hr
  go_enter Tryz.func112, Tryz.ntmps112
  go_wp2_with fail
  refine (jindex_any l id w.heap.size A cap _ HR.out hm (HB.out.cell 0) HB.out.lt).mono ?_
  rintro e w' ⟨rfl, hx⟩
  go_wp2_with fail
  go_ret
  exact ⟨rfl, X.trans hx⟩
end Go.Proofs.YtokakpbpenndlaaGreatDoor
