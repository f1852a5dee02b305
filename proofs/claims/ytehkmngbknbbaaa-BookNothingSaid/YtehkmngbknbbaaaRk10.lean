/-
  Orders as bytes: the walks through both puts and both Bytes.
-/
import Derived.Test.YtehkmngbknbbaaaRk06
import Derived.Test.YtehkmngbknbbaaaRk02
set_option linter.unusedVariables false
namespace Go.Proofs.Ytehkmngbknbbaaa
open Go.RowKit

/-- Numbers as cells. -/
def iV (l : List Int) : List Value := l.map fun n => .int .i64 n
theorem iV_one (l : List Int) : ∀ u ∈ iV l, u.oneCell' = true := by
  intro u hu
  simp only [iV, List.mem_map] at hu
  obtain ⟨b, _, rfl⟩ := hu
  rfl
theorem iV_at (l : List Int) (k : Nat) (h : k < l.length) : (iV l)[k]? = some (.int .i64 l[k]) := by simp [iV, h]
def PutsRel (w : World) (l : List Int) (o i : Value) (wr : World) : Prop :=
  ∃ k : Nat, k ≤ l.length ∧ i = .int .i64 (k : Int) ∧ wr.ownsRow w.heap.size 5 1 o (putsL (l.take k)).length (bV (putsL (l.take k))) ∧ Ext w wr ∧ AllP wr o u8P
theorem PutsRel.next {w w1 : World} {l : List Int} {k : Nat} {v1 : Value} {n m : Nat} {xs : List Value} (hk : k < l.length) (hg : w1.ownsRow w.heap.size 5 1 v1 n xs) (hn : n = (putsL (l.take k)).length + (putL l[k]).length) (hxs : xs = bV (putsL (l.take k)) ++ bV (putL l[k])) (hx : Ext w w1) (hall : AllP w1 v1 u8P) (hm : m = k + 1) : PutsRel w l v1 (.int .i64 (m : Int)) w1 := by
  subst hm hn hxs
  refine ⟨k + 1, by omega, rfl, ?_, hx, hall⟩
  rw [putsL_snoc l k hk, bV_app, List.length_append]
  exact hg
theorem PutsRel.done {w w1 : World} {l : List Int} {k : Nat} {o : Value} (hk : k = l.length) (h : w1.ownsRow w.heap.size 5 1 o (putsL (l.take k)).length (bV (putsL (l.take k)))) : w1.ownsRow w.heap.size 5 1 o (putsL l).length (bV (putsL l)) := by
  subst hk; rwa [List.take_length] at h

set_option maxHeartbeats 400000 in
theorem oputs_any (l : List Int) (A : Option Addr) (cap : Nat) (w : World) (hr : Reads w w.heap.size 1 A l.length (iV l)) (hl : l.length ≤ 1000000) (hi : ∀ n ∈ l, i64 n) :
    Calls Try.prog 69 #[.slice A l.length cap] w fun e w' => ∃ v, e = .returned v ∧ w'.ownsRow w.heap.size 5 1 v (putsL l).length (bV (putsL l)) ∧ Ext w w' ∧ AllP w' v u8P := by
  go_enter Try.func69, Try.ntmps69
  go_wp2
  go_loopw [3, 8] (fun o i wr => PutsRel w l o i wr) (fun _ i _ => l.length - (intOf i).toNat)
  case atStart => exact ⟨0, by omega, rfl, World.ownsRow_nil _ _ _ _, Ext.refl _, AllP.nil _ _ _ _⟩
  case round =>
    obtain ⟨k, hk, rfl, hown, hx, hall⟩ := hrel
    by_cases hlt : k < l.length
    · have hd : decide ((k : Int) < (l.length : Int)) = true := by simp; omega
      have hr' := hr.extB (Nat.le_refl _) hx
      obtain ⟨b, off, rfl, hadb, hc⟩ := hr'.cellAt hlt
      have c1 := hc _ _ (iV_at l k hlt)
      clear hc hr hr'
      have hn := hi _ (List.getElem_mem hlt)
      have hlen := putL_len l[k]
      have hlen2 := putsL_len (l.take k)
      have hlen3 : (l.take k).length ≤ k := List.length_take_le _ _
      go_wp2_with (first
        | (go_at_call 100; refine (oput_any _ hn.1 hn.2 _).mono ?_; rintro e w1 ⟨v, rfl, hown1, hx1, _⟩; obtain ⟨A1, c1, rfl, hc1, hm1, hr1⟩ := own_slice hown1)
        | (at_builtin; refine wpl_app row_u8 w w1 (.tmp 12) (.tmp 14) rfl rfl rfl (own_ext hown hx1) (hx.trans hx1) rfl hr1 (bV_one _) (by omega) (by unfold maxLen; omega) ?_; intro v2 w2 hg))
      go_roundw
      case rel => exact PutsRel.next hlt hg.own rfl rfl hg.ext (hg.all u8P u8z (u8bb _ _) (hall.ext hx1)) rfl
      case measure => simp [intOf]; omega
    · have hd : decide ((k : Int) < (l.length : Int)) = false := by simp; omega
      have HO := PutsRel.done (by omega) hown
      go_wp2_with fail
      go_ret
      exact ⟨_, rfl, HO, hx, hall⟩

set_option maxHeartbeats 400000 in
theorem rputs_any (l : List Int) (A : Option Addr) (cap : Nat) (w : World) (hr : Reads w w.heap.size 1 A l.length (iV l)) (hl : l.length ≤ 1000000) (hi : ∀ n ∈ l, i64 n) :
    Calls Try.prog 70 #[.slice A l.length cap] w fun e w' => ∃ v, e = .returned v ∧ w'.ownsRow w.heap.size 5 1 v (putsL l).length (bV (putsL l)) ∧ Ext w w' ∧ AllP w' v u8P := by
  go_enter Try.func70, Try.ntmps70
  go_wp2
  go_loopw [3, 4] (fun o i wr => PutsRel w l o i wr) (fun _ i _ => l.length - (intOf i).toNat)
  case atStart => exact ⟨0, by omega, rfl, World.ownsRow_nil _ _ _ _, Ext.refl _, AllP.nil _ _ _ _⟩
  case round =>
    obtain ⟨k, hk, rfl, hown, hx, hall⟩ := hrel
    by_cases hlt : k < l.length
    · have hd : decide ((k : Int) < (l.length : Int)) = true := by simp; omega
      have hr' := hr.extB (Nat.le_refl _) hx
      obtain ⟨b, off, rfl, hadb, hc⟩ := hr'.cellAt hlt
      have c1 := hc _ _ (iV_at l k hlt)
      clear hc hr hr'
      have hn := hi _ (List.getElem_mem hlt)
      have hlen := putL_len l[k]
      have hlen2 := putsL_len (l.take k)
      have hlen3 : (l.take k).length ≤ k := List.length_take_le _ _
      go_wp2_with (first
        | (go_at_call 103; refine (rput_any _ hn.1 hn.2 _).mono ?_; rintro e w1 ⟨v, rfl, hown1, hx1, _⟩; obtain ⟨A1, c1, rfl, hc1, hm1, hr1⟩ := own_slice hown1)
        | (at_builtin; refine wpl_app row_u8 w w1 (.tmp 11) (.tmp 16) rfl rfl rfl (own_ext hown hx1) (hx.trans hx1) rfl hr1 (bV_one _) (by omega) (by unfold maxLen; omega) ?_; intro v2 w2 hg))
      go_roundw
      case rel => exact PutsRel.next hlt hg.own rfl rfl hg.ext (hg.all u8P u8z (u8bb _ _) (hall.ext hx1)) rfl
      case measure => simp [intOf]; omega
    · have hd : decide ((k : Int) < (l.length : Int)) = false := by simp; omega
      have HO := PutsRel.done (by omega) hown
      go_wp2_with fail
      go_ret
      exact ⟨_, rfl, HO, hx, hall⟩
end Go.Proofs.Ytehkmngbknbbaaa

set_option linter.unusedVariables false
namespace Go.Proofs.Ytehkmngbknbbaaa
open Go.RowKit

theorem conv_reads {w : World} {B n cap : Nat} {A : Option Addr} {l : List UInt8} (h : Reads w B 1 A n (bV l)) :
    (convert 27 9 (.slice A n cap)).run Try.prog w = .ok (.string ⟨l.toArray⟩) w := by
  have hl : l.length = n := by have := h.1; simpa [bV] using this
  rcases A with _ | ad
  · have h0 : n = 0 := by
      rcases Nat.eq_zero_or_pos n with h0 | h0
      · exact h0
      · obtain ⟨b, off, e, _⟩ := h.2 h0; cases e
    subst h0
    have : l = [] := List.eq_nil_of_length_eq_zero hl
    subst this
    exact run_convert_bytes_nil w _ _ Try.underlying27 Try.underlying5 _ _ _ Try.underlying9
  · rcases Nat.eq_zero_or_pos n with h0 | h0
    · subst h0
      have : l = [] := List.eq_nil_of_length_eq_zero hl
      subst this
      have h2 := run_convert_bytes_string (P := Try.prog) w 27 9 5 (some ad) 0 cap Try.underlying27 Try.underlying5 Try.underlying9
      have h3 := run_bytesToString (P := Try.prog) w ad 0 cap [] (by simp [loadCells, loadCellsFrom])
      rw [h2, h3]
      simp [ByteArray.empty, ByteArray.emptyWithCapacity]
      rfl
    · obtain ⟨b, off, e, hb, hc⟩ := h.2 h0
      obtain rfl := Option.some.inj e
      have := run_convert_bytes_arg w 27 5 Try.underlying27 Try.underlying5 b off n cap (l.map fun b => (b.toNat : Int)) (by simpa using hl) (fun i hi => by
        refine hc i _ ?_
        simp [bV, List.getD, List.getElem?_eq_getElem (show i < l.length by omega)]) _ Try.underlying9
      rw [this]
      simp [strOfNums, Function.comp_def]

theorem sameBytes_any (a b : List UInt8) (A A' : Option Addr) (n n' c c' : Nat) (w : World) (h1 : Reads w w.heap.size 1 A n (bV a)) (h2 : Reads w w.heap.size 1 A' n' (bV b)) :
    Calls Try.prog 23 #[.slice A n c, .slice A' n' c'] w fun e w' => e = .returned (.bool (a == b)) ∧ w = w' := by
  have k1 := conv_reads (cap := c) h1
  have k2 := conv_reads (cap := c') h2
  clear h1 h2
  go_enter Try.func23, Try.ntmps23
  go_wp2
  go_ret
  exact ⟨rfl, rfl⟩

theorem lnCells_one (l : List Ln) : ∀ u ∈ lnCells l, u.oneCell' = true := by
  intro u hu
  simp only [lnCells, List.mem_flatMap, Ln.cells] at hu
  obtain ⟨x, _, hx⟩ := hu
  simp at hx
  rcases hx with rfl | rfl <;> rfl
theorem lnCells_len (l : List Ln) : (lnCells l).length = l.length * 2 := by
  induction l with
  | nil => rfl
  | cons a l ih => simp only [lnCells, List.flatMap_cons, List.length_append, List.length_cons] at *; rw [ih]; simp [Ln.cells]; omega

def SameRel (w : World) (n : Nat) (P : Nat → Prop) (i : Value) (wr : World) : Prop := ∃ k : Nat, k ≤ n ∧ i = .int .i64 (k : Int) ∧ Ext w wr ∧ ∀ j, j < k → P j

theorem eq_of_at {α : Type} (a b : List α) (hl : a.length = b.length) (h : ∀ j (h1 : j < a.length) (h2 : j < b.length), a[j] = b[j]) : a = b := List.ext_getElem hl (fun j h1 h2 => h j h1 h2)

theorem neq_ln (x y : Ln) (r : Bool) (h : r = decide (x ≠ y)) (w : World) : (binOp .neq 110 (.agg #[.int .i64 x.c, .int .i64 x.a]) (.agg #[.int .i64 y.c, .int .i64 y.a])).run Try.prog w = .ok (.bool r) w := by
  subst h
  obtain ⟨a, b⟩ := x
  obtain ⟨c, d⟩ := y
  by_cases h1 : a = c <;> by_cases h2 : b = d <;> simp [go_sem, h1, h2]

theorem SameRel.done {α : Type} {w wr : World} {a b : List α} {k : Nat} (hk : a.length ≤ k) (hl : a.length = b.length) (hP : ∀ j, j < k → a[j]? = b[j]?) : a = b := by
  refine List.ext_getElem hl fun j h1 h2 => ?_
  have := hP j (by omega)
  simpa [h1, h2] using this
theorem SameRel.next {w w1 : World} {n k m : Nat} {P : Nat → Prop} (hk : k < n) (hx : Ext w w1) (hP : ∀ j, j < k → P j) (h : P k) (hm : m = k + 1) : SameRel w n P (.int .i64 (m : Int)) w1 := by
  subst hm
  exact ⟨k + 1, by omega, rfl, hx, fun j hj => by rcases Nat.lt_or_ge j k with h1 | h1; exact hP j h1; rw [show j = k by omega]; exact h⟩
theorem len_ne {α : Type} {a b : List α} (h : a.length ≠ b.length) : decide ((a.length : Int) = b.length) = false := by simp; omega

set_option maxHeartbeats 400000 in
theorem sameLines_any (a b : List Ln) (A A' : Option Addr) (c c' : Nat) (w : World) (h1 : Reads w w.heap.size 2 A a.length (lnCells a)) (h2 : Reads w w.heap.size 2 A' b.length (lnCells b)) (m1 : a.length ≤ maxLen) (m2 : b.length ≤ maxLen) :
    Calls Try.prog 81 #[.slice A a.length c, .slice A' b.length c'] w fun e w' => e = .returned (.bool (decide (a = b))) ∧ Ext w w' := by
  unfold maxLen at m1 m2
  by_cases hl : a.length = b.length
  · have hb : ((a.length : Int) != (b.length : Int)) = false := by simp; omega
    have HL := Lib.hid hl
    clear hl
    go_enter Try.func81, Try.ntmps81
    go_wp2
    go_loopw [5] (fun i wr => SameRel w a.length (fun j => a[j]? = b[j]?) i wr) (fun i _ => a.length - (intOf i).toNat)
    case atStart => exact ⟨0, by omega, rfl, Ext.refl _, fun j hj => by omega⟩
    case round =>
      obtain ⟨k, hk, rfl, hx, hP⟩ := hrel
      have HP := Lib.hid hP
      clear hP
      by_cases hlt : k < a.length
      · have hlt2 : k < b.length := by have := HL.out; omega
        have hd : decide ((k : Int) < (a.length : Int)) = true := by simp; omega
        obtain ⟨g, off, rfl, hg, hc⟩ := (h1.extB (Nat.le_refl _) hx).cellAt hlt
        obtain ⟨g', off', rfl, hg', hc'⟩ := (h2.extB (Nat.le_refl _) hx).cellAt hlt2
        obtain ⟨e1, e2⟩ := lnCells_at a k hlt
        obtain ⟨e3, e4⟩ := lnCells_at b k hlt2
        have c1 := hc _ _ e1
        have c2 : wr.cell? ⟨g, off + k * 2 + 1, none⟩ = _ := hc _ _ e2
        have c3 := hc' _ _ e3
        have c4 : wr.cell? ⟨g', off' + k * 2 + 1, none⟩ = _ := hc' _ _ e4
        clear hc hc' e1 e2 e3 e4 h1 h2
        by_cases he : a[k] = b[k]
        · have hq := neq_ln a[k] b[k] false (by simp [he])
          have HE := Lib.hid (show a[k]? = b[k]? by simp [hlt, hlt2, he])
          clear he
          go_wp2_with fail
          go_quiet (fail)
          go_wp2_with fail
          go_roundw
          case rel => exact SameRel.next hlt (hx.drewN _) HP.out HE.out rfl
          case measure => simp [intOf]; omega
        · have hq := neq_ln a[k] b[k] true (by simp [he])
          have HE := Lib.hid (show decide (a = b) = false by simp; rintro rfl; exact he rfl)
          clear he
          go_wp2_with fail
          go_quiet (fail)
          go_wp2_with fail
          go_ret
          exact ⟨by rw [HE.out]; rfl, hx.drewN _⟩
      · have hd : decide ((k : Int) < (a.length : Int)) = false := by simp; omega
        have HE := Lib.hid (show decide (a = b) = true by simpa using SameRel.done (w := w) (wr := wr) (by omega) HL.out HP.out)
        go_wp2_with fail
        go_ret
        exact ⟨by rw [HE.out]; rfl, hx⟩
  · have hb : ((a.length : Int) != (b.length : Int)) = true := by rw [bne_iff_ne]; omega
    have HE := Lib.hid (show decide (a = b) = false by simp; rintro rfl; exact hl rfl)
    clear hl
    go_enter Try.func81, Try.ntmps81
    go_wp2
    go_ret
    exact ⟨by rw [HE.out]; rfl, Ext.refl _⟩

theorem eql_pt (a b c d : Int) (w : World) : (binOp .eql 23 (.agg #[.int .i64 a, .int .i64 b]) (.agg #[.int .i64 c, .int .i64 d])).run Try.prog w = .ok (.bool (a == c && b == d)) w := by
  by_cases h1 : a = c <;> by_cases h2 : b = d <;> simp [go_sem, h1, h2]

def ordV (o : Ord) (A : Option Addr) (cap : Nat) : Value := .agg #[.int .i64 o.cu, .int .i64 o.day, .int .i64 o.px, .int .i64 o.py, .slice A o.ls.length cap]

set_option maxHeartbeats 800000 in
theorem sameOrder_any (a b : Ord) (A A' : Option Addr) (c c' : Nat) (w : World) (h1 : Reads w w.heap.size 2 A a.ls.length (lnCells a.ls)) (h2 : Reads w w.heap.size 2 A' b.ls.length (lnCells b.ls)) (m1 : a.ls.length ≤ maxLen) (m2 : b.ls.length ≤ maxLen) :
    Calls Try.prog 24 #[ordV a A c, ordV b A' c'] w fun e w' => e = .returned (.bool (decide (a = b))) ∧ Ext w w' := by
  obtain ⟨cu, day, px, py, ls⟩ := a
  obtain ⟨cu', day', px', py', ls'⟩ := b
  simp only [ordV] at *
  have hq := fun w => eql_pt px py px' py' w
  have r1 := fun (o1 o2 : Obj) => h1.ext (((Ext.refl w).alloc o1).alloc o2)
  have r2 := fun (o1 o2 : Obj) => h2.ext (((Ext.refl w).alloc o1).alloc o2)
  have R1 := Lib.hid r1
  have R2 := Lib.hid r2
  clear h1 h2 r1 r2
  go_enter Try.func24, Try.ntmps24
  go_wp2_with (go_at_call 81; refine (sameLines_any ls ls' A A' c c' _ (R1.out _ _) (R2.out _ _) m1 m2).mono ?_; rintro e w1 ⟨rfl, hx1⟩)
  all_goals
    go_ret
    refine ⟨ret_bool ?_, ?_⟩
    · go_tidy
      simp_all
    · first | exact (((Ext.refl w).alloc _).alloc _).trans hx1 | exact ((Ext.refl w).alloc _).alloc _
end Go.Proofs.Ytehkmngbknbbaaa
