/-
  Lists held against each other, cloned; small functions of package book.
-/
import Derived.Test.YtehkmngbknbbaaaRk08
import Derived.Test.YtehkmngbknbbaaaRk10
import Derived.LaidEql
set_option linter.unusedVariables false
namespace Go.Proofs.Ytehkmngbknbbaaa
open Go.RowKit

theorem row_tx : RowT Try.prog 49 46 6 48 (.agg #[.int .i64 0, .int .i64 0, .int .i64 0, .int .i64 0, .int .i64 0, .int .i64 0]) := rowT_mk Try.underlying49 (by kernel_rfl) rfl (by decide)
theorem bwithin_any (n lo hi : Int) (w : World) :
    Calls Try.prog 98 #[.int .i64 n, .int .i64 lo, .int .i64 hi] w fun e w' => e = .returned (.bool (win n lo hi)) ∧ w = w' := by
  unfold win
  by_cases h1 : lo ≤ n <;> by_cases h2 : n ≤ hi
  all_goals
    go_enter Try.func98, Try.ntmps98
    go_wp2
    go_ret
    exact ⟨ret_bool (by simp [h1, h2]), rfl⟩
theorem many_any (n : Nat) (A : Option Addr) (cap : Nat) (w : World) (hn : n ≤ 9223372036854775807) :
    Calls Try.prog 157 #[.slice A n cap] w fun e w' => e = .returned (.bool (win (n : Int) 1 100)) ∧ w = w' := by
  go_enter Try.func157, Try.ntmps157
  go_wp2_with (go_at_call 98; refine (bwithin_any _ _ _ _).mono ?_; rintro e w' ⟨rfl, rfl⟩)
  go_ret
  exact ⟨rfl, rfl⟩

/-- Cloned: in memory of its own. -/
theorem cloneInts_any (l : List Int) (n : Nat) (A : Option Addr) (cap : Nat) (w : World) (hn : l.length = n) (hr : Reads w w.heap.size 1 A n (iV l)) (hm : n ≤ 1000000) :
    Calls Try.prog 90 #[.slice A n cap] w fun e w' => ∃ A' c', e = .returned (.slice A' n c') ∧ w'.ownsRow w.heap.size 3 1 (.slice A' n c') n (iV l) ∧ Ext w w' := by
  have hk := fun W : World => Lib.run_eql_slice_nil (P := Try.prog) W 47 3 A n cap 0 0 Try.underlying47
  rcases A with _ | a
  · have h0 : n = 0 := by
      rcases Nat.eq_zero_or_pos n with h0 | h0
      · exact h0
      · obtain ⟨b, off, e, _⟩ := hr.2 h0; cases e
    subst h0
    have hl : l = [] := List.eq_nil_of_length_eq_zero hn
    subst hl
    simp only [Option.isNone_none] at hk
    clear hr hn
    go_enter Try.func90, Try.ntmps90
    go_wp2
    go_ret
    exact ⟨none, 0, rfl, World.ownsRow_nil _ _ _ _, Ext.refl _⟩
  · simp only [Option.isNone_some] at hk
    have RR := Lib.hid (fun o1 : Obj => hr.ext ((Ext.refl w).alloc o1))
    clear hr
    replace hn := Lib.hid hn
    go_enter Try.func90, Try.ntmps90
    go_wp2_with (at_builtin; refine wpl_app row_int w _ (.tmp 5) (.tmp 6) rfl rfl rfl (own_lit (Ext.refl w) #[] _ 0 1 rfl (by simp [maxLen]) rfl) ((Ext.refl w).alloc _) rfl (RR.out _) (iV_one _) (by omega) (by unfold maxLen; omega) ?_; intro v1 w1 hg; obtain ⟨A1, c1, rfl, _, _, _⟩ := own_slice hg.own)
    go_ret
    refine ⟨A1, c1, by simp, ?_, hg.ext⟩
    have := hg.own
    simpa using this
theorem cloneTax_any (l : List Tx) (n : Nat) (A : Option Addr) (cap : Nat) (w : World) (hn : l.length = n) (hr : Reads w w.heap.size 6 A n (txCells l)) (hm : n ≤ 1000000) :
    Calls Try.prog 91 #[.slice A n cap] w fun e w' => ∃ A' c', e = .returned (.slice A' n c') ∧ w'.ownsRow w.heap.size 46 6 (.slice A' n c') n (txCells l) ∧ Ext w w' := by
  have hk := fun W : World => Lib.run_eql_slice_nil (P := Try.prog) W 49 46 A n cap 0 0 Try.underlying49
  rcases A with _ | a
  · have h0 : n = 0 := by
      rcases Nat.eq_zero_or_pos n with h0 | h0
      · exact h0
      · obtain ⟨b, off, e, _⟩ := hr.2 h0; cases e
    subst h0
    have hl : l = [] := List.eq_nil_of_length_eq_zero hn
    subst hl
    simp only [Option.isNone_none] at hk
    clear hr hn
    go_enter Try.func91, Try.ntmps91
    go_wp2
    go_ret
    exact ⟨none, 0, rfl, World.ownsRow_nil _ _ _ _, Ext.refl _⟩
  · simp only [Option.isNone_some] at hk
    have RR := Lib.hid (fun o1 : Obj => hr.ext ((Ext.refl w).alloc o1))
    clear hr
    replace hn := Lib.hid hn
    go_enter Try.func91, Try.ntmps91
    go_wp2_with (at_builtin; refine wpl_app row_tx w _ (.tmp 5) (.tmp 6) rfl rfl rfl (own_lit (Ext.refl w) #[] _ 0 6 rfl (by simp [maxLen]) rfl) ((Ext.refl w).alloc _) rfl (RR.out _) (txCells_one _) (by omega) (by unfold maxLen; omega) ?_; intro v1 w1 hg; obtain ⟨A1, c1, rfl, _, _, _⟩ := own_slice hg.own)
    go_ret
    refine ⟨A1, c1, by simp, ?_, hg.ext⟩
    have := hg.own
    simpa using this

theorem neq_tx (x y : Tx) (r : Bool) (h : r = decide (x ≠ y)) (w : World) : (binOp .neq 46 (.agg #[.int .i64 x.l, .int .i64 x.j, .int .i64 x.t, .int .i64 x.x, .int .i64 x.r, .int .i64 x.v]) (.agg #[.int .i64 y.l, .int .i64 y.j, .int .i64 y.t, .int .i64 y.x, .int .i64 y.r, .int .i64 y.v])).run Try.prog w = .ok (.bool r) w := by
  subst h
  obtain ⟨a, b, c, d, e, f⟩ := x
  obtain ⟨a', b', c', d', e', f'⟩ := y
  by_cases h1 : a = a'
  · by_cases h2 : b = b'
    · by_cases h3 : c = c'
      · by_cases h4 : d = d'
        · by_cases h5 : e = e'
          · by_cases h6 : f = f' <;> simp [go_sem, h1, h2, h3, h4, h5, h6]
          · simp [go_sem, h1, h2, h3, h4, h5]
        · simp [go_sem, h1, h2, h3, h4]
      · simp [go_sem, h1, h2, h3]
    · simp [go_sem, h1, h2]
  · simp [go_sem, h1]

set_option maxHeartbeats 1000000 in
theorem sameTax_any (a b : List Tx) (A A' : Option Addr) (n n' c c' : Nat) (w : World) (hn : a.length = n) (hn' : b.length = n') (h1 : Reads w w.heap.size 6 A n (txCells a)) (h2 : Reads w w.heap.size 6 A' n' (txCells b)) (m1 : n ≤ maxLen) (m2 : n' ≤ maxLen) :
    Calls Try.prog 45 #[.slice A n c, .slice A' n' c'] w fun e w' => e = .returned (.bool (decide (a = b))) ∧ Ext w w' := by
  subst hn hn'
  unfold maxLen at m1 m2
  by_cases hl : a.length = b.length
  · have hb : ((a.length : Int) != (b.length : Int)) = false := by simp; omega
    have HL := Lib.hid hl
    clear hl
    go_enter Try.func45, Try.ntmps45
    go_wp2
    go_loopw [5] (fun i wr => SameRel w a.length (fun j => a[j]? = b[j]?) i wr) (fun i _ => a.length - (intOf i).toNat)
    case atStart => exact ⟨0, by omega, rfl, Ext.refl _, fun j hj => by omega⟩
    case round =>
      obtain ⟨k, hk, rfl, hx, hP⟩ := hrel
      have HP := Lib.hid hP
      clear hP
      by_cases hlt : k < a.length
      · have hlt2 : k < b.length := by have := HL.out; omega
        have hd : decide ((k : Int) < (a.length : Int)) = true := by simp; omega
        obtain ⟨g, off, rfl, hg, hc⟩ := (h1.extB (Nat.le_refl _) hx).cellAt hlt
        obtain ⟨g', off', rfl, hg', hc'⟩ := (h2.extB (Nat.le_refl _) hx).cellAt hlt2
        obtain ⟨e1, e2, e3, e4, e5, e6⟩ := txCells_at a k hlt
        obtain ⟨f1, f2, f3, f4, f5, f6⟩ := txCells_at b k hlt2
        have c1 := hc _ _ e1
        have c2 : wr.cell? ⟨g, off + k * 6 + 1, none⟩ = _ := hc _ _ e2
        have c3 : wr.cell? ⟨g, off + k * 6 + 2, none⟩ = _ := hc _ _ e3
        have c4 : wr.cell? ⟨g, off + k * 6 + 3, none⟩ = _ := hc _ _ e4
        have c5 : wr.cell? ⟨g, off + k * 6 + 4, none⟩ = _ := hc _ _ e5
        have c6 : wr.cell? ⟨g, off + k * 6 + 5, none⟩ = _ := hc _ _ e6
        have d1 := hc' _ _ f1
        have d2 : wr.cell? ⟨g', off' + k * 6 + 1, none⟩ = _ := hc' _ _ f2
        have d3 : wr.cell? ⟨g', off' + k * 6 + 2, none⟩ = _ := hc' _ _ f3
        have d4 : wr.cell? ⟨g', off' + k * 6 + 3, none⟩ = _ := hc' _ _ f4
        have d5 : wr.cell? ⟨g', off' + k * 6 + 4, none⟩ = _ := hc' _ _ f5
        have d6 : wr.cell? ⟨g', off' + k * 6 + 5, none⟩ = _ := hc' _ _ f6
        clear hc hc' e1 e2 e3 e4 e5 e6 f1 f2 f3 f4 f5 f6 h1 h2
        by_cases he : a[k] = b[k]
        · have hq := neq_tx a[k] b[k] false (by simp [he])
          have HE := Lib.hid (show a[k]? = b[k]? by simp [hlt, hlt2, he])
          clear he
          go_wp2_with fail
          go_quiet (fail)
          go_wp2_with fail
          go_roundw
          case rel => exact SameRel.next hlt (hx.drewN _) HP.out HE.out rfl
          case measure => simp [intOf]; omega
        · have hq := neq_tx a[k] b[k] true (by simp [he])
          have HE := Lib.hid (show decide (a = b) = false by simp; rintro rfl; exact he rfl)
          clear he
          go_wp2_with fail
          go_quiet (fail)
          go_wp2_with fail
          go_ret
          exact ⟨by rw [HE.out]; rfl, hx.drewN _⟩
      · have hd : decide ((k : Int) < (a.length : Int)) = false := by simp; omega
        have HE := Lib.hid (show decide (a = b) = true by simpa using SameRel.done (w := w) (wr := wr) (by omega) HL.out HP.out)
        go_wp2_with fail
        go_ret
        exact ⟨by rw [HE.out]; rfl, hx⟩
  · have hb : ((a.length : Int) != (b.length : Int)) = true := by rw [bne_iff_ne]; omega
    have HE := Lib.hid (show decide (a = b) = false by simp; rintro rfl; exact hl rfl)
    clear hl
    go_enter Try.func45, Try.ntmps45
    go_wp2
    go_ret
    exact ⟨by rw [HE.out]; rfl, Ext.refl _⟩

theorem iV_get (l : List Int) (k : Nat) (h : k < l.length) : (iV l)[k]? = some (.int .i64 l[k]) := by simp [iV, h]
set_option maxHeartbeats 1000000 in
theorem sameInts_any (a b : List Int) (A A' : Option Addr) (n n' c c' : Nat) (w : World) (hn : a.length = n) (hn' : b.length = n') (h1 : Reads w w.heap.size 1 A n (iV a)) (h2 : Reads w w.heap.size 1 A' n' (iV b)) (m1 : n ≤ maxLen) (m2 : n' ≤ maxLen) :
    Calls Try.prog 57 #[.slice A n c, .slice A' n' c'] w fun e w' => e = .returned (.bool (decide (a = b))) ∧ Ext w w' := by
  subst hn hn'
  unfold maxLen at m1 m2
  by_cases hl : a.length = b.length
  · have hb : ((a.length : Int) != (b.length : Int)) = false := by simp; omega
    have HL := Lib.hid hl
    clear hl
    go_enter Try.func57, Try.ntmps57
    go_wp2
    go_loopw [5] (fun i wr => SameRel w a.length (fun j => a[j]? = b[j]?) i wr) (fun i _ => a.length - (intOf i).toNat)
    case atStart => exact ⟨0, by omega, rfl, Ext.refl _, fun j hj => by omega⟩
    case round =>
      obtain ⟨k, hk, rfl, hx, hP⟩ := hrel
      have HP := Lib.hid hP
      clear hP
      by_cases hlt : k < a.length
      · have hlt2 : k < b.length := by have := HL.out; omega
        have hd : decide ((k : Int) < (a.length : Int)) = true := by simp; omega
        obtain ⟨g, off, rfl, hg, hc⟩ := (h1.extB (Nat.le_refl _) hx).cellAt hlt
        obtain ⟨g', off', rfl, hg', hc'⟩ := (h2.extB (Nat.le_refl _) hx).cellAt hlt2
        have c1 := hc _ _ (iV_get a k hlt)
        have d1 := hc' _ _ (iV_get b k hlt2)
        clear hc hc' h1 h2
        by_cases he : a[k] = b[k]
        · have hq : (a[k] != b[k]) = false := by simp [he]
          have HE := Lib.hid (show a[k]? = b[k]? by simp [hlt, hlt2, he])
          clear he
          generalize a[k] = x at *
          generalize b[k] = y at *
          go_wp2_with fail
          go_quiet (fail)
          go_wp2_with fail
          go_roundw
          case rel => exact SameRel.next hlt (hx.drewN _) HP.out HE.out rfl
          case measure => simp [intOf]; omega
        · have hq : (a[k] != b[k]) = true := by simpa using he
          have HE := Lib.hid (show decide (a = b) = false by simp; rintro rfl; exact he rfl)
          clear he
          generalize a[k] = x at *
          generalize b[k] = y at *
          go_wp2_with fail
          go_quiet (fail)
          go_wp2_with fail
          go_ret
          exact ⟨by rw [HE.out]; rfl, hx.drewN _⟩
      · have hd : decide ((k : Int) < (a.length : Int)) = false := by simp; omega
        have HE := Lib.hid (show decide (a = b) = true by simpa using SameRel.done (w := w) (wr := wr) (by omega) HL.out HP.out)
        go_wp2_with fail
        go_ret
        exact ⟨by rw [HE.out]; rfl, hx⟩
  · have hb : ((a.length : Int) != (b.length : Int)) = true := by rw [bne_iff_ne]; omega
    have HE := Lib.hid (show decide (a = b) = false by simp; rintro rfl; exact hl rfl)
    clear hl
    go_enter Try.func57, Try.ntmps57
    go_wp2
    go_ret
    exact ⟨by rw [HE.out]; rfl, Ext.refl _⟩
theorem reads_int {w : World} {B n : Nat} {A : Option Addr} {l : List Int} (h : Reads w B 1 A n (iV l)) {k : Nat} (hk : k < l.length) (hn : n = l.length) : ∃ b off, A = some ⟨b, off, none⟩ ∧ b < B ∧ w.cell? ⟨b, off + k, none⟩ = some (.int .i64 l[k]) := by
  subst hn
  obtain ⟨b, off, u, h1, h2, h3, h4⟩ := h.at_ hk
  refine ⟨b, off, h1, h2, ?_⟩
  rw [h4, ← h3]
  simp [iV, hk]

end Go.Proofs.Ytehkmngbknbbaaa
