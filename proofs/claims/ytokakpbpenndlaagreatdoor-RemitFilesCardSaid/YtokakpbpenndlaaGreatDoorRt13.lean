/-
  Arguments opened: entries.
-/
import Derived.Test.YtokakpbpenndlaaGreatDoorRt12
set_option linter.unusedVariables false
namespace Go.Proofs.YtokakpbpenndlaaGreatDoor
open Go.RowKit Go.ChangeShapes Go.WideShapes Go.Deep

/-- An entry, and where its slices lie. -/
structure EV where
  e : Ent
  A : Option Addr
  A' : Option Addr
  c : Nat
  c' : Nat
def EV.cl (x : EV) : List Value := [.int .i64 x.e.k, .int .i64 x.e.id, .int .i64 x.e.of_, .int .i64 x.e.day, .slice x.A x.e.am.length x.c, .slice x.A' x.e.tax.length x.c']
theorem EV.cl_len (x : EV) : x.cl.length = 6 := rfl
def evCells (l : List EV) : List Value := l.flatMap EV.cl
structure EV.ok (W : World) (x : EV) : Prop where
  r : EntR W x.e x.A x.A'
  c1 : x.e.am.length ≤ x.c ∧ x.c ≤ maxLen
  c2 : x.e.tax.length ≤ x.c' ∧ x.c' ≤ maxLen
  ik : i64 x.e.k ∧ i64 x.e.id ∧ i64 x.e.of_ ∧ i64 x.e.day
  ia : ∀ n ∈ x.e.am, i64 n
  it : ∀ y ∈ x.e.tax, y.i64
theorem EV.ok.ext {W W' : World} {x : EV} (h : x.ok W) (hx : Ext W W') : x.ok W' := ⟨h.r.ext hx, h.c1, h.c2, h.ik, h.ia, h.it⟩
theorem opens_entry : Opens Tryz.prog 52 (fun w cs => ∃ x : EV, cs = x.cl ∧ x.ok w) :=
  (opens_fields Tryz.underlying52 (.cons 1 opens_i (by kernel_rfl) (.cons 1 opens_i (by kernel_rfl) (.cons 1 opens_i (by kernel_rfl) (.cons 1 opens_i (by kernel_rfl) (.cons 1 opens_ints (by kernel_rfl) (.cons 1 opens_taxs (by kernel_rfl) .nil)))))) (by kernel_rfl)).mono fun w cs h => by
    obtain ⟨_, _, rfl, _, ⟨a, rfl, h1⟩, _, _, rfl, _, ⟨b, rfl, h2⟩, _, _, rfl, _, ⟨c, rfl, h3⟩, _, _, rfl, _, ⟨d, rfl, h4⟩, _, _, rfl, _, ⟨A, ca, l, rfl, l1, l2, l3, l4⟩, _, _, rfl, _, ⟨B, cb, m, rfl, m1, m2, m3, m4⟩, rfl⟩ := h
    exact ⟨⟨⟨a, b, c, d, l, m⟩, A, B, ca, cb⟩, rfl, ⟨⟨l4, m4, Nat.le_trans l1 l2, Nat.le_trans m1 m2⟩, ⟨l1, l2⟩, ⟨m1, m2⟩, ⟨h1, h2, h3, h4⟩, l3, m3⟩⟩
theorem opens_entries : Opens Tryz.prog 38 (fun w cs => ∃ (A : Option Addr) (cap : Nat) (l : List EV), cs = [.slice A l.length cap] ∧ l.length ≤ cap ∧ cap ≤ maxLen ∧ (∀ x ∈ l, x.ok w) ∧ Reads w w.heap.size 6 A l.length (evCells l)) :=
  (opens_slice 6 Tryz.underlying38 (by kernel_rfl) (by decide) opens_entry).mono fun w cs h =>
    SliceOf.list (code := EV.cl) (p := fun x => x.ok w) h (fun x ⟨l, hl, hp⟩ => ⟨l, hl, hp⟩)
theorem evCells_at (l : List EV) (k : Nat) (h : k < l.length) : (evCells l)[k * 6]? = some (.int .i64 l[k].e.k) ∧ (evCells l)[k * 6 + 1]? = some (.int .i64 l[k].e.id) ∧ (evCells l)[k * 6 + 2]? = some (.int .i64 l[k].e.of_) ∧
    (evCells l)[k * 6 + 3]? = some (.int .i64 l[k].e.day) ∧ (evCells l)[k * 6 + 4]? = some (.slice l[k].A l[k].e.am.length l[k].c) ∧ (evCells l)[k * 6 + 5]? = some (.slice l[k].A' l[k].e.tax.length l[k].c') :=
  ⟨flat_get EV.cl_len l k 0 h (by decide), flat_get EV.cl_len l k 1 h (by decide), flat_get EV.cl_len l k 2 h (by decide), flat_get EV.cl_len l k 3 h (by decide), flat_get EV.cl_len l k 4 h (by decide), flat_get EV.cl_len l k 5 h (by decide)⟩
end Go.Proofs.YtokakpbpenndlaaGreatDoor

set_option linter.unusedVariables false
namespace Go.Proofs.YtokakpbpenndlaaGreatDoor
open Go.RowKit Go.Maps
/-- Not too large: at most so many entries, of at most 20 amounts and 60 tax lines. -/
def Fit (l : List EV) (most : Nat) : Prop := l.length ≤ most ∧ ∀ x ∈ l, x.e.am.length ≤ 20 ∧ x.e.tax.length ≤ 60
def BigRel (w : World) (l : List EV) (most : Nat) (i : Value) (wr : World) : Prop := ∃ k : Nat, k ≤ l.length ∧ k ≤ most + 1 ∧ i = .int .i64 (k : Int) ∧ (∀ x ∈ l.take k, x.e.am.length ≤ 20 ∧ x.e.tax.length ≤ 60) ∧ w = wr
def BigOut (l : List EV) (most : Nat) (w : World) (r : Ending) (w' : World) : Prop := ∃ b, r = .returned (.bool b) ∧ (b = false → Fit l most) ∧ w = w'
set_option maxRecDepth 100000 in
set_option maxHeartbeats 4000000 in
theorem big_any (l : List EV) (A : Option Addr) (cap : Nat) (most : Nat) (w : World) (hr : Reads w w.heap.size 6 A l.length (evCells l)) (hm : l.length ≤ maxLen) (hmo : most ≤ 1000) :
    Calls Tryz.prog 23 #[.slice A l.length cap, .int .i64 (most : Int)] w (BigOut l most w) := by
  unfold maxLen at hm
  go_enter Tryz.func23, Tryz.ntmps23
  go_wp2_with fail
  go_loopw [5] (fun i wr => BigRel w l most i wr) (fun i _ => l.length - (intOf i).toNat)
  case atStart => exact ⟨0, by omega, by omega, rfl, by simp, rfl⟩
  case round =>
    obtain ⟨k, hk, hkm, rfl, hP, rfl⟩ := hrel
    replace hP := Lib.hid hP
    by_cases hlt : k < l.length
    · have hd : decide ((k : Int) < (l.length : Int)) = true := by simp; omega
      by_cases hlm : k ≤ most
      · have hd2 : decide ((k : Int) ≤ (most : Int)) = true := by simp; omega
        have hd3 : decide (k ≤ most) = true := by simp; omega
        obtain ⟨g, off, rfl, hg, hc⟩ := hr.cellAt hlt
        obtain ⟨e1, e2, e3, e4, e5, e6⟩ := evCells_at l k hlt
        have c5 : w.cell? ⟨g, off + k * 6 + 4, none⟩ = _ := hc _ _ e5
        have c6 : w.cell? ⟨g, off + k * 6 + 5, none⟩ = _ := hc _ _ e6
        have HN := Lib.hid (fun (h1 : l[k].e.am.length ≤ 20) (h2 : l[k].e.tax.length ≤ 60) => (show BigRel w l most (.int .i64 ((k + 1 : Nat) : Int)) w from ⟨k + 1, by omega, by omega, rfl, by
          intro x hx
          rw [List.take_succ_eq_append_getElem hlt] at hx
          rcases List.mem_append.1 hx with hx | hx
          · exact hP.out x hx
          · rw [List.mem_singleton.1 hx]; exact ⟨h1, h2⟩, rfl⟩))
        clear hc e1 e2 e3 e4 e5 e6 hr
        generalize l[k] = x at *
        by_cases b1 : 20 < x.e.am.length
        · have t1 : decide ((20 : Int) < (x.e.am.length : Int)) = true := by simp; omega
          clear HN
          go_wp2_with fail
          go_ret
          exact ⟨true, rfl, (fun h => by cases h), rfl⟩
        have t1 : decide ((20 : Int) < (x.e.am.length : Int)) = false := by simp; omega
        by_cases b2 : 60 < x.e.tax.length
        · have t2 : decide ((60 : Int) < (x.e.tax.length : Int)) = true := by simp; omega
          clear HN
          go_wp2_with fail
          go_ret
          exact ⟨true, rfl, (fun h => by cases h), rfl⟩
        have t2 : decide ((60 : Int) < (x.e.tax.length : Int)) = false := by simp; omega
        have HN2 := Lib.hid (HN.out (by omega) (by omega))
        clear HN
        go_wp2_with fail
        go_roundw
        case rel => exact HN2.out
        case measure => simp [intOf]; omega
      · have hd2 : decide ((k : Int) ≤ (most : Int)) = false := by simp; omega
        have hd3 : decide (k ≤ most) = false := by simp; omega
        have hd4 : decide ((most : Int) < (l.length : Int)) = true := by simp; omega
        have hd5 : decide (most < l.length) = true := by simp; omega
        go_wp2_with fail
        go_ret
        exact ⟨true, rfl, (fun h => by cases h), rfl⟩
    · have hd : decide ((k : Int) < (l.length : Int)) = false := by simp; omega
      have HA := Lib.hid (show ∀ x ∈ l, x.e.am.length ≤ 20 ∧ x.e.tax.length ≤ 60 from fun x hx => hP.out x (by rw [List.take_of_length_le (by omega)]; exact hx))
      by_cases hml : most < l.length
      · have hd4 : decide ((most : Int) < (l.length : Int)) = true := by simp; omega
        have hd5 : decide (most < l.length) = true := by simp; omega
        go_wp2_with fail
        go_ret
        exact ⟨true, rfl, (fun h => by cases h), rfl⟩
      · have hd4 : decide ((most : Int) < (l.length : Int)) = false := by simp; omega
        have hd5 : decide (most < l.length) = false := by simp; omega
        go_wp2_with fail
        go_ret
        exact ⟨false, rfl, fun _ => ⟨by omega, HA.out⟩, rfl⟩
end Go.Proofs.YtokakpbpenndlaaGreatDoor

set_option linter.unusedVariables false
namespace Go.Proofs.YtokakpbpenndlaaGreatDoor
open Go.RowKit Go.Maps

set_option maxRecDepth 100000 in
set_option maxHeartbeats 2000000 in
theorem saleFine_any (e : Ent) (Aa At : Option Addr) (ca ct : Nat) (w : World) (h : EntR w e Aa At) :
    Calls Tryz.prog 230 #[entV e Aa At ca ct] w fun r w' => r = .returned (.bool e.saleFine) ∧ Ext w w' := by
  have la := h.la
  have lt := h.lt
  unfold maxLen at la lt
  have HR := Lib.hid (show e.saleFine = (decide ((checkTax e.tax).1 = 0) && decide (e.of_ = 0) && win (e.am.length : Int) 1 100 && e.tax.all (Tx.fits e.am)) by
    unfold Ent.saleFine
    have q1 : win (e.am.length : Int) 1 100 = manyI e.am.length := by unfold win manyI; congr 1 <;> (rw [decide_eq_decide]; omega)
    rw [q1])
  have B := Blk.new w 122 #[.int .i64 e.k, .int .i64 e.id, .int .i64 e.of_, .int .i64 e.day, .slice Aa e.am.length ca, .slice At e.tax.length ct]
  have X0 := (Ext.refl w).alloc (.cells #[.int .i64 e.k, .int .i64 e.id, .int .i64 e.of_, .int .i64 e.day, .slice Aa e.am.length ca, .slice At e.tax.length ct] 122)
  have hr := h.ra.ext X0
  have ht := h.rt.ext X0
  clear h
  go_enter Tryz.func230, Tryz.ntmps230
  go_wp2_with fail
  generalize w.alloc (.cells #[.int .i64 e.k, .int .i64 e.id, .int .i64 e.of_, .int .i64 e.day, .slice Aa e.am.length ca, .slice At e.tax.length ct] 122) = W0 at B X0 hr ht ⊢
  generalize w.heap.size = g0 at B ⊢
  refine (checkTax_any e.tax At ct _ ht (by unfold maxLen; omega)).mono ?_
  rintro r v1 ⟨rfl, hx1⟩
  have B1 := B.ext hx1
  have X1 := X0.trans hx1
  replace hr := hr.ext hx1
  replace ht := ht.ext hx1
  clear B hx1 X0
  obtain ⟨q, q'⟩ := B1.cells
  have HB := Lib.hid (fun W (h : Ext v1 W) => B1.ext h)
  clear B1
  have HC := Lib.hid (fun (h : (checkTax e.tax).1 = 0) => checkTax_mem h)
  generalize (checkTax e.tax).1 = c at *
  generalize (checkTax e.tax).2 = c2 at *
  have HR1 := HR.out
  clear HR
  by_cases d0 : c = 0
  case neg =>
    simp only [d0, decide_false, Bool.false_and] at HR1
    replace HR1 := Lib.hid HR1
    clear hr ht HB HC
    go_wp2_with fail
    go_ret
    exact ⟨by rw [HR1.out]; rfl, X1⟩
  subst d0
  by_cases d1 : e.of_ = 0
  case neg =>
    simp only [d1, decide_false, decide_true, Bool.false_and, Bool.and_false] at HR1
    replace HR1 := Lib.hid HR1
    clear hr ht HB HC
    go_wp2_with fail
    go_ret
    exact ⟨by rw [HR1.out]; rfl, X1⟩
  cases d2 : win (e.am.length : Int) 1 100
  case false =>
    simp only [d1, d2, decide_true, Bool.false_and, Bool.and_false] at HR1
    replace HR1 := Lib.hid HR1
    replace d2 := Lib.hid d2
    clear hr ht HB HC
    go_wp2_with fail
    refine (many_any e.am.length Aa ca _ (by omega)).mono ?_
    rintro r w' ⟨rfl, rfl⟩
    rw [d2.out]
    go_wp2_with fail
    go_ret
    exact ⟨by rw [HR1.out]; rfl, X1⟩
  simp only [d1, d2, decide_true, Bool.true_and] at HR1
  replace HR1 := Lib.hid HR1
  replace d2 := Lib.hid d2
  have hm := HC.out rfl
  replace hm := Lib.hid hm
  clear HC
  go_wp2_with fail
  refine (many_any e.am.length Aa ca _ (by omega)).mono ?_
  rintro r w' ⟨rfl, rfl⟩
  rw [d2.out]
  go_wp2_with fail
  clear q q'
  go_loopw [33] (fun i wr => SameRel v1 e.tax.length (fun j => ∀ h : j < e.tax.length, Tx.fits e.am e.tax[j] = true) i wr) (fun i _ => e.tax.length - (intOf i).toNat)
  case atStart => exact ⟨0, by omega, rfl, Ext.refl _, fun j hj => by omega⟩
  case round =>
    obtain ⟨k, hk, rfl, hx, hP⟩ := hrel
    have HP := Lib.hid hP
    clear hP
    obtain ⟨q, q'⟩ := (HB.out _ hx).cells
    have lg0 := (HB.out _ hx).lt
    by_cases hlt : k < e.tax.length
    · have hd : decide ((k : Int) < (e.tax.length : Int)) = true := by simp; omega
      obtain ⟨g, off, rfl, hg, hc⟩ := (ht.extB (Nat.le_refl _) hx).cellAt hlt
      obtain ⟨e1, e2, e3, e4, e5, e6⟩ := txCells_at e.tax k hlt
      have c1 := hc _ _ e1
      have c2 : wr.cell? ⟨g, off + k * 6 + 1, none⟩ = _ := hc _ _ e2
      have c3 : wr.cell? ⟨g, off + k * 6 + 2, none⟩ = _ := hc _ _ e3
      have c4 : wr.cell? ⟨g, off + k * 6 + 3, none⟩ = _ := hc _ _ e4
      have c5 : wr.cell? ⟨g, off + k * 6 + 4, none⟩ = _ := hc _ _ e5
      have c6 : wr.cell? ⟨g, off + k * 6 + 5, none⟩ = _ := hc _ _ e6
      have hgl : g < wr.heap.size := Nat.lt_of_lt_of_le hg hx.size
      clear hc e1 e2 e3 e4 e5 e6
      have hok := hm.out e.tax[k] (List.getElem_mem hlt)
      obtain ⟨b1, b2, b3, b4, b5, b6⟩ := Tx.ok_bd hok
      have HF := Lib.hid (rfl : Tx.fits e.am e.tax[k] = Tx.fits e.am e.tax[k])
      have HK := Lib.hid (fun (W : World) (hW : Ext v1 W) (hf : Tx.fits e.am e.tax[k] = true) => SameRel.next (P := fun j => ∀ h : j < e.tax.length, Tx.fits e.am e.tax[j] = true) (m := k + 1) hlt hW HP.out (fun _ => hf) rfl)
      have HN := Lib.hid (fun (hf : Tx.fits e.am e.tax[k] = false) => (show e.tax.all (Tx.fits e.am) = false from by rw [List.all_eq_false]; exact ⟨_, List.getElem_mem hlt, by simp [hf]⟩))
      generalize e.tax[k] = x at *
      obtain ⟨n, hn⟩ := Int.eq_ofNat_of_zero_le b1.1
      have hn' : x.l.toNat = n := by omega
      rw [hn] at c1
      have hz0 : (0 : Int) ≤ (n : Int) := Int.natCast_nonneg n
      have HX := Lib.hid (hx.alloc (.cells #[.int .i64 n, .int .i64 x.j, .int .i64 x.t, .int .i64 x.x, .int .i64 x.r, .int .i64 x.v] 117))
      by_cases hna : n < e.am.length
      · obtain ⟨ga, oa, rfl, hga, ca1⟩ := reads_int (hr.extB (Nat.le_refl _) hx) hna rfl
        have hga' : ga < wr.heap.size := Nat.lt_of_lt_of_le hga hx.size
        have hz1 : (n : Int) < (e.am.length : Int) := by omega
        have hge : decide ((e.am.length : Int) ≤ (n : Int)) = false := by simp; omega
        have hgeN : decide (e.am.length ≤ n) = false := by simp; omega
        have hget : e.am.getD n 0 = e.am[n] := by simp [List.getD, hna]
        have hfit : Tx.fits e.am x = decide (x.t + x.x = e.am[n]) := by unfold Tx.fits; rw [hn', hget]; simp [hna]
        have hs : RowKit.wrap64 (x.t + x.x) = x.t + x.x := by unfold RowKit.wrap64; omega
        rw [hfit] at HK HN
        generalize e.am[n] = y at *
        clear hr ht HB hok b1 b2 b5 b6 hn hn' hfit hget
        by_cases hy : x.t + x.x = y
        · have hq : (x.t + x.x != y) = false := by simp [hy]
          have HK2 := Lib.hid (fun W hW => HK.out W hW (by simpa using hy))
          clear HK HN hy
          go_wp2_with fail
          go_quiet (fail)
          go_wp2_with fail
          go_roundw
          case rel => exact HK2.out _ (HX.out.drewN _)
          case measure => simp [intOf]; omega
        · have hq : (x.t + x.x != y) = true := by simpa using hy
          have HN2 := Lib.hid (HN.out (by simpa using hy))
          clear HK HN hy
          go_wp2_with fail
          go_quiet (fail)
          go_wp2_with fail
          go_ret
          exact ⟨by rw [HR1.out, HN2.out]; rfl, X1.trans (HX.out.drewN _)⟩
      · have hge : decide ((e.am.length : Int) ≤ (n : Int)) = true := by simp; omega
        have hgeN : decide (e.am.length ≤ n) = true := by simp; omega
        have HN2 := Lib.hid (HN.out (by unfold Tx.fits; rw [hn']; simp [hna]))
        clear hr ht HB hok b1 b2 b5 b6 hn hn' HK HN
        go_wp2_with fail
        go_quiet (fail)
        go_wp2_with fail
        go_ret
        exact ⟨by rw [HR1.out, HN2.out]; rfl, X1.trans (HX.out.drewN _)⟩
    · have hd : decide ((k : Int) < (e.tax.length : Int)) = false := by simp; omega
      have HA := Lib.hid (show e.tax.all (Tx.fits e.am) = true by
        rw [List.all_eq_true]
        intro x hx
        obtain ⟨j, hj, rfl⟩ := List.mem_iff_getElem.1 hx
        exact HP.out j (by omega) hj)
      clear ht hr HB
      go_wp2_with fail
      go_ret
      exact ⟨by rw [HR1.out, HA.out]; rfl, X1.trans hx⟩
end Go.Proofs.YtokakpbpenndlaaGreatDoor

set_option linter.unusedVariables false
namespace Go.Proofs.YtokakpbpenndlaaGreatDoor
open Go.RowKit Go.Maps

/-- An entry by its kind. -/
def ofV (k : Int) (v : Value) : Value := if k = 1 then .iface 122 v else if k = 2 then .iface 123 v else if k = 3 then .iface 126 v else .nilIface
set_option maxRecDepth 100000 in
set_option maxHeartbeats 1000000 in
theorem of_any (e : Ent) (Aa At : Option Addr) (ca ct : Nat) (w : World) :
    Calls Tryz.prog 61 #[entV e Aa At ca ct] w fun r w' => r = .returned (ofV e.k (entV e Aa At ca ct)) ∧ Ext w w' := by
  unfold ofV
  obtain ⟨k, i, o, d, am, tx⟩ := e
  dsimp only
  by_cases h1 : k = 1
  · rw [if_pos h1]
    subst h1
    go_enter Tryz.func61, Tryz.ntmps61
    go_wp2
    go_ret
    exact ⟨rfl, (Ext.refl _).alloc _⟩
  rw [if_neg h1]
  by_cases h2 : k = 2
  · rw [if_pos h2]
    subst h2
    go_enter Tryz.func61, Tryz.ntmps61
    go_wp2
    go_ret
    exact ⟨rfl, (Ext.refl _).alloc _⟩
  rw [if_neg h2]
  by_cases h3 : k = 3
  · rw [if_pos h3]
    subst h3
    go_enter Tryz.func61, Tryz.ntmps61
    go_wp2
    go_ret
    exact ⟨rfl, (Ext.refl _).alloc _⟩
  rw [if_neg h3]
  have q1 : (k == 1) = false := by simpa using h1
  have q2 : (k == 2) = false := by simpa using h2
  have q3 : (k == 3) = false := by simpa using h3
  go_enter Tryz.func61, Tryz.ntmps61
  go_wp2
  go_ret
  exact ⟨rfl, (Ext.refl _).alloc _⟩
end Go.Proofs.YtokakpbpenndlaaGreatDoor

set_option linter.unusedVariables false
namespace Go.Proofs.YtokakpbpenndlaaGreatDoor
open Go.RowKit Go.Maps

set_option maxRecDepth 100000 in
set_option maxHeartbeats 2000000 in
theorem bcheck_any (e : Ent) (Aa At : Option Addr) (ca ct : Nat) (w : World) (h : EntR w e Aa At) :
    Calls Tryz.prog 102 #[entV e Aa At ca ct] w fun r w' => r = .returned (.int .i64 e.check) ∧ Ext w w' := by
  have la := h.la
  unfold maxLen at la
  have HR := Lib.hid (show e.check = if e.head = false ∨ e.ams = false then 5 else if e.fine = false then 2 else 0 by rfl)
  have HH := Lib.hid (show e.head = (win e.id 1 1099511627775 && win e.of_ 0 1099511627775 && win e.day 0 3652058) by rfl)
  have B := Blk.new w 52 #[.int .i64 e.k, .int .i64 e.id, .int .i64 e.of_, .int .i64 e.day, .slice Aa e.am.length ca, .slice At e.tax.length ct]
  have X0 := (Ext.refl w).alloc (.cells #[.int .i64 e.k, .int .i64 e.id, .int .i64 e.of_, .int .i64 e.day, .slice Aa e.am.length ca, .slice At e.tax.length ct] 52)
  replace h := h.ext X0
  have hr := h.ra
  replace h := Lib.hid h
  by_cases hh : e.head = false
  · have HE := Lib.hid (HR.out.trans (if_pos (.inl hh)))
    clear HR hr h
    have HH1 := HH.out
    rw [hh] at HH1
    clear HH hh
    cases w1 : win e.id 1 1099511627775
    case' true =>
      cases w2 : win e.of_ 0 1099511627775
      case' true =>
        cases w3 : win e.day 0 3652058
        case' true => rw [w1, w2, w3] at HH1; cases HH1
    all_goals
      clear HH1
      go_enter Tryz.func102, Tryz.ntmps102
      go_wp2_with (go_at_call 140; refine (bwithin_any _ _ _ _).mono ?_; rintro e w' ⟨rfl, rfl⟩)
      go_ret
      exact ⟨by rw [HE.out]; rfl, X0⟩
  have hh' : e.head = true := by simpa using hh
  have HH1 := HH.out
  rw [hh'] at HH1
  replace HH1 := HH1.symm
  rw [Bool.and_eq_true, Bool.and_eq_true] at HH1
  obtain ⟨⟨w1, w2⟩, w3⟩ := HH1
  replace hh := Lib.hid hh
  clear HH hh'
  go_enter Tryz.func102, Tryz.ntmps102
  go_wp2_with (go_at_call 140; refine (bwithin_any _ _ _ _).mono ?_; rintro e w' ⟨rfl, rfl⟩)
  clear w1 w2 w3
  generalize w.alloc (.cells #[.int .i64 e.k, .int .i64 e.id, .int .i64 e.of_, .int .i64 e.day, .slice Aa e.am.length ca, .slice At e.tax.length ct] 52) = W0 at B X0 hr h ⊢
  generalize w.heap.size = g0 at B ⊢
  have HB := Lib.hid (fun W (h : Ext W0 W) => B.ext h)
  clear B
  go_loopw [25] (fun i wr => SameRel W0 e.am.length (fun j => ∀ h : j < e.am.length, win e.am[j] 0 4611686018427387904 = true) i wr) (fun i _ => e.am.length - (intOf i).toNat)
  case atStart => exact ⟨0, by omega, rfl, Ext.refl _, fun j hj => by omega⟩
  case round =>
    obtain ⟨k, hk, rfl, hx, hP⟩ := hrel
    have HP := Lib.hid hP
    clear hP
    by_cases hlt : k < e.am.length
    · have hd : decide ((k : Int) < (e.am.length : Int)) = true := by simp; omega
      obtain ⟨g, off, rfl, hg, c1⟩ := reads_int (hr.extB (Nat.le_refl _) hx) hlt rfl
      have HK := Lib.hid (fun (W : World) (hW : Ext W0 W) (hf : win e.am[k] 0 4611686018427387904 = true) => SameRel.next (P := fun j => ∀ h : j < e.am.length, win e.am[j] 0 4611686018427387904 = true) (m := k + 1) hlt hW HP.out (fun _ => hf) rfl)
      have HN := Lib.hid (fun (hf : win e.am[k] 0 4611686018427387904 = false) => (show e.ams = false from by unfold Ent.ams; rw [List.all_eq_false]; exact ⟨_, List.getElem_mem hlt, by simp [hf]⟩))
      clear hr HB HP
      generalize e.am[k] = x at *
      cases wx : win x 0 4611686018427387904
      · have HE := Lib.hid (HR.out.trans (if_pos (.inr (HN.out wx))))
        clear HK HN HR
        go_wp2_with (go_at_call 140; refine (bwithin_any _ _ _ _).mono ?_; rintro e w' ⟨rfl, rfl⟩)
        go_ret
        exact ⟨by rw [HE.out]; rfl, X0.trans hx⟩
      · have HK2 := Lib.hid (fun W hW => HK.out W hW wx)
        clear HK HN HR
        go_wp2_with (go_at_call 140; refine (bwithin_any _ _ _ _).mono ?_; rintro e w' ⟨rfl, rfl⟩)
        go_roundw
        case rel => exact HK2.out _ hx
        case measure => simp [intOf]; omega
    · have hd : decide ((k : Int) < (e.am.length : Int)) = false := by simp; omega
      have ham : e.ams = true := by
        unfold Ent.ams
        rw [List.all_eq_true]
        intro x hx
        obtain ⟨j, hj, rfl⟩ := List.mem_iff_getElem.1 hx
        exact HP.out j (by omega) hj
      have HR2 := Lib.hid (HR.out.trans (if_neg (by rw [ham]; simpa using hh.out)))
      replace ham := Lib.hid ham
      obtain ⟨q, q'⟩ := (HB.out _ hx).cells
      have H1 := h.out.ext hx
      replace H1 := Lib.hid H1
      have X1 := X0.trans hx
      clear hr HB HP HR h hx X0
      go_wp2_with fail
      refine (of_any e Aa At ca ct _).mono ?_
      rintro r v1 ⟨rfl, hx1⟩
      have HV := Lib.hid hx1
      have HF := Lib.hid (show e.fine = if e.k = 1 then e.saleFine else if e.k = 2 then e.refundFine else if e.k = 3 then e.voidFine else false by rfl)
      have X2 := X1.trans hx1
      replace H1 := Lib.hid (H1.out.ext hx1)
      clear hx1 HV q q'
      have HR3 := HR2.out
      clear HR2
      by_cases h1 : e.k = 1
      · have hv : ofV e.k (entV e Aa At ca ct) = .iface 122 (entV e Aa At ca ct) := by unfold ofV; rw [if_pos h1]
        rw [hv]
        rw [HF.out, if_pos h1] at HR3
        replace HR3 := Lib.hid HR3
        have hm := fun W : World => (show (method 315 122 (entV e Aa At ca ct) "apportion/book.fine").run Tryz.prog W = .ok (230, entV e Aa At ca ct) W by kernel_rfl)
        clear hv HF h1
        go_wp2_with fail
        refine (saleFine_any e Aa At ca ct _ H1.out).mono ?_
        rintro r v2 ⟨rfl, hx2⟩
        have X3 := X2.trans hx2
        cases hb : e.saleFine
        · rw [hb] at HR3
          go_wp2_with fail
          go_ret
          exact ⟨by rw [HR3.out]; rfl, X3⟩
        · rw [hb] at HR3
          go_wp2_with fail
          go_ret
          exact ⟨by rw [HR3.out]; rfl, X3⟩
      by_cases h2 : e.k = 2
      · have hv : ofV e.k (entV e Aa At ca ct) = .iface 123 (entV e Aa At ca ct) := by unfold ofV; rw [if_neg h1, if_pos h2]
        rw [hv]
        rw [HF.out, if_neg h1, if_pos h2] at HR3
        replace HR3 := Lib.hid HR3
        have hm := fun W : World => (show (method 315 123 (entV e Aa At ca ct) "apportion/book.fine").run Tryz.prog W = .ok (234, entV e Aa At ca ct) W by kernel_rfl)
        clear hv HF h1 h2
        go_wp2_with fail
        refine (refundFine_any e Aa At ca ct _ H1.out).mono ?_
        rintro r v2 ⟨rfl, hx2⟩
        have X3 := X2.trans hx2
        cases hb : e.refundFine
        · rw [hb] at HR3
          go_wp2_with fail
          go_ret
          exact ⟨by rw [HR3.out]; rfl, X3⟩
        · rw [hb] at HR3
          go_wp2_with fail
          go_ret
          exact ⟨by rw [HR3.out]; rfl, X3⟩
      by_cases h3 : e.k = 3
      · have hv : ofV e.k (entV e Aa At ca ct) = .iface 126 (entV e Aa At ca ct) := by unfold ofV; rw [if_neg h1, if_neg h2, if_pos h3]
        rw [hv]
        rw [HF.out, if_neg h1, if_neg h2, if_pos h3] at HR3
        replace HR3 := Lib.hid HR3
        have hm := fun W : World => (show (method 315 126 (entV e Aa At ca ct) "apportion/book.fine").run Tryz.prog W = .ok (235, entV e Aa At ca ct) W by kernel_rfl)
        clear hv HF h1 h2 h3
        go_wp2_with fail
        refine (voidFine_any e Aa At ca ct _ H1.out).mono ?_
        rintro r v2 ⟨rfl, hx2⟩
        have X3 := X2.trans hx2
        cases hb : e.voidFine
        · rw [hb] at HR3
          go_wp2_with fail
          go_ret
          exact ⟨by rw [HR3.out]; rfl, X3⟩
        · rw [hb] at HR3
          go_wp2_with fail
          go_ret
          exact ⟨by rw [HR3.out]; rfl, X3⟩
      have hv : ofV e.k (entV e Aa At ca ct) = .nilIface := by unfold ofV; rw [if_neg h1, if_neg h2, if_neg h3]
      rw [hv]
      rw [HF.out, if_neg h1, if_neg h2, if_neg h3] at HR3
      replace HR3 := Lib.hid HR3
      clear hv HF h1 h2 h3
      go_wp2_with fail
      go_ret
      exact ⟨by rw [HR3.out]; rfl, X2⟩
end Go.Proofs.YtokakpbpenndlaaGreatDoor
