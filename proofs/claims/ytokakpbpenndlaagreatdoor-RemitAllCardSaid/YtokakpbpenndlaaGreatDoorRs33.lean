/-
  juris: the place of a number, Find, parent.
-/
import Derived.Test.YtokakpbpenndlaaGreatDoorRs30
import Derived.Test.YtokakpbpenndlaaGreatDoorRs07
import Derived.Test.YtokakpbpenndlaaGreatDoorProg
import Derived.Test.YtokakpbpenndlaaGreatDoorRs05
import Derived.Deep.QuietTactic
import Derived.Deep.RegionHeld3
import Derived.IntWalk
import Derived.Outline
set_option linter.unusedVariables false
namespace Go.Proofs.YtokakpbpenndlaaGreatDoor
open Go.RowKit Go.Maps

/-- A jurisdiction in memory: the numbers, and where its rings lie. -/
structure JV where
  j : Jur
  A : Option Addr
  n : Nat
  c : Nat
def JV.cl (x : JV) : List Value := [.int .i64 x.j.id, .int .i64 x.j.k, .int .i64 x.j.par, .int .i64 x.j.f, .slice x.A x.n x.c]
theorem JV.cl_len (x : JV) : x.cl.length = 5 := rfl
def JV.zero : JV := ⟨Jur.zero, none, 0, 0⟩
abbrev JV.v (x : JV) : Value := .agg #[.int .i64 x.j.id, .int .i64 x.j.k, .int .i64 x.j.par, .int .i64 x.j.f, .slice x.A x.n x.c]
def jvCells (l : List JV) : List Value := l.flatMap JV.cl
def jsOf (l : List JV) : List Jur := l.map JV.j
theorem jsOf_len (l : List JV) : (jsOf l).length = l.length := by simp [jsOf]
theorem jsOf_at (l : List JV) (k : Nat) (h : k < l.length) : (jsOf l).getD k Jur.zero = l[k].j := by simp [jsOf, List.getD, h]
theorem jvCells_at (l : List JV) (k : Nat) (h : k < l.length) : (jvCells l)[k * 5]? = some (.int .i64 l[k].j.id) ∧ (jvCells l)[k * 5 + 1]? = some (.int .i64 l[k].j.k) ∧ (jvCells l)[k * 5 + 2]? = some (.int .i64 l[k].j.par) ∧
    (jvCells l)[k * 5 + 3]? = some (.int .i64 l[k].j.f) ∧ (jvCells l)[k * 5 + 4]? = some (.slice l[k].A l[k].n l[k].c) :=
  ⟨flat_get JV.cl_len l k 0 h (by decide), flat_get JV.cl_len l k 1 h (by decide), flat_get JV.cl_len l k 2 h (by decide), flat_get JV.cl_len l k 3 h (by decide), flat_get JV.cl_len l k 4 h (by decide)⟩
/-- The cells of the k-th jurisdiction. -/
theorem jv_at {w : World} {A : Option Addr} {l : List JV} (hr : Reads w w.heap.size 5 A l.length (jvCells l)) {k : Nat} (hk : k < l.length) : ∃ g off, A = some ⟨g, off, none⟩ ∧ g < w.heap.size ∧ ∀ W, Ext w W →
    W.cell? ⟨g, off + k * 5, none⟩ = some (.int .i64 l[k].j.id) ∧ W.cell? ⟨g, off + k * 5 + 1, none⟩ = some (.int .i64 l[k].j.k) ∧ W.cell? ⟨g, off + k * 5 + 2, none⟩ = some (.int .i64 l[k].j.par) ∧
    W.cell? ⟨g, off + k * 5 + 3, none⟩ = some (.int .i64 l[k].j.f) ∧ W.cell? ⟨g, off + k * 5 + 4, none⟩ = some (.slice l[k].A l[k].n l[k].c) := by
  obtain ⟨g, off, rfl, hg, hc⟩ := hr.cellAt hk
  obtain ⟨e1, e2, e3, e4, e5⟩ := jvCells_at l k hk
  refine ⟨g, off, rfl, hg, fun W hx => ?_⟩
  rw [hx.cell _ _ _ hg, hx.cell _ _ _ hg, hx.cell _ _ _ hg, hx.cell _ _ _ hg, hx.cell _ _ _ hg]
  exact ⟨hc _ _ e1, hc _ _ e2, hc _ _ e3, hc _ _ e4, hc _ _ e5⟩

set_option maxRecDepth 100000 in
theorem jis_any (x : JV) (id : Int) (g : Nat) (w : World) (h : w.cell? ⟨g, 0, none⟩ = some (.int .i64 id)) (hg : g < w.heap.size) : Calls Tryz.prog 151 #[x.v, .pointer (some ⟨g, 0, none⟩)] w fun e w' => e = .returned (.bool (decide (x.j.id = id))) ∧ Ext w w' := by
  have h2 := (((Ext.refl w).alloc (.cells #[.int .i64 x.j.id, .int .i64 x.j.k, .int .i64 x.j.par, .int .i64 x.j.f, .slice x.A x.n x.c] 83)).cell g 0 none hg).trans h
  clear h
  go_enter Tryz.func151, Tryz.ntmps151
  go_wp2
  go_ret
  exact ⟨ret_bool (by by_cases e : x.j.id = id <;> simp [e]), (Ext.refl w).alloc _⟩
def JpRel (w : World) (l : List JV) (id : Int) (i : Value) (wr : World) : Prop := ∃ k : Nat, k ≤ l.length ∧ i = .int .i64 (k : Int) ∧ (∀ i, i < k → ((jsOf l).getD i Jur.zero).id ≠ id) ∧ Ext w wr
set_option maxRecDepth 100000 in
set_option maxHeartbeats 1000000 in
theorem jindex_any (l : List JV) (id : Int) (g0 : Nat) (A : Option Addr) (cap : Nat) (w : World) (hr : Reads w w.heap.size 5 A l.length (jvCells l)) (hm : l.length ≤ maxLen) (h0 : w.cell? ⟨g0, 0, none⟩ = some (.int .i64 id)) (hg0 : g0 < w.heap.size) :
    Calls Tryz.prog 150 #[.slice A l.length cap, .func (.func 151) #[] #[.pointer (some ⟨g0, 0, none⟩)]] w fun e w' => e = .returned (.int .i64 (placeJ (jsOf l) id)) ∧ Ext w w' := by
  unfold maxLen at hm
  have H0 := Lib.hid h0
  clear h0
  go_enter Tryz.func150, Tryz.ntmps150
  go_wp2_with fail
  go_loopw [8] (fun i wr => JpRel w l id i wr) (fun i _ => l.length - (intOf i).toNat)
  case atStart => exact ⟨0, by omega, rfl, fun i hi => absurd hi (by omega), Ext.refl _⟩
  case round =>
    obtain ⟨k, hk, rfl, hP, hx⟩ := hrel
    by_cases hlt : k < l.length
    · have hd : decide ((k : Int) < (l.length : Int)) = true := by simp; omega
      obtain ⟨g, off, rfl, hg, hc⟩ := jv_at hr hlt
      obtain ⟨c1, c2, c3, c4, c5⟩ := hc wr hx
      have kl : (k : Int) < (l.length : Int) := by omega
      have kz : (0 : Int) ≤ (k : Int) := by omega
      have HI := Lib.hid (fun h => (placeJ_at (l := jsOf l) (id := id) (k := k) (by rw [jsOf_len]; exact hlt) hP h).1)
      have HK := Lib.hid (fun (h : l[k].j.id ≠ id) (W : World) (hx : Ext w W) => (show JpRel w l id (.int .i64 ((k + 1 : Nat) : Int)) W from ⟨k + 1, by omega, rfl, fun i hi => by
        by_cases e : i = k
        · subst e; rw [jsOf_at l i hlt]; exact h
        · exact hP i (by omega), hx⟩))
      have hj : ((jsOf l).getD k Jur.zero).id = l[k].j.id := by rw [jsOf_at l k hlt]
      rw [hj] at HI
      clear hc hr hP hj
      generalize l[k] = x at *
      go_wp2_with fail
      refine (jis_any x id g0 _ ((hx.cell g0 0 none hg0).trans H0.out) (Nat.lt_of_lt_of_le hg0 hx.size)).mono ?_
      rintro e w' ⟨rfl, hx2⟩
      by_cases hi : x.j.id = id
      · have HI2 := Lib.hid (HI.out hi)
        have hb : decide (x.j.id = id) = true := by simpa using hi
        clear HI HK hi
        go_wp2_with fail
        go_ret
        exact ⟨by rw [HI2.out]; rfl, hx.trans hx2⟩
      · have HK2 := Lib.hid (HK.out hi _ (hx.trans hx2))
        have hb : decide (x.j.id = id) = false := by simpa using hi
        clear HI HK hi
        go_wp2_with fail
        go_roundw
        case rel => exact HK2.out
        case measure => simp [intOf]; omega
    · have hd : decide ((k : Int) < (l.length : Int)) = false := by simp; omega
      have HA := Lib.hid (placeJ_none (l := jsOf l) (id := id) (fun i hi => hP i (by rw [jsOf_len] at hi; omega))).1
      clear hP hr
      go_wp2_with fail
      go_ret
      exact ⟨by rw [HA.out]; rfl, hx⟩
set_option maxRecDepth 100000 in
theorem jplace_any (l : List JV) (id : Int) (A : Option Addr) (cap : Nat) (w : World) (hr : Reads w w.heap.size 5 A l.length (jvCells l)) (hm : l.length ≤ maxLen) :
    Calls Tryz.prog 112 #[.slice A l.length cap, .int .i64 id] w fun e w' => e = .returned (.int .i64 (placeJ (jsOf l) id)) ∧ Ext w w' := by
  have X := (Ext.refl w).alloc (.cells #[.int .i64 id] 3)
  have HR := Lib.hid (hr.ext X)
  have HB := Lib.hid (Blk.new w 3 #[.int .i64 id])
  clear hr
  go_enter Tryz.func112, Tryz.ntmps112
  go_wp2_with fail
  refine (jindex_any l id w.heap.size A cap _ HR.out hm (HB.out.cell 0) HB.out.lt).mono ?_
  rintro e w' ⟨rfl, hx⟩
  go_wp2_with fail
  go_ret
  exact ⟨rfl, X.trans hx⟩
end Go.Proofs.YtokakpbpenndlaaGreatDoor

set_option linter.unusedVariables false
namespace Go.Proofs.YtokakpbpenndlaaGreatDoor
open Go.RowKit Go.Maps

theorem ld_jur {w : World} {g : Nat} {a b c d e : Value} (h : Blk w g 83 #[a, b, c, d, e]) : (loadVar 83 ⟨g, 0, none⟩).run Tryz.prog w = .ok (.agg #[a, b, c, d, e]) w := by
  have q := h.cell
  simp [go_sem, q]
theorem put5 {w : World} {g : Nat} {t : TypeId} {a b c d e a' b' c' d' e' : Value} (h : Blk w g t #[a, b, c, d, e]) : Blk (((((w.setCell ⟨g, 0, none⟩ a').setCell ⟨g, 1, none⟩ b').setCell ⟨g, 2, none⟩ c').setCell ⟨g, 3, none⟩ d').setCell ⟨g, 4, none⟩ e') g t #[a', b', c', d', e'] := by
  have := ((((h.set_ 0 a').set_ 1 b').set_ 2 c').set_ 3 d').set_ 4 e'
  simpa using this
theorem ext5 {a w : World} {g : Nat} {t : TypeId} (hx : Ext a w) (hg : a.heap.size ≤ g) (v0 v1 v2 v3 v4 : Value) : Ext a (((((w.setCell ⟨g, 0, none⟩ v0).setCell ⟨g, 1, none⟩ v1).setCell ⟨g, 2, none⟩ v2).setCell ⟨g, 3, none⟩ v3).setCell ⟨g, 4, none⟩ v4) :=
  ((((hx.set (p := ⟨g, 0, none⟩) hg _).set (p := ⟨g, 1, none⟩) hg _).set (p := ⟨g, 2, none⟩) hg _).set (p := ⟨g, 3, none⟩) hg _).set (p := ⟨g, 4, none⟩) hg _
/-- What is found. -/
def findV (l : List JV) (id : Int) : Option JV := l.find? fun x => decide (x.j.id = id)
theorem findV_j (l : List JV) (id : Int) : findJ (jsOf l) id = (findV l id).map JV.j := by
  unfold findJ findV jsOf
  rw [List.find?_map]
  rfl
theorem findV_cases (l : List JV) (id : Int) : (placeJ (jsOf l) id = -1 ∧ findV l id = none) ∨ ∃ k, ∃ h : k < l.length, placeJ (jsOf l) id = (k : Int) ∧ findV l id = some l[k] := by
  induction l with
  | nil => exact .inl ⟨rfl, rfl⟩
  | cons x l ih =>
    by_cases h0 : x.j.id = id
    · refine .inr ⟨0, by simp, ?_, ?_⟩
      · show placeJ (x.j :: jsOf l) id = _
        unfold placeJ
        rw [if_pos h0]
        rfl
      · unfold findV
        rw [List.find?_cons]
        simp [h0]
    · rcases ih with ⟨a, b⟩ | ⟨k, hk, a, b⟩
      · refine .inl ⟨?_, ?_⟩
        · show placeJ (x.j :: jsOf l) id = _
          unfold placeJ
          rw [if_neg h0, a]
          rfl
        · unfold findV at b ⊢
          rw [List.find?_cons]
          simp [h0, b]
      · refine .inr ⟨k + 1, by simpa using hk, ?_, ?_⟩
        · show placeJ (x.j :: jsOf l) id = _
          unfold placeJ
          rw [if_neg h0, a, if_neg (by omega)]
          omega
        · unfold findV at b ⊢
          rw [List.find?_cons]
          simp [h0, b]
def foundV (o : Option JV) : JV := o.getD JV.zero
set_option maxRecDepth 100000 in
set_option maxHeartbeats 1000000 in
theorem jfind_any (l : List JV) (id : Int) (A : Option Addr) (cap : Nat) (w : World) (hr : Reads w w.heap.size 5 A l.length (jvCells l)) (hm : l.length ≤ maxLen) :
    Calls Tryz.prog 69 #[.slice A l.length cap, .int .i64 id] w fun e w' => e = .returned (.tuple #[(foundV (findV l id)).v, .bool (findV l id).isSome]) ∧ Ext w w' := by
  have B0 := Blk.new w 83 #[.int .i64 0, .int .i64 0, .int .i64 0, .int .i64 0, .slice none 0 0]
  have X0 := (Ext.refl w).alloc (.cells #[.int .i64 0, .int .i64 0, .int .i64 0, .int .i64 0, .slice none 0 0] 83)
  have HR := Lib.hid (fun W (hx : Ext w W) => hr.ext hx)
  have HB := Lib.hid B0
  unfold maxLen at hm
  have hm' : l.length ≤ maxLen := by unfold maxLen; omega
  rcases findV_cases l id with ⟨a, b⟩ | ⟨k, hk, a, b⟩
  · rw [b]
    replace b := Lib.hid b
    replace a := Lib.hid a
    clear hr B0
    go_enter Tryz.func69, Tryz.ntmps69
    go_wp2_with fail
    refine (jplace_any l id A cap _ (HR.out _ X0) hm').mono ?_
    rintro e w1 ⟨rfl, hx1⟩
    rw [a.out]
    have B1 := HB.out.ext hx1
    have X1 := X0.trans hx1
    obtain ⟨q, q'⟩ := B1.cells
    go_wp2_with fail
    exact bodyPost_ret (results_ct rfl rfl (ld_jur (put5 B1))) rfl ⟨rfl, ext5 (t := 83) X1 (Nat.le_refl _) _ _ _ _ _⟩
  · rw [b]
    obtain ⟨g, off, rfl, hg, hc⟩ := jv_at hr hk
    have HC := Lib.hid hc
    have hd : decide ((k : Int) < 0) = false := by simp
    have kl : (k : Int) < (l.length : Int) := by omega
    have kz : (0 : Int) ≤ (k : Int) := by omega
    replace b := Lib.hid b
    replace a := Lib.hid a
    clear hr B0 hc
    generalize l[k] = x at *
    go_enter Tryz.func69, Tryz.ntmps69
    go_wp2_with fail
    refine (jplace_any l id (some ⟨g, off, none⟩) cap _ (HR.out _ X0) hm').mono ?_
    rintro e w1 ⟨rfl, hx1⟩
    rw [a.out]
    have B1 := HB.out.ext hx1
    have X1 := X0.trans hx1
    obtain ⟨q, q'⟩ := B1.cells
    obtain ⟨c1, c2, c3, c4, c5⟩ := HC.out _ X1
    go_wp2_with fail
    exact bodyPost_ret (results_ct rfl rfl (ld_jur (put5 B1))) rfl ⟨rfl, ext5 (t := 83) X1 (Nat.le_refl _) _ _ _ _ _⟩
end Go.Proofs.YtokakpbpenndlaaGreatDoor

set_option linter.unusedVariables false
namespace Go.Proofs.YtokakpbpenndlaaGreatDoor
open Go.RowKit Go.Maps

theorem parErr_find {l : List Jur} {j : Jur} (hp : j.par ≠ 0) (hk : j.k ≠ 1) : parErr l j = (match findJ l j.par with | none => 6 | some p => if j.k ≤ p.k then 9 else 0) := by
  unfold parErr
  rw [if_neg (by omega), if_neg hp]
  rfl
set_option maxRecDepth 100000 in
set_option maxHeartbeats 4000000 in
theorem jparent_any (l : List JV) (x : JV) (A : Option Addr) (cap : Nat) (w : World) (hr : Reads w w.heap.size 5 A l.length (jvCells l)) (hm : l.length ≤ maxLen) :
    Calls Tryz.prog 86 #[.slice A l.length cap, x.v] w fun e w' => e = .returned (.int .i64 (parErr (jsOf l) x.j)) ∧ Ext w w' := by
  obtain ⟨⟨id, k, par, f⟩, RA, rn, rc⟩ := x
  have B0 := Blk.new w 83 #[.int .i64 id, .int .i64 k, .int .i64 par, .int .i64 f, .slice RA rn rc]
  have X0 := (Ext.refl w).alloc (.cells #[.int .i64 id, .int .i64 k, .int .i64 par, .int .i64 f, .slice RA rn rc] 83)
  have HR := Lib.hid (fun W (hx : Ext w W) => hr.ext hx)
  have HPE := Lib.hid (show parErr (jsOf l) ⟨id, k, par, f⟩ = parErr (jsOf l) ⟨id, k, par, f⟩ from rfl)
  generalize hPE : parErr (jsOf l) ⟨id, k, par, f⟩ = E at *
  clear HPE
  have hm' := hm
  unfold maxLen at hm
  by_cases hp : par = 0
  · have q0 : (par == 0) = true := by simpa using hp
    have q0' : (par != 0) = false := by simpa using hp
    by_cases h1 : k = 1
    · subst h1
      have hE : E = 0 := by rw [← hPE]; simp [parErr, hp]
      subst hE
      replace hPE := Lib.hid hPE
      clear hr hp
      go_enter Tryz.func86, Tryz.ntmps86
      go_wp2_with fail
      go_ret
      exact ⟨rfl, X0⟩
    · have q1 : (k == 1) = false := by simpa using h1
      by_cases h2 : k = 2
      · subst h2
        have hE : E = 9 := by rw [← hPE]; simp [parErr, hp]
        subst hE
        replace hPE := Lib.hid hPE
        clear hr hp
        go_enter Tryz.func86, Tryz.ntmps86
        go_wp2_with fail
        go_ret
        exact ⟨rfl, X0⟩
      · have q2 : (k == 2) = false := by simpa using h2
        by_cases h3 : k = 3
        · subst h3
          have hE : E = 9 := by rw [← hPE]; simp [parErr, hp]
          subst hE
          replace hPE := Lib.hid hPE
          clear hr hp
          go_enter Tryz.func86, Tryz.ntmps86
          go_wp2_with fail
          go_ret
          exact ⟨rfl, X0⟩
        · have q3 : (k == 3) = false := by simpa using h3
          have hE : E = 0 := by rw [← hPE]; simp [parErr, h1, h2, h3, hp]
          subst hE
          replace hPE := Lib.hid hPE
          clear hr hp h1 h2 h3
          go_enter Tryz.func86, Tryz.ntmps86
          go_wp2_with fail
          go_ret
          exact ⟨rfl, X0⟩
  · have q0 : (par == 0) = false := by simpa using hp
    have q0' : (par != 0) = true := by simpa using hp
    by_cases h1 : k = 1
    · subst h1
      have hE : E = 9 := by rw [← hPE]; simp [parErr, hp]
      subst hE
      replace hPE := Lib.hid hPE
      clear hr hp
      go_enter Tryz.func86, Tryz.ntmps86
      go_wp2_with fail
      go_ret
      exact ⟨rfl, X0⟩
    · have q1 : (k == 1) = false := by simpa using h1
      rw [parErr_find hp h1, findV_j] at hPE
      simp only at hPE
      rcases findV_cases l par with ⟨a, b⟩ | ⟨i, hi, a, b⟩
      · rw [b] at hPE
        have hE : E = 6 := hPE.symm
        subst hE
        replace hPE := Lib.hid hPE
        replace a := Lib.hid a
        replace b := Lib.hid b
        have H := Lib.hid (jplace_any l par A cap _ (HR.out _ X0) hm')
        clear hr hp h1
        rcases (show k = 2 ∨ k = 3 ∨ ((k == 2) = false ∧ (k == 3) = false) by simp; omega) with rfl | rfl | ⟨h2, h3⟩
        all_goals
          go_enter Tryz.func86, Tryz.ntmps86
          go_wp2_with fail
          refine H.out.mono ?_
          rintro e w1 ⟨rfl, hx1⟩
          rw [a.out]
          go_wp2_with fail
          go_ret
          exact ⟨rfl, X0.trans hx1⟩
      · rw [b] at hPE
        obtain ⟨g, off, rfl, hg, hc⟩ := jv_at hr hi
        have HC := Lib.hid hc
        have hd : decide ((i : Int) < 0) = false := by simp
        have kl : (i : Int) < (l.length : Int) := by omega
        have kz : (0 : Int) ≤ (i : Int) := by omega
        replace a := Lib.hid a
        replace b := Lib.hid b
        have H := Lib.hid (jplace_any l par (some ⟨g, off, none⟩) cap _ (HR.out _ X0) hm')
        simp only [Option.map] at hPE
        clear hr hp h1 hc
        generalize l[i] = y at *
        by_cases hle : k ≤ y.j.k
        · rw [if_pos hle] at hPE
          subst hPE
          have hdl : decide (k ≤ y.j.k) = true := by simpa using hle
          rcases (show k = 2 ∨ k = 3 ∨ ((k == 2) = false ∧ (k == 3) = false) by simp; omega) with rfl | rfl | ⟨h2, h3⟩
          all_goals
            go_enter Tryz.func86, Tryz.ntmps86
            go_wp2_with fail
            refine H.out.mono ?_
            rintro e w1 ⟨rfl, hx1⟩
            rw [a.out]
            obtain ⟨c1, c2, c3, c4, c5⟩ := HC.out _ (X0.trans hx1)
            obtain ⟨q, q'⟩ := (B0.ext hx1).cells
            go_wp2_with fail
            go_quiet (fail)
            go_wp2_with fail
            go_ret
            exact ⟨rfl, (X0.trans hx1).drewN _⟩
        · rw [if_neg hle] at hPE
          subst hPE
          have hdl : decide (k ≤ y.j.k) = false := by simpa using hle
          rcases (show k = 2 ∨ k = 3 ∨ ((k == 2) = false ∧ (k == 3) = false) by simp; omega) with rfl | rfl | ⟨h2, h3⟩
          all_goals
            go_enter Tryz.func86, Tryz.ntmps86
            go_wp2_with fail
            refine H.out.mono ?_
            rintro e w1 ⟨rfl, hx1⟩
            rw [a.out]
            obtain ⟨c1, c2, c3, c4, c5⟩ := HC.out _ (X0.trans hx1)
            obtain ⟨q, q'⟩ := (B0.ext hx1).cells
            go_wp2_with fail
            go_quiet (fail)
            go_wp2_with fail
            go_ret
            exact ⟨rfl, (X0.trans hx1).drewN _⟩
end Go.Proofs.YtokakpbpenndlaaGreatDoor
