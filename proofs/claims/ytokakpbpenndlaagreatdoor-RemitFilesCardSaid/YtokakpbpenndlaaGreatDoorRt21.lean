/-
  juris: Find, parent, Check.
-/
import Derived.Test.YtokakpbpenndlaaGreatDoorRt20
import Derived.Test.YtokakpbpenndlaaGreatDoorRt02
import Derived.Deep.QuietTactic
import Derived.Deep.RegionHeld3
import Derived.IntWalk
import Derived.Outline
set_option linter.unusedVariables false
namespace Go.Proofs.YtokakpbpenndlaaGreatDoor
open Go.RowKit Go.Maps

theorem ld_jur {w : World} {g : Nat} {a b c d e : Value} (h : Blk w g 83 #[a, b, c, d, e]) : (loadVar 83 ⟨g, 0, none⟩).run Tryz.prog w = .ok (.agg #[a, b, c, d, e]) w := by
  have q := h.cell
  simp [go_sem, q]
theorem put5 {w : World} {g : Nat} {t : TypeId} {a b c d e a' b' c' d' e' : Value} (h : Blk w g t #[a, b, c, d, e]) : Blk (((((w.setCell ⟨g, 0, none⟩ a').setCell ⟨g, 1, none⟩ b').setCell ⟨g, 2, none⟩ c').setCell ⟨g, 3, none⟩ d').setCell ⟨g, 4, none⟩ e') g t #[a', b', c', d', e'] := by
  have := ((((h.set_ 0 a').set_ 1 b').set_ 2 c').set_ 3 d').set_ 4 e'
  simpa using this
theorem ext5 {a w : World} {g : Nat} {t : TypeId} (hx : Ext a w) (hg : a.heap.size ≤ g) (v0 v1 v2 v3 v4 : Value) : Ext a (((((w.setCell ⟨g, 0, none⟩ v0).setCell ⟨g, 1, none⟩ v1).setCell ⟨g, 2, none⟩ v2).setCell ⟨g, 3, none⟩ v3).setCell ⟨g, 4, none⟩ v4) :=
  ((((hx.set (p := ⟨g, 0, none⟩) hg _).set (p := ⟨g, 1, none⟩) hg _).set (p := ⟨g, 2, none⟩) hg _).set (p := ⟨g, 3, none⟩) hg _).set (p := ⟨g, 4, none⟩) hg _
/-- What is found. -/
def findV (l : List JV) (id : Int) : Option JV := l.find? fun x => decide (x.j.id = id)
theorem findV_j (l : List JV) (id : Int) : findJ (jsOf l) id = (findV l id).map JV.j := by
  unfold findJ findV jsOf
  rw [List.find?_map]
  rfl
theorem findV_cases (l : List JV) (id : Int) : (placeJ (jsOf l) id = -1 ∧ findV l id = none) ∨ ∃ k, ∃ h : k < l.length, placeJ (jsOf l) id = (k : Int) ∧ findV l id = some l[k] := by
  induction l with
  | nil => exact .inl ⟨rfl, rfl⟩
  | cons x l ih =>
    by_cases h0 : x.j.id = id
    · refine .inr ⟨0, by simp, ?_, ?_⟩
      · show placeJ (x.j :: jsOf l) id = _
        unfold placeJ
        rw [if_pos h0]
        rfl
      · unfold findV
        rw [List.find?_cons]
        simp [h0]
    · rcases ih with ⟨a, b⟩ | ⟨k, hk, a, b⟩
      · refine .inl ⟨?_, ?_⟩
        · show placeJ (x.j :: jsOf l) id = _
          unfold placeJ
          rw [if_neg h0, a]
          rfl
        · unfold findV at b ⊢
          rw [List.find?_cons]
          simp [h0, b]
      · refine .inr ⟨k + 1, by simpa using hk, ?_, ?_⟩
        · show placeJ (x.j :: jsOf l) id = _
          unfold placeJ
          rw [if_neg h0, a, if_neg (by omega)]
          omega
        · unfold findV at b ⊢
          rw [List.find?_cons]
          simp [h0, b]
def foundV (o : Option JV) : JV := o.getD JV.zero
set_option maxRecDepth 100000 in
set_option maxHeartbeats 1000000 in
theorem jfind_any (l : List JV) (id : Int) (A : Option Addr) (cap : Nat) (w : World) (hr : Reads w w.heap.size 5 A l.length (jvCells l)) (hm : l.length ≤ maxLen) :
    Calls Tryz.prog 69 #[.slice A l.length cap, .int .i64 id] w fun e w' => e = .returned (.tuple #[(foundV (findV l id)).v, .bool (findV l id).isSome]) ∧ Ext w w' := by
  have B0 := Blk.new w 83 #[.int .i64 0, .int .i64 0, .int .i64 0, .int .i64 0, .slice none 0 0]
  have X0 := (Ext.refl w).alloc (.cells #[.int .i64 0, .int .i64 0, .int .i64 0, .int .i64 0, .slice none 0 0] 83)
  have HR := Lib.hid (fun W (hx : Ext w W) => hr.ext hx)
  have HB := Lib.hid B0
  unfold maxLen at hm
  have hm' : l.length ≤ maxLen := by unfold maxLen; omega
  rcases findV_cases l id with ⟨a, b⟩ | ⟨k, hk, a, b⟩
  · rw [b]
    replace b := Lib.hid b
    replace a := Lib.hid a
    clear hr B0
    go_enter Tryz.func69, Tryz.ntmps69
    go_wp2_with fail
    refine (jplace_any l id A cap _ (HR.out _ X0) hm').mono ?_
    rintro e w1 ⟨rfl, hx1⟩
    rw [a.out]
    have B1 := HB.out.ext hx1
    have X1 := X0.trans hx1
    obtain ⟨q, q'⟩ := B1.cells
    go_wp2_with fail
    exact bodyPost_ret (results_ct rfl rfl (ld_jur (put5 B1))) rfl ⟨rfl, ext5 (t := 83) X1 (Nat.le_refl _) _ _ _ _ _⟩
  · rw [b]
    obtain ⟨g, off, rfl, hg, hc⟩ := jv_at hr hk
    have HC := Lib.hid hc
    have hd : decide ((k : Int) < 0) = false := by simp
    have kl : (k : Int) < (l.length : Int) := by omega
    have kz : (0 : Int) ≤ (k : Int) := by omega
    replace b := Lib.hid b
    replace a := Lib.hid a
    clear hr B0 hc
    generalize l[k] = x at *
    go_enter Tryz.func69, Tryz.ntmps69
    go_wp2_with fail
    refine (jplace_any l id (some ⟨g, off, none⟩) cap _ (HR.out _ X0) hm').mono ?_
    rintro e w1 ⟨rfl, hx1⟩
    rw [a.out]
    have B1 := HB.out.ext hx1
    have X1 := X0.trans hx1
    obtain ⟨q, q'⟩ := B1.cells
    obtain ⟨c1, c2, c3, c4, c5⟩ := HC.out _ X1
    go_wp2_with fail
    exact bodyPost_ret (results_ct rfl rfl (ld_jur (put5 B1))) rfl ⟨rfl, ext5 (t := 83) X1 (Nat.le_refl _) _ _ _ _ _⟩
end Go.Proofs.YtokakpbpenndlaaGreatDoor

set_option linter.unusedVariables false
namespace Go.Proofs.YtokakpbpenndlaaGreatDoor
open Go.RowKit Go.Maps

theorem parErr_find {l : List Jur} {j : Jur} (hp : j.par ≠ 0) (hk : j.k ≠ 1) : parErr l j = (match findJ l j.par with | none => 6 | some p => if j.k ≤ p.k then 9 else 0) := by
  unfold parErr
  rw [if_neg (by omega), if_neg hp]
  rfl
set_option maxRecDepth 100000 in
set_option maxHeartbeats 4000000 in
theorem jparent_any (l : List JV) (x : JV) (A : Option Addr) (cap : Nat) (w : World) (hr : Reads w w.heap.size 5 A l.length (jvCells l)) (hm : l.length ≤ maxLen) :
    Calls Tryz.prog 86 #[.slice A l.length cap, x.v] w fun e w' => e = .returned (.int .i64 (parErr (jsOf l) x.j)) ∧ Ext w w' := by
  obtain ⟨⟨id, k, par, f⟩, RA, rn, rc⟩ := x
  have B0 := Blk.new w 83 #[.int .i64 id, .int .i64 k, .int .i64 par, .int .i64 f, .slice RA rn rc]
  have X0 := (Ext.refl w).alloc (.cells #[.int .i64 id, .int .i64 k, .int .i64 par, .int .i64 f, .slice RA rn rc] 83)
  have HR := Lib.hid (fun W (hx : Ext w W) => hr.ext hx)
  have HPE := Lib.hid (show parErr (jsOf l) ⟨id, k, par, f⟩ = parErr (jsOf l) ⟨id, k, par, f⟩ from rfl)
  generalize hPE : parErr (jsOf l) ⟨id, k, par, f⟩ = E at *
  clear HPE
  have hm' := hm
  unfold maxLen at hm
  by_cases hp : par = 0
  · have q0 : (par == 0) = true := by simpa using hp
    have q0' : (par != 0) = false := by simpa using hp
    by_cases h1 : k = 1
    · subst h1
      have hE : E = 0 := by rw [← hPE]; simp [parErr, hp]
      subst hE
      replace hPE := Lib.hid hPE
      clear hr hp
      go_enter Tryz.func86, Tryz.ntmps86
      go_wp2_with fail
      go_ret
      exact ⟨rfl, X0⟩
    · have q1 : (k == 1) = false := by simpa using h1
      by_cases h2 : k = 2
      · subst h2
        have hE : E = 9 := by rw [← hPE]; simp [parErr, hp]
        subst hE
        replace hPE := Lib.hid hPE
        clear hr hp
        go_enter Tryz.func86, Tryz.ntmps86
        go_wp2_with fail
        go_ret
        exact ⟨rfl, X0⟩
      · have q2 : (k == 2) = false := by simpa using h2
        by_cases h3 : k = 3
        · subst h3
          have hE : E = 9 := by rw [← hPE]; simp [parErr, hp]
          subst hE
          replace hPE := Lib.hid hPE
          clear hr hp
          go_enter Tryz.func86, Tryz.ntmps86
          go_wp2_with fail
          go_ret
          exact ⟨rfl, X0⟩
        · have q3 : (k == 3) = false := by simpa using h3
          have hE : E = 0 := by rw [← hPE]; simp [parErr, h1, h2, h3, hp]
          subst hE
          replace hPE := Lib.hid hPE
          clear hr hp h1 h2 h3
          go_enter Tryz.func86, Tryz.ntmps86
          go_wp2_with fail
          go_ret
          exact ⟨rfl, X0⟩
  · have q0 : (par == 0) = false := by simpa using hp
    have q0' : (par != 0) = true := by simpa using hp
    by_cases h1 : k = 1
    · subst h1
      have hE : E = 9 := by rw [← hPE]; simp [parErr, hp]
      subst hE
      replace hPE := Lib.hid hPE
      clear hr hp
      go_enter Tryz.func86, Tryz.ntmps86
      go_wp2_with fail
      go_ret
      exact ⟨rfl, X0⟩
    · have q1 : (k == 1) = false := by simpa using h1
      rw [parErr_find hp h1, findV_j] at hPE
      simp only at hPE
      rcases findV_cases l par with ⟨a, b⟩ | ⟨i, hi, a, b⟩
      · rw [b] at hPE
        have hE : E = 6 := hPE.symm
        subst hE
        replace hPE := Lib.hid hPE
        replace a := Lib.hid a
        replace b := Lib.hid b
        have H := Lib.hid (jplace_any l par A cap _ (HR.out _ X0) hm')
        clear hr hp h1
        rcases (show k = 2 ∨ k = 3 ∨ ((k == 2) = false ∧ (k == 3) = false) by simp; omega) with rfl | rfl | ⟨h2, h3⟩
        all_goals
          go_enter Tryz.func86, Tryz.ntmps86
          go_wp2_with fail
          refine H.out.mono ?_
          rintro e w1 ⟨rfl, hx1⟩
          rw [a.out]
          go_wp2_with fail
          go_ret
          exact ⟨rfl, X0.trans hx1⟩
      · rw [b] at hPE
        obtain ⟨g, off, rfl, hg, hc⟩ := jv_at hr hi
        have HC := Lib.hid hc
        have hd : decide ((i : Int) < 0) = false := by simp
        have kl : (i : Int) < (l.length : Int) := by omega
        have kz : (0 : Int) ≤ (i : Int) := by omega
        replace a := Lib.hid a
        replace b := Lib.hid b
        have H := Lib.hid (jplace_any l par (some ⟨g, off, none⟩) cap _ (HR.out _ X0) hm')
        simp only [Option.map] at hPE
        clear hr hp h1 hc
        generalize l[i] = y at *
        by_cases hle : k ≤ y.j.k
        · rw [if_pos hle] at hPE
          subst hPE
          have hdl : decide (k ≤ y.j.k) = true := by simpa using hle
          rcases (show k = 2 ∨ k = 3 ∨ ((k == 2) = false ∧ (k == 3) = false) by simp; omega) with rfl | rfl | ⟨h2, h3⟩
          all_goals
            go_enter Tryz.func86, Tryz.ntmps86
            go_wp2_with fail
            refine H.out.mono ?_
            rintro e w1 ⟨rfl, hx1⟩
            rw [a.out]
            obtain ⟨c1, c2, c3, c4, c5⟩ := HC.out _ (X0.trans hx1)
            obtain ⟨q, q'⟩ := (B0.ext hx1).cells
            go_wp2_with fail
            go_quiet (fail)
            go_wp2_with fail
            go_ret
            exact ⟨rfl, (X0.trans hx1).drewN _⟩
        · rw [if_neg hle] at hPE
          subst hPE
          have hdl : decide (k ≤ y.j.k) = false := by simpa using hle
          rcases (show k = 2 ∨ k = 3 ∨ ((k == 2) = false ∧ (k == 3) = false) by simp; omega) with rfl | rfl | ⟨h2, h3⟩
          all_goals
            go_enter Tryz.func86, Tryz.ntmps86
            go_wp2_with fail
            refine H.out.mono ?_
            rintro e w1 ⟨rfl, hx1⟩
            rw [a.out]
            obtain ⟨c1, c2, c3, c4, c5⟩ := HC.out _ (X0.trans hx1)
            obtain ⟨q, q'⟩ := (B0.ext hx1).cells
            go_wp2_with fail
            go_quiet (fail)
            go_wp2_with fail
            go_ret
            exact ⟨rfl, (X0.trans hx1).drewN _⟩
end Go.Proofs.YtokakpbpenndlaaGreatDoor

set_option linter.unusedVariables false
namespace Go.Proofs.YtokakpbpenndlaaGreatDoor
open Go.RowKit Go.Maps

theorem jkind_any (n : Int) (b : Bool) (hb : four n = b) (w : World) : Calls Tryz.prog 85 #[.int .i64 n] w fun e w' => e = .returned (.bool b) ∧ w = w' := by
  subst hb
  go_enter Tryz.func85, Tryz.ntmps85
  go_wp2
  all_goals (go_ret; exact ⟨ret_bool (by unfold four; first | (simp [*]; done) | (simp [*]; omega) | (simp; omega)), rfl⟩)
def JcRel (w : World) (l : List JV) (f : Nat → Int) (i : Value) (wr : World) : Prop := ∃ k : Nat, k ≤ l.length ∧ i = .int .i64 (k : Int) ∧ (∀ i, i < k → f i = 0) ∧ Ext w wr
theorem JcRel.next {w W : World} {l : List JV} {f : Nat → Int} {k m : Nat} (hk : k < l.length) (hP : ∀ i, i < k → f i = 0) (h : f k = 0) (hx : Ext w W) (e : m = k + 1) : JcRel w l f (.int .i64 (m : Int)) W := by
  subst e
  refine ⟨k + 1, by omega, rfl, fun i hi => ?_, hx⟩
  by_cases e : i = k
  · subst e; exact h
  · exact hP i (by omega)
theorem checkJ_1 {l : List Jur} {k : Nat} (hl : ¬ 64 < l.length) (hk : k < l.length) (hP : ∀ i, i < k → jErr1 l i = 0) (h : jErr1 l k ≠ 0) : checkJ l = (jErr1 l k, k) := by
  have e := firstE_at l.length 0 (Nat.zero_le k) (by omega) (fun j _ h2 => hP j h2) h
  unfold checkJ
  rw [if_neg hl, e, if_neg h]
theorem checkJ_2 {l : List Jur} {k : Nat} (hl : ¬ 64 < l.length) (h1 : ∀ i, i < l.length → jErr1 l i = 0) (hk : k < l.length) (hP : ∀ i, i < k → jErr2 l i = 0) (h : jErr2 l k ≠ 0) : checkJ l = (jErr2 l k, k) := by
  have e0 := firstE_none (f := jErr1 l) l.length 0 (fun j _ h2 => h1 j (by omega))
  have e := firstE_at l.length 0 (Nat.zero_le k) (by omega) (fun j _ h2 => hP j h2) h
  unfold checkJ
  rw [if_neg hl, e0, e, if_pos rfl]
theorem checkJ_3 {l : List Jur} (hl : ¬ 64 < l.length) (h1 : ∀ i, i < l.length → jErr1 l i = 0) (h2 : ∀ i, i < l.length → jErr2 l i = 0) : checkJ l = (0, 0) := by
  have e0 := firstE_none (f := jErr1 l) l.length 0 (fun j _ h3 => h1 j (by omega))
  have e := firstE_none (f := jErr2 l) l.length 0 (fun j _ h3 => h2 j (by omega))
  unfold checkJ
  rw [if_neg hl, e0, e, if_pos rfl]
set_option maxRecDepth 100000 in
set_option maxHeartbeats 4000000 in
theorem jcheck_any (l : List JV) (A : Option Addr) (cap : Nat) (w : World) (hr : Reads w w.heap.size 5 A l.length (jvCells l)) (hm : l.length ≤ maxLen) :
    Calls Tryz.prog 39 #[.slice A l.length cap] w fun e w' => e = .returned (.tuple #[.int .i64 (checkJ (jsOf l)).1, .int .i64 ((checkJ (jsOf l)).2 : Int)]) ∧ Ext w w' := by
  have HL := Lib.hid (jsOf_len l)
  have HM := Lib.hid hm
  unfold maxLen at hm
  by_cases hl : 64 < l.length
  · have hd : decide ((64 : Int) < (l.length : Int)) = true := by simp; omega
    have HC := Lib.hid (show checkJ (jsOf l) = (3, 0) by unfold checkJ; rw [if_pos (by rw [HL.out]; exact hl)])
    clear hr hl
    go_enter Tryz.func39, Tryz.ntmps39
    go_wp2_with fail
    go_ret2
    exact ⟨by rw [HC.out]; rfl, Ext.refl _⟩
  have hd64 : decide ((64 : Int) < (l.length : Int)) = false := by simp; omega
  have hl' : ¬ 64 < (jsOf l).length := by rw [HL.out]; exact hl
  have HL' := Lib.hid hl'
  have HR := Lib.hid (fun W (hx : Ext w W) => hr.ext hx)
  have HA := Lib.hid (fun k (hk : k < l.length) => jv_at hr hk)
  clear hr hl'
  go_enter Tryz.func39, Tryz.ntmps39
  go_wp2_with fail
  go_loopw [14] (fun i wr => JcRel w l (jErr1 (jsOf l)) i wr) (fun i _ => l.length - (intOf i).toNat)
  case atStart => exact ⟨0, by omega, rfl, fun i hi => absurd hi (by omega), Ext.refl _⟩
  case round =>
    obtain ⟨k, hk, rfl, hP, hx⟩ := hrel
    by_cases hlt : k < l.length
    · have hd : decide ((k : Int) < (l.length : Int)) = true := by simp; omega
      obtain ⟨g, off, rfl, hg, hc⟩ := HA.out k hlt
      obtain ⟨c1, c2, c3, c4, c5⟩ := hc wr hx
      have kl : (k : Int) < (l.length : Int) := by omega
      have kz : (0 : Int) ≤ (k : Int) := by omega
      have HN := Lib.hid (fun (h : jErr1 (jsOf l) k = 0) (W : World) (hx : Ext w W) => JcRel.next (l := l) hlt hP h hx rfl)
      have HB := Lib.hid (fun (h : jErr1 (jsOf l) k ≠ 0) => checkJ_1 HL'.out (by rw [HL.out]; exact hlt) hP h)
      have HE := Lib.hid (show jErr1 (jsOf l) k = if l[k].j.id < 1 ∨ 1099511627775 < l[k].j.id then 5 else if 0 < k ∧ l[k].j.id ≤ ((jsOf l).getD (k - 1) Jur.zero).id then 7 else if four l[k].j.k = false ∨ four l[k].j.f = false then 2 else 0 by
        unfold jErr1; rw [jsOf_at l k hlt])
      generalize hE : jErr1 (jsOf l) k = E at *
      have HE0 := Lib.hid hE
      have B5 := Blk.new wr 83 #[.int .i64 l[k].j.id, .int .i64 l[k].j.k, .int .i64 l[k].j.par, .int .i64 l[k].j.f, .slice l[k].A l[k].n l[k].c]
      have X5 := hx.alloc (.cells #[.int .i64 l[k].j.id, .int .i64 l[k].j.k, .int .i64 l[k].j.par, .int .i64 l[k].j.f, .slice l[k].A l[k].n l[k].c] 83)
      clear hP hE
      by_cases h5 : l[k].j.id < 1 ∨ 1099511627775 < l[k].j.id
      · have hE5 := HE.out.trans (if_pos h5)
        have HBB := HB.out (by rw [hE5]; decide)
        rw [hE5] at HBB
        replace HBB := Lib.hid HBB
        replace hE5 := Lib.hid hE5
        clear HN HB HE hc
        generalize l[k] = x at *
        rcases (show decide (x.j.id < 1) = true ∨ decide (x.j.id < 1) = false ∧ decide (1099511627775 < x.j.id) = true by simp; omega) with h | ⟨h, h'⟩
        all_goals
          clear h5
          go_wp2_with fail
          go_ret2
          exact ⟨by rw [HBB.out]; rfl, X5⟩
      have hE5 := HE.out.trans (if_neg h5)
      have d1 : decide (l[k].j.id < 1) = false := by simp; omega
      have d2 : decide (1099511627775 < l[k].j.id) = false := by simp; omega
      clear h5 HE
      obtain ⟨fk, hfk⟩ : ∃ b, four l[k].j.k = b := ⟨_, rfl⟩
      obtain ⟨ff, hff⟩ : ∃ b, four l[k].j.f = b := ⟨_, rfl⟩
      rcases Nat.eq_zero_or_pos k with hk0 | hk0
      · have g1 : decide ((0 : Int) < (k : Int)) = false := by simp; omega
        have g2 : decide (0 < k) = false := by simp; omega
        rw [if_neg (by omega)] at hE5
        rw [hfk, hff] at hE5
        have K1 := Lib.hid hfk
        have K2 := Lib.hid hff
        clear hfk hff hc hk0
        generalize l[k] = x at *
        by_cases hkf : fk = true ∧ ff = true
        · obtain ⟨rfl, rfl⟩ := hkf
          have hE0 : E = 0 := by rw [hE5]; simp
          have HN2 := Lib.hid (fun W hx => HN.out hE0 W hx)
          replace hE0 := Lib.hid hE0
          replace hE5 := Lib.hid hE5
          clear HN HB
          go_wp2_with fail
          go_quiet (fail)
          go_wp2_with fail
          refine (jkind_any _ _ K1.out _).mono ?_
          rintro e w1 ⟨rfl, rfl⟩
          go_wp2_with fail
          refine (jkind_any _ _ K2.out _).mono ?_
          rintro e w1 ⟨rfl, rfl⟩
          go_wp2_with fail
          go_roundw
          case rel => exact HN2.out _ (X5.drewN _)
          case measure => simp [intOf]; omega
        · have hE2 : E = 2 := by rw [hE5, if_pos]; cases fk <;> cases ff <;> simp_all
          have HBB := Lib.hid (HB.out (by rw [hE2]; decide))
          replace hE5 := Lib.hid hE5
          clear HN HB
          cases fk
          · clear hkf
            go_wp2_with fail
            go_quiet (fail)
            go_wp2_with fail
            refine (jkind_any _ _ K1.out _).mono ?_
            rintro e w1 ⟨rfl, rfl⟩
            go_wp2_with fail
            go_ret2
            exact ⟨by rw [HBB.out, hE2]; rfl, X5.drewN _⟩
          · have hff2 : ff = false := by simpa using hkf
            subst hff2
            clear hkf
            go_wp2_with fail
            go_quiet (fail)
            go_wp2_with fail
            refine (jkind_any _ _ K1.out _).mono ?_
            rintro e w1 ⟨rfl, rfl⟩
            go_wp2_with fail
            refine (jkind_any _ _ K2.out _).mono ?_
            rintro e w1 ⟨rfl, rfl⟩
            go_wp2_with fail
            go_ret2
            exact ⟨by rw [HBB.out, hE2]; rfl, X5.drewN _⟩
      · obtain ⟨m, rfl⟩ : ∃ m, k = m + 1 := ⟨k - 1, by omega⟩
        have g1 : decide ((0 : Int) < ((m + 1 : Nat) : Int)) = true := decide_eq_true (by omega)
        have hlm : m < l.length := by omega
        obtain ⟨g', off', e', _, hc'⟩ := HA.out m hlm
        injection e' with e'
        injection e' with e1 e2 _
        subst e1 e2
        obtain ⟨p1, _⟩ := hc' wr hx
        have hgr : g < wr.heap.size := Nat.lt_of_lt_of_le hg hx.size
        have s1 : (((m + 1 : Nat) : Int)) - 1 = (m : Int) := by omega
        have hp : (jsOf l).getD (m + 1 - 1) Jur.zero = l[m].j := by rw [Nat.add_sub_cancel]; exact jsOf_at l m hlm
        rw [hp] at hE5
        have K1 := Lib.hid hfk
        have K2 := Lib.hid hff
        rw [hfk, hff] at hE5
        have ml : (m : Int) < (l.length : Int) := by omega
        have mz : (0 : Int) ≤ (m : Int) := by omega
        clear hfk hff hc hc' hp hk0
        generalize l[m + 1] = x at *
        generalize l[m].j.id = y at *
        have s2 : IntKind.i64.wrap (m : Int) = (m : Int) := IntWalk.i64_in _ (by omega)
        clear s1
        by_cases h7 : x.j.id ≤ y
        · have hE7 : E = 7 := by rw [hE5, if_pos ⟨by omega, h7⟩]
          have d7 : decide (x.j.id ≤ y) = true := by simpa using h7
          have HBB := Lib.hid (HB.out (by rw [hE7]; decide))
          replace hE5 := Lib.hid hE5
          replace hE7 := Lib.hid hE7
          clear HN HB h7
          go_wp2_with fail
          go_quiet (fail)
          go_wp2_with fail
          go_ret2
          exact ⟨by rw [HBB.out, hE7.out]; rfl, X5.drewN _⟩
        have d7 : decide (x.j.id ≤ y) = false := by simpa using h7
        rw [if_neg (by intro c; exact h7 c.2)] at hE5
        clear h7
        by_cases hkf : fk = true ∧ ff = true
        · obtain ⟨rfl, rfl⟩ := hkf
          have hE0 : E = 0 := by rw [hE5]; simp
          have HN2 := Lib.hid (fun W hx => HN.out hE0 W hx)
          replace hE0 := Lib.hid hE0
          replace hE5 := Lib.hid hE5
          clear HN HB
          go_wp2_with fail
          go_quiet (fail)
          go_wp2_with fail
          refine (jkind_any _ _ K1.out _).mono ?_
          rintro e w1 ⟨rfl, rfl⟩
          go_wp2_with fail
          refine (jkind_any _ _ K2.out _).mono ?_
          rintro e w1 ⟨rfl, rfl⟩
          go_wp2_with fail
          go_roundw
          case rel => exact HN2.out _ (X5.drewN _)
          case measure => simp [intOf]; omega
        · have hE2 : E = 2 := by rw [hE5, if_pos]; cases fk <;> cases ff <;> simp_all
          have HBB := Lib.hid (HB.out (by rw [hE2]; decide))
          replace hE5 := Lib.hid hE5
          clear HN HB
          cases fk
          · clear hkf
            go_wp2_with fail
            go_quiet (fail)
            go_wp2_with fail
            refine (jkind_any _ _ K1.out _).mono ?_
            rintro e w1 ⟨rfl, rfl⟩
            go_wp2_with fail
            go_ret2
            exact ⟨by rw [HBB.out, hE2]; rfl, X5.drewN _⟩
          · have hff2 : ff = false := by simpa using hkf
            subst hff2
            clear hkf
            go_wp2_with fail
            go_quiet (fail)
            go_wp2_with fail
            refine (jkind_any _ _ K1.out _).mono ?_
            rintro e w1 ⟨rfl, rfl⟩
            go_wp2_with fail
            refine (jkind_any _ _ K2.out _).mono ?_
            rintro e w1 ⟨rfl, rfl⟩
            go_wp2_with fail
            go_ret2
            exact ⟨by rw [HBB.out, hE2]; rfl, X5.drewN _⟩
    · have hd : decide ((k : Int) < (l.length : Int)) = false := by simp; omega
      have H1 := Lib.hid (show ∀ i, i < l.length → jErr1 (jsOf l) i = 0 from fun i hi => hP i (by omega))
      have HX0 := Lib.hid hx
      clear hP
      go_wp2_with fail
      go_loopw [59] (fun i wr => JcRel w l (jErr2 (jsOf l)) i wr) (fun i _ => l.length - (intOf i).toNat)
      case atStart => exact ⟨0, by omega, rfl, fun i hi => absurd hi (by omega), HX0.out⟩
      case round =>
        clear hd hlt hk hx HX0
        obtain ⟨k, hk, rfl, hP, hx⟩ := hrel
        by_cases hlt : k < l.length
        · have hd : decide ((k : Int) < (l.length : Int)) = true := by simp; omega
          obtain ⟨g, off, rfl, hg, hc⟩ := HA.out k hlt
          obtain ⟨c1, c2, c3, c4, c5⟩ := hc _ hx
          have kl : (k : Int) < (l.length : Int) := by omega
          have kz : (0 : Int) ≤ (k : Int) := by omega
          have HN := Lib.hid (fun (h : jErr2 (jsOf l) k = 0) (W : World) (hx : Ext w W) => JcRel.next (l := l) hlt hP h hx rfl)
          have HB := Lib.hid (fun (h : jErr2 (jsOf l) k ≠ 0) => checkJ_2 HL'.out (by rw [HL.out]; exact H1.out) (by rw [HL.out]; exact hlt) hP h)
          have HE := show jErr2 (jsOf l) k = parErr (jsOf l) l[k].j by unfold jErr2; rw [jsOf_at l k hlt]
          rw [HE] at HN HB
          clear hP hc HE
          generalize l[k] = x at *
          have X5 := Ext.alloc hx (.cells #[.int .i64 x.j.id, .int .i64 x.j.k, .int .i64 x.j.par, .int .i64 x.j.f, .slice x.A x.n x.c] 83)
          generalize hE : parErr (jsOf l) x.j = E at HN HB
          replace hE := Lib.hid hE
          go_wp2_with fail
          refine (jparent_any l x (some ⟨g, off, none⟩) cap _ (HR.out _ X5) HM.out).mono ?_
          rintro e w1 ⟨rfl, hx1⟩
          rw [hE.out]
          have X6 := X5.trans hx1
          by_cases h0 : E = 0
          · have HN2 := Lib.hid (HN.out h0 _ X6)
            have hb : (E != 0) = false := by simpa using h0
            replace h0 := Lib.hid h0
            clear HN HB
            go_wp2_with fail
            go_roundw
            case rel => exact HN2.out
            case measure => simp [intOf]; omega
          · have HB2 := Lib.hid (HB.out h0)
            have hb : (E != 0) = true := by simpa using h0
            replace h0 := Lib.hid h0
            clear HN HB
            go_wp2_with fail
            go_ret2
            exact ⟨by rw [HB2.out]; rfl, X6⟩
        · have hd : decide ((k : Int) < (l.length : Int)) = false := by simp; omega
          have HC := Lib.hid (checkJ_3 HL'.out (by rw [HL.out]; exact H1.out) (by rw [HL.out]; exact fun i hi => hP i (by omega)))
          clear hP
          go_wp2_with fail
          go_ret2
          exact ⟨by rw [HC.out]; rfl, hx⟩
end Go.Proofs.YtokakpbpenndlaaGreatDoor
