/-
  addr: named; housed.
-/
import Derived.Test.YtjaponmpfdpemaaGreatDoorKb23
set_option linter.unusedVariables false
namespace Go.Proofs.YtjaponmpfdpemaaGreatDoor
open Go.RowKit

/-- What Tokens leaves: its tokens, as a slice. -/
theorem own_tokens {s : Bs} {W w : World} {v : Value} (h : w.ownsRow W.heap.size 105 2 v (tokensP s).1.length (tokCells (tokensP s).1)) : ∃ A c, v = .slice A (tokensP s).1.length c ∧ TokS w A (tokensP s).1.length c (tokensP s).1 := by
  obtain ⟨A, c, rfl, h1, h2, h3⟩ := own_slice h
  have h40 := (tokensP_ok s).l40
  exact ⟨A, c, rfl, rfl, h3, h1, h2, by omega, tokensP_sm s⟩
/-- The kinds that a slice of ints lists. -/
structure KsAt (w : World) (q : Nat) (ks : List Int) : Prop where
  b : Blk w q 3 (iV ks).toArray
  le : ks.length ≤ 100
theorem KsAt.ext {w w' : World} {q : Nat} {ks : List Int} (h : KsAt w q ks) (hx : Ext w w') : KsAt w' q ks := ⟨h.b.ext hx, h.le⟩
theorem KsAt.reads {w : World} {q : Nat} {ks : List Int} (h : KsAt w q ks) : Reads w w.heap.size 1 (some ⟨q, 0, none⟩) ks.length (iV ks) := by
  refine ⟨by simp [iV], fun _ => ⟨q, 0, rfl, h.b.lt, fun j u hu => ?_⟩⟩
  rw [Nat.zero_add]
  exact (h.b.cell j).trans (by simpa using hu)
theorem bs_dec (a b : Bs) : decide (a = b) = (a == b) := by
  by_cases h : a = b
  · rw [decide_eq_true h]; subst h; simp
  · rw [decide_eq_false h]; symm; rw [beq_eq_false_iff_ne]; exact h
set_option maxRecDepth 100000 in
theorem named_any (s : Bs) (hs : s.length ≤ 100000) (ks : List Int) (q : Nat) (n c : Nat) (hn : n = ks.length) (W : World) (hk : KsAt W q ks) :
    Calls Tryz.prog 49 #[.string ⟨s.toArray⟩, .slice (some ⟨q, 0, none⟩) n c] W fun e w' => e = .returned (.bool (namedP s ks)) ∧ Ext W w' := by
  have HT := Lib.hid (fun w => tokens_any s w hs)
  have HK := Lib.hid (fun w (hx : Ext W w) => hk.ext hx)
  have hP := Lib.hid (show namedP s ks = ((tokensP s).2.1 == 0 && decide (0 < (tokensP s).1.length) && decide ((tokensP s).1.length ≤ 8) && kindOf (tokensP s).1 ks && textsP (tokensP s).1 == s && decide (s.length ≤ 40)) from rfl)
  replace hn := Lib.hid hn
  generalize hNP : namedP s ks = R at *
  replace hNP := Lib.hid hNP
  clear hk hs
  go_enter Tryz.func49, Tryz.ntmps49
  go_wp2_with fail
  refine (HT.out _).mono ?_
  rintro e w1 ⟨v, rfl, hown, hx1⟩
  obtain ⟨A, cp, rfl, T1⟩ := own_tokens hown
  have h40 := T1.l40
  have X1 := Lib.hid hx1
  clear hown hx1 HT
  generalize tokensP s = tk at *
  obtain ⟨l, fe, fa⟩ := tk
  dsimp only at *
  go_upto_region 3 with (fail)
  have X2 := Lib.hid ((X1.out.alloc (.cells #[.int .i64 fe, .int .i64 fa] 36)).alloc (.cells #[.slice A l.length cp] 113))
  have XX := ((Ext.refl w1).alloc (.cells #[.int .i64 fe, .int .i64 fa] 36)).alloc (.cells #[.slice A l.length cp] 113)
  have BF := (Blk.new w1 36 #[.int .i64 fe, .int .i64 fa]).alloc (.cells #[.slice A l.length cp] 113)
  have BC := Blk.new (w1.alloc (.cells #[.int .i64 fe, .int .i64 fa] 36)) 113 #[.slice A l.length cp]
  rw [show (w1.alloc (.cells #[.int .i64 fe, .int .i64 fa] 36)).heap.size = w1.heap.size + 1 by simp] at BC
  have T2 := T1.ext XX
  clear T1 XX X1
  generalize (w1.alloc (.cells #[.int .i64 fe, .int .i64 fa] 36)).alloc (.cells #[.slice A l.length cp] 113) = w2 at *
  generalize w1.heap.size + 1 = gc at *
  generalize w1.heap.size = gf at *
  have c0 : w2.cell? ⟨gf, 0, none⟩ = some (.int .i64 fe) := BF.cell 0
  have lf := BF.lt
  have HO := Lib.hid (only_any l A l.length cp ks (some ⟨q, 0, none⟩) n c w2 rfl hn.out.symm T2.rd (by have := (HK.out _ X2.out).reads; rw [← hn.out] at this; exact this) (by omega) (by have := (HK.out _ X2.out).le; have := hn.out; omega))
  have HX := Lib.hid (fun w' (hx : Ext w2 w') => text_any l A l.length cp gc w' (BC.ext hx) (T2.ext hx))
  clear BF BC T2 HK
  by_cases h0 : fe = 0
  rotate_left
  · have hb : (fe == 0) = false := by rw [beq_eq_false_iff_ne]; exact h0
    have hR := Lib.hid (show R = false by rw [hP.out, hb]; rfl)
    clear hP h0
    go_wp2_with fail
    go_ret
    exact ⟨by rw [hR.out]; rfl, X2.out⟩
  subst h0
  by_cases h1 : 0 < l.length
  rotate_left
  · have d1 : decide ((0 : Int) < (l.length : Int)) = false := decide_eq_false (by omega)
    have d2 : decide (0 < l.length) = false := decide_eq_false h1
    have hR := Lib.hid (show R = false by rw [hP.out, d2]; rfl)
    clear hP h1
    go_wp2_with fail
    go_ret
    exact ⟨by rw [hR.out]; rfl, X2.out⟩
  have d1 : decide ((0 : Int) < (l.length : Int)) = true := decide_eq_true (by omega)
  have d2 : decide (0 < l.length) = true := decide_eq_true h1
  by_cases h2 : l.length ≤ 8
  rotate_left
  · have d3 : decide ((l.length : Int) ≤ 8) = false := decide_eq_false (by omega)
    have d4 : decide (l.length ≤ 8) = false := decide_eq_false h2
    have hR := Lib.hid (show R = false by rw [hP.out, d2, d4]; rfl)
    clear hP h1 h2
    go_wp2_with fail
    go_ret
    exact ⟨by rw [hR.out]; rfl, X2.out⟩
  have d3 : decide ((l.length : Int) ≤ 8) = true := decide_eq_true (by omega)
  have d4 : decide (l.length ≤ 8) = true := decide_eq_true h2
  clear h1 h2
  go_wp2_with fail
  refine HO.out.mono ?_
  rintro e w3 ⟨rfl, hx3⟩
  have X3 := Lib.hid (X2.out.trans hx3)
  obtain ⟨ko, hko⟩ : ∃ ko, kindOf l ks = ko := ⟨_, rfl⟩
  rw [hko] at hP ⊢
  replace hko := Lib.hid hko
  replace HX := Lib.hid (HX.out _ hx3)
  clear hx3 HO X2
  cases ko with
  | false =>
    have hR := Lib.hid (show R = false by rw [hP.out, d2, d4]; rfl)
    clear hP
    go_wp2_with fail
    go_ret
    exact ⟨by rw [hR.out]; rfl, X3.out⟩
  | true =>
    have he := fun w => bs_eq (textsP l) s w
    obtain ⟨tx, htx⟩ : ∃ tx, textsP l = tx := ⟨_, rfl⟩
    rw [htx] at hP HX he
    obtain ⟨te, hte⟩ : ∃ te, (tx == s) = te := ⟨_, rfl⟩
    rw [hte] at hP he
    have hde : decide (tx = s) = te := by rw [← hte, bs_dec]
    replace htx := Lib.hid htx
    clear he
    go_wp2_with fail
    refine HX.out.mono ?_
    rintro e w4 ⟨rfl, hx4⟩
    have X4 := Lib.hid (X3.out.trans hx4)
    clear hx4 X3 HX
    cases te with
    | false =>
      have hR := Lib.hid (show R = false by rw [hP.out, d2, d4]; rfl)
      clear hP
      go_wp2_with fail
      go_ret
      exact ⟨by rw [hR.out]; rfl, X4.out⟩
    | true =>
      by_cases h4 : s.length ≤ 40
      · have d5 : decide ((s.length : Int) ≤ 40) = true := decide_eq_true (by omega)
        have d6 : decide (s.length ≤ 40) = true := decide_eq_true h4
        have hR := Lib.hid (show R = true by rw [hP.out, d2, d4, d6]; rfl)
        clear hP h4
        go_wp2_with fail
        go_ret
        exact ⟨by rw [hR.out]; rfl, X4.out⟩
      · have d5 : decide ((s.length : Int) ≤ 40) = false := decide_eq_false (by omega)
        have d6 : decide (s.length ≤ 40) = false := decide_eq_false h4
        have hR := Lib.hid (show R = false by rw [hP.out, d2, d4, d6]; rfl)
        clear hP h4
        go_wp2_with fail
        go_ret
        exact ⟨by rw [hR.out, ← d5]; rfl, X4.out⟩
set_option maxRecDepth 100000 in
theorem housed_any (s : Bs) (hs : s.length ≤ 100000) (W : World) (hS : Std W) :
    Calls Tryz.prog 51 #[.string ⟨s.toArray⟩] W fun e w' => e = .returned (.bool (housedP s)) ∧ Ext W w' := by
  by_cases hz : s = []
  · subst hz
    go_enter Tryz.func51, Tryz.ntmps51
    go_wp2_with fail
    go_ret
    exact ⟨rfl, Ext.refl _⟩
  have hse : s.isEmpty = false := by cases s with | nil => exact absurd rfl hz | cons _ _ => rfl
  have hz' : decide (s = []) = false := decide_eq_false hz
  have HT := Lib.hid (fun w => tokens_any s w hs)
  have HS := Lib.hid (fun w (hx : Ext W w) => hS.ext hx)
  have hP := Lib.hid (show housedP s = (s == [] || ((unitP (tokensP s).1).2 && (unitP (tokensP s).1).1 == s && decide (((tokensP s).1.getD 1 ⟨0, []⟩).t.length ≤ 10))) from rfl)
  have hzb := Lib.hid (show (s == []) = false by rw [beq_eq_false_iff_ne]; exact hz)
  generalize housedP s = R at *
  clear hs hz hS
  go_enter Tryz.func51, Tryz.ntmps51
  go_wp2_with fail
  refine (HT.out _).mono ?_
  rintro e w1 ⟨v, rfl, hown, hx1⟩
  obtain ⟨A, cp, rfl, T1⟩ := own_tokens hown
  have h40 := T1.l40
  have X1 := Lib.hid hx1
  clear hown hx1 HT
  generalize tokensP s = tk at *
  obtain ⟨l, fe, fa⟩ := tk
  dsimp only at *
  go_upto_region 4 with (fail)
  have XX := (Ext.refl w1).alloc (.cells #[.int .i64 fe, .int .i64 fa] 36)
  have X2 := Lib.hid (X1.out.trans XX)
  have T2 := T1.ext XX
  clear T1 XX X1
  generalize w1.alloc (.cells #[.int .i64 fe, .int .i64 fa] 36) = w2 at *
  have HU := Lib.hid (unit_any l A l.length cp w2 T2 (HS.out _ X2.out))
  have HT2 := Lib.hid T2
  obtain ⟨u, hu⟩ : ∃ u, unitP l = u := ⟨_, rfl⟩
  rw [hu] at HU hP
  have hu2 := Lib.hid (fun h : u.2 = true => unitP_two (u := l) (by rw [hu]; exact h))
  clear hu T2
  obtain ⟨ut, uo⟩ := u
  dsimp only at *
  go_wp2_with fail
  refine HU.out.mono ?_
  rintro e w3 ⟨rfl, hx3⟩
  have X3 := Lib.hid (X2.out.trans hx3)
  have T3 := HT2.out.ext hx3
  clear hx3 X2 HU HT2
  cases uo with
  | false =>
    have hR := Lib.hid (show R = false by rw [hP.out, hzb.out]; rfl)
    clear hP T3
    go_wp2_with fail
    go_ret
    exact ⟨by rw [hR.out]; rfl, X3.out⟩
  | true =>
    obtain ⟨ta, tb, rfl⟩ := hu2.out rfl
    obtain ⟨g, o, rfl, hg, _, t1⟩ := T3.at_ (k := 1) (by simp)
    replace t1 : w3.cell? ⟨g, o + 3, none⟩ = some (.string ⟨tb.t.toArray⟩) := t1
    have hsm : tb.t.length ≤ 300 := T3.sm tb (by simp)
    have hq : (([ta, tb] : List Tok).getD 1 ⟨0, []⟩).t = tb.t := rfl
    rw [hq] at hP
    obtain ⟨te, hte⟩ : ∃ te, (ut == s) = te := ⟨_, rfl⟩
    rw [hte] at hP
    clear T3 hq
    cases te with
    | false =>
      have hne : (ut = s) = False := eq_false (by rwa [beq_eq_false_iff_ne] at hte)
      clear hte
      have hR := Lib.hid (show R = false by rw [hP.out, hzb.out]; rfl)
      clear hP
      go_wp2_with fail
      go_ret
      exact ⟨by rw [hR.out]; rfl, X3.out⟩
    | true =>
      obtain rfl : ut = s := by simpa using hte
      clear hte
      by_cases h4 : tb.t.length ≤ 10
      · have d5 : decide ((tb.t.length : Int) ≤ 10) = true := decide_eq_true (by omega)
        have d6 : decide (tb.t.length ≤ 10) = true := decide_eq_true h4
        have hR := Lib.hid (show R = true by rw [hP.out, hzb.out, d6]; rfl)
        clear hP h4
        go_wp2_with fail
        go_ret
        exact ⟨by rw [hR.out]; rfl, X3.out⟩
      · have d5 : decide ((tb.t.length : Int) ≤ 10) = false := decide_eq_false (by omega)
        have d6 : decide (tb.t.length ≤ 10) = false := decide_eq_false h4
        have hR := Lib.hid (show R = false by rw [hP.out, hzb.out, d6]; rfl)
        clear hP h4
        go_wp2_with fail
        go_ret
        exact ⟨by rw [hR.out]; rfl, X3.out⟩
end Go.Proofs.YtjaponmpfdpemaaGreatDoor

set_option linter.unusedVariables false
namespace Go.Proofs.YtjaponmpfdpemaaGreatDoor
open Go.RowKit
theorem iV_blk (w : World) (ks : List Int) (h : ks.length ≤ 100) : KsAt (w.alloc (.cells (iV ks).toArray 3)) w.heap.size ks := ⟨Blk.new _ _ _, h⟩
theorem named_3 (s : Bs) (hs : s.length ≤ 100000) (w : World) : Calls Tryz.prog 49 #[.string ⟨s.toArray⟩, .slice (some ⟨w.heap.size, 0, none⟩) 3 3] (w.alloc (.cells #[.int .i64 1, .int .i64 2, .int .i64 3] 3)) fun e w' => e = .returned (.bool (namedP s [1, 2, 3])) ∧ Ext w w' := by
  refine (named_any s hs [1, 2, 3] w.heap.size 3 3 rfl _ (iV_blk w [1, 2, 3] (by decide))).mono ?_
  rintro e w' ⟨rfl, hx⟩
  exact ⟨rfl, ((Ext.refl w).alloc _).trans hx⟩
theorem named_1 (s : Bs) (hs : s.length ≤ 100000) (w : World) : Calls Tryz.prog 49 #[.string ⟨s.toArray⟩, .slice (some ⟨w.heap.size, 0, none⟩) 1 1] (w.alloc (.cells #[.int .i64 1] 3)) fun e w' => e = .returned (.bool (namedP s [1])) ∧ Ext w w' := by
  refine (named_any s hs [1] w.heap.size 1 1 rfl _ (iV_blk w [1] (by decide))).mono ?_
  rintro e w' ⟨rfl, hx⟩
  exact ⟨rfl, ((Ext.refl w).alloc _).trans hx⟩
end Go.Proofs.YtjaponmpfdpemaaGreatDoor
