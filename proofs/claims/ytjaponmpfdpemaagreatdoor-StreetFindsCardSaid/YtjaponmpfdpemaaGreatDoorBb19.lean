/-
  addr: named; housed.
-/
import Derived.Test.YtjaponmpfdpemaaGreatDoorBb18
set_option linter.unusedSimpArgs false
set_option linter.unusedVariables false
namespace Go.Proofs.YtjaponmpfdpemaaGreatDoor
open Go.RowKit
theorem own_tokens {s : Bs} {W w : World} {v : Value} (h : w.ownsRow W.heap.size 105 2 v (tokensP s).1.length (tokCells (tokensP s).1)) : ∃ A c, v = .slice A (tokensP s).1.length c ∧ TokS w A (tokensP s).1.length c (tokensP s).1 := by
 obtain ⟨A, c, rfl, h1, h2, h3⟩ := own_slice h
 have h40 := (tokensP_ok s).l40
 exact ⟨A, c, rfl, rfl, h3, h1, h2, by omega, tokensP_sm s⟩
structure KsAt (w : World) (q : Nat) (ks : List Int) : Prop where
 b : Blk w q 3 (iV ks).toArray
 le : ks.length ≤ 100
theorem KsAt.ext {w w' : World} {q : Nat} {ks : List Int} (h : KsAt w q ks) (hx : Ext w w') : KsAt w' q ks := ⟨h.b.ext hx, h.le⟩
theorem KsAt.reads {w : World} {q : Nat} {ks : List Int} (h : KsAt w q ks) : Reads w w.heap.size 1 (some ⟨q, 0, none⟩) ks.length (iV ks) := by
 refine ⟨by simp [iV], fun _ => ⟨q, 0, rfl, h.b.lt, fun j u hu => ?_⟩⟩
 rw [Nat.zero_add]
 exact (h.b.cell j).trans (by simpa using hu)
theorem bs_dec (a b : Bs) : decide (a = b) = (a == b) := by
 by_cases h : a = b
 ·rw [decide_eq_true h]; subst h; simp
 ·rw [decide_eq_false h]; symm; rw [beq_eq_false_iff_ne]; exact h
set_option maxRecDepth 100000 in
theorem named_any (s : Bs) (hs : s.length ≤ 100000) (ks : List Int) (q : Nat) (n c : Nat) (hn : n = ks.length) (W : World) (hk : KsAt W q ks) :
  Calls Tryz.prog 49 #[.string ⟨s.toArray⟩, .slice (some ⟨q, 0, none⟩) n c] W fun e w' => e = .returned (.bool (namedP s ks)) ∧ Ext W w' := by
 have HT := Lib.hid (fun w => tokens_any s w hs)
 have HK := Lib.hid (fun w (hx : Ext W w) => hk.ext hx)
 have hP := Lib.hid (show namedP s ks = ((tokensP s).2.1 == 0 && decide (0 < (tokensP s).1.length) && decide ((tokensP s).1.length ≤ 8) && kindOf (tokensP s).1 ks && textsP (tokensP s).1 == s && decide (s.length ≤ 40)) from rfl)
 replace hn := Lib.hid hn
 generalize hNP : namedP s ks = R at *
 replace hNP := Lib.hid hNP
 clear hk hs
 go_enter Tryz.func49, Tryz.ntmps49
 go_wp2_with fail
 refine (HT.out _).mono ?_
 rintro e w1 ⟨v, rfl, hown, hx1⟩
 obtain ⟨A, cp, rfl, T1⟩ := own_tokens hown
 have h40 := T1.l40
 have X1 := Lib.hid hx1
 clear hown hx1 HT
 generalize tokensP s = tk at *
 obtain ⟨l, fe, fa⟩ := tk
 dsimp only at *
 go_upto_region 3 with (fail)
 have X2 := Lib.hid ((X1.out.alloc (.cells #[.int .i64 fe, .int .i64 fa] 36)).alloc (.cells #[.slice A l.length cp] 113))
 have XX := ((Ext.refl w1).alloc (.cells #[.int .i64 fe, .int .i64 fa] 36)).alloc (.cells #[.slice A l.length cp] 113)
 have BF := (Blk.new w1 36 #[.int .i64 fe, .int .i64 fa]).alloc (.cells #[.slice A l.length cp] 113)
 have BC := Blk.new (w1.alloc (.cells #[.int .i64 fe, .int .i64 fa] 36)) 113 #[.slice A l.length cp]
 rw [show (w1.alloc (.cells #[.int .i64 fe, .int .i64 fa] 36)).heap.size = w1.heap.size + 1 by simp] at BC
 have T2 := T1.ext XX
 clear T1 XX X1
 generalize (w1.alloc (.cells #[.int .i64 fe, .int .i64 fa] 36)).alloc (.cells #[.slice A l.length cp] 113) = w2 at *
 generalize w1.heap.size + 1 = gc at *
 generalize w1.heap.size = gf at *
 have c0 : w2.cell? ⟨gf, 0, none⟩ = some (.int .i64 fe) := BF.cell 0
 have lf := BF.lt
 have HO := Lib.hid (only_any l A l.length cp ks (some ⟨q, 0, none⟩) n c w2 rfl hn.out.symm T2.rd (by have := (HK.out _ X2.out).reads; rw [← hn.out] at this; exact this) (by omega) (by have := (HK.out _ X2.out).le; have := hn.out; omega))
 have HX := Lib.hid (fun w' (hx : Ext w2 w') => text_any l A l.length cp gc w' (BC.ext hx) (T2.ext hx))
 clear BF BC T2 HK
 by_cases h0 : fe = 0
 rotate_left
 ·have hb : (fe == 0) = false := by rw [beq_eq_false_iff_ne]; exact h0
  have hR := Lib.hid (show R = false by rw [hP.out, hb]; rfl)
  clear hP h0
  go_wp2_with fail
  go_ret
  exact ⟨by rw [hR.out]; rfl, X2.out⟩
 subst h0
 by_cases h1 : 0 < l.length
 rotate_left
 ·have d1 : decide ((0 : Int) < (l.length : Int)) = false := decide_eq_false (by omega)
  have d2 : decide (0 < l.length) = false := decide_eq_false h1
  have hR := Lib.hid (show R = false by rw [hP.out, d2]; rfl)
  clear hP h1
  go_wp2_with fail
  go_ret
  exact ⟨by rw [hR.out]; rfl, X2.out⟩
 have d1 : decide ((0 : Int) < (l.length : Int)) = true := decide_eq_true (by omega)
 have d2 : decide (0 < l.length) = true := decide_eq_true h1
 by_cases h2 : l.length ≤ 8
 rotate_left
 ·have d3 : decide ((l.length : Int) ≤ 8) = false := decide_eq_false (by omega)
  have d4 : decide (l.length ≤ 8) = false := decide_eq_false h2
  have hR := Lib.hid (show R = false by rw [hP.out, d2, d4]; rfl)
  clear hP h1 h2
  go_wp2_with fail
  go_ret
  exact ⟨by rw [hR.out]; rfl, X2.out⟩
 have d3 : decide ((l.length : Int) ≤ 8) = true := decide_eq_true (by omega)
 have d4 : decide (l.length ≤ 8) = true := decide_eq_true h2
 clear h1 h2
 go_wp2_with fail
 refine HO.out.mono ?_
 rintro e w3 ⟨rfl, hx3⟩
 have X3 := Lib.hid (X2.out.trans hx3)
 obtain ⟨ko, hko⟩ : ∃ ko, kindOf l ks = ko := ⟨_, rfl⟩
 rw [hko] at hP ⊢
 replace hko := Lib.hid hko
 replace HX := Lib.hid (HX.out _ hx3)
 clear hx3 HO X2
 cases ko with
 | false =>
  have hR := Lib.hid (show R = false by rw [hP.out, d2, d4]; rfl)
  clear hP
  go_wp2_with fail
  go_ret
  exact ⟨by rw [hR.out]; rfl, X3.out⟩
 | true =>
  have he := fun w => bs_eq (textsP l) s w
  obtain ⟨tx, htx⟩ : ∃ tx, textsP l = tx := ⟨_, rfl⟩
  rw [htx] at hP HX he
  obtain ⟨te, hte⟩ : ∃ te, (tx == s) = te := ⟨_, rfl⟩
  rw [hte] at hP he
  have hde : decide (tx = s) = te := by rw [← hte, bs_dec]
  replace htx := Lib.hid htx
  clear he
  go_wp2_with fail
  refine HX.out.mono ?_
  rintro e w4 ⟨rfl, hx4⟩
  have X4 := Lib.hid (X3.out.trans hx4)
  clear hx4 X3 HX
  cases te with
  | false =>
   have hR := Lib.hid (show R = false by rw [hP.out, d2, d4]; rfl)
   clear hP
   go_wp2_with fail
   go_ret
   exact ⟨by rw [hR.out]; rfl, X4.out⟩
  | true =>
   by_cases h4 : s.length ≤ 40
   ·have d5 : decide ((s.length : Int) ≤ 40) = true := decide_eq_true (by omega)
    have d6 : decide (s.length ≤ 40) = true := decide_eq_true h4
    have hR := Lib.hid (show R = true by rw [hP.out, d2, d4, d6]; rfl)
    clear hP h4
    go_wp2_with fail
    go_ret
    exact ⟨by rw [hR.out]; rfl, X4.out⟩
   ·have d5 : decide ((s.length : Int) ≤ 40) = false := decide_eq_false (by omega)
    have d6 : decide (s.length ≤ 40) = false := decide_eq_false h4
    have hR := Lib.hid (show R = false by rw [hP.out, d2, d4, d6]; rfl)
    clear hP h4
    go_wp2_with fail
    go_ret
    exact ⟨by rw [hR.out, ← d5]; rfl, X4.out⟩
set_option maxRecDepth 100000 in
theorem housed_any (s : Bs) (hs : s.length ≤ 100000) (W : World) (hS : Std W) :
  Calls Tryz.prog 51 #[.string ⟨s.toArray⟩] W fun e w' => e = .returned (.bool (housedP s)) ∧ Ext W w' := by
 by_cases hz : s = []
 ·subst hz
  go_enter Tryz.func51, Tryz.ntmps51
  go_wp2_with fail
  go_ret
  exact ⟨rfl, Ext.refl _⟩
 have hse : s.isEmpty = false := by cases s with | nil => exact absurd rfl hz | cons _ _ => rfl
 have hz' : decide (s = []) = false := decide_eq_false hz
 have HT := Lib.hid (fun w => tokens_any s w hs)
 have HS := Lib.hid (fun w (hx : Ext W w) => hS.ext hx)
 have hP := Lib.hid (show housedP s = (s == [] || ((unitP (tokensP s).1).2 && (unitP (tokensP s).1).1 == s && decide (((tokensP s).1.getD 1 ⟨0, []⟩).t.length ≤ 10))) from rfl)
 have hzb := Lib.hid (show (s == []) = false by rw [beq_eq_false_iff_ne]; exact hz)
 generalize housedP s = R at *
 clear hs hz hS
 go_enter Tryz.func51, Tryz.ntmps51
 go_wp2_with fail
 refine (HT.out _).mono ?_
 rintro e w1 ⟨v, rfl, hown, hx1⟩
 obtain ⟨A, cp, rfl, T1⟩ := own_tokens hown
 have h40 := T1.l40
 have X1 := Lib.hid hx1
 clear hown hx1 HT
 generalize tokensP s = tk at *
 obtain ⟨l, fe, fa⟩ := tk
 dsimp only at *
 go_upto_region 4 with (fail)
 have XX := (Ext.refl w1).alloc (.cells #[.int .i64 fe, .int .i64 fa] 36)
 have X2 := Lib.hid (X1.out.trans XX)
 have T2 := T1.ext XX
 clear T1 XX X1
 generalize w1.alloc (.cells #[.int .i64 fe, .int .i64 fa] 36) = w2 at *
 have HU := Lib.hid (unit_any l A l.length cp w2 T2 (HS.out _ X2.out))
 have HT2 := Lib.hid T2
 obtain ⟨u, hu⟩ : ∃ u, unitP l = u := ⟨_, rfl⟩
 rw [hu] at HU hP
 have hu2 := Lib.hid (fun h : u.2 = true => unitP_two (u := l) (by rw [hu]; exact h))
 clear hu T2
 obtain ⟨ut, uo⟩ := u
 dsimp only at *
 go_wp2_with fail
 refine HU.out.mono ?_
 rintro e w3 ⟨rfl, hx3⟩
 have X3 := Lib.hid (X2.out.trans hx3)
 have T3 := HT2.out.ext hx3
 clear hx3 X2 HU HT2
 cases uo with
 | false =>
  have hR := Lib.hid (show R = false by rw [hP.out, hzb.out]; rfl)
  clear hP T3
  go_wp2_with fail
  go_ret
  exact ⟨by rw [hR.out]; rfl, X3.out⟩
 | true =>
  obtain ⟨ta, tb, rfl⟩ := hu2.out rfl
  obtain ⟨g, o, rfl, hg, _, t1⟩ := T3.at_ (k := 1) (by simp)
  replace t1 : w3.cell? ⟨g, o + 3, none⟩ = some (.string ⟨tb.t.toArray⟩) := t1
  have hsm : tb.t.length ≤ 300 := T3.sm tb (by simp)
  have hq : (([ta, tb] : List Tok).getD 1 ⟨0, []⟩).t = tb.t := rfl
  rw [hq] at hP
  obtain ⟨te, hte⟩ : ∃ te, (ut == s) = te := ⟨_, rfl⟩
  rw [hte] at hP
  clear T3 hq
  cases te with
  | false =>
   have hne : (ut = s) = False := eq_false (by rwa [beq_eq_false_iff_ne] at hte)
   clear hte
   have hR := Lib.hid (show R = false by rw [hP.out, hzb.out]; rfl)
   clear hP
   go_wp2_with fail
   go_ret
   exact ⟨by rw [hR.out]; rfl, X3.out⟩
  | true =>
   obtain rfl : ut = s := by simpa using hte
   clear hte
   by_cases h4 : tb.t.length ≤ 10
   ·have d5 : decide ((tb.t.length : Int) ≤ 10) = true := decide_eq_true (by omega)
    have d6 : decide (tb.t.length ≤ 10) = true := decide_eq_true h4
    have hR := Lib.hid (show R = true by rw [hP.out, hzb.out, d6]; rfl)
    clear hP h4
    go_wp2_with fail
    go_ret
    exact ⟨by rw [hR.out]; rfl, X3.out⟩
   ·have d5 : decide ((tb.t.length : Int) ≤ 10) = false := decide_eq_false (by omega)
    have d6 : decide (tb.t.length ≤ 10) = false := decide_eq_false h4
    have hR := Lib.hid (show R = false by rw [hP.out, hzb.out, d6]; rfl)
    clear hP h4
    go_wp2_with fail
    go_ret
    exact ⟨by rw [hR.out]; rfl, X3.out⟩
end Go.Proofs.YtjaponmpfdpemaaGreatDoor
set_option linter.unusedSimpArgs false
set_option linter.unusedVariables false
namespace Go.Proofs.YtjaponmpfdpemaaGreatDoor
open Go.RowKit
theorem ad_eq (x y : Ad) (w : World) : (binOp .eql 45 (adV x) (adV y)).run Tryz.prog w = .ok (.bool (decide (x = y))) w := by
 obtain ⟨a1, a2, a3, a4, a5, a6, a7, a8, a9, a10, a11⟩ := x
 obtain ⟨b1, b2, b3, b4, b5, b6, b7, b8, b9, b10, b11⟩ := y
 unfold adV adC
 by_cases h1 : a1 = b1
 rotate_left
 ·simp [go_sem, h1]
 subst h1
 by_cases h2 : a2 = b2
 rotate_left
 ·simp [go_sem, h2]
 subst h2
 by_cases h3 : a3 = b3
 rotate_left
 ·simp [go_sem, h3]
 subst h3
 by_cases h4 : a4 = b4
 rotate_left
 ·simp [go_sem, h4]
 subst h4
 by_cases h5 : a5 = b5
 rotate_left
 ·simp [go_sem, h5]
 subst h5
 by_cases h6 : a6 = b6
 rotate_left
 ·simp [go_sem, h6]
 subst h6
 by_cases h7 : a7 = b7
 rotate_left
 ·simp [go_sem, h7]
 subst h7
 by_cases h8 : a8 = b8
 rotate_left
 ·simp [go_sem, h8]
 subst h8
 by_cases h9 : a9 = b9
 rotate_left
 ·simp [go_sem, h9]
 subst h9
 by_cases h10 : a10 = b10
 rotate_left
 ·simp [go_sem, h10]
 subst h10
 by_cases h11 : a11 = b11
 rotate_left
 ·simp [go_sem, h11]
 subst h11
 simp [go_sem]
theorem iV_blk (w : World) (ks : List Int) (h : ks.length ≤ 100) : KsAt (w.alloc (.cells (iV ks).toArray 3)) w.heap.size ks := ⟨Blk.new _ _ _, h⟩
theorem named_3 (s : Bs) (hs : s.length ≤ 100000) (w : World) : Calls Tryz.prog 49 #[.string ⟨s.toArray⟩, .slice (some ⟨w.heap.size, 0, none⟩) 3 3] (w.alloc (.cells #[.int .i64 1, .int .i64 2, .int .i64 3] 3)) fun e w' => e = .returned (.bool (namedP s [1, 2, 3])) ∧ Ext w w' := by
 refine (named_any s hs [1, 2, 3] w.heap.size 3 3 rfl _ (iV_blk w [1, 2, 3] (by decide))).mono ?_
 rintro e w' ⟨rfl, hx⟩
 exact ⟨rfl, ((Ext.refl w).alloc _).trans hx⟩
theorem named_1 (s : Bs) (hs : s.length ≤ 100000) (w : World) : Calls Tryz.prog 49 #[.string ⟨s.toArray⟩, .slice (some ⟨w.heap.size, 0, none⟩) 1 1] (w.alloc (.cells #[.int .i64 1] 3)) fun e w' => e = .returned (.bool (namedP s [1])) ∧ Ext w w' := by
 refine (named_any s hs [1] w.heap.size 1 1 rfl _ (iV_blk w [1] (by decide))).mono ?_
 rintro e w' ⟨rfl, hx⟩
 exact ⟨rfl, ((Ext.refl w).alloc _).trans hx⟩
end Go.Proofs.YtjaponmpfdpemaaGreatDoor
set_option linter.unusedSimpArgs false
set_option linter.unusedVariables false
namespace Go.Proofs.YtjaponmpfdpemaaGreatDoor
open Go.RowKit
set_option maxRecDepth 100000 in
set_option maxHeartbeats 4000000 in
theorem adcheck_any (a : Ad) (h : AdS a 1000) (W : World) (hS : Std W) :
  Calls Tryz.prog 23 #[adV a] W fun e w' => e = .returned (.int .i64 (checkP a)) ∧ Ext W w' := by
 obtain ⟨R, hR⟩ : ∃ R, checkP a = R := ⟨_, rfl⟩
 rw [hR]
 have hP : R = if (((decide (1 ≤ a.n) && decide (a.n ≤ 999999) && namedP a.name [1, 2, 3] && namedP a.city [1]) && ownP 2 a.pre && ownP 2 a.post && ownP 1 a.suf && a.state != [] && ownP 3 a.state) && housedP a.unit && digitsP a.zip 5 5 && (a.more == [] || digitsP a.more 4 4)) = false then 2 else
   if (tokensP (lineP a)).2.1 ≠ 0 ∨ (streetP (tokensP (lineP a)).1 (a.unit == [])).1 ≠ a.street then 2 else 0 := by rw [← hR]; rfl
 replace hR := Lib.hid hR
 have HLn := Lib.hid (fun w => line_any a h w)
 have hll : (lineP a).length ≤ 100000 := by
  have := lineK_len h 4 (by decide)
  rw [lineK_4] at this
  omega
 have HTk := Lib.hid (fun w => tokens_any (lineP a) w hll)
 have b1 := h.pre
 have b2 := h.name
 have b3 := h.suf
 have b4 := h.post
 have b5 := h.unit
 have b6 := h.city
 have b7 := h.state
 have b8 := h.zip
 have b9 := h.more
 clear h hll
 obtain ⟨L, hL⟩ : ∃ L, lineP a = L := ⟨_, rfl⟩
 rw [hL] at hP HLn HTk
 have hstr : a.street = ⟨0, a.half, a.pre, a.name, a.suf, a.post, [], [], [], [], []⟩ := rfl
 rw [hstr] at hP
 clear hL hstr
 have H1 := Lib.hid (fun w0 w (_ : Ext w0 w) => named_3 a.name (by omega) w)
 have H2 := Lib.hid (fun w0 w (_ : Ext w0 w) => named_1 a.city (by omega) w)
 have H3 := Lib.hid (fun w (hx : Ext W w) => own_any 2 (.inr (.inl rfl)) a.pre (by omega) w (hS.ext hx))
 have H4 := Lib.hid (fun w (hx : Ext W w) => own_any 2 (.inr (.inl rfl)) a.post (by omega) w (hS.ext hx))
 have H5 := Lib.hid (fun w (hx : Ext W w) => own_any 1 (.inl rfl) a.suf (by omega) w (hS.ext hx))
 have H6 := Lib.hid (fun w (hx : Ext W w) => own_any 3 (.inr (.inr (.inl rfl))) a.state (by omega) w (hS.ext hx))
 have H7 := Lib.hid (fun w (hx : Ext W w) => housed_any a.unit (by omega) w (hS.ext hx))
 have H8 := Lib.hid (fun w0 w (_ : Ext w0 w) => digits_55 a.zip (by omega) w)
 have H9 := Lib.hid (fun w0 w (_ : Ext w0 w) => digits_44 a.more (by omega) w)
 have HSt := Lib.hid (fun (A : Option Addr) (n cp : Nat) (l : List Tok) (i : Bool) w (hT : TokS w A n cp l) (hx : Ext W w) => street_any l i A n cp w hT (hS.ext hx))
 obtain ⟨zn, zh, zpre, zname, zsuf, zpost, zunit, zcity, zstate, zzip, zmore⟩ := a
 rw [adV_eq] at HLn ⊢
 dsimp only at *
 generalize namedP zname [1, 2, 3] = n1 at *
 generalize namedP zcity [1] = n2 at *
 generalize ownP 2 zpre = o1 at *
 generalize ownP 2 zpost = o2 at *
 generalize ownP 1 zsuf = o3 at *
 generalize ownP 3 zstate = o4 at *
 generalize housedP zunit = hu at *
 generalize digitsP zzip 5 5 = d5 at *
 generalize digitsP zmore 4 4 = d4 at *
 obtain ⟨t1, ht1⟩ : ∃ t, decide (1 ≤ zn) = t := ⟨_, rfl⟩
 obtain ⟨t2, ht2⟩ : ∃ t, decide (zn ≤ 999999) = t := ⟨_, rfl⟩
 obtain ⟨ts, hts⟩ : ∃ t, (zstate != []) = t := ⟨_, rfl⟩
 obtain ⟨tm, htm⟩ : ∃ t, (zmore == []) = t := ⟨_, rfl⟩
 obtain ⟨tu, htu⟩ : ∃ t, (zunit == []) = t := ⟨_, rfl⟩
 rw [ht1, ht2, hts, htm, htu] at hP
 have hts1 : (!decide (zstate = [])) = ts := by rw [bs_dec]; exact hts
 have htm1 : decide (zmore = []) = tm := by rw [bs_dec]; exact htm
 have htu1 : decide (zunit = []) = tu := by rw [bs_dec]; exact htu
 have hts2 : zstate.isEmpty = (!ts) := by rw [← hts]; cases zstate <;> rfl
 have htm2 : zmore.isEmpty = tm := by rw [← htm]; cases zmore <;> rfl
 have htu2 : zunit.isEmpty = tu := by rw [← htu]; cases zunit <;> rfl
 clear hts htm htu
 obtain ⟨F1, hF1⟩ : ∃ F, (t1 && t2 && n1 && n2) = F := ⟨_, rfl⟩
 rw [hF1] at hP
 obtain ⟨F2, hF2⟩ : ∃ F, (F1 && o1 && o2 && o3 && ts && o4) = F := ⟨_, rfl⟩
 rw [hF2] at hP
 obtain ⟨F3, hF3⟩ : ∃ F, (F2 && hu && d5 && (tm || d4)) = F := ⟨_, rfl⟩
 rw [hF3] at hP
 replace hF1 := Lib.hid hF1
 replace hF2 := Lib.hid hF2
 replace hF3 := Lib.hid hF3
 replace hP := Lib.hid hP
 clear hS
 go_enter Tryz.func23, Tryz.ntmps23
 go_upto_region 1 with (fail)
 generalize hw0 : W.alloc (.cells #[.int .i64 zn, .bool zh, .string ⟨zpre.toArray⟩, .string ⟨zname.toArray⟩, .string ⟨zsuf.toArray⟩, .string ⟨zpost.toArray⟩, .string ⟨zunit.toArray⟩, .string ⟨zcity.toArray⟩, .string ⟨zstate.toArray⟩, .string ⟨zzip.toArray⟩, .string ⟨zmore.toArray⟩] 45) = w0
 have X0 := Lib.hid (show Ext W w0 by rw [← hw0]; exact (Ext.refl W).alloc _)
 have BA := Lib.hid (fun w (hx : Ext w0 w) => (show (∀ i, w.cell? ⟨W.heap.size, i, none⟩ = (#[.int .i64 zn, .bool zh, .string ⟨zpre.toArray⟩, .string ⟨zname.toArray⟩, .string ⟨zsuf.toArray⟩, .string ⟨zpost.toArray⟩, .string ⟨zunit.toArray⟩, .string ⟨zcity.toArray⟩, .string ⟨zstate.toArray⟩, .string ⟨zzip.toArray⟩, .string ⟨zmore.toArray⟩] : Array Value)[i]?) ∧ W.heap.size < w.heap.size ∧ (∀ i, w.frozen? ⟨W.heap.size, i, none⟩ = false) from by
  have B : Blk w W.heap.size 45 #[.int .i64 zn, .bool zh, .string ⟨zpre.toArray⟩, .string ⟨zname.toArray⟩, .string ⟨zsuf.toArray⟩, .string ⟨zpost.toArray⟩, .string ⟨zunit.toArray⟩, .string ⟨zcity.toArray⟩, .string ⟨zstate.toArray⟩, .string ⟨zzip.toArray⟩, .string ⟨zmore.toArray⟩] := Blk.ext (by rw [← hw0]; exact Blk.new W _ _) hx
  exact ⟨B.cell, B.lt, B.frozen⟩))
 replace H3 := Lib.hid (fun w (hx : Ext w0 w) => H3.out w (X0.out.trans hx))
 replace H4 := Lib.hid (fun w (hx : Ext w0 w) => H4.out w (X0.out.trans hx))
 replace H5 := Lib.hid (fun w (hx : Ext w0 w) => H5.out w (X0.out.trans hx))
 replace H6 := Lib.hid (fun w (hx : Ext w0 w) => H6.out w (X0.out.trans hx))
 replace H7 := Lib.hid (fun w (hx : Ext w0 w) => H7.out w (X0.out.trans hx))
 replace H1 := Lib.hid (H1.out w0)
 replace H2 := Lib.hid (H2.out w0)
 replace H8 := Lib.hid (H8.out w0)
 replace H9 := Lib.hid (H9.out w0)
 clear hw0
 generalize W.heap.size = ga at *
 have Xw0 := Lib.hid (Ext.refl w0)
 obtain ⟨qa, la, qb⟩ := BA.out _ Xw0.out
 go_cut [3] from 9 to 28 (fun u wx => u = .bool F1 ∧ Ext w0 wx)
 case first =>
  cases t1 with
  | false =>
   have HE := Lib.hid (show Value.bool false = Value.bool F1 ∧ Ext w0 w0 from ⟨by rw [← hF1.out]; simp, Xw0.out⟩)
   go_wp2_with fail
   go_meet
   case rel => exact HE.out
  | true =>
   cases t2 with
   | false =>
    have HE := Lib.hid (show Value.bool false = Value.bool F1 ∧ Ext w0 w0 from ⟨by rw [← hF1.out]; simp, Xw0.out⟩)
    go_wp2_with fail
    go_meet
    case rel => exact HE.out
   | true =>
    go_wp2_with fail
    refine (H1.out _ Xw0.out).mono ?_
    rintro e wn1 ⟨rfl, hx⟩
    have Xwn1 := Lib.hid (Xw0.out.trans hx)
    obtain ⟨qa, la, qb⟩ := BA.out _ Xwn1.out
    clear hx
    cases n1 with
    | false =>
     have HE := Lib.hid (show Value.bool false = Value.bool F1 ∧ Ext w0 wn1 from ⟨by rw [← hF1.out]; simp, Xwn1.out⟩)
     go_wp2_with fail
     go_meet
     case rel => exact HE.out
    | true =>
     go_wp2_with fail
     refine (H2.out _ Xwn1.out).mono ?_
     rintro e wn2 ⟨rfl, hx⟩
     have Xwn2 := Lib.hid (Xwn1.out.trans hx)
     obtain ⟨qa, la, qb⟩ := BA.out _ Xwn2.out
     clear hx
     cases n2 with
     | false =>
      have HE := Lib.hid (show Value.bool false = Value.bool F1 ∧ Ext w0 wn2 from ⟨by rw [← hF1.out]; simp, Xwn2.out⟩)
      go_wp2_with fail
      go_meet
      case rel => exact HE.out
     | true =>
      have HE := Lib.hid (show Value.bool true = Value.bool F1 ∧ Ext w0 wn2 from ⟨by rw [← hF1.out]; simp, Xwn2.out⟩)
      go_wp2_with fail
      go_meet
      case rel => exact HE.out
 case rest =>
  obtain ⟨rfl, hx1⟩ := hcut
  have Xwc := Lib.hid hx1
  clear hx1 qa la qb Xw0
  obtain ⟨qa, la, qb⟩ := BA.out _ Xwc.out
  go_upto_region 2 with (fail)
  go_cut [3] from 29 to 54 (fun u wx => u = .bool F2 ∧ Ext w0 wx)
  case first =>
   cases F1 with
   | false =>
    have HE := Lib.hid (show Value.bool false = Value.bool F2 ∧ Ext w0 wc from ⟨by rw [← hF2.out]; simp, Xwc.out⟩)
    go_wp2_with fail
    go_meet
    case rel => exact HE.out
   | true =>
    go_wp2_with fail
    refine (H3.out _ Xwc.out).mono ?_
    rintro e wo1 ⟨rfl, hx⟩
    have Xwo1 := Lib.hid (Xwc.out.trans hx)
    obtain ⟨qa, la, qb⟩ := BA.out _ Xwo1.out
    clear hx
    cases o1 with
    | false =>
     have HE := Lib.hid (show Value.bool false = Value.bool F2 ∧ Ext w0 wo1 from ⟨by rw [← hF2.out]; simp, Xwo1.out⟩)
     go_wp2_with fail
     go_meet
     case rel => exact HE.out
    | true =>
     go_wp2_with fail
     refine (H4.out _ Xwo1.out).mono ?_
     rintro e wo2 ⟨rfl, hx⟩
     have Xwo2 := Lib.hid (Xwo1.out.trans hx)
     obtain ⟨qa, la, qb⟩ := BA.out _ Xwo2.out
     clear hx
     cases o2 with
     | false =>
      have HE := Lib.hid (show Value.bool false = Value.bool F2 ∧ Ext w0 wo2 from ⟨by rw [← hF2.out]; simp, Xwo2.out⟩)
      go_wp2_with fail
      go_meet
      case rel => exact HE.out
     | true =>
      go_wp2_with fail
      refine (H5.out _ Xwo2.out).mono ?_
      rintro e wo3 ⟨rfl, hx⟩
      have Xwo3 := Lib.hid (Xwo2.out.trans hx)
      obtain ⟨qa, la, qb⟩ := BA.out _ Xwo3.out
      clear hx
      cases o3 with
      | false =>
       have HE := Lib.hid (show Value.bool false = Value.bool F2 ∧ Ext w0 wo3 from ⟨by rw [← hF2.out]; simp, Xwo3.out⟩)
       go_wp2_with fail
       go_meet
       case rel => exact HE.out
      | true =>
       cases ts with
       | false =>
        have HE := Lib.hid (show Value.bool false = Value.bool F2 ∧ Ext w0 wo3 from ⟨by rw [← hF2.out]; simp, Xwo3.out⟩)
        go_wp2_with fail
        go_meet
        case rel => exact HE.out
       | true =>
        go_wp2_with fail
        refine (H6.out _ Xwo3.out).mono ?_
        rintro e wo4 ⟨rfl, hx⟩
        have Xwo4 := Lib.hid (Xwo3.out.trans hx)
        obtain ⟨qa, la, qb⟩ := BA.out _ Xwo4.out
        clear hx
        cases o4 with
        | false =>
         have HE := Lib.hid (show Value.bool false = Value.bool F2 ∧ Ext w0 wo4 from ⟨by rw [← hF2.out]; simp, Xwo4.out⟩)
         go_wp2_with fail
         go_meet
         case rel => exact HE.out
        | true =>
         have HE := Lib.hid (show Value.bool true = Value.bool F2 ∧ Ext w0 wo4 from ⟨by rw [← hF2.out]; simp, Xwo4.out⟩)
         go_wp2_with fail
         go_meet
         case rel => exact HE.out
  case rest =>
   clear qa la qb Xwc
   obtain ⟨rfl, hx1⟩ := hcut
   have Xwc := Lib.hid hx1
   clear hx1
   obtain ⟨qa, la, qb⟩ := BA.out _ Xwc.out
   go_upto_region 3 with (fail)
   go_cut [3] from 55 to 75 (fun u wx => u = .bool F3 ∧ Ext w0 wx)
   case first =>
    cases F2 with
    | false =>
     have HE := Lib.hid (show Value.bool false = Value.bool F3 ∧ Ext w0 wc from ⟨by rw [← hF3.out]; simp, Xwc.out⟩)
     go_wp2_with fail
     go_meet
     case rel => exact HE.out
    | true =>
     go_wp2_with fail
     refine (H7.out _ Xwc.out).mono ?_
     rintro e whu ⟨rfl, hx⟩
     have Xwhu := Lib.hid (Xwc.out.trans hx)
     obtain ⟨qa, la, qb⟩ := BA.out _ Xwhu.out
     clear hx
     cases hu with
     | false =>
      have HE := Lib.hid (show Value.bool false = Value.bool F3 ∧ Ext w0 whu from ⟨by rw [← hF3.out]; simp, Xwhu.out⟩)
      go_wp2_with fail
      go_meet
      case rel => exact HE.out
     | true =>
      go_wp2_with fail
      refine (H8.out _ Xwhu.out).mono ?_
      rintro e wd5 ⟨rfl, hx⟩
      have Xwd5 := Lib.hid (Xwhu.out.trans hx)
      obtain ⟨qa, la, qb⟩ := BA.out _ Xwd5.out
      clear hx
      cases d5 with
      | false =>
       have HE := Lib.hid (show Value.bool false = Value.bool F3 ∧ Ext w0 wd5 from ⟨by rw [← hF3.out]; simp, Xwd5.out⟩)
       go_wp2_with fail
       go_meet
       case rel => exact HE.out
      | true =>
       cases tm with
       | true =>
        have HE := Lib.hid (show Value.bool true = Value.bool F3 ∧ Ext w0 wd5 from ⟨by rw [← hF3.out]; simp, Xwd5.out⟩)
        go_wp2_with fail
        go_meet
        case rel => exact HE.out
       | false =>
        go_wp2_with fail
        refine (H9.out _ Xwd5.out).mono ?_
        rintro e wd4 ⟨rfl, hx⟩
        have Xwd4 := Lib.hid (Xwd5.out.trans hx)
        obtain ⟨qa, la, qb⟩ := BA.out _ Xwd4.out
        clear hx
        cases d4 with
        | false =>
         have HE := Lib.hid (show Value.bool false = Value.bool F3 ∧ Ext w0 wd4 from ⟨by rw [← hF3.out]; simp, Xwd4.out⟩)
         go_wp2_with fail
         go_meet
         case rel => exact HE.out
        | true =>
         have HE := Lib.hid (show Value.bool true = Value.bool F3 ∧ Ext w0 wd4 from ⟨by rw [← hF3.out]; simp, Xwd4.out⟩)
         go_wp2_with fail
         go_meet
         case rel => exact HE.out
   case rest =>
    clear qa la qb Xwc
    obtain ⟨rfl, hx1⟩ := hcut
    have Xwc := Lib.hid hx1
    clear hx1
    obtain ⟨qa, la, qb⟩ := BA.out _ Xwc.out
    cases F3 with
    | false =>
     have hQ := Lib.hid (show R = 2 by rw [hP.out, if_pos rfl])
     go_wp2_with fail
     go_ret
     exact ⟨by rw [hQ.out]; rfl, X0.out.trans Xwc.out⟩
    | true =>
     have hP2 := Lib.hid (show R = if (tokensP L).2.1 ≠ 0 ∨ (streetP (tokensP L).1 tu).1 ≠ ⟨0, zh, zpre, zname, zsuf, zpost, [], [], [], [], []⟩ then 2 else 0 by rw [hP.out, if_neg (by simp)])
     clear hP hF1 hF2 hF3
     go_wp2_with fail
     refine (HLn.out _).mono ?_
     rintro e w6 ⟨rfl, hx6⟩
     have X6 := Lib.hid (X0.out.trans (Xwc.out.trans hx6))
     have Y6 := Lib.hid (Xwc.out.trans hx6)
     clear hx6
     go_wp2_with fail
     refine (HTk.out _).mono ?_
     rintro e w7 ⟨v, rfl, hown, hx7⟩
     obtain ⟨A, cp, rfl, T7⟩ := own_tokens hown
     have h40 := T7.l40
     have X7 := Lib.hid (X6.out.trans hx7)
     have Y7 := Lib.hid (Y6.out.trans hx7)
     clear hown hx7 HTk HLn X6 Y6
     generalize tokensP L = tk at *
     obtain ⟨l, fe, fa⟩ := tk
     dsimp only at *
     go_upto_region 7 with (fail)
     have XX := (Ext.refl w7).alloc (.cells #[.int .i64 fe, .int .i64 fa] 36)
     have BF := Blk.new w7 36 #[.int .i64 fe, .int .i64 fa]
     have X8 := Lib.hid (X7.out.trans XX)
     have Y8 := Lib.hid (Y7.out.trans XX)
     have T8 := T7.ext XX
     clear T7 XX X7 Y7 qa la qb Xwc
     generalize w7.alloc (.cells #[.int .i64 fe, .int .i64 fa] 36) = w8 at *
     generalize w7.heap.size = gf at *
     have HS8 := Lib.hid (HSt.out A l.length cp l tu w8 T8 X8.out)
     replace BF := Lib.hid BF
     clear HSt T8
     obtain ⟨qa, la, qb⟩ := BA.out _ Y8.out
     obtain ⟨st, hst⟩ : ∃ st, (streetP l tu).1 = st := ⟨_, rfl⟩
     rw [hst] at hP2 HS8
     replace hst := Lib.hid hst
     go_wp2_with fail
     refine HS8.out.mono ?_
     rintro e w9 ⟨An, nn, cn, inV, rfl, _, _, hx9⟩
     have BF9 := BF.out.ext hx9
     have X9 := Lib.hid (X8.out.trans hx9)
     have Y9 := Lib.hid (Y8.out.trans hx9)
     obtain ⟨s1, s2, s3, s4, s5, s6, s7, s8, s9, s10, s11⟩ := st
     rw [adV_eq]
     dsimp only at *
     clear hx9 X8 Y8 BF HS8 qa la qb
     go_upto_region 8 with (fail)
     have XX := (Ext.refl w9).alloc (.cells #[.int .i64 s1, .bool s2, .string ⟨s3.toArray⟩, .string ⟨s4.toArray⟩, .string ⟨s5.toArray⟩, .string ⟨s6.toArray⟩, .string ⟨s7.toArray⟩, .string ⟨s8.toArray⟩, .string ⟨s9.toArray⟩, .string ⟨s10.toArray⟩, .string ⟨s11.toArray⟩] 45)
     have BS := Blk.new w9 45 #[.int .i64 s1, .bool s2, .string ⟨s3.toArray⟩, .string ⟨s4.toArray⟩, .string ⟨s5.toArray⟩, .string ⟨s6.toArray⟩, .string ⟨s7.toArray⟩, .string ⟨s8.toArray⟩, .string ⟨s9.toArray⟩, .string ⟨s10.toArray⟩, .string ⟨s11.toArray⟩]
     have BF10 := BF9.ext XX
     have X10 := Lib.hid (X9.out.trans XX)
     have Y10 := Lib.hid (Y9.out.trans XX)
     clear BF9 XX X9 Y9
     generalize w9.alloc (.cells #[.int .i64 s1, .bool s2, .string ⟨s3.toArray⟩, .string ⟨s4.toArray⟩, .string ⟨s5.toArray⟩, .string ⟨s6.toArray⟩, .string ⟨s7.toArray⟩, .string ⟨s8.toArray⟩, .string ⟨s9.toArray⟩, .string ⟨s10.toArray⟩, .string ⟨s11.toArray⟩] 45) = w10 at *
     generalize w9.heap.size = gs at *
     have c0 : w10.cell? ⟨gf, 0, none⟩ = some (.int .i64 fe) := BF10.cell 0
     have lf := BF10.lt
     have ls := BS.lt
     obtain ⟨qs, _⟩ := BS.cells
     obtain ⟨qa, la, _⟩ := BA.out _ Y10.out
     clear BF10 BS
     by_cases h0 : fe = 0
     ·subst h0
      by_cases e1 : s1 = 0
      rotate_left
      ·have hQ := Lib.hid (show R = 2 by rw [hP2.out, if_pos (.inr (fun e => e1 (congrArg Ad.n e)))])
       clear hP2
       go_wp2_with fail
       go_ret
       exact ⟨by rw [hQ.out]; rfl, X10.out⟩
      subst e1
      by_cases e2 : s2 = zh
      rotate_left
      ·have hQ := Lib.hid (show R = 2 by rw [hP2.out, if_pos (.inr (fun e => e2 (congrArg Ad.half e)))])
       clear hP2
       go_wp2_with fail
       go_ret
       exact ⟨by rw [hQ.out]; rfl, X10.out⟩
      subst e2
      by_cases e3 : s3 = zpre
      rotate_left
      ·have hQ := Lib.hid (show R = 2 by rw [hP2.out, if_pos (.inr (fun e => e3 (congrArg Ad.pre e)))])
       clear hP2
       go_wp2_with fail
       go_ret
       exact ⟨by rw [hQ.out]; rfl, X10.out⟩
      subst e3
      by_cases e4 : s4 = zname
      rotate_left
      ·have hQ := Lib.hid (show R = 2 by rw [hP2.out, if_pos (.inr (fun e => e4 (congrArg Ad.name e)))])
       clear hP2
       go_wp2_with fail
       go_ret
       exact ⟨by rw [hQ.out]; rfl, X10.out⟩
      subst e4
      by_cases e5 : s5 = zsuf
      rotate_left
      ·have hQ := Lib.hid (show R = 2 by rw [hP2.out, if_pos (.inr (fun e => e5 (congrArg Ad.suf e)))])
       clear hP2
       go_wp2_with fail
       go_ret
       exact ⟨by rw [hQ.out]; rfl, X10.out⟩
      subst e5
      by_cases e6 : s6 = zpost
      rotate_left
      ·have hQ := Lib.hid (show R = 2 by rw [hP2.out, if_pos (.inr (fun e => e6 (congrArg Ad.post e)))])
       clear hP2
       go_wp2_with fail
       go_ret
       exact ⟨by rw [hQ.out]; rfl, X10.out⟩
      subst e6
      by_cases e7 : s7 = []
      rotate_left
      ·have hQ := Lib.hid (show R = 2 by rw [hP2.out, if_pos (.inr (fun e => e7 (congrArg Ad.unit e)))])
       clear hP2
       go_wp2_with fail
       go_ret
       exact ⟨by rw [hQ.out]; rfl, X10.out⟩
      subst e7
      by_cases e8 : s8 = []
      rotate_left
      ·have hQ := Lib.hid (show R = 2 by rw [hP2.out, if_pos (.inr (fun e => e8 (congrArg Ad.city e)))])
       clear hP2
       go_wp2_with fail
       go_ret
       exact ⟨by rw [hQ.out]; rfl, X10.out⟩
      subst e8
      by_cases e9 : s9 = []
      rotate_left
      ·have hQ := Lib.hid (show R = 2 by rw [hP2.out, if_pos (.inr (fun e => e9 (congrArg Ad.state e)))])
       clear hP2
       go_wp2_with fail
       go_ret
       exact ⟨by rw [hQ.out]; rfl, X10.out⟩
      subst e9
      by_cases e10 : s10 = []
      rotate_left
      ·have hQ := Lib.hid (show R = 2 by rw [hP2.out, if_pos (.inr (fun e => e10 (congrArg Ad.zip e)))])
       clear hP2
       go_wp2_with fail
       go_ret
       exact ⟨by rw [hQ.out]; rfl, X10.out⟩
      subst e10
      by_cases e11 : s11 = []
      rotate_left
      ·have hQ := Lib.hid (show R = 2 by rw [hP2.out, if_pos (.inr (fun e => e11 (congrArg Ad.more e)))])
       clear hP2
       go_wp2_with fail
       go_ret
       exact ⟨by rw [hQ.out]; rfl, X10.out⟩
      subst e11
      have hQ := Lib.hid (show R = 0 by rw [hP2.out, if_neg (fun h => h.elim (fun h => h rfl) (fun h => h rfl))])
      clear hP2
      go_wp2_with fail
      go_ret
      exact ⟨by rw [hQ.out]; rfl, X10.out⟩
     ·have hb : (fe != 0) = true := by simpa using h0
      have hQ := Lib.hid (show R = 2 by rw [hP2.out, if_pos (.inl h0)])
      clear hP2 h0
      go_wp2_with fail
      go_ret
      exact ⟨by rw [hQ.out]; rfl, X10.out⟩
end Go.Proofs.YtjaponmpfdpemaaGreatDoor
