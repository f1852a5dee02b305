/-
  apportionref17: list.
-/
import Derived.Test.YtjaponmpfdpemaaGreatDoorBb29
import Derived.Deep.RegionHeld3
import Derived.Test.YtjaponmpfdpemaaGreatDoorBb17
set_option linter.unusedSimpArgs false
set_option linter.unusedVariables false
namespace Go.Proofs.YtjaponmpfdpemaaGreatDoor
open Go.RowKit
theorem kindT_in (t : Bs) : kindT t = 1 ∨ kindT t = 2 ∨ kindT t = 3 := by
 unfold kindT
 repeat' split
 all_goals omega
theorem tokIs_in {t : Tok} (h : TokIs t) (h4 : t.k ≠ 4) (h5 : t.k ≠ 5) : ([1, 2, 3] : List Int).contains t.k = true := by
 rcases h with rfl | rfl | ⟨w, _, rfl⟩
 ·exact absurd rfl h4
 ·exact absurd rfl h5
 ·have : (tokW w).k = kindT (upS w) := rfl
  rw [this]
  rcases kindT_in (upS w) with e | e | e <;> rw [e] <;> rfl
def LiR (W : World) (s : Bs) (e : Ending) (w' : World) : Prop := ∃ v, e = .returned (.tuple #[v, .bool (namedP s [1, 2, 3])]) ∧ w'.ownsRow W.heap.size 105 2 v (if namedP s [1, 2, 3] then (tokensP s).1 else []).length (tokCells (if namedP s [1, 2, 3] then (tokensP s).1 else [])) ∧ Ext W w'
def LiAt (w2 : World) (l : List Tok) (i : Value) (wr : World) : Prop := ∃ k : Nat, k ≤ l.length ∧ i = .int .i64 (k : Int) ∧ Ext w2 wr ∧ ∀ j (h : j < l.length), j < k → ([1, 2, 3] : List Int).contains l[j].k = true
set_option maxRecDepth 100000 in
set_option maxHeartbeats 2000000 in
theorem rlist_any (s : Bs) (hs : s.length ≤ 100000) (W : World) : Calls Tryz.prog 61 #[.string ⟨s.toArray⟩] W (LiR W s) := by
 have HT := Lib.hid (fun w => rtokens_any s w hs)
 have hP : namedP s [1, 2, 3] = ((tokensP s).2.1 == 0 && decide (0 < (tokensP s).1.length) && decide ((tokensP s).1.length ≤ 8) && kindOf (tokensP s).1 [1, 2, 3] && textsP (tokensP s).1 == s && decide (s.length ≤ 40)) := rfl
 have hIs := Lib.hid (tokensP_is s)
 have hF := Lib.hid (fun (v : Value) (w' : World) (hx : Ext W w') (h : namedP s [1, 2, 3] = false) => (show LiR W s (.returned (.tuple #[.slice none 0 0, .bool false])) w' from ⟨.slice none 0 0, by rw [h], by rw [h]; exact World.ownsRow_nil _ _ _ _, hx⟩))
 have hY := Lib.hid (fun (v : Value) (w' : World) (hx : Ext W w') (h : namedP s [1, 2, 3] = true) (ho : w'.ownsRow W.heap.size 105 2 v (tokensP s).1.length (tokCells (tokensP s).1)) => (show LiR W s (.returned (.tuple #[v, .bool true])) w' from ⟨v, by rw [h], by rw [h]; exact ho, hx⟩))
 obtain ⟨Q, hQ⟩ : ∃ Q, LiR W s = Q := ⟨_, rfl⟩
 rw [hQ] at hF hY ⊢
 replace hQ := Lib.hid hQ
 generalize namedP s [1, 2, 3] = R at *
 replace hP := Lib.hid hP
 go_enter Tryz.func61, Tryz.ntmps61
 go_wp2_with fail
 refine (HT.out _).mono ?_
 rintro e w1 ⟨v, rfl, hown, hx1⟩
 obtain ⟨A, cp, rfl, T1⟩ := own_tokens hown
 have h40 := T1.l40
 replace hown := Lib.hid hown
 clear HT
 generalize tokensP s = tk at *
 obtain ⟨l, fe, fa⟩ := tk
 dsimp only at *
 go_upto_region 2 with (fail)
 have XX := (Ext.refl w1).alloc (.cells #[.int .i64 fe, .int .i64 fa] 36)
 have BF := Blk.new w1 36 #[.int .i64 fe, .int .i64 fa]
 have X2 := Lib.hid (hx1.trans XX)
 replace hown := Lib.hid (own_ext hown.out XX)
 have T2 := T1.ext XX
 clear T1 XX hx1
 generalize w1.alloc (.cells #[.int .i64 fe, .int .i64 fa] 36) = w2 at *
 generalize w1.heap.size = gf at *
 have c0 : w2.cell? ⟨gf, 0, none⟩ = some (.int .i64 fe) := BF.cell 0
 have lf := BF.lt
 have HX := Lib.hid (rtexts_any l A l.length cp w2 T2)
 replace BF := Lib.hid BF
 replace T2 := Lib.hid T2
 by_cases h0 : fe = 0
 rotate_left
 ·have hb : (fe != 0) = true := by rw [bne_iff_ne]; exact h0
  have hR := Lib.hid (show R = false by rw [hP.out, beq_eq_false_iff_ne.2 h0]; rfl)
  clear h0 hP HX
  go_wp2_with fail
  exact hF.out (.slice none 0 0) _ X2.out hR.out
 subst h0
 by_cases h1 : l.length = 0
 ·have hb : ((l.length : Int) == 0) = true := by rw [beq_iff_eq]; omega
  have hR := Lib.hid (show R = false by rw [hP.out, decide_eq_false (show ¬ 0 < l.length by omega)]; rfl)
  clear h1 hP HX
  go_wp2_with fail
  exact hF.out (.slice none 0 0) _ X2.out hR.out
 have d1 : ((l.length : Int) == 0) = false := by rw [beq_eq_false_iff_ne]; omega
 by_cases h8 : 8 < l.length
 ·have hb : decide ((8 : Int) < (l.length : Int)) = true := decide_eq_true (by omega)
  have hR := Lib.hid (show R = false by rw [hP.out, decide_eq_false (show ¬ l.length ≤ 8 by omega)]; simp)
  clear h1 h8 hP HX
  go_wp2_with fail
  exact hF.out (.slice none 0 0) _ X2.out hR.out
 have d8 : decide ((8 : Int) < (l.length : Int)) = false := decide_eq_false (by omega)
 obtain ⟨tx, htx⟩ : ∃ tx, textsP l = tx := ⟨_, rfl⟩
 rw [htx] at hP HX
 by_cases ht : tx = s
 rotate_left
 ·have b0 : (tx == s) = false := by rw [beq_eq_false_iff_ne]; exact ht
  have b1 : (tx != s) = true := by rw [bne_iff_ne]; exact ht
  have b2 : decide (tx = s) = false := decide_eq_false ht
  have hR := Lib.hid (show R = false by rw [hP.out, b0]; simp)
  clear h1 h8 hP ht htx
  go_wp2_with fail
  refine HX.out.mono ?_
  rintro e w3 ⟨rfl, hx3⟩
  go_wp2_with fail
  exact hF.out (.slice none 0 0) _ (X2.out.trans hx3) hR.out
 replace htx := Lib.hid (htx.trans ht)
 subst ht
 by_cases h41 : 40 < List.length tx
 ·have b2 : decide ((40 : Int) < (List.length tx : Int)) = true := decide_eq_true (by omega)
  have hR := Lib.hid (show R = false by rw [hP.out, decide_eq_false (show ¬ List.length tx ≤ 40 by omega)]; simp)
  clear h1 h8 hP h41
  go_wp2_with fail
  refine HX.out.mono ?_
  rintro e w3 ⟨rfl, hx3⟩
  go_wp2_with fail
  exact hF.out (.slice none 0 0) _ (X2.out.trans hx3) hR.out
 have b2 : decide ((40 : Int) < (List.length tx : Int)) = false := decide_eq_false (by omega)
 have hRk := Lib.hid (show R = kindOf l [1, 2, 3] by rw [hP.out, decide_eq_true (show 0 < l.length by omega), decide_eq_true (show l.length ≤ 8 by omega), decide_eq_true (show List.length tx ≤ 40 by omega)]; simp)
 clear h1 h8 hP h41
 go_wp2_with fail
 refine HX.out.mono ?_
 rintro e w3 ⟨rfl, hx3⟩
 have H0 := Lib.hid (show LiAt w2 l (.int .i64 ((0 : Nat) : Int)) w3 from ⟨0, by omega, rfl, hx3, fun j _ h => absurd h (by omega)⟩)
 clear HX hx3 c0 lf
 go_wp2_with fail
 go_loopw [6] (fun i wr => LiAt w2 l i wr) (fun i _ => l.length - (intOf i).toNat)
 case atStart => exact H0.out
 case round =>
  clear H0
  obtain ⟨k, hk, rfl, hx, hno⟩ := hrel
  by_cases hlt : k < l.length
  ·have hd : decide ((k : Int) < (l.length : Int)) = true := decide_eq_true (by omega)
   have kz : (0 : Int) ≤ (k : Int) := by omega
   have kl : (k : Int) < (l.length : Int) := by omega
   obtain ⟨g, o, rfl, hg, t0, t1⟩ := (T2.out.ext hx).at_ hlt
   have hi := hIs.out l[k] (List.getElem_mem hlt)
   by_cases h4 : l[k].k = 4
   ·have e4 : (l[k].k == 4) = true := by rw [beq_iff_eq]; exact h4
    have hR := Lib.hid (show R = false by rw [hRk.out]; exact kind_not hlt (by
     rw [h4]
     intro j hj
     have h3 : j = 0 ∨ j = 1 ∨ j = 2 := by simp at hj; omega
     rcases h3 with rfl | rfl | rfl <;> simp))
    have hX := Lib.hid (X2.out.trans hx)
    clear hno hi t1 hx h4
    generalize l[k].k = q at *
    go_wp2_with fail
    exact hF.out (.slice none 0 0) _ hX.out hR.out
   ·have e4 : (l[k].k == 4) = false := by rw [beq_eq_false_iff_ne]; exact h4
    by_cases h5 : l[k].k = 5
    ·have e5 : (l[k].k == 5) = true := by rw [beq_iff_eq]; exact h5
     have hR := Lib.hid (show R = false by rw [hRk.out]; exact kind_not hlt (by
     rw [h5]
     intro j hj
     have h3 : j = 0 ∨ j = 1 ∨ j = 2 := by simp at hj; omega
     rcases h3 with rfl | rfl | rfl <;> simp))
     have hX := Lib.hid (X2.out.trans hx)
     clear hno hi t1 hx h4 h5
     generalize l[k].k = q at *
     go_wp2_with fail
     exact hF.out (.slice none 0 0) _ hX.out hR.out
    ·have e5 : (l[k].k == 5) = false := by rw [beq_eq_false_iff_ne]; exact h5
     have HE := Lib.hid (show LiAt w2 l (.int .i64 ((k + 1 : Nat) : Int)) wr from ⟨k + 1, hlt, rfl, hx, fun j h hj => by
      by_cases e : j = k
      ·subst e; exact tokIs_in hi h4 h5
      ·exact hno j h (by omega)⟩)
     clear hno hi t1 hx h4 h5
     generalize l[k].k = q at *
     go_wp2_with fail
     go_roundw
     case rel => exact HE.out
     case measure => simp [intOf]; omega
  ·obtain rfl : k = l.length := by omega
   have hd : decide ((l.length : Int) < (l.length : Int)) = false := by simp
   have hR := Lib.hid (show R = true by rw [hRk.out]; exact kind_all fun j hj => hno j hj hj)
   replace hx := Lib.hid hx
   clear hno
   go_wp2_with fail
   exact hY.out _ _ (X2.out.trans hx.out) hR.out (own_ext hown.out hx.out)
end Go.Proofs.YtjaponmpfdpemaaGreatDoor
set_option linter.unusedSimpArgs false
set_option linter.unusedVariables false
namespace Go.Proofs.YtjaponmpfdpemaaGreatDoor
open Go.RowKit
end Go.Proofs.YtjaponmpfdpemaaGreatDoor
set_option linter.unusedSimpArgs false
set_option linter.unusedVariables false
namespace Go.Proofs.YtjaponmpfdpemaaGreatDoor
open Go.RowKit
end Go.Proofs.YtjaponmpfdpemaaGreatDoor
set_option linter.unusedSimpArgs false
set_option linter.unusedVariables false
namespace Go.Proofs.YtjaponmpfdpemaaGreatDoor
open Go.RowKit
end Go.Proofs.YtjaponmpfdpemaaGreatDoor
set_option linter.unusedSimpArgs false
set_option linter.unusedVariables false
namespace Go.Proofs.YtjaponmpfdpemaaGreatDoor
theorem kind_one (l : List Tok) : l.all (fun t => t.k == 1) = kindOf l [1] := by
 unfold kindOf
 congr 1
 funext t
 by_cases h : t.k = 1
 ·rw [h]; rfl
 ·rw [beq_eq_false_iff_ne.2 h]
  simp [h]
end Go.Proofs.YtjaponmpfdpemaaGreatDoor
set_option linter.unusedSimpArgs false
set_option linter.unusedVariables false
namespace Go.Proofs.YtjaponmpfdpemaaGreatDoor
def rcheckP (a : Ad) : Int :=
 if (decide (a.n < 1) || decide (999999 < a.n) || !namedP a.name [1, 2, 3] || !namedP a.city [1, 2, 3] || !((if namedP a.city [1, 2, 3] then (tokensP a.city).1 else []).all (fun t => t.k == 1)) || !ownP 2 a.pre || !ownP 2 a.post || !ownP 1 a.suf) = true then 2 else
 if (a.state == [] || !ownP 3 a.state || !digitsP a.zip 5 5 || (a.more != [] && !digitsP a.more 4 4)) = true then 2 else
 if (a.unit != [] && (!(unitP (tokensP a.unit).1).2 || (unitP (tokensP a.unit).1).1 != a.unit || decide (10 < (((tokensP a.unit).1.getD 1 ⟨0, []⟩).t).length))) = true then 2 else
 let r := tokensP (lineP a)
 let b := (streetP r.1 (a.unit == [])).1
 if (r.2.1 != 0 || !(a.pre == b.pre && a.name == b.name && a.suf == b.suf && a.post == b.post && a.half == b.half && b.unit == [])) = true then 2 else 0
theorem kindOf_mono {l : List Tok} (h : kindOf l [1] = true) : kindOf l [1, 2, 3] = true := by
 unfold kindOf at *
 rw [List.all_eq_true] at *
 intro t ht
 have := h t ht
 simp at this
 simp [this]
theorem named_one (s : Bs) : (namedP s [1, 2, 3] && (if namedP s [1, 2, 3] then (tokensP s).1 else []).all (fun t => t.k == 1)) = namedP s [1] := by
 have h1 : namedP s [1, 2, 3] = ((tokensP s).2.1 == 0 && decide (0 < (tokensP s).1.length) && decide ((tokensP s).1.length ≤ 8) && kindOf (tokensP s).1 [1, 2, 3] && textsP (tokensP s).1 == s && decide (s.length ≤ 40)) := rfl
 have h2 : namedP s [1] = ((tokensP s).2.1 == 0 && decide (0 < (tokensP s).1.length) && decide ((tokensP s).1.length ≤ 8) && kindOf (tokensP s).1 [1] && textsP (tokensP s).1 == s && decide (s.length ≤ 40)) := rfl
 cases hn : namedP s [1, 2, 3] with
 | true =>
  rw [if_pos rfl, Bool.true_and, kind_one]
  rw [hn] at h1
  have h1 := h1.symm
  simp only [Bool.and_eq_true] at h1
  obtain ⟨⟨⟨⟨⟨a1, a2⟩, a3⟩, a4⟩, a5⟩, a6⟩ := h1
  rw [h2, a1, a2, a3, a5, a6]
  simp
 | false =>
  rw [Bool.false_and]
  cases hk : namedP s [1] with
  | false => rfl
  | true =>
   rw [hk] at h2
   have h2 := h2.symm
   simp only [Bool.and_eq_true] at h2
   obtain ⟨⟨⟨⟨⟨a1, a2⟩, a3⟩, a4⟩, a5⟩, a6⟩ := h2
   rw [h1, a1, a2, a3, kindOf_mono a4, a5, a6] at hn
   cases hn
theorem street_same (a : Ad) (l : List Tok) (inner : Bool) : (streetP l inner).1 = a.street ↔ (a.pre == (streetP l inner).1.pre && a.name == (streetP l inner).1.name && a.suf == (streetP l inner).1.suf && a.post == (streetP l inner).1.post && a.half == (streetP l inner).1.half && (streetP l inner).1.unit == []) = true := by
 have h0 : (streetP l inner).1 = ⟨0, (streetP l inner).1.half, (streetP l inner).1.pre, (streetP l inner).1.name, (streetP l inner).1.suf, (streetP l inner).1.post, (streetP l inner).1.unit, [], [], [], []⟩ := rfl
 generalize (streetP l inner).1 = b at *
 simp only [Bool.and_eq_true, beq_iff_eq]
 constructor
 ·intro h
  rw [h]
  exact ⟨⟨⟨⟨⟨rfl, rfl⟩, rfl⟩, rfl⟩, rfl⟩, rfl⟩
 ·rintro ⟨⟨⟨⟨⟨e1, e2⟩, e3⟩, e4⟩, e5⟩, e6⟩
  rw [h0]
  unfold Ad.street
  rw [e1, e2, e3, e4, e5, e6]
theorem rcheck_eq (a : Ad) : rcheckP a = checkP a := by
 have hs := street_same a (tokensP (lineP a)).1 (a.unit == [])
 have hc := named_one a.city
 have hh : housedP a.unit = (a.unit == [] || ((unitP (tokensP a.unit).1).2 && (unitP (tokensP a.unit).1).1 == a.unit && decide (((tokensP a.unit).1.getD 1 ⟨0, []⟩).t.length ≤ 10))) := rfl
 unfold rcheckP checkP
 dsimp only
 rw [← hc, hh]
 generalize streetP (tokensP (lineP a)).1 (a.unit == []) = st at *
 generalize tokensP (lineP a) = r at *
 generalize (if namedP a.city [1, 2, 3] = true then (tokensP a.city).1 else []).all (fun t => t.k == 1) = L at *
 generalize namedP a.city [1, 2, 3] = C at *
 have e1 : decide (a.n < 1) = !decide (1 ≤ a.n) := by by_cases h : a.n < 1 <;> simp [h] <;> omega
 have e2 : decide (999999 < a.n) = !decide (a.n ≤ 999999) := by by_cases h : 999999 < a.n <;> simp [h] <;> omega
 have e3 : decide (10 < ((tokensP a.unit).1.getD 1 ⟨0, []⟩).t.length) = !decide (((tokensP a.unit).1.getD 1 ⟨0, []⟩).t.length ≤ 10) := by
  generalize ((tokensP a.unit).1.getD 1 ⟨0, []⟩).t.length = q
  by_cases h : 10 < q <;> simp [h] <;> omega
 rw [e1, e2, e3]
 rw [show (a.state != []) = !(a.state == []) from rfl, show (a.more != []) = !(a.more == []) from rfl, show (a.unit != []) = !(a.unit == []) from rfl, show ((unitP (tokensP a.unit).1).1 != a.unit) = !((unitP (tokensP a.unit).1).1 == a.unit) from rfl, show (r.2.1 != 0) = !(r.2.1 == 0) from rfl]
 generalize decide (1 ≤ a.n) = b1
 generalize decide (a.n ≤ 999999) = b2
 generalize namedP a.name [1, 2, 3] = b3
 generalize ownP 2 a.pre = b4
 generalize ownP 2 a.post = b5
 generalize ownP 1 a.suf = b6
 generalize (a.state == []) = b7
 generalize ownP 3 a.state = b8
 generalize digitsP a.zip 5 5 = b9
 generalize (a.more == []) = b10
 generalize digitsP a.more 4 4 = b11
 generalize (a.unit == []) = b12
 generalize (unitP (tokensP a.unit).1).2 = b13
 generalize ((unitP (tokensP a.unit).1).1 == a.unit) = b14
 generalize decide (((tokensP a.unit).1.getD 1 ⟨0, []⟩).t.length ≤ 10) = b15
 have hl : (if (!(r.2.1 == 0) || !(a.pre == st.1.pre && a.name == st.1.name && a.suf == st.1.suf && a.post == st.1.post && a.half == st.1.half && st.1.unit == [])) = true then (2 : Int) else 0) = if r.2.1 ≠ 0 ∨ st.1 ≠ a.street then 2 else 0 := by
  by_cases h : st.1 = a.street
  ·rw [hs.1 h]
   by_cases h0 : r.2.1 = 0
   ·rw [h0, if_neg (by decide), if_neg (by intro h'; rcases h' with h' | h'; exact h' rfl; exact h' h)]
   ·rw [if_pos (by simp [h0]), if_pos (.inl h0)]
  ·have hx : (a.pre == st.1.pre && a.name == st.1.name && a.suf == st.1.suf && a.post == st.1.post && a.half == st.1.half && st.1.unit == []) = false := by
    rw [← Bool.not_eq_true]
    exact fun h' => h (hs.2 h')
   rw [hx, if_pos (by simp), if_pos (.inr h)]
 rw [hl]
 generalize (if r.2.1 ≠ 0 ∨ st.1 ≠ a.street then (2 : Int) else 0) = R
 by_cases g1 : (b1 && b2 && b3 && C && L && b4 && b5 && b6) = true
 ·simp only [Bool.and_eq_true] at g1
  obtain ⟨⟨⟨⟨⟨⟨⟨rfl, rfl⟩, rfl⟩, rfl⟩, rfl⟩, rfl⟩, rfl⟩, rfl⟩ := g1
  rw [if_neg (by decide)]
  cases b7
  ·cases b8
   ·simp
   ·cases b9
    ·simp
    ·cases b10 <;> cases b11 <;> cases b12 <;> cases b13 <;> cases b14 <;> cases b15 <;> rfl
  ·simp
 ·have g2 : (!b1 || !b2 || !b3 || !C || !L || !b4 || !b5 || !b6) = true := by
   rw [Bool.not_eq_true] at g1
   rw [← Bool.not_and, ← Bool.not_and, ← Bool.not_and, ← Bool.not_and, ← Bool.not_and, ← Bool.not_and, ← Bool.not_and, g1]
   rfl
  rw [if_pos g2]
  have g3 : (b1 && b2 && b3 && (C && L) && b4 && b5 && b6) = false := by
   rw [← Bool.not_eq_true]
   intro h
   apply g1
   simp only [Bool.and_eq_true] at h ⊢
   obtain ⟨⟨⟨⟨⟨⟨x1, x2⟩, x3⟩, x4, x5⟩, x6⟩, x7⟩, x8⟩ := h
   exact ⟨⟨⟨⟨⟨⟨⟨x1, x2⟩, x3⟩, x4⟩, x5⟩, x6⟩, x7⟩, x8⟩
  rw [g3]
  simp
end Go.Proofs.YtjaponmpfdpemaaGreatDoor
set_option linter.unusedSimpArgs false
set_option linter.unusedVariables false
namespace Go.Proofs.YtjaponmpfdpemaaGreatDoor
open Go.RowKit
structure RsAt (W w : World) (g4 g7 : Nat) (a : Ad) (A : Option Addr) (n cap : Nat) (l : List Tok) : Prop where
 ext : Ext W w
 r : Blk w g4 45 (adC Ad.zero)
 b : Blk w g7 45 (adC a)
 t : TokS w A n cap l
 lo : 0 < l.length → ∀ b o, A = some ⟨b, o, none⟩ → b < W.heap.size
 l4 : W.heap.size ≤ g4
 l7 : W.heap.size ≤ g7
 ne : g4 ≠ g7
theorem RsAt.to {W w w' : World} {g4 g7 n cap : Nat} {a : Ad} {A : Option Addr} {l : List Tok} (h : RsAt W w g4 g7 a A n cap l) (hx : Ext w w') : RsAt W w' g4 g7 a A n cap l :=
 ⟨h.ext.trans hx, h.r.ext hx, h.b.ext hx, h.t.ext hx, h.lo, h.l4, h.l7, h.ne⟩
theorem RsAt.put {W w : World} {g4 g7 n cap : Nat} {a b : Ad} {A : Option Addr} {l : List Tok} (h : RsAt W w g4 g7 a A n cap l) (i : Nat) (u : Value) (hu : (adC a).setIfInBounds i u = adC b) : RsAt W (w.setCell ⟨g7, i, none⟩ u) g4 g7 b A n cap l :=
 ⟨h.ext.set (p := ⟨g7, i, none⟩) h.l7 _, h.r.far (p := ⟨g7, i, none⟩) h.ne _, ad_put h.b i u b hu, h.t.set (p := ⟨g7, i, none⟩) h.lo h.l7 _, h.lo, h.l4, h.l7, h.ne⟩
theorem RsAt.keep {W w : World} {g4 g7 n cap n' cap' : Nat} {a : Ad} {A A' : Option Addr} {l l' : List Tok} (h : RsAt W w g4 g7 a A n cap l) (ht : TokS w A' n' cap' l') (hlo : 0 < l'.length → ∀ b o, A' = some ⟨b, o, none⟩ → b < W.heap.size) : RsAt W w g4 g7 a A' n' cap' l' :=
 ⟨h.ext, h.r, h.b, ht, hlo, h.l4, h.l7, h.ne⟩
theorem RsAt.take {W w : World} {g4 g7 n cap : Nat} {a : Ad} {A : Option Addr} {l : List Tok} (h : RsAt W w g4 g7 a A n cap l) {m : Nat} (hm : m ≤ n) : RsAt W w g4 g7 a A m cap (l.take m) :=
 h.keep (h.t.take hm) fun h0 b o e => h.lo (by rw [List.length_take] at h0; omega) b o e
theorem RsAt.drop {W w : World} {g4 g7 n cap b o : Nat} {a : Ad} {l : List Tok} (h : RsAt W w g4 g7 a (some ⟨b, o, none⟩) n cap l) {m : Nat} (hm : m ≤ n) : RsAt W w g4 g7 a (some ⟨b, o + m * 2, none⟩) (n - m) (cap - m) (l.drop m) :=
 h.keep (h.t.drop hm) fun h0 b' o' e => by
  injection e with e
  injection e with e1 _ _
  subst e1
  exact h.lo (by rw [List.length_drop] at h0; omega) b o rfl
end Go.Proofs.YtjaponmpfdpemaaGreatDoor
set_option linter.unusedSimpArgs false
set_option linter.unusedVariables false
namespace Go.Proofs.YtjaponmpfdpemaaGreatDoor
open Go.RowKit
def StrR (W : World) (r : Ad × List Tok × Option (List Tok)) (e : Ending) (w' : World) : Prop := ∃ An nn cn inV, e = .returned (.tuple #[adV r.1, .slice An nn cn, inV]) ∧ TokS w' An nn cn r.2.1 ∧ InIs w' w'.heap.size inV r.2.2 ∧ Ext W w'
def tailIn (n : Nat) : Code → Option Code
 | .seq a b => if headIs n a then some (.seq a b) else match tailIn n a with
  | some c => some (.seq c b)
  | none => tailIn n b
 | .region id ops d => if id == n then some (.region id ops d) else none
 | .block _ c => tailIn n c
 | .loop c => tailIn n c
 | .scope c => tailIn n c
 | .cond _ a b => match tailIn n a with
  | some c => some c
  | none => tailIn n b
 | _ => none
def KF1 (P : Program) (Q : Exit → Act → World → Prop) (a : Act) (w : World) (c : Code × Code) : Prop :=
 ∀ K : Act → World → Prop, (∀ a w, c.2.wp P Q a w → K a w) → c.1.wp P (Exit.then K Q) a w
def KF2 (P : Program) (Q : Exit → Act → World → Prop) (a : Act) (w : World) (c : Code × Code × Code) : Prop :=
 ∀ K1 : Act → World → Prop, (∀ a w, c.2.2.wp P Q a w → K1 a w) → ∀ K2 : Act → World → Prop, (∀ a w, c.2.1.wp P (Exit.then K1 Q) a w → K2 a w) → c.1.wp P (Exit.then K2 (Exit.then K1 Q)) a w
def cut1 : Option Code → Code × Code
 | some (.seq a b) => (a, b)
 | _ => (.skip, .skip)
def cut2 : Option Code → Code × Code × Code
 | some (.seq (.seq a b) c) => (a, b, c)
 | _ => (.skip, .skip, .skip)
noncomputable def rstAt1 (n : Nat) : Code × Code := cut1 (Tryz.f69.body.bind (tailIn n))
noncomputable def rstAt2 (n : Nat) : Code × Code × Code := cut2 (Tryz.f69.body.bind (tailIn n))
theorem rback_eq {kind : Int} (hk : kindOk kind) (l : List Tok) : backP l kind = if (decide (1 < l.length) && (shortP kind (l.getLastD ⟨0, []⟩).t).2) = true then (l.take (l.length - 1), shortT (l.getLastD ⟨0, []⟩) kind) else (l, []) := by
 have hs := shortP_snd hk (l.getLastD ⟨0, []⟩).t
 have hi : (2 ≤ l.length ∧ shortT (l.getLastD ⟨0, []⟩) kind ≠ []) ↔ (decide (1 < l.length) && (shortP kind (l.getLastD ⟨0, []⟩).t).2) = true := by
  rw [← hs, Bool.and_eq_true, decide_eq_true_eq, bne_iff_ne]
  exact Iff.rfl
 unfold backP
 rw [← List.dropLast_eq_take]
 by_cases h : 2 ≤ l.length ∧ shortT (l.getLastD ⟨0, []⟩) kind ≠ []
 ·rw [if_pos h, if_pos (hi.1 h)]
 ·rw [if_neg h, if_neg (fun x => h (hi.2 x))]
theorem rfront_eq {kind : Int} (hk : kindOk kind) (l : List Tok) : frontP l kind = if (decide (1 < l.length) && (shortP kind (l.headD ⟨0, []⟩).t).2) = true then (l.tail, shortT (l.headD ⟨0, []⟩) kind) else (l, []) := by
 have hs := shortP_snd hk (l.headD ⟨0, []⟩).t
 have hi : (2 ≤ l.length ∧ shortT (l.headD ⟨0, []⟩) kind ≠ []) ↔ (decide (1 < l.length) && (shortP kind (l.headD ⟨0, []⟩).t).2) = true := by
  rw [← hs, Bool.and_eq_true, decide_eq_true_eq, bne_iff_ne]
  exact Iff.rfl
 unfold frontP
 by_cases h : 2 ≤ l.length ∧ shortT (l.headD ⟨0, []⟩) kind ≠ []
 ·rw [if_pos h, if_pos (hi.1 h)]
 ·rw [if_neg h, if_neg (fun x => h (hi.2 x))]
set_option maxRecDepth 100000 in
set_option maxHeartbeats 4000000 in
theorem rst19 (W w : World) (g4 g7 : Nat) (hf : Bool) (pre suf post unit : Bs) (A : Option Addr) (n cap : Nat) (l : List Tok) (io : Option (List Tok)) (uV : Value) (r : Ad × List Tok × Option (List Tok)) (S : RsAt W w g4 g7 ⟨0, hf, pre, [], suf, post, unit, [], [], [], []⟩ A n cap l) (I : InIs w W.heap.size uV io) (hr : r = (⟨0, hf, pre, (textsP l), suf, post, unit, [], [], [], []⟩, l, io)) ⦃u1 u2 u3 u5 u6 u9 u10 u11 u12 u13 u14 u15 u16 u17 u18 u19 u20 u21 u22 u23 u24 u25 u26 u27 u28 u29 u30 u31 u32 u33 u34 u35 u36 u37 u38 u39 u40 u41 u42 u43 u44 u45 u46 u47 u48 u49 u50 u51 u52 u53 u54 u55 u56 u57 u58 u59 u60 u61 u62 u63 u64 u65 u66 u67 u68 u69 u70 u71 u72 u73 u74 u75 u76 u77 u78 u79 u80 u81 u82 u83 u84 u85 u86 u87 u88 u89 u90 u91 u92 u93 u94 u95 u96 u97 u98 u99 u100 u101 u102 u103 u104 u105 u106 u107 u108 u109 u110 u111 u112 u113 u114 u115 : Value⦄ : KF1 Tryz.prog (bodyPost Tryz.prog Tryz.f69 (StrR W r)) ⟨#[.slice A n cap, u1, u2, u3, .pointer (some ⟨g4, 0, none⟩), u5, u6, .pointer (some ⟨g7, 0, none⟩), uV, u9, u10, u11, u12, u13, u14, u15, u16, u17, u18, u19, u20, u21, u22, u23, u24, u25, u26, u27, u28, u29, u30, u31, u32, u33, u34, u35, u36, u37, u38, u39, u40, u41, u42, u43, u44, u45, u46, u47, u48, u49, u50, u51, u52, u53, u54, u55, u56, u57, u58, u59, u60, u61, u62, u63, u64, u65, u66, u67, u68, u69, u70, u71, u72, u73, u74, u75, u76, u77, u78, u79, u80, u81, u82, u83, u84, u85, u86, u87, u88, u89, u90, u91, u92, u93, u94, u95, u96, u97, u98, u99, u100, u101, u102, u103, u104, u105, u106, u107, u108, u109, u110, u111, u112, u113, u114, u115, undef, undef, undef, undef, undef, undef], []⟩ w (rstAt1 19) := by
 have S0 := Lib.hid S
 have I0 := Lib.hid (fun w' (hx : Ext W w') => I.move S.ext hx)
 have HT := Lib.hid (fun w' (hx : Ext w w') => rtexts_any l A n cap w' (S.t.ext hx))
 replace hr := Lib.hid hr
 obtain ⟨nm, hnm⟩ : ∃ nm, textsP l = nm := ⟨_, rfl⟩
 rw [hnm] at hr HT
 replace hnm := Lib.hid hnm
 clear S I
 conv => arg 5; whnf
 conv => arg 5; arg 1; whnf
 conv => arg 5; arg 2; whnf
 unfold KF1
 dsimp only
 intro K1 hK1
 go_wp2_with fail
 refine (HT.out _ (Ext.refl _)).mono ?_
 rintro e w1 ⟨rfl, hx1⟩
 have S1 := Lib.hid (S0.out.to hx1)
 clear hx1 S0 HT
 have B1 := S1.out.b
 have r3 : w1.cell? ⟨g7, 3, none⟩ = some (.string ⟨#[]⟩) := B1.cell 3
 have f3 := B1.frozen 3
 have l7 := B1.lt
 have S2 := Lib.hid (S1.out.put 3 (.string ⟨nm.toArray⟩) (b := ⟨0, hf, pre, nm, suf, post, unit, [], [], [], []⟩) rfl)
 clear B1 S1
 go_upto_region 20 with (fail)
 clear r3 f3 l7
 generalize w1.setCell ⟨g7, 3, none⟩ (.string ⟨nm.toArray⟩) = w2 at *
 obtain ⟨q, l4, l7, ne⟩ : (∀ i, w2.cell? ⟨g7, i, none⟩ = (adC ⟨0, hf, pre, nm, suf, post, unit, [], [], [], []⟩)[i]?) ∧ g4 < w2.heap.size ∧ g7 < w2.heap.size ∧ g4 ≠ g7 := ⟨S2.out.b.cell, S2.out.r.lt, S2.out.b.lt, S2.out.ne⟩
 unfold adC at q
 dsimp only at q
 have R2 := S2.out.r
 unfold adC Ad.zero at R2
 dsimp only at R2
 obtain ⟨p, p'⟩ := R2.cells
 clear R2
 have X3 := Lib.hid (setAd_ext ⟨0, hf, pre, nm, suf, post, unit, [], [], [], []⟩ S2.out.ext S2.out.l4)
 have R3 := Lib.hid (setAd_blk ⟨0, hf, pre, nm, suf, post, unit, [], [], [], []⟩ S2.out.r)
 have T3 := Lib.hid (S2.out.t.move S2.out.lo S2.out.ext X3.out)
 have I3 := Lib.hid (I0.out _ X3.out)
 clear S2 I0
 go_wp2_with fail
 change bodyPost _ _ _ _ _ (setAd w2 g4 ⟨0, hf, pre, nm, suf, post, unit, [], [], [], []⟩)
 exact bodyPost_ret (results_ct2 rfl rfl (ld_ad R3.out)) rfl ⟨A, n, cap, uV, by rw [hr.out]; rfl, by rw [hr.out]; exact T3.out, by rw [hr.out]; exact I3.out, X3.out⟩
theorem InIs.stay {W w w' : World} {v : Value} {o : Option (List Tok)} (h : InIs w W.heap.size v o) (hx : Ext W w) (hx' : Ext W w') : InIs w' W.heap.size v o := by
 cases o with
 | none => exact h
 | some u =>
  obtain ⟨A, n, cap, rfl, T, h0, hb⟩ := h
  exact ⟨A, n, cap, rfl, T.move (fun _ => hb) hx hx', h0, hb⟩
end Go.Proofs.YtjaponmpfdpemaaGreatDoor
set_option linter.unusedSimpArgs false
set_option linter.unusedVariables false
namespace Go.Proofs.YtjaponmpfdpemaaGreatDoor
open Go.RowKit
set_option maxRecDepth 100000 in
set_option maxHeartbeats 4000000 in
theorem rst16 (W w : World) (g4 g7 : Nat) (hf : Bool) (suf post unit : Bs) (A : Option Addr) (n cap : Nat) (l : List Tok) (io : Option (List Tok)) (uV : Value) (r : Ad × List Tok × Option (List Tok)) (S : RsAt W w g4 g7 ⟨0, hf, [], [], suf, post, unit, [], [], [], []⟩ A n cap l) (I : InIs w W.heap.size uV io) (hr : r = (⟨0, hf, (frontP l 2).2, (textsP (frontP l 2).1), suf, post, unit, [], [], [], []⟩, (frontP l 2).1, io)) ⦃u1 u2 u3 u5 u6 u9 u10 u11 u12 u13 u14 u15 u16 u17 u18 u19 u20 u21 u22 u23 u24 u25 u26 u27 u28 u29 u30 u31 u32 u33 u34 u35 u36 u37 u38 u39 u40 u41 u42 u43 u44 u45 u46 u47 u48 u49 u50 u51 u52 u53 u54 u55 u56 u57 u58 u59 u60 u61 u62 u63 u64 u65 u66 u67 u68 u69 u70 u71 u72 u73 u74 u75 u76 u77 u78 u79 u80 u81 u82 u83 u84 u85 u86 u87 u88 u89 u90 u91 u92 u93 u94 u95 u96 u97 u98 u99 : Value⦄ : KF2 Tryz.prog (bodyPost Tryz.prog Tryz.f69 (StrR W r)) ⟨#[.slice A n cap, u1, u2, u3, .pointer (some ⟨g4, 0, none⟩), u5, u6, .pointer (some ⟨g7, 0, none⟩), uV, u9, u10, u11, u12, u13, u14, u15, u16, u17, u18, u19, u20, u21, u22, u23, u24, u25, u26, u27, u28, u29, u30, u31, u32, u33, u34, u35, u36, u37, u38, u39, u40, u41, u42, u43, u44, u45, u46, u47, u48, u49, u50, u51, u52, u53, u54, u55, u56, u57, u58, u59, u60, u61, u62, u63, u64, u65, u66, u67, u68, u69, u70, u71, u72, u73, u74, u75, u76, u77, u78, u79, u80, u81, u82, u83, u84, u85, u86, u87, u88, u89, u90, u91, u92, u93, u94, u95, u96, u97, u98, u99, undef, undef, undef, undef, undef, undef, undef, undef, undef, undef, undef, undef, undef, undef, undef, undef, undef, undef, undef, undef, undef, undef], []⟩ w (rstAt2 16) := by
 have S0 := Lib.hid S
 have I0 := Lib.hid (fun w' (hx : Ext W w') => I.stay S.ext hx)
 have hn := S.t.len
 subst hn
 have h40 := S.t.l40
 have hle := S.t.le
 have hE := rfront_eq (kind := 2) (.inr (.inl rfl)) l
 generalize frontP l 2 = fp at *
 obtain ⟨isP, hisP⟩ : ∃ isP, (decide (1 < l.length) && (shortP 2 (l.headD ⟨0, []⟩).t).2) = isP := ⟨_, rfl⟩
 rw [hisP] at hE
 replace hr := Lib.hid hr
 clear S I
 conv => arg 5; whnf
 conv => arg 5; arg 1; whnf
 conv => arg 5; arg 2; whnf
 conv => arg 5; arg 2; arg 1; whnf
 conv => arg 5; arg 2; arg 2; whnf
 unfold KF2
 dsimp only
 intro K1 hK1 K2 hK2
 go_cut [108] from 100 to 108 (fun v wx => v = .bool isP ∧ Ext w wx)
 case first =>
  by_cases h1 : 1 < l.length
  ·have d1 : decide ((1 : Int) < (l.length : Int)) = true := decide_eq_true (by omega)
   have hd0 : (l.headD ⟨0, []⟩) = l[0] := by cases l with | nil => simp at h1 | cons _ _ => rfl
   rw [hd0, decide_eq_true h1, Bool.true_and] at hisP
   obtain ⟨b, o, rfl, hb, t0, t1⟩ := S0.out.t.at_ (k := 0) (by omega)
   simp only [Nat.zero_mul, Nat.add_zero] at t0 t1
   have nz : (0 : Int) < (l.length : Int) := by omega
   have nz' : 0 < l.length := by omega
   have HH := Lib.hid (fun w' => rhas_any l[0] 2 (.inr (.inl rfl)) w')
   unfold tokV at HH
   replace hisP := Lib.hid hisP
   clear hd0 hE
   generalize l[0].k = tk at *
   generalize l[0].t = tt at *
   go_wp2_with fail
   refine (HH.out _).mono ?_
   rintro e' w1 ⟨rfl, hx1⟩
   go_wp2_with fail
   go_meet
   exact ⟨by rw [hisP.out], hx1⟩
  ·have d1 : decide ((1 : Int) < (l.length : Int)) = false := decide_eq_false (by omega)
   have e : isP = false := by rw [← hisP, decide_eq_false h1]; rfl
   subst e
   clear hisP hE
   go_wp2_with fail
   go_meet
   exact ⟨rfl, Ext.refl _⟩
 case rest =>
  obtain ⟨rfl, hx2⟩ := hcut
  obtain ⟨w2, rfl⟩ : ∃ w2, w2 = wc := ⟨_, rfl⟩
  replace S0 := Lib.hid (S0.out.to hx2)
  clear hx2
  go_upto_if 108 with (fail)
  go_cut [0] from 109 to 115 (fun v wx => ∃ A2 n2 c2, v = .slice A2 n2 c2 ∧ RsAt W wx g4 g7 ⟨0, hf, fp.2, [], suf, post, unit, [], [], [], []⟩ A2 n2 c2 fp.1)
  case first =>
   cases isP with
   | false =>
    have HE := Lib.hid (show RsAt W w2 g4 g7 ⟨0, hf, fp.2, [], suf, post, unit, [], [], [], []⟩ A l.length cap fp.1 by rw [hE]; exact S0.out)
    clear hE hisP S0
    go_wp2_with fail
    go_meet
    exact ⟨_, _, _, rfl, HE.out⟩
   | true =>
    have h1 : 1 < l.length := by
     rw [Bool.and_eq_true, decide_eq_true_eq] at hisP
     exact hisP.1
    have hd0 : (l.headD ⟨0, []⟩) = l[0] := by cases l with | nil => simp at h1 | cons _ _ => rfl
    rw [hd0, if_pos rfl] at hE
    obtain ⟨b, o, rfl, hb, t0, t1⟩ := S0.out.t.at_ (k := 0) (by omega)
    simp only [Nat.zero_mul, Nat.add_zero] at t0 t1
    have nz : (0 : Int) < (l.length : Int) := by omega
    have nz' : 0 < l.length := by omega
    have l1i : (1 : Int) ≤ (l.length : Int) := by omega
    have hcb : (cap == 1) = false := by rw [beq_eq_false_iff_ne]; omega
    have HH := Lib.hid (fun w' => rshortT_any l[0] 2 (.inr (.inl rfl)) w')
    unfold tokV at HH
    have HE := Lib.hid (fun w' (hx : Ext w2 w') => (show RsAt W (w'.setCell ⟨g7, 2, none⟩ (.string ⟨fp.2.toArray⟩)) g4 g7 ⟨0, hf, fp.2, [], suf, post, unit, [], [], [], []⟩ (some ⟨b, o + 2, none⟩) (l.length - 1) (cap - 1) fp.1 by
     have X := ((S0.out.to hx).put 2 (.string ⟨fp.2.toArray⟩) (b := ⟨0, hf, fp.2, [], suf, post, unit, [], [], [], []⟩) rfl).drop (m := 1) (by omega)
     rw [Nat.one_mul] at X
     rw [show fp.1 = l.drop 1 by rw [hE, List.drop_one]]
     exact X))
    have hsh : shortT l[0] 2 = fp.2 := by rw [hE]
    rw [hsh] at HH
    have HC := Lib.hid (fun w' (hx : Ext w2 w') => (show w'.cell? ⟨g7, 2, none⟩ = some (.string ⟨#[]⟩) ∧ w'.frozen? ⟨g7, 2, none⟩ = false ∧ g7 < w'.heap.size from ⟨(S0.out.to hx).b.cell 2, (S0.out.to hx).b.frozen 2, (S0.out.to hx).b.lt⟩))
    clear hd0 hisP hE hsh S0
    generalize l[0].k = tk at *
    generalize l[0].t = tt at *
    go_wp2_with fail
    refine (HH.out _).mono ?_
    rintro e' w3 ⟨rfl, hx3⟩
    obtain ⟨q1, q2, q3⟩ := HC.out _ hx3
    have HF := Lib.hid (HE.out _ hx3)
    clear HE HC HH hx3 t0 t1 hb
    go_wp2_with fail
    go_meet
    exact ⟨_, _, _, rfl, HF.out⟩
  case rest =>
   obtain ⟨A2, n2, c2, rfl, S2⟩ := hcut
   have I2 := I0.out _ S2.ext
   go_upto_region 19 with (fail)
   exact rst19 W _ g4 g7 hf fp.2 suf post unit A2 n2 c2 fp.1 io uV r S2 I2 hr.out _ (by assumption)
end Go.Proofs.YtjaponmpfdpemaaGreatDoor
