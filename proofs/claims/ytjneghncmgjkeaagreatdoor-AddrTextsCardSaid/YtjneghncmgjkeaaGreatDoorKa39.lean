/-
  apportionref17: list.
-/
import Derived.Test.YtjneghncmgjkeaaGreatDoorKa38
set_option linter.unusedVariables false
namespace Go.Proofs.YtjneghncmgjkeaaGreatDoor
open Go.RowKit

theorem kindT_in (t : Bs) : kindT t = 1 ∨ kindT t = 2 ∨ kindT t = 3 := by
  unfold kindT
  repeat' split
  all_goals omega
theorem tokIs_in {t : Tok} (h : TokIs t) (h4 : t.k ≠ 4) (h5 : t.k ≠ 5) : ([1, 2, 3] : List Int).contains t.k = true := by
  rcases h with rfl | rfl | ⟨w, _, rfl⟩
  · exact absurd rfl h4
  · exact absurd rfl h5
  · have : (tokW w).k = kindT (upS w) := rfl
    rw [this]
    rcases kindT_in (upS w) with e | e | e <;> rw [e] <;> rfl
def LiR (W : World) (s : Bs) (e : Ending) (w' : World) : Prop := ∃ v, e = .returned (.tuple #[v, .bool (namedP s [1, 2, 3])]) ∧ w'.ownsRow W.heap.size 58 2 v (if namedP s [1, 2, 3] then (tokensP s).1 else []).length (tokCells (if namedP s [1, 2, 3] then (tokensP s).1 else [])) ∧ Ext W w'
def LiAt (w2 : World) (l : List Tok) (i : Value) (wr : World) : Prop := ∃ k : Nat, k ≤ l.length ∧ i = .int .i64 (k : Int) ∧ Ext w2 wr ∧ ∀ j (h : j < l.length), j < k → ([1, 2, 3] : List Int).contains l[j].k = true
set_option maxRecDepth 100000 in
set_option maxHeartbeats 2000000 in
theorem rlist_any (s : Bs) (hs : s.length ≤ 100000) (W : World) : Calls Tryz.prog 60 #[.string ⟨s.toArray⟩] W (LiR W s) := by
  have HT := Lib.hid (fun w => rtokens_any s w hs)
  have hP : namedP s [1, 2, 3] = ((tokensP s).2.1 == 0 && decide (0 < (tokensP s).1.length) && decide ((tokensP s).1.length ≤ 8) && kindOf (tokensP s).1 [1, 2, 3] && textsP (tokensP s).1 == s && decide (s.length ≤ 40)) := rfl
  have hIs := Lib.hid (tokensP_is s)
  have hF := Lib.hid (fun (v : Value) (w' : World) (hx : Ext W w') (h : namedP s [1, 2, 3] = false) => (show LiR W s (.returned (.tuple #[.slice none 0 0, .bool false])) w' from ⟨.slice none 0 0, by rw [h], by rw [h]; exact World.ownsRow_nil _ _ _ _, hx⟩))
  have hY := Lib.hid (fun (v : Value) (w' : World) (hx : Ext W w') (h : namedP s [1, 2, 3] = true) (ho : w'.ownsRow W.heap.size 58 2 v (tokensP s).1.length (tokCells (tokensP s).1)) => (show LiR W s (.returned (.tuple #[v, .bool true])) w' from ⟨v, by rw [h], by rw [h]; exact ho, hx⟩))
  obtain ⟨Q, hQ⟩ : ∃ Q, LiR W s = Q := ⟨_, rfl⟩
  rw [hQ] at hF hY ⊢
  replace hQ := Lib.hid hQ
  generalize namedP s [1, 2, 3] = R at *
  replace hP := Lib.hid hP
  go_enter Tryz.func60, Tryz.ntmps60
  go_wp2_with fail
  refine (HT.out _).mono ?_
  rintro e w1 ⟨v, rfl, hown, hx1⟩
  obtain ⟨A, cp, rfl, T1⟩ := own_tokens hown
  have h40 := T1.l40
  replace hown := Lib.hid hown
  clear HT
  generalize tokensP s = tk at *
  obtain ⟨l, fe, fa⟩ := tk
  dsimp only at *
  go_upto_region 2 with (fail)
  have XX := (Ext.refl w1).alloc (.cells #[.int .i64 fe, .int .i64 fa] 26)
  have BF := Blk.new w1 26 #[.int .i64 fe, .int .i64 fa]
  have X2 := Lib.hid (hx1.trans XX)
  replace hown := Lib.hid (own_ext hown.out XX)
  have T2 := T1.ext XX
  clear T1 XX hx1
  generalize w1.alloc (.cells #[.int .i64 fe, .int .i64 fa] 26) = w2 at *
  generalize w1.heap.size = gf at *
  have c0 : w2.cell? ⟨gf, 0, none⟩ = some (.int .i64 fe) := BF.cell 0
  have lf := BF.lt
  have HX := Lib.hid (rtexts_any l A l.length cp w2 T2)
  replace BF := Lib.hid BF
  replace T2 := Lib.hid T2
  by_cases h0 : fe = 0
  rotate_left
  · have hb : (fe != 0) = true := by rw [bne_iff_ne]; exact h0
    have hR := Lib.hid (show R = false by rw [hP.out, beq_eq_false_iff_ne.2 h0]; rfl)
    clear h0 hP HX
    go_wp2_with fail
    exact hF.out (.slice none 0 0) _ X2.out hR.out
  subst h0
  by_cases h1 : l.length = 0
  · have hb : ((l.length : Int) == 0) = true := by rw [beq_iff_eq]; omega
    have hR := Lib.hid (show R = false by rw [hP.out, decide_eq_false (show ¬ 0 < l.length by omega)]; rfl)
    clear h1 hP HX
    go_wp2_with fail
    exact hF.out (.slice none 0 0) _ X2.out hR.out
  have d1 : ((l.length : Int) == 0) = false := by rw [beq_eq_false_iff_ne]; omega
  by_cases h8 : 8 < l.length
  · have hb : decide ((8 : Int) < (l.length : Int)) = true := decide_eq_true (by omega)
    have hR := Lib.hid (show R = false by rw [hP.out, decide_eq_false (show ¬ l.length ≤ 8 by omega)]; simp)
    clear h1 h8 hP HX
    go_wp2_with fail
    exact hF.out (.slice none 0 0) _ X2.out hR.out
  have d8 : decide ((8 : Int) < (l.length : Int)) = false := decide_eq_false (by omega)
  obtain ⟨tx, htx⟩ : ∃ tx, textsP l = tx := ⟨_, rfl⟩
  rw [htx] at hP HX
  by_cases ht : tx = s
  rotate_left
  · have b0 : (tx == s) = false := by rw [beq_eq_false_iff_ne]; exact ht
    have b1 : (tx != s) = true := by rw [bne_iff_ne]; exact ht
    have b2 : decide (tx = s) = false := decide_eq_false ht
    have hR := Lib.hid (show R = false by rw [hP.out, b0]; simp)
    clear h1 h8 hP ht htx
    go_wp2_with fail
    refine HX.out.mono ?_
    rintro e w3 ⟨rfl, hx3⟩
    go_wp2_with fail
    exact hF.out (.slice none 0 0) _ (X2.out.trans hx3) hR.out
  replace htx := Lib.hid (htx.trans ht)
  subst ht
  by_cases h41 : 40 < List.length tx
  · have b2 : decide ((40 : Int) < (List.length tx : Int)) = true := decide_eq_true (by omega)
    have hR := Lib.hid (show R = false by rw [hP.out, decide_eq_false (show ¬ List.length tx ≤ 40 by omega)]; simp)
    clear h1 h8 hP h41
    go_wp2_with fail
    refine HX.out.mono ?_
    rintro e w3 ⟨rfl, hx3⟩
    go_wp2_with fail
    exact hF.out (.slice none 0 0) _ (X2.out.trans hx3) hR.out
  have b2 : decide ((40 : Int) < (List.length tx : Int)) = false := decide_eq_false (by omega)
  have hRk := Lib.hid (show R = kindOf l [1, 2, 3] by rw [hP.out, decide_eq_true (show 0 < l.length by omega), decide_eq_true (show l.length ≤ 8 by omega), decide_eq_true (show List.length tx ≤ 40 by omega)]; simp)
  clear h1 h8 hP h41
  go_wp2_with fail
  refine HX.out.mono ?_
  rintro e w3 ⟨rfl, hx3⟩
  have H0 := Lib.hid (show LiAt w2 l (.int .i64 ((0 : Nat) : Int)) w3 from ⟨0, by omega, rfl, hx3, fun j _ h => absurd h (by omega)⟩)
  clear HX hx3 c0 lf
  go_wp2_with fail
  go_loopw [6] (fun i wr => LiAt w2 l i wr) (fun i _ => l.length - (intOf i).toNat)
  case atStart => exact H0.out
  case round =>
    clear H0
    obtain ⟨k, hk, rfl, hx, hno⟩ := hrel
    by_cases hlt : k < l.length
    · have hd : decide ((k : Int) < (l.length : Int)) = true := decide_eq_true (by omega)
      have kz : (0 : Int) ≤ (k : Int) := by omega
      have kl : (k : Int) < (l.length : Int) := by omega
      obtain ⟨g, o, rfl, hg, t0, t1⟩ := (T2.out.ext hx).at_ hlt
      have hi := hIs.out l[k] (List.getElem_mem hlt)
      by_cases h4 : l[k].k = 4
      · have e4 : (l[k].k == 4) = true := by rw [beq_iff_eq]; exact h4
        have hR := Lib.hid (show R = false by rw [hRk.out]; exact kind_not hlt (by
          rw [h4]
          intro j hj
          have h3 : j = 0 ∨ j = 1 ∨ j = 2 := by simp at hj; omega
          rcases h3 with rfl | rfl | rfl <;> simp))
        have hX := Lib.hid (X2.out.trans hx)
        clear hno hi t1 hx h4
        generalize l[k].k = q at *
        go_wp2_with fail
        exact hF.out (.slice none 0 0) _ hX.out hR.out
      · have e4 : (l[k].k == 4) = false := by rw [beq_eq_false_iff_ne]; exact h4
        by_cases h5 : l[k].k = 5
        · have e5 : (l[k].k == 5) = true := by rw [beq_iff_eq]; exact h5
          have hR := Lib.hid (show R = false by rw [hRk.out]; exact kind_not hlt (by
          rw [h5]
          intro j hj
          have h3 : j = 0 ∨ j = 1 ∨ j = 2 := by simp at hj; omega
          rcases h3 with rfl | rfl | rfl <;> simp))
          have hX := Lib.hid (X2.out.trans hx)
          clear hno hi t1 hx h4 h5
          generalize l[k].k = q at *
          go_wp2_with fail
          exact hF.out (.slice none 0 0) _ hX.out hR.out
        · have e5 : (l[k].k == 5) = false := by rw [beq_eq_false_iff_ne]; exact h5
          have HE := Lib.hid (show LiAt w2 l (.int .i64 ((k + 1 : Nat) : Int)) wr from ⟨k + 1, hlt, rfl, hx, fun j h hj => by
            by_cases e : j = k
            · subst e; exact tokIs_in hi h4 h5
            · exact hno j h (by omega)⟩)
          clear hno hi t1 hx h4 h5
          generalize l[k].k = q at *
          go_wp2_with fail
          go_roundw
          case rel => exact HE.out
          case measure => simp [intOf]; omega
    · obtain rfl : k = l.length := by omega
      have hd : decide ((l.length : Int) < (l.length : Int)) = false := by simp
      have hR := Lib.hid (show R = true by rw [hRk.out]; exact kind_all fun j hj => hno j hj hj)
      replace hx := Lib.hid hx
      clear hno
      go_wp2_with fail
      exact hY.out _ _ (X2.out.trans hx.out) hR.out (own_ext hown.out hx.out)
end Go.Proofs.YtjneghncmgjkeaaGreatDoor

set_option linter.unusedVariables false
namespace Go.Proofs.YtjneghncmgjkeaaGreatDoor
open Go.RowKit
end Go.Proofs.YtjneghncmgjkeaaGreatDoor

set_option linter.unusedVariables false
namespace Go.Proofs.YtjneghncmgjkeaaGreatDoor
open Go.RowKit
end Go.Proofs.YtjneghncmgjkeaaGreatDoor

set_option linter.unusedVariables false
namespace Go.Proofs.YtjneghncmgjkeaaGreatDoor
open Go.RowKit
end Go.Proofs.YtjneghncmgjkeaaGreatDoor

set_option linter.unusedVariables false
namespace Go.Proofs.YtjneghncmgjkeaaGreatDoor
theorem kind_one (l : List Tok) : l.all (fun t => t.k == 1) = kindOf l [1] := by
  unfold kindOf
  congr 1
  funext t
  by_cases h : t.k = 1
  · rw [h]; rfl
  · rw [beq_eq_false_iff_ne.2 h]
    simp [h]
end Go.Proofs.YtjneghncmgjkeaaGreatDoor

set_option linter.unusedVariables false
namespace Go.Proofs.YtjneghncmgjkeaaGreatDoor

/-- The reference's Check. -/
def rcheckP (a : Ad) : Int :=
  if (decide (a.n < 1) || decide (999999 < a.n) || !namedP a.name [1, 2, 3] || !namedP a.city [1, 2, 3] || !((if namedP a.city [1, 2, 3] then (tokensP a.city).1 else []).all (fun t => t.k == 1)) || !ownP 2 a.pre || !ownP 2 a.post || !ownP 1 a.suf) = true then 2 else
  if (a.state == [] || !ownP 3 a.state || !digitsP a.zip 5 5 || (a.more != [] && !digitsP a.more 4 4)) = true then 2 else
  if (a.unit != [] && (!(unitP (tokensP a.unit).1).2 || (unitP (tokensP a.unit).1).1 != a.unit || decide (10 < (((tokensP a.unit).1.getD 1 ⟨0, []⟩).t).length))) = true then 2 else
  let r := tokensP (lineP a)
  let b := (streetP r.1 (a.unit == [])).1
  if (r.2.1 != 0 || !(a.pre == b.pre && a.name == b.name && a.suf == b.suf && a.post == b.post && a.half == b.half && b.unit == [])) = true then 2 else 0
theorem kindOf_mono {l : List Tok} (h : kindOf l [1] = true) : kindOf l [1, 2, 3] = true := by
  unfold kindOf at *
  rw [List.all_eq_true] at *
  intro t ht
  have := h t ht
  simp at this
  simp [this]
theorem named_one (s : Bs) : (namedP s [1, 2, 3] && (if namedP s [1, 2, 3] then (tokensP s).1 else []).all (fun t => t.k == 1)) = namedP s [1] := by
  have h1 : namedP s [1, 2, 3] = ((tokensP s).2.1 == 0 && decide (0 < (tokensP s).1.length) && decide ((tokensP s).1.length ≤ 8) && kindOf (tokensP s).1 [1, 2, 3] && textsP (tokensP s).1 == s && decide (s.length ≤ 40)) := rfl
  have h2 : namedP s [1] = ((tokensP s).2.1 == 0 && decide (0 < (tokensP s).1.length) && decide ((tokensP s).1.length ≤ 8) && kindOf (tokensP s).1 [1] && textsP (tokensP s).1 == s && decide (s.length ≤ 40)) := rfl
  cases hn : namedP s [1, 2, 3] with
  | true =>
    rw [if_pos rfl, Bool.true_and, kind_one]
    rw [hn] at h1
    have h1 := h1.symm
    simp only [Bool.and_eq_true] at h1
    obtain ⟨⟨⟨⟨⟨a1, a2⟩, a3⟩, a4⟩, a5⟩, a6⟩ := h1
    rw [h2, a1, a2, a3, a5, a6]
    simp
  | false =>
    rw [Bool.false_and]
    cases hk : namedP s [1] with
    | false => rfl
    | true =>
      rw [hk] at h2
      have h2 := h2.symm
      simp only [Bool.and_eq_true] at h2
      obtain ⟨⟨⟨⟨⟨a1, a2⟩, a3⟩, a4⟩, a5⟩, a6⟩ := h2
      rw [h1, a1, a2, a3, kindOf_mono a4, a5, a6] at hn
      cases hn
theorem street_same (a : Ad) (l : List Tok) (inner : Bool) : (streetP l inner).1 = a.street ↔ (a.pre == (streetP l inner).1.pre && a.name == (streetP l inner).1.name && a.suf == (streetP l inner).1.suf && a.post == (streetP l inner).1.post && a.half == (streetP l inner).1.half && (streetP l inner).1.unit == []) = true := by
  have h0 : (streetP l inner).1 = ⟨0, (streetP l inner).1.half, (streetP l inner).1.pre, (streetP l inner).1.name, (streetP l inner).1.suf, (streetP l inner).1.post, (streetP l inner).1.unit, [], [], [], []⟩ := rfl
  generalize (streetP l inner).1 = b at *
  simp only [Bool.and_eq_true, beq_iff_eq]
  constructor
  · intro h
    rw [h]
    exact ⟨⟨⟨⟨⟨rfl, rfl⟩, rfl⟩, rfl⟩, rfl⟩, rfl⟩
  · rintro ⟨⟨⟨⟨⟨e1, e2⟩, e3⟩, e4⟩, e5⟩, e6⟩
    rw [h0]
    unfold Ad.street
    rw [e1, e2, e3, e4, e5, e6]
theorem rcheck_eq (a : Ad) : rcheckP a = checkP a := by
  have hs := street_same a (tokensP (lineP a)).1 (a.unit == [])
  have hc := named_one a.city
  have hh : housedP a.unit = (a.unit == [] || ((unitP (tokensP a.unit).1).2 && (unitP (tokensP a.unit).1).1 == a.unit && decide (((tokensP a.unit).1.getD 1 ⟨0, []⟩).t.length ≤ 10))) := rfl
  unfold rcheckP checkP
  dsimp only
  rw [← hc, hh]
  generalize streetP (tokensP (lineP a)).1 (a.unit == []) = st at *
  generalize tokensP (lineP a) = r at *
  generalize (if namedP a.city [1, 2, 3] = true then (tokensP a.city).1 else []).all (fun t => t.k == 1) = L at *
  generalize namedP a.city [1, 2, 3] = C at *
  have e1 : decide (a.n < 1) = !decide (1 ≤ a.n) := by by_cases h : a.n < 1 <;> simp [h] <;> omega
  have e2 : decide (999999 < a.n) = !decide (a.n ≤ 999999) := by by_cases h : 999999 < a.n <;> simp [h] <;> omega
  have e3 : decide (10 < ((tokensP a.unit).1.getD 1 ⟨0, []⟩).t.length) = !decide (((tokensP a.unit).1.getD 1 ⟨0, []⟩).t.length ≤ 10) := by
    generalize ((tokensP a.unit).1.getD 1 ⟨0, []⟩).t.length = q
    by_cases h : 10 < q <;> simp [h] <;> omega
  rw [e1, e2, e3]
  rw [show (a.state != []) = !(a.state == []) from rfl, show (a.more != []) = !(a.more == []) from rfl, show (a.unit != []) = !(a.unit == []) from rfl, show ((unitP (tokensP a.unit).1).1 != a.unit) = !((unitP (tokensP a.unit).1).1 == a.unit) from rfl, show (r.2.1 != 0) = !(r.2.1 == 0) from rfl]
  generalize decide (1 ≤ a.n) = b1
  generalize decide (a.n ≤ 999999) = b2
  generalize namedP a.name [1, 2, 3] = b3
  generalize ownP 2 a.pre = b4
  generalize ownP 2 a.post = b5
  generalize ownP 1 a.suf = b6
  generalize (a.state == []) = b7
  generalize ownP 3 a.state = b8
  generalize digitsP a.zip 5 5 = b9
  generalize (a.more == []) = b10
  generalize digitsP a.more 4 4 = b11
  generalize (a.unit == []) = b12
  generalize (unitP (tokensP a.unit).1).2 = b13
  generalize ((unitP (tokensP a.unit).1).1 == a.unit) = b14
  generalize decide (((tokensP a.unit).1.getD 1 ⟨0, []⟩).t.length ≤ 10) = b15
  have hl : (if (!(r.2.1 == 0) || !(a.pre == st.1.pre && a.name == st.1.name && a.suf == st.1.suf && a.post == st.1.post && a.half == st.1.half && st.1.unit == [])) = true then (2 : Int) else 0) = if r.2.1 ≠ 0 ∨ st.1 ≠ a.street then 2 else 0 := by
    by_cases h : st.1 = a.street
    · rw [hs.1 h]
      by_cases h0 : r.2.1 = 0
      · rw [h0, if_neg (by decide), if_neg (by intro h'; rcases h' with h' | h'; exact h' rfl; exact h' h)]
      · rw [if_pos (by simp [h0]), if_pos (.inl h0)]
    · have hx : (a.pre == st.1.pre && a.name == st.1.name && a.suf == st.1.suf && a.post == st.1.post && a.half == st.1.half && st.1.unit == []) = false := by
        rw [← Bool.not_eq_true]
        exact fun h' => h (hs.2 h')
      rw [hx, if_pos (by simp), if_pos (.inr h)]
  rw [hl]
  generalize (if r.2.1 ≠ 0 ∨ st.1 ≠ a.street then (2 : Int) else 0) = R
  by_cases g1 : (b1 && b2 && b3 && C && L && b4 && b5 && b6) = true
  · simp only [Bool.and_eq_true] at g1
    obtain ⟨⟨⟨⟨⟨⟨⟨rfl, rfl⟩, rfl⟩, rfl⟩, rfl⟩, rfl⟩, rfl⟩, rfl⟩ := g1
    rw [if_neg (by decide)]
    cases b7
    · cases b8
      · simp
      · cases b9
        · simp
        · cases b10 <;> cases b11 <;> cases b12 <;> cases b13 <;> cases b14 <;> cases b15 <;> rfl
    · simp
  · have g2 : (!b1 || !b2 || !b3 || !C || !L || !b4 || !b5 || !b6) = true := by
      rw [Bool.not_eq_true] at g1
      rw [← Bool.not_and, ← Bool.not_and, ← Bool.not_and, ← Bool.not_and, ← Bool.not_and, ← Bool.not_and, ← Bool.not_and, g1]
      rfl
    rw [if_pos g2]
    have g3 : (b1 && b2 && b3 && (C && L) && b4 && b5 && b6) = false := by
      rw [← Bool.not_eq_true]
      intro h
      apply g1
      simp only [Bool.and_eq_true] at h ⊢
      obtain ⟨⟨⟨⟨⟨⟨x1, x2⟩, x3⟩, x4, x5⟩, x6⟩, x7⟩, x8⟩ := h
      exact ⟨⟨⟨⟨⟨⟨⟨x1, x2⟩, x3⟩, x4⟩, x5⟩, x6⟩, x7⟩, x8⟩
    rw [g3]
    simp
end Go.Proofs.YtjneghncmgjkeaaGreatDoor
