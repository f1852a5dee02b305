/-
  addr: Parse, of any text.
-/
import Derived.Test.YtjneghncmgjkeaaGreatDoorKa28
import Derived.Test.YtjneghncmgjkeaaGreatDoorKa31
import Derived.Test.YtjneghncmgjkeaaGreatDoorKa32
import Derived.Test.YtjneghncmgjkeaaGreatDoorKa27
import Derived.Test.YtjneghncmgjkeaaGreatDoorKa07
set_option linter.unusedVariables false
namespace Go.Proofs.YtjneghncmgjkeaaGreatDoor
open Go.RowKit

theorem parse_any (s : Bs) (hs : s.length ≤ 100000) (W : World) (hS : Std W) : Calls Tryz.prog 10 #[.string ⟨s.toArray⟩] W (PsR W (parseP s)) := by
  by_cases h0 : (tokensP s).2.1 = 0
  · by_cases hn : (partsP (tokensP s).1).length - 1 = 2 ∨ (partsP (tokensP s).1).length - 1 = 3
    · match hp : partsP (tokensP s).1 with
      | [] => rw [hp] at hn; simp at hn
      | [_] => rw [hp] at hn; simp at hn
      | [_, _] => rw [hp] at hn; simp at hn
      | [p0, p1, p2] => exact parse_2 s hs W hS h0 hp
      | [p0, p1, p2, p3] => exact parse_3 s hs W hS h0 hp
      | _ :: _ :: _ :: _ :: _ :: _ => rw [hp] at hn; simp at hn
    · exact parse_n s hs W hS h0 hn
  · exact parse_f s hs W hS h0
end Go.Proofs.YtjneghncmgjkeaaGreatDoor

set_option linter.unusedVariables false
namespace Go.Proofs.YtjneghncmgjkeaaGreatDoor
open Go.RowKit

def ZeroAt (r : Ad × Int × Int) : Prop := r.2.1 = 0 → r.2.2 = 0
theorem zeroAt_ite {c : Prop} [Decidable c] {e at_ : Int} {r : Ad × Int × Int} (he : e ≠ 0) (h : ZeroAt r) : ZeroAt (if c then errA e at_ else r) := by
  by_cases hc : c
  · rw [if_pos hc]; exact fun h => absurd h he
  · rw [if_neg hc]; exact h
theorem pts_zero (p : List (List Tok)) (last : Nat) : ZeroAt (parsePts p last) :=
  zeroAt_ite (by decide) (zeroAt_ite (by decide) (zeroAt_ite (by decide) (zeroAt_ite (by decide) (zeroAt_ite (by decide) (zeroAt_ite (by decide) (zeroAt_ite (by decide) (zeroAt_ite (by decide) (fun _ => rfl))))))))
theorem parse_zero {s : Bs} (h : (parseP s).2.1 = 0) : (parseP s).2 = (0, 0) := by
  unfold parseP at h ⊢
  dsimp only at h ⊢
  by_cases h1 : (tokensP s).2.1 ≠ 0
  · rw [if_pos h1] at h
    exact absurd h h1
  · rw [if_neg h1] at h ⊢
    have := pts_zero _ _ h
    exact Prod.ext h this
/-- What Normal hands back. -/
def NmR (W : World) (r : Bs × Int × Int) (e : Ending) (w' : World) : Prop := e = .returned (.tuple #[.string ⟨r.1.toArray⟩, .agg #[.int .i64 r.2.1, .int .i64 r.2.2]]) ∧ Ext W w'
theorem parsed_AdS {s : Bs} (h : (parseP s).2.1 = 0) : AdS (parseP s).1 1000 ∧ i64 (parseP s).1.n := by
  have hc := checkP_ok (parse_check h)
  have hB := txtB (parse_check h)
  have hl := hB.l
  rw [lineP_eq] at hl
  simp only [List.length_append] at hl
  have al : ∀ s : Bs, s.length ≤ (aheadP s).length := fun s => by
    unfold aheadP
    by_cases h : s = []
    · rw [if_pos h, h]; exact Nat.le_refl _
    · rw [if_neg h]; simp
  have a1 := al (parseP s).1.pre
  have a2 := al (parseP s).1.name
  have a3 := al (parseP s).1.suf
  have a4 := al (parseP s).1.post
  have b1 := hB.u
  have b2 := hB.c
  have b3 := hB.s
  have b4 := hB.z
  have b5 := hB.m
  have n1 := hc.n1
  have n2 := hc.n2
  exact ⟨⟨by omega, by omega, by omega, by omega, by omega, by omega, by omega, by omega, by omega⟩, by unfold i64; omega⟩
set_option maxRecDepth 100000 in
set_option maxHeartbeats 2000000 in
theorem normal_any (s : Bs) (hs : s.length ≤ 100000) (W : World) (hS : Std W) : Calls Tryz.prog 12 #[.string ⟨s.toArray⟩] W (NmR W (normalP s)) := by
  have HP := Lib.hid (fun w (hx : Ext W w) => parse_any s hs w (hS.ext hx))
  have HS := Lib.hid (fun w (hx : Ext W w) => hS.ext hx)
  have HZ := Lib.hid (fun h : (parseP s).2.1 = 0 => parse_zero h)
  have HA := Lib.hid (fun h : (parseP s).2.1 = 0 => parsed_AdS h)
  obtain ⟨T, hT⟩ : ∃ T, normalP s = T := ⟨_, rfl⟩
  rw [hT]
  unfold normalP at hT
  generalize parseP s = r at *
  obtain ⟨a, fe, fa⟩ := r
  dsimp only at *
  replace hT := Lib.hid hT
  clear hS hs
  go_enter Tryz.func12, Tryz.ntmps12
  go_wp2_with fail
  have X1 := (Ext.refl W).alloc (.cells #[.int .i64 0, .int .i64 0] 26)
  have B1 := Blk.new W 26 #[.int .i64 0, .int .i64 0]
  refine (HP.out _ X1).mono ?_
  rintro e w2 ⟨rfl, hx2⟩
  have X2 := Lib.hid (X1.trans hx2)
  replace B1 := Lib.hid (B1.ext hx2)
  clear X1 hx2 HP
  generalize hW : W.heap.size = g3 at *
  have hg3 := Lib.hid (Nat.le_of_eq hW)
  clear hW
  obtain ⟨zn, zh, zpre, zname, zsuf, zpost, zunit, zcity, zstate, zzip, zmore⟩ := a
  rw [adV_eq]
  dsimp only
  go_upto_region 2 with (fail)
  have XX := ((Ext.refl w2).alloc (.cells #[.int .i64 zn, .bool zh, .string ⟨zpre.toArray⟩, .string ⟨zname.toArray⟩, .string ⟨zsuf.toArray⟩, .string ⟨zpost.toArray⟩, .string ⟨zunit.toArray⟩, .string ⟨zcity.toArray⟩, .string ⟨zstate.toArray⟩, .string ⟨zzip.toArray⟩, .string ⟨zmore.toArray⟩] 23)).alloc (.cells #[.int .i64 fe, .int .i64 fa] 26)
  have BA := (Blk.new w2 23 #[.int .i64 zn, .bool zh, .string ⟨zpre.toArray⟩, .string ⟨zname.toArray⟩, .string ⟨zsuf.toArray⟩, .string ⟨zpost.toArray⟩, .string ⟨zunit.toArray⟩, .string ⟨zcity.toArray⟩, .string ⟨zstate.toArray⟩, .string ⟨zzip.toArray⟩, .string ⟨zmore.toArray⟩]).alloc (.cells #[.int .i64 fe, .int .i64 fa] 26)
  have BF := Blk.new (w2.alloc (.cells #[.int .i64 zn, .bool zh, .string ⟨zpre.toArray⟩, .string ⟨zname.toArray⟩, .string ⟨zsuf.toArray⟩, .string ⟨zpost.toArray⟩, .string ⟨zunit.toArray⟩, .string ⟨zcity.toArray⟩, .string ⟨zstate.toArray⟩, .string ⟨zzip.toArray⟩, .string ⟨zmore.toArray⟩] 23)) 26 #[.int .i64 fe, .int .i64 fa]
  rw [show (w2.alloc (.cells #[.int .i64 zn, .bool zh, .string ⟨zpre.toArray⟩, .string ⟨zname.toArray⟩, .string ⟨zsuf.toArray⟩, .string ⟨zpost.toArray⟩, .string ⟨zunit.toArray⟩, .string ⟨zcity.toArray⟩, .string ⟨zstate.toArray⟩, .string ⟨zzip.toArray⟩, .string ⟨zmore.toArray⟩] 23)).heap.size = w2.heap.size + 1 by simp] at BF
  replace B1 := B1.out
  have h35 := Lib.hid (show g3 ≠ w2.heap.size + 1 from fun e => by have := B1.lt; omega)
  have X3 := Lib.hid (X2.out.trans XX)
  have B3 := Lib.hid (B1.ext XX)
  clear XX X2 B1
  generalize (w2.alloc (.cells #[.int .i64 zn, .bool zh, .string ⟨zpre.toArray⟩, .string ⟨zname.toArray⟩, .string ⟨zsuf.toArray⟩, .string ⟨zpost.toArray⟩, .string ⟨zunit.toArray⟩, .string ⟨zcity.toArray⟩, .string ⟨zstate.toArray⟩, .string ⟨zzip.toArray⟩, .string ⟨zmore.toArray⟩] 23)).alloc (.cells #[.int .i64 fe, .int .i64 fa] 26) = w3 at *
  generalize w2.heap.size + 1 = g5 at *
  generalize w2.heap.size = g4 at *
  obtain ⟨c0, c1⟩ : w3.cell? ⟨g5, 0, none⟩ = some (.int .i64 fe) ∧ w3.cell? ⟨g5, 1, none⟩ = some (.int .i64 fa) := ⟨BF.cell 0, BF.cell 1⟩
  have lf := BF.lt
  have h35' := h35.out
  by_cases h0 : fe = 0
  · obtain ⟨s1, s2⟩ := HA.out h0
    have hfa : fa = 0 := (congrArg Prod.snd (HZ.out h0) :)
    have hT2 := Lib.hid (show T = ((textA ⟨zn, zh, zpre, zname, zsuf, zpost, zunit, zcity, zstate, zzip, zmore⟩).1, 0, 0) by rw [← hT.out, if_neg (by simp [h0])])
    have HX := Lib.hid (addText_any _ s1 s2 w3 (HS.out _ X3.out))
    rw [adV_eq] at HX
    dsimp only at HX
    generalize textA ⟨zn, zh, zpre, zname, zsuf, zpost, zunit, zcity, zstate, zzip, zmore⟩ = tx at *
    obtain ⟨tt, te⟩ := tx
    dsimp only at *
    have hb : (fe != 0) = false := by simpa using h0
    replace h0 := Lib.hid h0
    replace hfa := Lib.hid hfa
    obtain ⟨qa, _⟩ := BA.cells
    have la := BA.lt
    replace BF := Lib.hid BF
    clear BA s1 s2 HA HZ hT HS
    go_wp2_with fail
    refine HX.out.mono ?_
    rintro e w4 ⟨rfl, hx4⟩
    have X4 := Lib.hid (X3.out.trans hx4)
    replace B3 := Lib.hid (B3.out.ext hx4)
    replace BF := BF.out.ext hx4
    clear hx4 c0 c1 lf qa la X3 HX
    obtain ⟨c0, c1⟩ : w4.cell? ⟨g5, 0, none⟩ = some (.int .i64 fe) ∧ w4.cell? ⟨g5, 1, none⟩ = some (.int .i64 fa) := ⟨BF.cell 0, BF.cell 1⟩
    have lf := BF.lt
    clear BF hb
    obtain ⟨q0, q1⟩ := B3.out.cells
    have l3 := B3.out.lt
    have F := Lib.hid ((fault_set B3.out (.int .i64 fe) (.int .i64 fa)).ext (Ext.refl _).drew)
    have XF := Lib.hid (((X4.out.set (p := ⟨g3, 0, none⟩) hg3.out (.int .i64 fe)).set (p := ⟨g3, 1, none⟩) hg3.out (.int .i64 fa)).drew)
    go_wp2_with fail
    go_region
    change Exit.then _ _ Exit.normal _ (((w4.setCell ⟨g3, 0, none⟩ (.int .i64 fe)).setCell ⟨g3, 1, none⟩ (.int .i64 fa)).drew)
    clear q0 q1 l3
    generalize ((w4.setCell ⟨g3, 0, none⟩ (.int .i64 fe)).setCell ⟨g3, 1, none⟩ (.int .i64 fa)).drew = wz at *
    go_wp2_with fail
    exact bodyPost_ret (results_tc rfl rfl (ld_fault F.out)) rfl ⟨by rw [hT2.out]; show Ending.returned (.tuple #[.string ⟨tt.toArray⟩, .agg #[.int .i64 fe, .int .i64 fa]]) = _; rw [h0.out, hfa.out], XF.out⟩
  · have hb : (fe != 0) = true := by simpa using h0
    have hT2 := Lib.hid (show T = ([], fe, fa) by rw [← hT.out, if_pos h0])
    clear BA BF HA HZ hT HS
    obtain ⟨q0, q1⟩ := B3.out.cells
    have l3 := B3.out.lt
    have F := Lib.hid ((fault_set B3.out (.int .i64 fe) (.int .i64 fa)).ext (Ext.refl _).drew)
    have XF := Lib.hid (((X3.out.set (p := ⟨g3, 0, none⟩) hg3.out (.int .i64 fe)).set (p := ⟨g3, 1, none⟩) hg3.out (.int .i64 fa)).drew)
    go_wp2_with fail
    go_region
    change Exit.then _ _ Exit.normal _ (((w3.setCell ⟨g3, 0, none⟩ (.int .i64 fe)).setCell ⟨g3, 1, none⟩ (.int .i64 fa)).drew)
    clear q0 q1 l3
    generalize ((w3.setCell ⟨g3, 0, none⟩ (.int .i64 fe)).setCell ⟨g3, 1, none⟩ (.int .i64 fa)).drew = wz at *
    go_wp2_with fail
    exact bodyPost_ret (results_tc rfl rfl (ld_fault F.out)) rfl ⟨by rw [hT2.out]; rfl, XF.out⟩
end Go.Proofs.YtjneghncmgjkeaaGreatDoor

set_option linter.unusedVariables false
namespace Go.Proofs.YtjneghncmgjkeaaGreatDoor
open Go.RowKit

set_option maxRecDepth 100000 in
theorem l17normal_any (s want : Bs) (hs : s.length ≤ 100000) (h : normalP s = (want, 0, 0)) (W : World) (hS : Std W) :
    Calls Tryz.prog 20 #[.string ⟨s.toArray⟩, .string ⟨want.toArray⟩] W fun e w' => e = .returned (.bool true) ∧ Ext W w' := by
  have HN := Lib.hid (normal_any s hs W hS)
  rw [h] at HN
  clear h hS
  go_enter Tryz.func20, Tryz.ntmps20
  go_wp2_with fail
  refine HN.out.mono ?_
  rintro e w1 ⟨rfl, hx⟩
  have X2 := Lib.hid (hx.alloc (.cells #[.int .i64 0, .int .i64 0] 26))
  dsimp only
  clear hx HN
  go_wp2_with fail
  go_ret
  exact ⟨rfl, X2.out⟩
set_option maxRecDepth 100000 in
theorem l17fails_any (s : Bs) (er at_ : Int) (hs : s.length ≤ 100000) (h : parseP s = (Ad.zero, er, at_)) (W : World) (hS : Std W) :
    Calls Tryz.prog 24 #[.string ⟨s.toArray⟩, .int .i64 er, .int .i64 at_] W fun e w' => e = .returned (.bool true) ∧ Ext W w' := by
  have HN := Lib.hid (parse_any s hs W hS)
  rw [h] at HN
  clear h hS
  go_enter Tryz.func24, Tryz.ntmps24
  go_wp2_with fail
  refine HN.out.mono ?_
  rintro e w1 ⟨rfl, hx⟩
  have X2 := Lib.hid ((hx.alloc (.cells #[.int .i64 0, .bool false, .string ⟨#[]⟩, .string ⟨#[]⟩, .string ⟨#[]⟩, .string ⟨#[]⟩, .string ⟨#[]⟩, .string ⟨#[]⟩, .string ⟨#[]⟩, .string ⟨#[]⟩, .string ⟨#[]⟩] 23)).alloc (.cells #[.int .i64 er, .int .i64 at_] 26))
  rw [adV_eq]
  dsimp only [Ad.zero]
  clear hx HN
  go_wp2_with fail
  go_ret
  exact ⟨rfl, X2.out⟩
end Go.Proofs.YtjneghncmgjkeaaGreatDoor

set_option linter.unusedVariables false
namespace Go.Proofs.YtjneghncmgjkeaaGreatDoor

/-- From at on a word, up to e. -/
structure WordTo (s : Bs) (at_ e : Nat) : Prop where
  le : at_ ≤ e
  len : e ≤ s.length
  on : ∀ i, at_ ≤ i → i < e → goesOn s i = true
  end_ : e = s.length ∨ goesOn s e = false
theorem goesOn_snd {s : Bs} {i : Nat} (h : sndAt s i = true) : goesOn s i = true := by unfold goesOn; rw [h]; rfl
theorem goesOn_eq {s : Bs} {n : Nat} (hn : n < s.length) : goesOn s n = (sndB s[n] || (clsB s[n] == 4 && sndAt s (n - 1) && nextSnd (s.drop (n + 1)))) := by
  unfold goesOn
  rw [sndAt_lt hn, clsAt_lt hn, nextSnd_drop]
/-- Behind the end of a word stands no sound. -/
theorem WordTo.stop {s : Bs} {a e : Nat} (h : WordTo s a e) : sndAt s e = false := by
  rcases h.end_ with h1 | h1
  · exact sndAt_end (by omega)
  · cases h2 : sndAt s e with
    | false => rfl
    | true => rw [goesOn_snd h2] at h1; cases h1
theorem cut_to {s : Bs} {a e : Nat} (h : WordTo s a e) : ∀ (k i : Nat) (w : Bs), e = i + k → a < i → cutL (sndAt s (i - 1)) (some w) (s.drop i) = tokW (w ++ (s.take e).drop i) :: cutL false none (s.drop e)
  | 0, i, w, hk, ha => by
    have hi : i = e := by omega
    subst hi
    have hlen := h.len
    rw [List.drop_eq_nil_of_le (show (s.take i).length ≤ i by rw [List.length_take]; omega), List.append_nil]
    rcases Nat.lt_or_ge i s.length with h1 | h1
    · have hd : s.drop i = s[i] :: s.drop (i + 1) := List.drop_eq_getElem_cons h1
      have hg : goesOn s i = false := by
        rcases h.end_ with h2 | h2
        · omega
        · exact h2
      have hs : sndB s[i] = false := by rw [← sndAt_lt h1]; exact h.stop
      rw [hd, cutL_s, ← goesOn_eq h1, hg, cutL_n, hs]
      simp
    · rw [List.drop_eq_nil_of_le h1, cutL_s0, cutL_n0]
  | k + 1, i, w, hk, ha => by
    have hlen := h.len
    have h1 : i < s.length := by omega
    have hd : s.drop i = s[i] :: s.drop (i + 1) := List.drop_eq_getElem_cons h1
    have hg := h.on i (by omega) (by omega)
    rw [hd, cutL_s, ← goesOn_eq h1, if_pos hg]
    have ih := cut_to h k (i + 1) (w ++ [s[i]]) (by omega) (by omega)
    rw [show i + 1 - 1 = i by omega, sndAt_lt h1] at ih
    rw [ih]
    have e1 : (s.take e).drop i = s[i] :: (s.take e).drop (i + 1) := by
      have h2 : i < (s.take e).length := by rw [List.length_take]; omega
      rw [List.drop_eq_getElem_cons h2, List.getElem_take]
    rw [e1]
    simp
/-- Where the reference stands: what was cut, what is left. -/
structure RefAt (s : Bs) (at_ : Nat) (out : List Tok) : Prop where
  le : at_ ≤ s.length
  toks : toksOf s = out ++ cutL false none (s.drop at_)
  open_ : at_ = 0 ∨ sndAt s (at_ - 1) = false ∨ goesOn s at_ = false
  adv : advS s 0 out ≤ at_
  gap : ∀ i, advS s 0 out ≤ i → i < at_ → clsAt s i = 1 ∨ clsAt s i = 4
theorem RefAt.start (s : Bs) : RefAt s 0 [] := ⟨Nat.zero_le _, by rw [toksOf_cut]; rfl, .inl rfl, Nat.le_refl _, fun i _ h => absurd h (by omega)⟩
theorem RefAt.done {s : Bs} {out : List Tok} {at_ : Nat} (h : RefAt s at_ out) (he : s.length ≤ at_) : toksOf s = out := by
  have := h.toks
  rw [List.drop_eq_nil_of_le he, cutL_n0, List.append_nil] at this
  exact this
theorem skipS_exact {s : Bs} : ∀ {a k : Nat}, a ≤ k → k < s.length → (∀ i, a ≤ i → i < k → clsAt s i = 1 ∨ clsAt s i = 4) → clsAt s k ≠ 1 → clsAt s k ≠ 4 → skipS (s.drop a) = k - a := by
  intro a k hak hk hg h1 h4
  obtain ⟨n, hn⟩ : ∃ n, k - a = n := ⟨_, rfl⟩
  induction n generalizing a with
  | zero =>
    have : a = k := by omega
    subst this
    rw [List.drop_eq_getElem_cons hk, skipS, ← clsAt_lt hk, if_neg (by omega)]
    omega
  | succ n ih =>
    have ha : a < s.length := by omega
    rw [List.drop_eq_getElem_cons ha, skipS, ← clsAt_lt ha, if_pos (hg a (Nat.le_refl _) (by omega)), ih (a := a + 1) (by omega) (fun i h2 h3 => hg i (by omega) h3) (by omega)]
    omega
theorem adv_put {s : Bs} {at_ : Nat} {out : List Tok} {t : Tok} (h : RefAt s at_ out) (hk : at_ < s.length) (h1 : clsAt s at_ ≠ 1) (h4 : clsAt s at_ ≠ 4) : advS s 0 (out ++ [t]) = at_ + t.t.length := by
  rw [advS_app]
  simp only [advS]
  rw [skipS_exact h.adv hk h.gap h1 h4]
  have := h.adv
  omega
/-- A comma, or a #. -/
theorem RefAt.sep {s : Bs} {at_ : Nat} {out : List Tok} {t : Tok} (h : RefAt s at_ out) (hk : at_ < s.length) (ht : (clsAt s at_ = 5 ∧ t = tComma) ∨ (clsAt s at_ = 6 ∧ t = tHash)) : RefAt s (at_ + 1) (out ++ [t]) := by
  have hc : clsAt s at_ = clsB s[at_] := clsAt_lt hk
  have hs : sndB s[at_] = false := by
    unfold sndB
    rcases ht with ⟨e, _⟩ | ⟨e, _⟩ <;> rw [← hc, e] <;> rfl
  have hsep : sepT s[at_] = [t] := by
    unfold sepT
    rcases ht with ⟨e, rfl⟩ | ⟨e, rfl⟩ <;> rw [← hc, e] <;> rfl
  have hd : s.drop at_ = s[at_] :: s.drop (at_ + 1) := List.drop_eq_getElem_cons hk
  have htl : t.t.length = 1 := by rcases ht with ⟨_, rfl⟩ | ⟨_, rfl⟩ <;> rfl
  have ha := adv_put (t := t) h hk (by rcases ht with ⟨e, _⟩ | ⟨e, _⟩ <;> omega) (by rcases ht with ⟨e, _⟩ | ⟨e, _⟩ <;> omega)
  refine ⟨by omega, ?_, .inr (.inl ?_), by omega, fun i h1 h2 => absurd h2 (by omega)⟩
  · rw [h.toks, hd, cutL_n, hs]
    simp [hsep]
  · rw [show at_ + 1 - 1 = at_ by omega, sndAt_lt hk, hs]
/-- A word. -/
theorem RefAt.word {s : Bs} {at_ e : Nat} {out : List Tok} (h : RefAt s at_ out) (hw : WordTo s at_ e) (hne : at_ < e) : RefAt s e (out ++ [wordT s at_ e]) ∧ sndAt s at_ = true := by
  have hlen := hw.len
  have hk : at_ < s.length := by omega
  have hg := hw.on at_ (Nat.le_refl _) hne
  have hs : sndAt s at_ = true := by
    cases hx : sndAt s at_ with
    | true => rfl
    | false =>
      unfold goesOn at hg
      rw [hx, Bool.false_or] at hg
      simp only [Bool.and_eq_true, beq_iff_eq] at hg
      rcases h.open_ with h1 | h1 | h1
      · rw [h1] at hg hx; rw [hx] at hg; cases hg.1.2
      · rw [h1] at hg; cases hg.1.2
      · rw [goesOn, hx, hg.1.2, hg.2, hg.1.1] at h1; cases h1
  obtain ⟨c1, c4, _⟩ := snd_cls hs
  have hsB : sndB s[at_] = true := by rw [← sndAt_lt hk]; exact hs
  have hd : s.drop at_ = s[at_] :: s.drop (at_ + 1) := List.drop_eq_getElem_cons hk
  have hcut := cut_to hw (e - (at_ + 1)) (at_ + 1) [s[at_]] (by omega) (by omega)
  rw [show at_ + 1 - 1 = at_ by omega, hs] at hcut
  have hpart : [s[at_]] ++ (s.take e).drop (at_ + 1) = (s.take e).drop at_ := by
    have h2 : at_ < (s.take e).length := by rw [List.length_take]; omega
    rw [List.drop_eq_getElem_cons h2, List.getElem_take]
    rfl
  rw [hpart] at hcut
  have hwt : tokW ((s.take e).drop at_) = wordT s at_ e := rfl
  have ha := adv_put (t := wordT s at_ e) h hk c1 c4
  have hwl : (wordT s at_ e).t.length = e - at_ := partT_len hlen
  refine ⟨⟨hlen, ?_, ?_, by omega, fun i h1 h2 => absurd h2 (by omega)⟩, hs⟩
  · rw [h.toks, hd, cutL_n, if_pos hsB, hcut, hwt]
    simp
  · rcases hw.end_ with h1 | h1
    · right; right
      unfold goesOn sndAt
      rw [clsAt_end (by omega)]
      rfl
    · exact .inr (.inr h1)
/-- Neither: a blank, or a joint that joins nothing. -/
theorem RefAt.skip {s : Bs} {at_ : Nat} {out : List Tok} (h : RefAt s at_ out) (hk : at_ < s.length) (hw : WordTo s at_ at_) (h0 : clsAt s at_ ≠ 0) (h5 : clsAt s at_ ≠ 5) (h6 : clsAt s at_ ≠ 6) : RefAt s (at_ + 1) out := by
  have hc : clsAt s at_ = clsB s[at_] := clsAt_lt hk
  have hs := hw.stop
  have hsB : sndB s[at_] = false := by rw [← sndAt_lt hk]; exact hs
  have hsep : sepT s[at_] = [] := by
    unfold sepT
    rw [if_neg (by omega), if_neg (by omega)]
  have hcl : clsAt s at_ = 1 ∨ clsAt s at_ = 4 := by
    have : clsB s[at_] ≤ 6 := by
      unfold clsB
      repeat' split
      all_goals omega
    have h23 : clsAt s at_ ≠ 2 ∧ clsAt s at_ ≠ 3 := by
      unfold sndAt at hs
      rw [Bool.or_eq_false_iff, beq_eq_false_iff_ne, beq_eq_false_iff_ne] at hs
      exact hs
    omega
  have hd : s.drop at_ = s[at_] :: s.drop (at_ + 1) := List.drop_eq_getElem_cons hk
  refine ⟨by omega, ?_, .inr (.inl ?_), by have := h.adv; omega, fun i h1 h2 => ?_⟩
  · rw [h.toks, hd, cutL_n, hsB, hsep]
    simp
  · rw [show at_ + 1 - 1 = at_ by omega]; exact hs
  · rcases Nat.lt_or_ge i at_ with h3 | h3
    · exact h.gap i h1 h3
    · have : i = at_ := by omega
      rw [this]; exact hcl
/-- One token too many. -/
theorem RefAt.full {s : Bs} {at_ e : Nat} {out : List Tok} {t : Tok} (h : RefAt s at_ out) (hk : at_ < s.length) (h1 : clsAt s at_ ≠ 1) (h4 : clsAt s at_ ≠ 4) (hn : RefAt s e (out ++ [t])) (h40 : out.length = 40) (h200 : s.length ≤ 200) (hb : badAt s = none) : tokensP s = ([], 8, (at_ : Int)) := by
  have hl : 40 < (toksOf s).length := by
    rw [hn.toks]
    simp only [List.length_append, List.length_singleton]
    omega
  have ht : (toksOf s).take 40 = out := by
    rw [hn.toks, List.append_assoc, ← h40, List.take_left]
  unfold tokensP
  rw [if_neg (by omega), hb]
  simp only
  rw [if_pos hl, beginS_adv s _ 40 0 (by omega), ht, skipS_exact h.adv hk h.gap h1 h4]
  have := h.adv
  rw [show advS s 0 out + (at_ - advS s 0 out) = at_ by omega]
theorem tokensP_few {s : Bs} (h200 : s.length ≤ 200) (hb : badAt s = none) (h40 : (toksOf s).length ≤ 40) : tokensP s = (toksOf s, 0, 0) := by
  unfold tokensP
  rw [if_neg (by omega), hb]
  simp only
  rw [if_neg (by omega)]
end Go.Proofs.YtjneghncmgjkeaaGreatDoor
