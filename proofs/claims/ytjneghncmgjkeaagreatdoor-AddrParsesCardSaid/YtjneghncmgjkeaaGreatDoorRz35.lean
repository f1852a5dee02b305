/-
  apportionref17: whole, unit.
-/
import Derived.Test.YtjneghncmgjkeaaGreatDoorRz34
import Derived.Test.YtjneghncmgjkeaaGreatDoorRz08
set_option linter.unusedVariables false
namespace Go.Proofs.YtjneghncmgjkeaaGreatDoor
open Go.RowKit

/-- The number that a text is, or 0. -/
def wholeP (s : Bs) : Int := if digitsP s 1 6 = true then numP s else 0
theorem numP_take {s : Bs} (h : digitsP s 1 6 = true) {k : Nat} (hk : k ≤ s.length) : 0 ≤ numP (s.take k) ∧ numP (s.take k) ≤ 999999 := by
  unfold digitsP at h
  rw [Bool.and_eq_true, decide_eq_true_eq] at h
  by_cases h0 : k = 0
  · subst h0
    exact ⟨Int.le_refl _, show (0 : Int) ≤ 999999 by omega⟩
  · refine numP_le ?_
    unfold digitsP
    rw [Bool.and_eq_true, decide_eq_true_eq, List.length_take]
    refine ⟨by omega, ?_⟩
    rw [List.all_eq_true]
    intro c hc
    exact List.all_eq_true.1 h.2 c (List.mem_of_mem_take hc)
def WhAt (W : World) (s : Bs) (n i : Value) (wr : World) : Prop := ∃ k : Nat, k ≤ s.length ∧ i = .int .i64 (k : Int) ∧ n = .int .i64 (numP (s.take k)) ∧ Ext W wr
set_option maxRecDepth 100000 in
set_option maxHeartbeats 2000000 in
theorem rwhole_any (s : Bs) (hs : s.length ≤ 100000) (W : World) : Calls Tryz.prog 45 #[.string ⟨s.toArray⟩] W fun e w' => e = .returned (.int .i64 (wholeP s)) ∧ Ext W w' := by
  have HD := Lib.hid (fun w => rdigits_any s 1 6 hs ⟨by omega, by omega⟩ w)
  cases hd6 : digitsP s 1 6 with
  | false =>
    have hR := Lib.hid (show wholeP s = 0 by unfold wholeP; rw [hd6]; rfl)
    rw [hd6] at HD
    go_enter Tryz.func45, Tryz.ntmps45
    go_wp2_with fail
    refine (HD.out _).mono ?_
    rintro e w1 ⟨rfl, hx⟩
    go_wp2_with fail
    go_ret
    exact ⟨by rw [hR.out]; rfl, hx⟩
  | true =>
    have hR := Lib.hid (show wholeP s = numP s by unfold wholeP; rw [hd6]; rfl)
    have hN := Lib.hid (fun k (hk : k ≤ s.length) => numP_take hd6 hk)
    have hdg := Lib.hid (show s.all digB = true by unfold digitsP at hd6; rw [Bool.and_eq_true] at hd6; exact hd6.2)
    rw [hd6] at HD
    clear hd6
    go_enter Tryz.func45, Tryz.ntmps45
    go_wp2_with fail
    refine (HD.out _).mono ?_
    rintro e w1 ⟨rfl, hx1⟩
    have H0 := Lib.hid (show WhAt W s (.int .i64 0) (.int .i64 ((0 : Nat) : Int)) w1 from ⟨0, by omega, rfl, rfl, hx1⟩)
    clear hx1 HD
    go_wp2_with fail
    go_loopw [3, 4] (fun n i wr => WhAt W s n i wr) (fun _ i _ => s.length - (intOf i).toNat)
    case atStart => exact H0.out
    case round =>
      clear H0
      obtain ⟨k, hk, rfl, rfl, hx⟩ := hrel
      by_cases hlt : k < s.length
      · have hd : decide ((k : Int) < (s.length : Int)) = true := decide_eq_true (by omega)
        have hd' : decide (k < s.length) = true := decide_eq_true hlt
        have kz : (0 : Int) ≤ (k : Int) := by omega
        have kl : (k : Int) < (s.length : Int) := by omega
        obtain ⟨n, hn⟩ : ∃ n, s[k].toNat = n := ⟨_, rfl⟩
        have hb : ∀ h, ((⟨s.toArray⟩ : ByteArray)[k]'h).toNat = n := fun _ => hn
        have hdk : digB s[k] = true := List.all_eq_true.1 hdg.out _ (List.getElem_mem hlt)
        unfold digB at hdk
        rw [hn, decide_eq_true_eq] at hdk
        obtain ⟨b1, b2⟩ := hN.out k hk
        have e1 : numP (s.take (k + 1)) = 10 * numP (s.take k) + ((n : Int) - 48) := by
          rw [List.take_succ_eq_append_getElem hlt, numP_snoc, hn]
        generalize numP (s.take k) = N at *
        have w1 : IntKind.i64.wrap (10 * N) = 10 * N := by rw [IntKind.wrap_i64]; omega
        have w2 : IntKind.u8.wrap ((n : Int) - 48) = (n : Int) - 48 := by simp [IntKind.wrap, IntKind.bits, IntKind.signed]; omega
        have w3 : IntKind.i64.wrap ((n : Int) - 48) = (n : Int) - 48 := by rw [IntKind.wrap_i64]; omega
        have w4 : IntKind.i64.wrap (10 * N + ((n : Int) - 48)) = 10 * N + ((n : Int) - 48) := by rw [IntKind.wrap_i64]; omega
        have HE := Lib.hid (show WhAt W s (.int .i64 (10 * N + ((n : Int) - 48))) (.int .i64 ((k + 1 : Nat) : Int)) wr from ⟨k + 1, hlt, rfl, by rw [e1], hx⟩)
        clear e1 hx b1 b2 hdk hN hdg
        go_wp2_with fail
        go_roundw
        case rel => exact HE.out
        case measure => simp [intOf]; omega
      · obtain rfl : k = s.length := by omega
        have hd : decide ((s.length : Int) < (s.length : Int)) = false := by simp
        rw [List.take_length]
        replace hx := Lib.hid hx
        clear hN hdg
        go_wp2_with fail
        go_ret
        exact ⟨by rw [hR.out]; rfl, hx.out⟩
theorem shortP_snd {kind : Int} (hk : kindOk kind) (w : Bs) : ((shortP kind w).1 != []) = (shortP kind w).2 := by
  cases h : (shortP kind w).2 with
  | false => rw [shortP_none h]; rfl
  | true =>
    obtain ⟨p, hp, e⟩ := shortP_mem h
    rw [e]
    have hne : (wordsP kind).all (fun p => p.s != []) = true := by
      rcases hk with rfl | rfl | rfl | rfl <;> kernel_rfl
    exact List.all_eq_true.1 hne p hp
set_option maxRecDepth 100000 in
set_option maxHeartbeats 4000000 in
theorem runit_any (l : List Tok) (A : Option Addr) (n cap : Nat) (W : World) (h : TokS W A n cap l) :
    Calls Tryz.prog 47 #[.slice A n cap] W fun e w' => e = .returned (.bool (unitP l).2) ∧ Ext W w' := by
  obtain rfl := h.len
  have hl := h.l40
  by_cases h2 : l.length = 2
  · match l, h2 with
    | [a, b], _ =>
      have HT := Lib.hid (fun w (hx : Ext W w) => h.ext hx)
      obtain ⟨g, o, rfl, hg, a0, a1⟩ := h.at_ (k := 0) (by simp)
      obtain ⟨g', o', e, _, b0, b1⟩ := h.at_ (k := 1) (by simp)
      injection e with e
      injection e with e1 e2 _
      subst e1 e2
      simp only [List.getElem_cons_zero, List.getElem_cons_succ, Nat.zero_mul, Nat.add_zero, Nat.one_mul] at a0 a1 b0 b1
      have hlen : [a, b].length = 2 := rfl
      rw [hlen] at *
      have HS := Lib.hid (fun w => rhas_any a 4 (.inr (.inr (.inr rfl))) w)
      have hR : (unitP [a, b]).2 = (((a.k == 5) || (shortP 4 a.t).2) && (b.k != 5) && (b.k != 4)) := by
        have hs := shortP_snd (kind := 4) (.inr (.inr (.inr rfl))) a.t
        have hP : unitP [a, b] = if b.k = 5 ∨ b.k = 4 then ([], false) else if a.k = 5 then (35 :: b.t, true) else (shortT a 4 ++ 32 :: b.t, shortT a 4 != []) := rfl
        rw [hP]
        by_cases h5 : b.k = 5
        · rw [if_pos (.inl h5), h5]; simp
        · by_cases h4 : b.k = 4
          · rw [if_pos (.inr h4), h4]; simp
          · rw [if_neg (fun e => e.elim h5 h4), bne_iff_ne.2 h5, bne_iff_ne.2 h4]
            by_cases ha : a.k = 5
            · rw [if_pos ha, ha]; simp
            · rw [if_neg ha, beq_eq_false_iff_ne.2 ha]
              unfold shortT
              rw [hs]
              simp
      obtain ⟨R, hRR⟩ : ∃ R, (unitP [a, b]).2 = R := ⟨_, rfl⟩
      rw [hRR] at hR ⊢
      clear hRR
      obtain ⟨x, hx⟩ : ∃ x, (a.k == 5) = x := ⟨_, rfl⟩
      obtain ⟨y, hy⟩ : ∃ y, (b.k != 5) = y := ⟨_, rfl⟩
      obtain ⟨z, hz⟩ : ∃ z, (b.k != 4) = z := ⟨_, rfl⟩
      rw [hx, hy, hz] at hR
      unfold tokV at HS
      generalize (shortP 4 a.t).2 = q at *
      generalize a.k = ak at *
      generalize a.t = at_ at *
      generalize b.k = bk at *
      generalize b.t = bt at *
      replace hR := Lib.hid hR
      clear h HT
      cases x with
      | true =>
        clear HS
        cases y <;> cases z
        all_goals
          go_enter Tryz.func47, Tryz.ntmps47
          go_wp2_with fail
          go_ret
          exact ⟨by rw [hR.out]; rfl, Ext.refl _⟩
      | false =>
        go_enter Tryz.func47, Tryz.ntmps47
        go_wp2_with fail
        refine (HS.out _).mono ?_
        rintro e w1 ⟨rfl, hx1⟩
        have c0 := (hx1.cell g _ none hg).trans b0
        have c1 := (hx1.cell g _ none hg).trans b1
        clear HS a0 a1 b0 b1
        cases q <;> cases y <;> cases z
        all_goals
          go_wp2_with fail
          go_ret
          exact ⟨by rw [hR.out]; rfl, hx1⟩
  · have hd : ((l.length : Int) == 2) = false := by rw [beq_eq_false_iff_ne]; omega
    have hR := Lib.hid (unitP_len h2)
    go_enter Tryz.func47, Tryz.ntmps47
    go_wp2_with fail
    go_ret
    exact ⟨by rw [hR.out]; rfl, Ext.refl _⟩
end Go.Proofs.YtjneghncmgjkeaaGreatDoor

set_option linter.unusedVariables false
namespace Go.Proofs.YtjneghncmgjkeaaGreatDoor
open Go.RowKit

set_option maxRecDepth 100000 in
set_option maxHeartbeats 4000000 in
theorem runitText_any (l : List Tok) (A : Option Addr) (n cap : Nat) (W : World) (h : TokS W A n cap l) (hu : (unitP l).2 = true) :
    Calls Tryz.prog 48 #[.slice A n cap] W fun e w' => e = .returned (.string ⟨(unitP l).1.toArray⟩) ∧ Ext W w' := by
  obtain rfl := h.len
  have hl := h.l40
  have h2 : l.length = 2 := by
    by_cases h2 : l.length = 2
    · exact h2
    · rw [unitP_len h2] at hu; cases hu
  match l, h2 with
  | [a, b], _ =>
    obtain ⟨g, o, rfl, hg, a0, a1⟩ := h.at_ (k := 0) (by simp)
    obtain ⟨g', o', e, _, b0, b1⟩ := h.at_ (k := 1) (by simp)
    injection e with e
    injection e with e1 e2 _
    subst e1 e2
    simp only [List.getElem_cons_zero, List.getElem_cons_succ, Nat.zero_mul, Nat.add_zero, Nat.one_mul] at a0 a1 b0 b1
    have hlen : [a, b].length = 2 := rfl
    rw [hlen] at *
    have sb := h.sm b (by simp)
    have HS := Lib.hid (fun w => rshortT_any a 4 (.inr (.inr (.inr rfl))) w)
    have lsh : (shortT a 4).length ≤ 4 := (shortP_ok words_fine.2.2.2 short0.2.2.2 a.t).len
    have hR : (unitP [a, b]).1 = if a.k = 5 then 35 :: b.t else shortT a 4 ++ 32 :: b.t := by
      have hP : unitP [a, b] = if b.k = 5 ∨ b.k = 4 then ([], false) else if a.k = 5 then (35 :: b.t, true) else (shortT a 4 ++ 32 :: b.t, shortT a 4 != []) := rfl
      by_cases h54 : b.k = 5 ∨ b.k = 4
      · rw [hP, if_pos h54] at hu; cases hu
      · rw [hP, if_neg h54]
        by_cases ha : a.k = 5
        · rw [if_pos ha, if_pos ha]
        · rw [if_neg ha, if_neg ha]
    obtain ⟨R, hRR⟩ : ∃ R, (unitP [a, b]).1 = R := ⟨_, rfl⟩
    rw [hRR] at hR ⊢
    clear hRR hu
    unfold tokV at HS
    generalize shortT a 4 = sh at *
    generalize a.k = ak at *
    generalize a.t = at_ at *
    generalize b.k = bk at *
    generalize b.t = bt at *
    clear h
    by_cases h5 : ak = 5
    · rw [if_pos h5] at hR
      replace hR := Lib.hid hR
      subst h5
      have ea := bs_app [35] bt
      clear HS
      go_enter Tryz.func48, Tryz.ntmps48
      go_wp2_with fail
      go_ret
      exact ⟨by rw [hR.out]; rfl, Ext.refl _⟩
    · rw [if_neg h5] at hR
      have d5 : (ak == 5) = false := by rw [beq_eq_false_iff_ne]; exact h5
      obtain ⟨T, hT⟩ : ∃ T, sh ++ [32] = T := ⟨_, rfl⟩
      have ea : (⟨sh.toArray⟩ ++ ⟨#[32]⟩ : ByteArray) = ⟨T.toArray⟩ := by rw [← hT]; exact bs_app sh [32]
      obtain ⟨U, hU⟩ : ∃ U, T ++ bt = U := ⟨_, rfl⟩
      have eb : (⟨T.toArray⟩ ++ ⟨bt.toArray⟩ : ByteArray) = ⟨U.toArray⟩ := by rw [← hU]; exact bs_app T bt
      have lT : T.length ≤ 5 := by rw [← hT, List.length_append]; simp; omega
      have hRU := Lib.hid (show R = U by rw [hR, ← hU, ← hT]; simp)
      clear hR hT hU h5
      have n1 : (9223372036854775807 < List.length sh + 1) = False := eq_false (by omega)
      have n2 : (9223372036854775807 < T.length + List.length bt) = False := eq_false (by omega)
      have HX : ∀ w', Ext W w' → w'.cell? ⟨g, o, none⟩ = some (.int .i64 ak) ∧ w'.cell? ⟨g, o + 1, none⟩ = some (.string ⟨at_.toArray⟩) ∧ w'.cell? ⟨g, o + 2, none⟩ = some (.int .i64 bk) ∧ w'.cell? ⟨g, o + 2 + 1, none⟩ = some (.string ⟨bt.toArray⟩) := fun w' hx => ⟨(hx.cell _ _ none hg).trans a0, (hx.cell _ _ none hg).trans a1, (hx.cell _ _ none hg).trans b0, (hx.cell _ _ none hg).trans b1⟩
      replace HX := Lib.hid HX
      have X0 := Ext.refl W
      have HS2 := Lib.hid (fun w (hx : Ext W w) => (HS.out w).mono (fun e w' h => (⟨h.1, hx.trans h.2⟩ : _ ∧ Ext W w')))
      clear HS
      go_enter Tryz.func48, Tryz.ntmps48
      go_wp2_with fail
      go_region_held3 (fun w' => w'.cell? ⟨g, o, none⟩ = some (.int .i64 ak) ∧ w'.cell? ⟨g, o + 1, none⟩ = some (.string ⟨at_.toArray⟩) ∧ w'.cell? ⟨g, o + 2, none⟩ = some (.int .i64 bk) ∧ w'.cell? ⟨g, o + 2 + 1, none⟩ = some (.string ⟨bt.toArray⟩))
        (with_reducible refine HX.out _ ?_; with_reducible repeat (first | assumption | refine Ext.drew ?_ | refine Ext.alloc ?_ _))
        (first
          | (go_at_call 78; refine (HS2.out _ (by with_reducible repeat (first | assumption | refine Ext.drew ?_ | refine Ext.alloc ?_ _))).mono ?_; rintro e v1 ⟨rfl, hv1⟩))
      all_goals
        go_wp2_with fail
        go_ret
        exact ⟨by rw [hRU.out]; rfl, by assumption⟩
end Go.Proofs.YtjneghncmgjkeaaGreatDoor

set_option linter.unusedVariables false
namespace Go.Proofs.YtjneghncmgjkeaaGreatDoor
open Go.RowKit

def zipR (s : Bs) : Bool := digitsP s 5 5 || (s.length == 10 && digitsP (s.take 5) 5 5 && s.getD 5 0 == 45 && digitsP (s.drop 6) 4 4)
set_option maxRecDepth 100000 in
set_option maxHeartbeats 1000000 in
theorem rzip_any (s : Bs) (hs : s.length ≤ 100000) (W : World) : Calls Tryz.prog 51 #[.string ⟨s.toArray⟩] W fun e w' => e = .returned (.bool (zipR s)) ∧ Ext W w' := by
  have H1 := Lib.hid (fun w => rdigits_any s 5 5 hs ⟨by omega, by omega⟩ w)
  have hP : zipR s = (digitsP s 5 5 || (s.length == 10 && digitsP (s.take 5) 5 5 && s.getD 5 0 == 45 && digitsP (s.drop 6) 4 4)) := rfl
  obtain ⟨R, hR⟩ : ∃ R, zipR s = R := ⟨_, rfl⟩
  rw [hR] at hP ⊢
  replace hR := Lib.hid hR
  obtain ⟨x, hx⟩ : ∃ x, digitsP s 5 5 = x := ⟨_, rfl⟩
  rw [hx] at hP H1
  replace hx := Lib.hid hx
  by_cases h10 : s.length = 10
  rotate_left
  · have d : ((s.length : Int) == 10) = false := by rw [beq_eq_false_iff_ne]; omega
    have d' : (s.length == 10) = false := by rw [beq_eq_false_iff_ne]; omega
    have hRf := Lib.hid (show R = x by rw [hP, d']; simp)
    clear hP h10 d'
    cases x
    all_goals
      go_enter Tryz.func51, Tryz.ntmps51
      go_wp2_with fail
      refine (H1.out _).mono ?_
      rintro e w1 ⟨rfl, hx1⟩
      go_wp2_with fail
      go_ret
      exact ⟨by rw [hRf.out]; rfl, hx1⟩
  have d : ((s.length : Int) == 10) = true := by rw [beq_iff_eq]; omega
  have d' : (s.length == 10) = true := by rw [beq_iff_eq]; omega
  have H2 := Lib.hid (fun w => (show Calls Tryz.prog 62 #[.string ((⟨s.toArray⟩ : ByteArray).extract 0 5), .int .i64 5, .int .i64 5] w fun e w' => e = .returned (.bool (digitsP (s.take 5) 5 5)) ∧ Ext w w' by
    rw [extract_cut s 0 5 (by omega), List.drop_zero]
    exact rdigits_any (s.take 5) 5 5 (by rw [List.length_take]; omega) ⟨by omega, by omega⟩ w))
  have H3 := Lib.hid (fun w => (show Calls Tryz.prog 62 #[.string ((⟨s.toArray⟩ : ByteArray).extract 6 10), .int .i64 4, .int .i64 4] w fun e w' => e = .returned (.bool (digitsP (s.drop 6) 4 4)) ∧ Ext w w' by
    rw [extract_cut s 6 10 (by omega), List.take_of_length_le (by omega)]
    exact rdigits_any (s.drop 6) 4 4 (by rw [List.length_drop]; omega) ⟨by omega, by omega⟩ w))
  obtain ⟨n, hn⟩ : ∃ n, (s[5]'(by omega)).toNat = n := ⟨_, rfl⟩
  have hb : ∀ h, ((⟨s.toArray⟩ : ByteArray)[5]'h).toNat = n := fun _ => hn
  have hc : (s.getD 5 0 == 45) = ((n : Int) == 45) := by
    rw [List.getD_eq_getElem?_getD, List.getElem?_eq_getElem (by omega : 5 < s.length), Option.getD_some]
    by_cases h : n = 45
    · rw [(beq_iff_eq).2 (show (n : Int) = 45 by omega), beq_iff_eq]
      apply UInt8.toNat_inj.1
      rw [hn, h]; rfl
    · rw [beq_eq_false_iff_ne.2 (show (n : Int) ≠ 45 by omega), beq_eq_false_iff_ne]
      intro e
      rw [e] at hn
      exact h hn.symm
  obtain ⟨y, hy⟩ : ∃ y, digitsP (s.take 5) 5 5 = y := ⟨_, rfl⟩
  obtain ⟨z, hz⟩ : ∃ z, ((n : Int) == 45) = z := ⟨_, rfl⟩
  obtain ⟨v, hv⟩ : ∃ v, digitsP (s.drop 6) 4 4 = v := ⟨_, rfl⟩
  rw [d', hy, hc, hz, hv] at hP
  rw [hy] at H2
  rw [hv] at H3
  replace hP := Lib.hid hP
  have l5 : (5 : Int) ≤ (s.length : Int) := by omega
  have l5' : (5 : Int) < (s.length : Int) := by omega
  have l6 : (6 : Int) ≤ (s.length : Int) := by omega
  clear hc hy hv d'
  replace hn := Lib.hid hn
  replace h10 := Lib.hid h10
  cases x with
  | true =>
    clear H2 H3
    go_enter Tryz.func51, Tryz.ntmps51
    go_wp2_with fail
    refine (H1.out _).mono ?_
    rintro e w1 ⟨rfl, hx1⟩
    go_wp2_with fail
    go_ret
    exact ⟨by rw [hP.out]; rfl, hx1⟩
  | false =>
    go_enter Tryz.func51, Tryz.ntmps51
    go_wp2_with fail
    refine (H1.out _).mono ?_
    rintro e w1 ⟨rfl, hx1⟩
    go_wp2_with fail
    refine (H2.out _).mono ?_
    rintro e w2 ⟨rfl, hx2⟩
    replace hx1 := Lib.hid (hx1.trans hx2)
    clear hx2
    cases y with
    | false =>
      go_wp2_with fail
      go_ret
      exact ⟨by rw [hP.out]; cases z <;> cases v <;> rfl, hx1.out⟩
    | true =>
      cases z with
      | false =>
        go_wp2_with fail
        go_ret
        exact ⟨by rw [hP.out]; cases v <;> rfl, hx1.out⟩
      | true =>
        go_wp2_with fail
        refine (H3.out _).mono ?_
        rintro e w3 ⟨rfl, hx2⟩
        replace hx1 := Lib.hid (hx1.out.trans hx2)
        clear hx2
        go_wp2_with fail
        go_ret
        exact ⟨by rw [hP.out]; cases v <;> rfl, hx1.out⟩
end Go.Proofs.YtjneghncmgjkeaaGreatDoor

set_option linter.unusedVariables false
namespace Go.Proofs.YtjneghncmgjkeaaGreatDoor

theorem cutDash_is : ∀ s : Bs, s = (cutDash s).1 ++ (if (cutDash s).2.2 then 45 :: (cutDash s).2.1 else [])
  | [] => rfl
  | c :: s => by
    have ih := cutDash_is s
    unfold cutDash
    by_cases h : c = 45
    · rw [if_pos h, h]; rfl
    · rw [if_neg h]
      dsimp only
      rw [List.cons_append, ← ih]
theorem digitsP_iff {s : Bs} {n : Nat} : digitsP s n n = true ↔ s.length = n ∧ s.all digB = true := by
  unfold digitsP
  rw [Bool.and_eq_true, decide_eq_true_eq]
  constructor
  · rintro ⟨h1, h2⟩; exact ⟨by omega, h2⟩
  · rintro ⟨h1, h2⟩; exact ⟨by omega, h2⟩
theorem zipR_two {x y : Bs} (hx : digitsP x 5 5 = true) (hy : digitsP y 4 4 = true) : zipR (x ++ 45 :: y) = true := by
  have h1 := (digitsP_iff.1 hx).1
  have h2 := (digitsP_iff.1 hy).1
  have e1 : (x ++ 45 :: y).take 5 = x := by rw [← h1, List.take_left]
  have e2 : (x ++ 45 :: y).drop 6 = y := by
    rw [List.drop_append, List.drop_eq_nil_of_le (by omega), h1]
    rfl
  have e3 : (x ++ 45 :: y).getD 5 0 = 45 := by
    rw [List.getD_eq_getElem?_getD, List.getElem?_append_right (by omega), h1]
    rfl
  have e4 : (x ++ 45 :: y).length = 10 := by rw [List.length_append, List.length_cons]; omega
  unfold zipR
  rw [e1, e2, e3, e4, hx, hy]
  simp
/-- What is a ZIP to the reference is one to the program, with the same digits. -/
theorem zip_parts {s : Bs} (h : zipR s = true) : cutDash s = (s.take 5, s.drop 6, decide (5 < s.length)) ∧ digitsP (s.take 5) 5 5 = true ∧ (s.length = 5 ∨ (s.length = 10 ∧ digitsP (s.drop 6) 4 4 = true)) := by
  unfold zipR at h
  rw [Bool.or_eq_true] at h
  rcases h with h | h
  · obtain ⟨h1, h2⟩ := digitsP_iff.1 h
    have e1 : s.take 5 = s := List.take_of_length_le (by omega)
    have e2 : s.drop 6 = [] := List.drop_eq_nil_of_le (by omega)
    refine ⟨?_, by rw [e1]; exact h, .inl h1⟩
    rw [cutDash_dig h2, e1, e2, decide_eq_false (by omega)]
  · simp only [Bool.and_eq_true, beq_iff_eq] at h
    obtain ⟨⟨⟨h10, h1⟩, h45⟩, h2⟩ := h
    refine ⟨?_, h1, .inr ⟨h10, h2⟩⟩
    have hl : 5 < s.length := by omega
    have e5 : s[5] = 45 := by
      rw [List.getD_eq_getElem?_getD, List.getElem?_eq_getElem hl] at h45
      exact h45
    have es : s = s.take 5 ++ 45 :: s.drop 6 := by
      conv => lhs; rw [← List.take_append_drop 5 s, List.drop_eq_getElem_cons hl, e5]
    have hc := cutDash_two (x := s.take 5) (y := s.drop 6) (digitsP_iff.1 h1).2
    rw [← es] at hc
    rw [hc, decide_eq_true hl]
theorem zip_iff (s : Bs) : (digitsP (cutDash s).1 5 5 = true ∧ ((cutDash s).2.2 = false ∨ digitsP (cutDash s).2.1 4 4 = true)) ↔ zipR s = true := by
  constructor
  · rintro ⟨h1, h2⟩
    have hs := cutDash_is s
    cases hb : (cutDash s).2.2 with
    | false =>
      rw [hb] at hs
      simp only [Bool.false_eq_true, if_false, List.append_nil] at hs
      rw [← hs] at h1
      unfold zipR
      rw [h1]; rfl
    | true =>
      rw [hb] at h2 hs
      simp only [if_true] at hs
      rcases h2 with h2 | h2
      · cases h2
      · rw [hs]; exact zipR_two h1 h2
  · intro h
    obtain ⟨h1, h2, h3⟩ := zip_parts h
    rw [h1]
    refine ⟨h2, ?_⟩
    rcases h3 with h3 | ⟨_, h3⟩
    · left; exact decide_eq_false (by omega)
    · right; exact h3
end Go.Proofs.YtjneghncmgjkeaaGreatDoor
