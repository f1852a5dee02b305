/-
  apportionref17: street, from the backs on (printed by tools/genHw.py).
-/
import Derived.Test.YtjneghncmgjkeaaGreatDoorKa40
set_option linter.unusedVariables false
namespace Go.Proofs.YtjneghncmgjkeaaGreatDoor
open Go.RowKit

set_option maxRecDepth 100000 in
set_option maxHeartbeats 4000000 in
theorem rst13 (W w : World) (g4 g7 : Nat) (hf : Bool) (post unit : Bs) (A : Option Addr) (n cap : Nat) (l : List Tok) (io : Option (List Tok)) (uV : Value) (r : Ad × List Tok × Option (List Tok)) (S : RsAt W w g4 g7 ⟨0, hf, [], [], [], post, unit, [], [], [], []⟩ A n cap l) (I : InIs w W.heap.size uV io) (hr : r = (⟨0, hf, (frontP (backP l 1).1 2).2, (textsP (frontP (backP l 1).1 2).1), (backP l 1).2, post, unit, [], [], [], []⟩, (frontP (backP l 1).1 2).1, io)) ⦃u1 u2 u3 u5 u6 u9 u10 u11 u12 u13 u14 u15 u16 u17 u18 u19 u20 u21 u22 u23 u24 u25 u26 u27 u28 u29 u30 u31 u32 u33 u34 u35 u36 u37 u38 u39 u40 u41 u42 u43 u44 u45 u46 u47 u48 u49 u50 u51 u52 u53 u54 u55 u56 u57 u58 u59 u60 u61 u62 u63 u64 u65 u66 u67 u68 u69 u70 u71 u72 u73 u74 : Value⦄ : KF2 Tryz.prog (bodyPost Tryz.prog Tryz.f46 (StrR W r)) ⟨#[.slice A n cap, u1, u2, u3, .pointer (some ⟨g4, 0, none⟩), u5, u6, .pointer (some ⟨g7, 0, none⟩), uV, u9, u10, u11, u12, u13, u14, u15, u16, u17, u18, u19, u20, u21, u22, u23, u24, u25, u26, u27, u28, u29, u30, u31, u32, u33, u34, u35, u36, u37, u38, u39, u40, u41, u42, u43, u44, u45, u46, u47, u48, u49, u50, u51, u52, u53, u54, u55, u56, u57, u58, u59, u60, u61, u62, u63, u64, u65, u66, u67, u68, u69, u70, u71, u72, u73, u74, undef, undef, undef, undef, undef, undef, undef, undef, undef, undef, undef, undef, undef, undef, undef, undef, undef, undef, undef, undef, undef, undef, undef, undef, undef, undef, undef, undef, undef, undef, undef, undef, undef, undef, undef, undef, undef, undef, undef, undef, undef, undef, undef, undef, undef, undef, undef], []⟩ w (rstAt2 13) := by
  have S0 := Lib.hid S
  have I0 := Lib.hid (fun w' (hx : Ext W w') => I.stay S.ext hx)
  have hn := S.t.len
  subst hn
  have h40 := S.t.l40
  have hle := S.t.le
  have hE := rback_eq (kind := 1) (.inl rfl) l
  generalize backP l 1 = fp at *
  obtain ⟨isP, hisP⟩ : ∃ isP, (decide (1 < l.length) && (shortP 1 (l.getLastD ⟨0, []⟩).t).2) = isP := ⟨_, rfl⟩
  rw [hisP] at hE
  replace hr := Lib.hid hr
  clear S I
  conv => arg 5; whnf
  conv => arg 5; arg 1; whnf
  conv => arg 5; arg 2; whnf
  conv => arg 5; arg 2; arg 1; whnf
  conv => arg 5; arg 2; arg 2; whnf
  unfold KF2
  dsimp only
  intro K1 hK1 K2 hK2
  go_cut [86] from 75 to 86 (fun v wx => v = .bool isP ∧ Ext w wx)
  case first =>
    by_cases h1 : 1 < l.length
    · have d1 : decide ((1 : Int) < (l.length : Int)) = true := decide_eq_true (by omega)
      obtain ⟨m, hm⟩ : ∃ m, m + 1 = l.length := ⟨l.length - 1, by omega⟩
      have hml : m < l.length := by omega
      have hd0 : (l.getLastD ⟨0, []⟩) = l[m] := by
        rw [List.getLastD_eq_getLast?, List.getLast?_eq_getElem?, show l.length - 1 = m by omega, List.getElem?_eq_getElem hml]
        rfl
      rw [hd0, decide_eq_true h1, Bool.true_and] at hisP
      obtain ⟨b, o, rfl, hb, t0, t1⟩ := S0.out.t.at_ (k := m) hml
      have ew : IntKind.i64.wrap ((l.length : Int) - 1) = (m : Int) := by rw [IntKind.wrap_i64]; omega
      have mz : (0 : Int) ≤ (m : Int) := by omega
      have ml : (m : Int) < (l.length : Int) := by omega
      have HH := Lib.hid (fun w' => rhas_any l[m] 1 (.inl rfl) w')
      unfold tokV at HH
      replace hisP := Lib.hid hisP
      replace hm := Lib.hid hm
      clear hd0 hE
      generalize l[m].k = tk at *
      generalize l[m].t = tt at *
      go_wp2_with fail
      refine (HH.out _).mono ?_
      rintro e' w1 ⟨rfl, hx1⟩
      go_wp2_with fail
      go_meet
      exact ⟨by rw [hisP.out], hx1⟩
    · have d1 : decide ((1 : Int) < (l.length : Int)) = false := decide_eq_false (by omega)
      have e : isP = false := by rw [← hisP, decide_eq_false h1]; rfl
      subst e
      clear hisP hE
      go_wp2_with fail
      go_meet
      exact ⟨rfl, Ext.refl _⟩
  case rest =>
    obtain ⟨rfl, hx2⟩ := hcut
    obtain ⟨w2, rfl⟩ : ∃ w2, w2 = wc := ⟨_, rfl⟩
    replace S0 := Lib.hid (S0.out.to hx2)
    clear hx2
    go_upto_if 86 with (fail)
    go_cut [0] from 87 to 99 (fun v wx => ∃ A2 n2 c2, v = .slice A2 n2 c2 ∧ RsAt W wx g4 g7 ⟨0, hf, [], [], fp.2, post, unit, [], [], [], []⟩ A2 n2 c2 fp.1)
    case first =>
      cases isP with
      | false =>
        have HE := Lib.hid (show RsAt W w2 g4 g7 ⟨0, hf, [], [], fp.2, post, unit, [], [], [], []⟩ A l.length cap fp.1 by rw [hE]; exact S0.out)
        clear hE hisP S0
        go_wp2_with fail
        go_meet
        exact ⟨_, _, _, rfl, HE.out⟩
      | true =>
        have h1 : 1 < l.length := by
          rw [Bool.and_eq_true, decide_eq_true_eq] at hisP
          exact hisP.1
        obtain ⟨m, hm⟩ : ∃ m, m + 1 = l.length := ⟨l.length - 1, by omega⟩
        have hml : m < l.length := by omega
        have hd0 : (l.getLastD ⟨0, []⟩) = l[m] := by
          rw [List.getLastD_eq_getLast?, List.getLast?_eq_getElem?, show l.length - 1 = m by omega, List.getElem?_eq_getElem hml]
          rfl
        rw [hd0, if_pos rfl, show l.length - 1 = m by omega] at hE
        obtain ⟨b, o, rfl, hb, t0, t1⟩ := S0.out.t.at_ (k := m) hml
        have ew : IntKind.i64.wrap ((l.length : Int) - 1) = (m : Int) := by rw [IntKind.wrap_i64]; omega
        have mz : (0 : Int) ≤ (m : Int) := by omega
        have ml : (m : Int) < (l.length : Int) := by omega
        have mc : (m : Int) ≤ (cap : Int) := by omega
        have HH := Lib.hid (fun w' => rshortT_any l[m] 1 (.inl rfl) w')
        unfold tokV at HH
        have HE := Lib.hid (fun w' (hx : Ext w2 w') => (show RsAt W (w'.setCell ⟨g7, 4, none⟩ (.string ⟨fp.2.toArray⟩)) g4 g7 ⟨0, hf, [], [], fp.2, post, unit, [], [], [], []⟩ (some ⟨b, o, none⟩) m cap fp.1 by
          have X := ((S0.out.to hx).put 4 (.string ⟨fp.2.toArray⟩) (b := ⟨0, hf, [], [], fp.2, post, unit, [], [], [], []⟩) rfl).take (m := m) (by omega)
          rw [show fp.1 = l.take m by rw [hE]]
          exact X))
        have hsh : shortT l[m] 1 = fp.2 := by rw [hE]
        rw [hsh] at HH
        replace hm := Lib.hid hm
        have HC := Lib.hid (fun w' (hx : Ext w2 w') => (show w'.cell? ⟨g7, 4, none⟩ = some (.string ⟨#[]⟩) ∧ w'.frozen? ⟨g7, 4, none⟩ = false ∧ g7 < w'.heap.size from ⟨(S0.out.to hx).b.cell 4, (S0.out.to hx).b.frozen 4, (S0.out.to hx).b.lt⟩))
        clear hd0 hisP hE hsh S0
        generalize l[m].k = tk at *
        generalize l[m].t = tt at *
        go_wp2_with fail
        refine (HH.out _).mono ?_
        rintro e' w3 ⟨rfl, hx3⟩
        obtain ⟨q1, q2, q3⟩ := HC.out _ hx3
        have HF := Lib.hid (HE.out _ hx3)
        clear HE HC HH hx3 t0 t1 hb
        go_wp2_with fail
        go_meet
        exact ⟨_, _, _, rfl, HF.out⟩
    case rest =>
      obtain ⟨A2, n2, c2, rfl, S2⟩ := hcut
      have I2 := I0.out _ S2.ext
      go_upto_region 16 with (fail)
      exact rst16 W _ g4 g7 hf fp.2 post unit A2 n2 c2 fp.1 io uV r S2 I2 hr.out _ (by assumption) _ (by assumption)
set_option maxRecDepth 100000 in
set_option maxHeartbeats 4000000 in
theorem rst10 (W w : World) (g4 g7 : Nat) (hf : Bool) (unit : Bs) (A : Option Addr) (n cap : Nat) (l : List Tok) (io : Option (List Tok)) (uV : Value) (r : Ad × List Tok × Option (List Tok)) (S : RsAt W w g4 g7 ⟨0, hf, [], [], [], [], unit, [], [], [], []⟩ A n cap l) (I : InIs w W.heap.size uV io) (hr : r = (⟨0, hf, (frontP (backP (backP l 2).1 1).1 2).2, (textsP (frontP (backP (backP l 2).1 1).1 2).1), (backP (backP l 2).1 1).2, (backP l 2).2, unit, [], [], [], []⟩, (frontP (backP (backP l 2).1 1).1 2).1, io)) ⦃u1 u2 u3 u5 u6 u9 u10 u11 u12 u13 u14 u15 u16 u17 u18 u19 u20 u21 u22 u23 u24 u25 u26 u27 u28 u29 u30 u31 u32 u33 u34 u35 u36 u37 u38 u39 u40 u41 u42 u43 u44 u45 u46 u47 u48 u49 : Value⦄ : KF2 Tryz.prog (bodyPost Tryz.prog Tryz.f46 (StrR W r)) ⟨#[.slice A n cap, u1, u2, u3, .pointer (some ⟨g4, 0, none⟩), u5, u6, .pointer (some ⟨g7, 0, none⟩), uV, u9, u10, u11, u12, u13, u14, u15, u16, u17, u18, u19, u20, u21, u22, u23, u24, u25, u26, u27, u28, u29, u30, u31, u32, u33, u34, u35, u36, u37, u38, u39, u40, u41, u42, u43, u44, u45, u46, u47, u48, u49, undef, undef, undef, undef, undef, undef, undef, undef, undef, undef, undef, undef, undef, undef, undef, undef, undef, undef, undef, undef, undef, undef, undef, undef, undef, undef, undef, undef, undef, undef, undef, undef, undef, undef, undef, undef, undef, undef, undef, undef, undef, undef, undef, undef, undef, undef, undef, undef, undef, undef, undef, undef, undef, undef, undef, undef, undef, undef, undef, undef, undef, undef, undef, undef, undef, undef, undef, undef, undef, undef, undef, undef], []⟩ w (rstAt2 10) := by
  have S0 := Lib.hid S
  have I0 := Lib.hid (fun w' (hx : Ext W w') => I.stay S.ext hx)
  have hn := S.t.len
  subst hn
  have h40 := S.t.l40
  have hle := S.t.le
  have hE := rback_eq (kind := 2) (.inr (.inl rfl)) l
  generalize backP l 2 = fp at *
  obtain ⟨isP, hisP⟩ : ∃ isP, (decide (1 < l.length) && (shortP 2 (l.getLastD ⟨0, []⟩).t).2) = isP := ⟨_, rfl⟩
  rw [hisP] at hE
  replace hr := Lib.hid hr
  clear S I
  conv => arg 5; whnf
  conv => arg 5; arg 1; whnf
  conv => arg 5; arg 2; whnf
  conv => arg 5; arg 2; arg 1; whnf
  conv => arg 5; arg 2; arg 2; whnf
  unfold KF2
  dsimp only
  intro K1 hK1 K2 hK2
  go_cut [61] from 50 to 61 (fun v wx => v = .bool isP ∧ Ext w wx)
  case first =>
    by_cases h1 : 1 < l.length
    · have d1 : decide ((1 : Int) < (l.length : Int)) = true := decide_eq_true (by omega)
      obtain ⟨m, hm⟩ : ∃ m, m + 1 = l.length := ⟨l.length - 1, by omega⟩
      have hml : m < l.length := by omega
      have hd0 : (l.getLastD ⟨0, []⟩) = l[m] := by
        rw [List.getLastD_eq_getLast?, List.getLast?_eq_getElem?, show l.length - 1 = m by omega, List.getElem?_eq_getElem hml]
        rfl
      rw [hd0, decide_eq_true h1, Bool.true_and] at hisP
      obtain ⟨b, o, rfl, hb, t0, t1⟩ := S0.out.t.at_ (k := m) hml
      have ew : IntKind.i64.wrap ((l.length : Int) - 1) = (m : Int) := by rw [IntKind.wrap_i64]; omega
      have mz : (0 : Int) ≤ (m : Int) := by omega
      have ml : (m : Int) < (l.length : Int) := by omega
      have HH := Lib.hid (fun w' => rhas_any l[m] 2 (.inr (.inl rfl)) w')
      unfold tokV at HH
      replace hisP := Lib.hid hisP
      replace hm := Lib.hid hm
      clear hd0 hE
      generalize l[m].k = tk at *
      generalize l[m].t = tt at *
      go_wp2_with fail
      refine (HH.out _).mono ?_
      rintro e' w1 ⟨rfl, hx1⟩
      go_wp2_with fail
      go_meet
      exact ⟨by rw [hisP.out], hx1⟩
    · have d1 : decide ((1 : Int) < (l.length : Int)) = false := decide_eq_false (by omega)
      have e : isP = false := by rw [← hisP, decide_eq_false h1]; rfl
      subst e
      clear hisP hE
      go_wp2_with fail
      go_meet
      exact ⟨rfl, Ext.refl _⟩
  case rest =>
    obtain ⟨rfl, hx2⟩ := hcut
    obtain ⟨w2, rfl⟩ : ∃ w2, w2 = wc := ⟨_, rfl⟩
    replace S0 := Lib.hid (S0.out.to hx2)
    clear hx2
    go_upto_if 61 with (fail)
    go_cut [0] from 62 to 74 (fun v wx => ∃ A2 n2 c2, v = .slice A2 n2 c2 ∧ RsAt W wx g4 g7 ⟨0, hf, [], [], [], fp.2, unit, [], [], [], []⟩ A2 n2 c2 fp.1)
    case first =>
      cases isP with
      | false =>
        have HE := Lib.hid (show RsAt W w2 g4 g7 ⟨0, hf, [], [], [], fp.2, unit, [], [], [], []⟩ A l.length cap fp.1 by rw [hE]; exact S0.out)
        clear hE hisP S0
        go_wp2_with fail
        go_meet
        exact ⟨_, _, _, rfl, HE.out⟩
      | true =>
        have h1 : 1 < l.length := by
          rw [Bool.and_eq_true, decide_eq_true_eq] at hisP
          exact hisP.1
        obtain ⟨m, hm⟩ : ∃ m, m + 1 = l.length := ⟨l.length - 1, by omega⟩
        have hml : m < l.length := by omega
        have hd0 : (l.getLastD ⟨0, []⟩) = l[m] := by
          rw [List.getLastD_eq_getLast?, List.getLast?_eq_getElem?, show l.length - 1 = m by omega, List.getElem?_eq_getElem hml]
          rfl
        rw [hd0, if_pos rfl, show l.length - 1 = m by omega] at hE
        obtain ⟨b, o, rfl, hb, t0, t1⟩ := S0.out.t.at_ (k := m) hml
        have ew : IntKind.i64.wrap ((l.length : Int) - 1) = (m : Int) := by rw [IntKind.wrap_i64]; omega
        have mz : (0 : Int) ≤ (m : Int) := by omega
        have ml : (m : Int) < (l.length : Int) := by omega
        have mc : (m : Int) ≤ (cap : Int) := by omega
        have HH := Lib.hid (fun w' => rshortT_any l[m] 2 (.inr (.inl rfl)) w')
        unfold tokV at HH
        have HE := Lib.hid (fun w' (hx : Ext w2 w') => (show RsAt W (w'.setCell ⟨g7, 5, none⟩ (.string ⟨fp.2.toArray⟩)) g4 g7 ⟨0, hf, [], [], [], fp.2, unit, [], [], [], []⟩ (some ⟨b, o, none⟩) m cap fp.1 by
          have X := ((S0.out.to hx).put 5 (.string ⟨fp.2.toArray⟩) (b := ⟨0, hf, [], [], [], fp.2, unit, [], [], [], []⟩) rfl).take (m := m) (by omega)
          rw [show fp.1 = l.take m by rw [hE]]
          exact X))
        have hsh : shortT l[m] 2 = fp.2 := by rw [hE]
        rw [hsh] at HH
        replace hm := Lib.hid hm
        have HC := Lib.hid (fun w' (hx : Ext w2 w') => (show w'.cell? ⟨g7, 5, none⟩ = some (.string ⟨#[]⟩) ∧ w'.frozen? ⟨g7, 5, none⟩ = false ∧ g7 < w'.heap.size from ⟨(S0.out.to hx).b.cell 5, (S0.out.to hx).b.frozen 5, (S0.out.to hx).b.lt⟩))
        clear hd0 hisP hE hsh S0
        generalize l[m].k = tk at *
        generalize l[m].t = tt at *
        go_wp2_with fail
        refine (HH.out _).mono ?_
        rintro e' w3 ⟨rfl, hx3⟩
        obtain ⟨q1, q2, q3⟩ := HC.out _ hx3
        have HF := Lib.hid (HE.out _ hx3)
        clear HE HC HH hx3 t0 t1 hb
        go_wp2_with fail
        go_meet
        exact ⟨_, _, _, rfl, HF.out⟩
    case rest =>
      obtain ⟨A2, n2, c2, rfl, S2⟩ := hcut
      have I2 := I0.out _ S2.ext
      go_upto_region 13 with (fail)
      exact rst13 W _ g4 g7 hf fp.2 unit A2 n2 c2 fp.1 io uV r S2 I2 hr.out _ (by assumption) _ (by assumption)
end Go.Proofs.YtjneghncmgjkeaaGreatDoor
