/-
  apportionref17: street, from the backs on (printed by tools/genHw.py).
-/
import Derived.Test.YtjaponmpfdpemaaGreatDoorBb30
set_option linter.unusedSimpArgs false
set_option linter.unusedVariables false
namespace Go.Proofs.YtjaponmpfdpemaaGreatDoor
open Go.RowKit
set_option maxRecDepth 100000 in
set_option maxHeartbeats 4000000 in
theorem rst13 (W w : World) (g4 g7 : Nat) (hf : Bool) (post unit : Bs) (A : Option Addr) (n cap : Nat) (l : List Tok) (io : Option (List Tok)) (uV : Value) (r : Ad × List Tok × Option (List Tok)) (S : RsAt W w g4 g7 ⟨0, hf, [], [], [], post, unit, [], [], [], []⟩ A n cap l) (I : InIs w W.heap.size uV io) (hr : r = (⟨0, hf, (frontP (backP l 1).1 2).2, (textsP (frontP (backP l 1).1 2).1), (backP l 1).2, post, unit, [], [], [], []⟩, (frontP (backP l 1).1 2).1, io)) ⦃u1 u2 u3 u5 u6 u9 u10 u11 u12 u13 u14 u15 u16 u17 u18 u19 u20 u21 u22 u23 u24 u25 u26 u27 u28 u29 u30 u31 u32 u33 u34 u35 u36 u37 u38 u39 u40 u41 u42 u43 u44 u45 u46 u47 u48 u49 u50 u51 u52 u53 u54 u55 u56 u57 u58 u59 u60 u61 u62 u63 u64 u65 u66 u67 u68 u69 u70 u71 u72 u73 u74 : Value⦄ : KF2 Tryz.prog (bodyPost Tryz.prog Tryz.f69 (StrR W r)) ⟨#[.slice A n cap, u1, u2, u3, .pointer (some ⟨g4, 0, none⟩), u5, u6, .pointer (some ⟨g7, 0, none⟩), uV, u9, u10, u11, u12, u13, u14, u15, u16, u17, u18, u19, u20, u21, u22, u23, u24, u25, u26, u27, u28, u29, u30, u31, u32, u33, u34, u35, u36, u37, u38, u39, u40, u41, u42, u43, u44, u45, u46, u47, u48, u49, u50, u51, u52, u53, u54, u55, u56, u57, u58, u59, u60, u61, u62, u63, u64, u65, u66, u67, u68, u69, u70, u71, u72, u73, u74, undef, undef, undef, undef, undef, undef, undef, undef, undef, undef, undef, undef, undef, undef, undef, undef, undef, undef, undef, undef, undef, undef, undef, undef, undef, undef, undef, undef, undef, undef, undef, undef, undef, undef, undef, undef, undef, undef, undef, undef, undef, undef, undef, undef, undef, undef, undef], []⟩ w (rstAt2 13) := by
 have S0 := Lib.hid S
 have I0 := Lib.hid (fun w' (hx : Ext W w') => I.stay S.ext hx)
 have hn := S.t.len
 subst hn
 have h40 := S.t.l40
 have hle := S.t.le
 have hE := rback_eq (kind := 1) (.inl rfl) l
 generalize backP l 1 = fp at *
 obtain ⟨isP, hisP⟩ : ∃ isP, (decide (1 < l.length) && (shortP 1 (l.getLastD ⟨0, []⟩).t).2) = isP := ⟨_, rfl⟩
 rw [hisP] at hE
 replace hr := Lib.hid hr
 clear S I
 conv => arg 5; whnf
 conv => arg 5; arg 1; whnf
 conv => arg 5; arg 2; whnf
 conv => arg 5; arg 2; arg 1; whnf
 conv => arg 5; arg 2; arg 2; whnf
 unfold KF2
 dsimp only
 intro K1 hK1 K2 hK2
 go_cut [86] from 75 to 86 (fun v wx => v = .bool isP ∧ Ext w wx)
 case first =>
  by_cases h1 : 1 < l.length
  ·have d1 : decide ((1 : Int) < (l.length : Int)) = true := decide_eq_true (by omega)
   obtain ⟨m, hm⟩ : ∃ m, m + 1 = l.length := ⟨l.length - 1, by omega⟩
   have hml : m < l.length := by omega
   have hd0 : (l.getLastD ⟨0, []⟩) = l[m] := by
    rw [List.getLastD_eq_getLast?, List.getLast?_eq_getElem?, show l.length - 1 = m by omega, List.getElem?_eq_getElem hml]
    rfl
   rw [hd0, decide_eq_true h1, Bool.true_and] at hisP
   obtain ⟨b, o, rfl, hb, t0, t1⟩ := S0.out.t.at_ (k := m) hml
   have ew : IntKind.i64.wrap ((l.length : Int) - 1) = (m : Int) := by rw [IntKind.wrap_i64]; omega
   have mz : (0 : Int) ≤ (m : Int) := by omega
   have ml : (m : Int) < (l.length : Int) := by omega
   have HH := Lib.hid (fun w' => rhas_any l[m] 1 (.inl rfl) w')
   unfold tokV at HH
   replace hisP := Lib.hid hisP
   replace hm := Lib.hid hm
   clear hd0 hE
   generalize l[m].k = tk at *
   generalize l[m].t = tt at *
   go_wp2_with fail
   refine (HH.out _).mono ?_
   rintro e' w1 ⟨rfl, hx1⟩
   go_wp2_with fail
   go_meet
   exact ⟨by rw [hisP.out], hx1⟩
  ·have d1 : decide ((1 : Int) < (l.length : Int)) = false := decide_eq_false (by omega)
   have e : isP = false := by rw [← hisP, decide_eq_false h1]; rfl
   subst e
   clear hisP hE
   go_wp2_with fail
   go_meet
   exact ⟨rfl, Ext.refl _⟩
 case rest =>
  obtain ⟨rfl, hx2⟩ := hcut
  obtain ⟨w2, rfl⟩ : ∃ w2, w2 = wc := ⟨_, rfl⟩
  replace S0 := Lib.hid (S0.out.to hx2)
  clear hx2
  go_upto_if 86 with (fail)
  go_cut [0] from 87 to 99 (fun v wx => ∃ A2 n2 c2, v = .slice A2 n2 c2 ∧ RsAt W wx g4 g7 ⟨0, hf, [], [], fp.2, post, unit, [], [], [], []⟩ A2 n2 c2 fp.1)
  case first =>
   cases isP with
   | false =>
    have HE := Lib.hid (show RsAt W w2 g4 g7 ⟨0, hf, [], [], fp.2, post, unit, [], [], [], []⟩ A l.length cap fp.1 by rw [hE]; exact S0.out)
    clear hE hisP S0
    go_wp2_with fail
    go_meet
    exact ⟨_, _, _, rfl, HE.out⟩
   | true =>
    have h1 : 1 < l.length := by
     rw [Bool.and_eq_true, decide_eq_true_eq] at hisP
     exact hisP.1
    obtain ⟨m, hm⟩ : ∃ m, m + 1 = l.length := ⟨l.length - 1, by omega⟩
    have hml : m < l.length := by omega
    have hd0 : (l.getLastD ⟨0, []⟩) = l[m] := by
     rw [List.getLastD_eq_getLast?, List.getLast?_eq_getElem?, show l.length - 1 = m by omega, List.getElem?_eq_getElem hml]
     rfl
    rw [hd0, if_pos rfl, show l.length - 1 = m by omega] at hE
    obtain ⟨b, o, rfl, hb, t0, t1⟩ := S0.out.t.at_ (k := m) hml
    have ew : IntKind.i64.wrap ((l.length : Int) - 1) = (m : Int) := by rw [IntKind.wrap_i64]; omega
    have mz : (0 : Int) ≤ (m : Int) := by omega
    have ml : (m : Int) < (l.length : Int) := by omega
    have mc : (m : Int) ≤ (cap : Int) := by omega
    have HH := Lib.hid (fun w' => rshortT_any l[m] 1 (.inl rfl) w')
    unfold tokV at HH
    have HE := Lib.hid (fun w' (hx : Ext w2 w') => (show RsAt W (w'.setCell ⟨g7, 4, none⟩ (.string ⟨fp.2.toArray⟩)) g4 g7 ⟨0, hf, [], [], fp.2, post, unit, [], [], [], []⟩ (some ⟨b, o, none⟩) m cap fp.1 by
     have X := ((S0.out.to hx).put 4 (.string ⟨fp.2.toArray⟩) (b := ⟨0, hf, [], [], fp.2, post, unit, [], [], [], []⟩) rfl).take (m := m) (by omega)
     rw [show fp.1 = l.take m by rw [hE]]
     exact X))
    have hsh : shortT l[m] 1 = fp.2 := by rw [hE]
    rw [hsh] at HH
    replace hm := Lib.hid hm
    have HC := Lib.hid (fun w' (hx : Ext w2 w') => (show w'.cell? ⟨g7, 4, none⟩ = some (.string ⟨#[]⟩) ∧ w'.frozen? ⟨g7, 4, none⟩ = false ∧ g7 < w'.heap.size from ⟨(S0.out.to hx).b.cell 4, (S0.out.to hx).b.frozen 4, (S0.out.to hx).b.lt⟩))
    clear hd0 hisP hE hsh S0
    generalize l[m].k = tk at *
    generalize l[m].t = tt at *
    go_wp2_with fail
    refine (HH.out _).mono ?_
    rintro e' w3 ⟨rfl, hx3⟩
    obtain ⟨q1, q2, q3⟩ := HC.out _ hx3
    have HF := Lib.hid (HE.out _ hx3)
    clear HE HC HH hx3 t0 t1 hb
    go_wp2_with fail
    go_meet
    exact ⟨_, _, _, rfl, HF.out⟩
  case rest =>
   obtain ⟨A2, n2, c2, rfl, S2⟩ := hcut
   have I2 := I0.out _ S2.ext
   go_upto_region 16 with (fail)
   exact rst16 W _ g4 g7 hf fp.2 post unit A2 n2 c2 fp.1 io uV r S2 I2 hr.out _ (by assumption) _ (by assumption)
set_option maxRecDepth 100000 in
set_option maxHeartbeats 4000000 in
theorem rst10 (W w : World) (g4 g7 : Nat) (hf : Bool) (unit : Bs) (A : Option Addr) (n cap : Nat) (l : List Tok) (io : Option (List Tok)) (uV : Value) (r : Ad × List Tok × Option (List Tok)) (S : RsAt W w g4 g7 ⟨0, hf, [], [], [], [], unit, [], [], [], []⟩ A n cap l) (I : InIs w W.heap.size uV io) (hr : r = (⟨0, hf, (frontP (backP (backP l 2).1 1).1 2).2, (textsP (frontP (backP (backP l 2).1 1).1 2).1), (backP (backP l 2).1 1).2, (backP l 2).2, unit, [], [], [], []⟩, (frontP (backP (backP l 2).1 1).1 2).1, io)) ⦃u1 u2 u3 u5 u6 u9 u10 u11 u12 u13 u14 u15 u16 u17 u18 u19 u20 u21 u22 u23 u24 u25 u26 u27 u28 u29 u30 u31 u32 u33 u34 u35 u36 u37 u38 u39 u40 u41 u42 u43 u44 u45 u46 u47 u48 u49 : Value⦄ : KF2 Tryz.prog (bodyPost Tryz.prog Tryz.f69 (StrR W r)) ⟨#[.slice A n cap, u1, u2, u3, .pointer (some ⟨g4, 0, none⟩), u5, u6, .pointer (some ⟨g7, 0, none⟩), uV, u9, u10, u11, u12, u13, u14, u15, u16, u17, u18, u19, u20, u21, u22, u23, u24, u25, u26, u27, u28, u29, u30, u31, u32, u33, u34, u35, u36, u37, u38, u39, u40, u41, u42, u43, u44, u45, u46, u47, u48, u49, undef, undef, undef, undef, undef, undef, undef, undef, undef, undef, undef, undef, undef, undef, undef, undef, undef, undef, undef, undef, undef, undef, undef, undef, undef, undef, undef, undef, undef, undef, undef, undef, undef, undef, undef, undef, undef, undef, undef, undef, undef, undef, undef, undef, undef, undef, undef, undef, undef, undef, undef, undef, undef, undef, undef, undef, undef, undef, undef, undef, undef, undef, undef, undef, undef, undef, undef, undef, undef, undef, undef, undef], []⟩ w (rstAt2 10) := by
 have S0 := Lib.hid S
 have I0 := Lib.hid (fun w' (hx : Ext W w') => I.stay S.ext hx)
 have hn := S.t.len
 subst hn
 have h40 := S.t.l40
 have hle := S.t.le
 have hE := rback_eq (kind := 2) (.inr (.inl rfl)) l
 generalize backP l 2 = fp at *
 obtain ⟨isP, hisP⟩ : ∃ isP, (decide (1 < l.length) && (shortP 2 (l.getLastD ⟨0, []⟩).t).2) = isP := ⟨_, rfl⟩
 rw [hisP] at hE
 replace hr := Lib.hid hr
 clear S I
 conv => arg 5; whnf
 conv => arg 5; arg 1; whnf
 conv => arg 5; arg 2; whnf
 conv => arg 5; arg 2; arg 1; whnf
 conv => arg 5; arg 2; arg 2; whnf
 unfold KF2
 dsimp only
 intro K1 hK1 K2 hK2
 go_cut [61] from 50 to 61 (fun v wx => v = .bool isP ∧ Ext w wx)
 case first =>
  by_cases h1 : 1 < l.length
  ·have d1 : decide ((1 : Int) < (l.length : Int)) = true := decide_eq_true (by omega)
   obtain ⟨m, hm⟩ : ∃ m, m + 1 = l.length := ⟨l.length - 1, by omega⟩
   have hml : m < l.length := by omega
   have hd0 : (l.getLastD ⟨0, []⟩) = l[m] := by
    rw [List.getLastD_eq_getLast?, List.getLast?_eq_getElem?, show l.length - 1 = m by omega, List.getElem?_eq_getElem hml]
    rfl
   rw [hd0, decide_eq_true h1, Bool.true_and] at hisP
   obtain ⟨b, o, rfl, hb, t0, t1⟩ := S0.out.t.at_ (k := m) hml
   have ew : IntKind.i64.wrap ((l.length : Int) - 1) = (m : Int) := by rw [IntKind.wrap_i64]; omega
   have mz : (0 : Int) ≤ (m : Int) := by omega
   have ml : (m : Int) < (l.length : Int) := by omega
   have HH := Lib.hid (fun w' => rhas_any l[m] 2 (.inr (.inl rfl)) w')
   unfold tokV at HH
   replace hisP := Lib.hid hisP
   replace hm := Lib.hid hm
   clear hd0 hE
   generalize l[m].k = tk at *
   generalize l[m].t = tt at *
   go_wp2_with fail
   refine (HH.out _).mono ?_
   rintro e' w1 ⟨rfl, hx1⟩
   go_wp2_with fail
   go_meet
   exact ⟨by rw [hisP.out], hx1⟩
  ·have d1 : decide ((1 : Int) < (l.length : Int)) = false := decide_eq_false (by omega)
   have e : isP = false := by rw [← hisP, decide_eq_false h1]; rfl
   subst e
   clear hisP hE
   go_wp2_with fail
   go_meet
   exact ⟨rfl, Ext.refl _⟩
 case rest =>
  obtain ⟨rfl, hx2⟩ := hcut
  obtain ⟨w2, rfl⟩ : ∃ w2, w2 = wc := ⟨_, rfl⟩
  replace S0 := Lib.hid (S0.out.to hx2)
  clear hx2
  go_upto_if 61 with (fail)
  go_cut [0] from 62 to 74 (fun v wx => ∃ A2 n2 c2, v = .slice A2 n2 c2 ∧ RsAt W wx g4 g7 ⟨0, hf, [], [], [], fp.2, unit, [], [], [], []⟩ A2 n2 c2 fp.1)
  case first =>
   cases isP with
   | false =>
    have HE := Lib.hid (show RsAt W w2 g4 g7 ⟨0, hf, [], [], [], fp.2, unit, [], [], [], []⟩ A l.length cap fp.1 by rw [hE]; exact S0.out)
    clear hE hisP S0
    go_wp2_with fail
    go_meet
    exact ⟨_, _, _, rfl, HE.out⟩
   | true =>
    have h1 : 1 < l.length := by
     rw [Bool.and_eq_true, decide_eq_true_eq] at hisP
     exact hisP.1
    obtain ⟨m, hm⟩ : ∃ m, m + 1 = l.length := ⟨l.length - 1, by omega⟩
    have hml : m < l.length := by omega
    have hd0 : (l.getLastD ⟨0, []⟩) = l[m] := by
     rw [List.getLastD_eq_getLast?, List.getLast?_eq_getElem?, show l.length - 1 = m by omega, List.getElem?_eq_getElem hml]
     rfl
    rw [hd0, if_pos rfl, show l.length - 1 = m by omega] at hE
    obtain ⟨b, o, rfl, hb, t0, t1⟩ := S0.out.t.at_ (k := m) hml
    have ew : IntKind.i64.wrap ((l.length : Int) - 1) = (m : Int) := by rw [IntKind.wrap_i64]; omega
    have mz : (0 : Int) ≤ (m : Int) := by omega
    have ml : (m : Int) < (l.length : Int) := by omega
    have mc : (m : Int) ≤ (cap : Int) := by omega
    have HH := Lib.hid (fun w' => rshortT_any l[m] 2 (.inr (.inl rfl)) w')
    unfold tokV at HH
    have HE := Lib.hid (fun w' (hx : Ext w2 w') => (show RsAt W (w'.setCell ⟨g7, 5, none⟩ (.string ⟨fp.2.toArray⟩)) g4 g7 ⟨0, hf, [], [], [], fp.2, unit, [], [], [], []⟩ (some ⟨b, o, none⟩) m cap fp.1 by
     have X := ((S0.out.to hx).put 5 (.string ⟨fp.2.toArray⟩) (b := ⟨0, hf, [], [], [], fp.2, unit, [], [], [], []⟩) rfl).take (m := m) (by omega)
     rw [show fp.1 = l.take m by rw [hE]]
     exact X))
    have hsh : shortT l[m] 2 = fp.2 := by rw [hE]
    rw [hsh] at HH
    replace hm := Lib.hid hm
    have HC := Lib.hid (fun w' (hx : Ext w2 w') => (show w'.cell? ⟨g7, 5, none⟩ = some (.string ⟨#[]⟩) ∧ w'.frozen? ⟨g7, 5, none⟩ = false ∧ g7 < w'.heap.size from ⟨(S0.out.to hx).b.cell 5, (S0.out.to hx).b.frozen 5, (S0.out.to hx).b.lt⟩))
    clear hd0 hisP hE hsh S0
    generalize l[m].k = tk at *
    generalize l[m].t = tt at *
    go_wp2_with fail
    refine (HH.out _).mono ?_
    rintro e' w3 ⟨rfl, hx3⟩
    obtain ⟨q1, q2, q3⟩ := HC.out _ hx3
    have HF := Lib.hid (HE.out _ hx3)
    clear HE HC HH hx3 t0 t1 hb
    go_wp2_with fail
    go_meet
    exact ⟨_, _, _, rfl, HF.out⟩
  case rest =>
   obtain ⟨A2, n2, c2, rfl, S2⟩ := hcut
   have I2 := I0.out _ S2.ext
   go_upto_region 13 with (fail)
   exact rst13 W _ g4 g7 hf fp.2 unit A2 n2 c2 fp.1 io uV r S2 I2 hr.out _ (by assumption) _ (by assumption)
end Go.Proofs.YtjaponmpfdpemaaGreatDoor
set_option linter.unusedSimpArgs false
set_option linter.unusedVariables false
namespace Go.Proofs.YtjaponmpfdpemaaGreatDoor
open Go.RowKit
set_option maxRecDepth 100000 in
set_option maxHeartbeats 2000000 in
theorem rstreet_any (l : List Tok) (inner : Bool) (A : Option Addr) (n cap : Nat) (W : World) (h : TokS W A n cap l) :
  Calls Tryz.prog 69 #[.slice A n cap, .bool inner] W fun e w' => ∃ An nn cn inV, e = .returned (.tuple #[adV (streetP l inner).1, .slice An nn cn, inV]) ∧ TokS w' An nn cn (streetP l inner).2.1 ∧ InIs w' w'.heap.size inV (streetP l inner).2.2 ∧ Ext W w' := by
 have hn := h.len
 have h40 := h.l40
 have hAlt : 0 < l.length → ∀ b o, A = some ⟨b, o, none⟩ → b < W.heap.size := fun h0 b o e => by
  obtain ⟨b', o', e', hb, _⟩ := h.rd.2 (by omega)
  rw [e] at e'
  injection e' with e'
  injection e' with e1 _ _
  rw [e1]; exact hb
 go_enter Tryz.func69, Tryz.ntmps69
 go_upto_region 2 with (fail)
 have S0 : RsAt W ((W.alloc (.cells (adC Ad.zero) 45)).alloc (.cells (adC Ad.zero) 45)) W.heap.size (W.heap.size + 1) Ad.zero A n cap l := by
  have X := ((Ext.refl W).alloc (.cells (adC Ad.zero) 45)).alloc (.cells (adC Ad.zero) 45)
  have B1 := Blk.new (W.alloc (.cells (adC Ad.zero) 45)) 45 (adC Ad.zero)
  rw [show (W.alloc (.cells (adC Ad.zero) 45)).heap.size = W.heap.size + 1 by simp] at B1
  exact ⟨X, (Blk.new W _ _).alloc _, B1, h.ext X, hAlt, Nat.le_refl _, by omega, by omega⟩
 unfold adC at S0
 change RsAt W ((W.alloc (.cells #[.int .i64 0, .bool false, .string ⟨#[]⟩, .string ⟨#[]⟩, .string ⟨#[]⟩, .string ⟨#[]⟩, .string ⟨#[]⟩, .string ⟨#[]⟩, .string ⟨#[]⟩, .string ⟨#[]⟩, .string ⟨#[]⟩] 45)).alloc (.cells #[.int .i64 0, .bool false, .string ⟨#[]⟩, .string ⟨#[]⟩, .string ⟨#[]⟩, .string ⟨#[]⟩, .string ⟨#[]⟩, .string ⟨#[]⟩, .string ⟨#[]⟩, .string ⟨#[]⟩, .string ⟨#[]⟩] 45)) _ _ _ _ _ _ _ at S0
 generalize (W.alloc (.cells #[.int .i64 0, .bool false, .string ⟨#[]⟩, .string ⟨#[]⟩, .string ⟨#[]⟩, .string ⟨#[]⟩, .string ⟨#[]⟩, .string ⟨#[]⟩, .string ⟨#[]⟩, .string ⟨#[]⟩, .string ⟨#[]⟩] 45)).alloc (.cells #[.int .i64 0, .bool false, .string ⟨#[]⟩, .string ⟨#[]⟩, .string ⟨#[]⟩, .string ⟨#[]⟩, .string ⟨#[]⟩, .string ⟨#[]⟩, .string ⟨#[]⟩, .string ⟨#[]⟩, .string ⟨#[]⟩] 45) = w1 at *
 generalize hg7 : W.heap.size + 1 = g7 at *
 generalize hg4 : W.heap.size = g4 at *
 replace hg7 := Lib.hid hg7
 replace hg4 := Lib.hid hg4
 replace S0 := Lib.hid S0
 clear h hAlt
 obtain ⟨l1, hl1⟩ : ∃ l1, (if (l.head? == some halfT) = true then l.tail else l) = l1 := ⟨_, rfl⟩
 obtain ⟨hf, hhf⟩ : ∃ hf, (l.head? == some halfT) = hf := ⟨_, rfl⟩
 have hhfK := Lib.hid hhf
 have hl1K := Lib.hid hl1
 go_cut [19] from 9 to 19 (fun u wx => u = .bool hf ∧ wx = w1)
 case first =>
  by_cases h0 : 0 < l.length
  ·have hd : decide ((0 : Int) < (n : Int)) = true := decide_eq_true (by omega)
   have hhd : hf = decide (l[0] = halfT) := by
    rw [← hhf]
    cases l with
    | nil => simp at h0
    | cons t r => simp; rfl
   have hE := fun w => half_eq l[0].k l[0].t w
   rw [show (⟨l[0].k, l[0].t⟩ : Tok) = l[0] from rfl, ← hhd] at hE
   obtain ⟨g, o, rfl, hg, t0, t1⟩ := S0.out.t.at_ h0
   simp only [Nat.zero_mul, Nat.add_zero] at t0 t1
   have nz : (0 : Int) < (n : Int) := by omega
   have nz' : 0 < n := by omega
   replace hhd := Lib.hid hhd
   generalize l[0].k = tk at *
   generalize l[0].t = tt at *
   go_wp2_with fail
   go_meet
   exact ⟨rfl, rfl⟩
  ·have hd : decide ((0 : Int) < (n : Int)) = false := decide_eq_false (by omega)
   have hff : hf = false := by
    rw [← hhf]
    cases l with
    | nil => rfl
    | cons t r => simp at h0
   replace hff := Lib.hid hff
   go_wp2_with fail
   go_meet
   exact ⟨by rw [hff.out], rfl⟩
 case rest =>
  obtain ⟨rfl, hwc⟩ := hcut
  replace S0 := Lib.hid (show RsAt W wc g4 g7 Ad.zero A n cap l by rw [hwc]; exact S0.out)
  clear hwc
  rw [hhf] at hl1
  go_upto_if 19 with (fail)
  go_cut [0] from 20 to 22 (fun v wx => ∃ A1 n1 c1, v = .slice A1 n1 c1 ∧ RsAt W wx g4 g7 ⟨0, hf, [], [], [], [], [], [], [], [], []⟩ A1 n1 c1 l1)
  case first =>
   cases hf with
   | true =>
    have h0 : 0 < l.length := by
     cases l with
     | nil => simp at hhf
     | cons t r => simp
    have T0 := S0.out.t
    obtain ⟨b, o, rfl, hbg, t0, t1⟩ := T0.at_ h0
    have r1 : wc.cell? ⟨g7, 1, none⟩ = some (.bool false) := S0.out.b.cell 1
    have fr := S0.out.b.frozen 1
    have lr := S0.out.b.lt
    have hle0 := T0.le
    have l1i : (1 : Int) ≤ (n : Int) := by omega
    have e : l.tail = l1 := hl1
    subst e
    have S2 := S0.out.put 1 (.bool true) (b := ⟨0, true, [], [], [], [], [], [], [], [], []⟩) rfl
    have hbd : 0 < l.tail.length → ∀ b' o', (if cap = 1 then some ⟨b, o, none⟩ else some ⟨b, o + 2, none⟩ : Option Addr) = some ⟨b', o', none⟩ → b' < W.heap.size := fun _ b' o' e => by
     have := S0.out.lo h0 b o rfl
     by_cases hc : cap = 1
     ·rw [if_pos hc] at e; cases e; exact this
     ·rw [if_neg hc] at e; cases e; exact this
    have S3 := S2.keep (S2.t.tail' (by omega)) hbd
    have Sa := Lib.hid (fun (hc : cap = 1) => (show RsAt W (wc.setCell ⟨g7, 1, none⟩ (.bool true)) g4 g7 ⟨0, true, [], [], [], [], [], [], [], [], []⟩ (some ⟨b, o, none⟩) (n - 1) 0 l.tail by
     rw [if_pos hc, hc] at S3; exact S3))
    have Sb := Lib.hid (fun (hc : ¬ cap = 1) => (show RsAt W (wc.setCell ⟨g7, 1, none⟩ (.bool true)) g4 g7 ⟨0, true, [], [], [], [], [], [], [], [], []⟩ (some ⟨b, o + 2, none⟩) (n - 1) (cap - 1) l.tail by
     rw [if_neg hc] at S3; exact S3))
    clear S2 S3 hbd T0 S0 t0 t1 hhf hg4 hg7
    by_cases hc : cap = 1
    ·have S := Lib.hid (Sa.out hc)
     subst hc
     obtain rfl : n = 1 := by omega
     clear Sa Sb
     go_wp2_with fail
     go_meet
     exact ⟨_, _, _, rfl, S.out⟩
    ·have S := Lib.hid (Sb.out hc)
     have hcb : (cap == 1) = false := by rw [beq_eq_false_iff_ne]; exact hc
     clear Sa Sb
     go_wp2_with fail
     go_meet
     exact ⟨_, _, _, rfl, S.out⟩
   | false =>
    have HE := Lib.hid (show RsAt W wc g4 g7 ⟨0, false, [], [], [], [], [], [], [], [], []⟩ A n cap l1 by
     rw [← hl1]
     exact S0.out)
    clear S0 hhf hg4 hg7
    go_wp2_with fail
    go_meet
    exact ⟨_, _, _, rfl, HE.out⟩
  case rest =>
   obtain ⟨A1, n1, c1, rfl, S1⟩ := hcut
   clear S0 hhf hl1 hg4 hg7
   obtain ⟨a1, ha1⟩ : ∃ a1, (⟨0, hf, [], [], [], [], [], [], [], [], []⟩ : Ad) = a1 := ⟨_, rfl⟩
   rw [ha1] at S1
   obtain ⟨w2, rfl⟩ : ∃ w2, w2 = wc := ⟨_, rfl⟩
   have hn1 := S1.t.len
   subst hn1
   have h401 := S1.t.l40
   have hle1 := S1.t.le
   obtain ⟨isU, hisU⟩ : ∃ isU, (inner && decide (2 < l1.length) && (unitP (l1.drop (l1.length - 2))).2) = isU := ⟨_, rfl⟩
   replace S1 := Lib.hid S1
   go_upto_region 6 with (fail)
   go_cut [36] from 23 to 36 (fun u wx => u = .bool isU ∧ Ext w2 wx)
   case first =>
    cases inner with
    | false =>
     have e : isU = false := by rw [← hisU]; rfl
     subst e
     clear hisU
     go_wp2_with fail
     go_meet
     exact ⟨rfl, Ext.refl _⟩
    | true =>
     by_cases h2 : 2 < l1.length
     ·have d2 : decide ((2 : Int) < (l1.length : Int)) = true := decide_eq_true (by omega)
      obtain ⟨m, hm⟩ : ∃ m, m + 2 = l1.length := ⟨l1.length - 2, by omega⟩
      have hml : l1.length - 2 = m := by omega
      have ew : IntKind.i64.wrap ((l1.length : Int) - 2) = (m : Int) := by rw [IntKind.wrap_i64]; omega
      rw [hml] at hisU
      obtain ⟨b, o, rfl, hbg, t0, t1⟩ := S1.out.t.at_ (k := 0) (by omega)
      have mz : (0 : Int) ≤ (m : Int) := by omega
      have mn : (m : Int) ≤ (l1.length : Int) := by omega
      have mc : m ≠ c1 := by omega
      have TD := S1.out.t.drop (m := m) (by omega)
      have HU := Lib.hid (fun w (hx : Ext w2 w) => runit_any _ _ _ _ w (TD.ext hx))
      have e : isU = (unitP (l1.drop m)).2 := by rw [← hisU, decide_eq_true h2]; rfl
      replace e := Lib.hid e
      replace hm := Lib.hid hm
      clear hisU TD t0 t1 hml
      go_wp2_with fail
      refine (HU.out _ (Ext.refl _)).mono ?_
      rintro e' w3 ⟨rfl, hx3⟩
      go_wp2_with fail
      go_meet
      exact ⟨by rw [e.out], hx3⟩
     ·have d2 : decide ((2 : Int) < (l1.length : Int)) = false := decide_eq_false (by omega)
      have e : isU = false := by rw [← hisU, decide_eq_false h2]; rfl
      subst e
      clear hisU
      go_wp2_with fail
      go_meet
      exact ⟨rfl, Ext.refl _⟩
   case rest =>
    obtain ⟨rfl, hx3⟩ := hcut
    obtain ⟨w3, rfl⟩ : ∃ w3, w3 = wc := ⟨_, rfl⟩
    replace S1 := Lib.hid (S1.out.to hx3)
    clear hx3
    go_upto_if 36 with (fail)
    go_cut [0, 8] from 37 to 49 (fun v u wx => ∃ A2 n2 c2, v = .slice A2 n2 c2 ∧ RsAt W wx g4 g7 { a1 with unit := if isU then (unitP (l1.drop (l1.length - 2))).1 else [] } A2 n2 c2 (if isU then l1.take (l1.length - 2) else l1) ∧ InIs wx W.heap.size u (if isU then some (l1.drop (l1.length - 2)) else none))
    case first =>
     cases isU with
     | false =>
      have HE := Lib.hid (show RsAt W w3 g4 g7 { a1 with unit := if false = true then (unitP (l1.drop (l1.length - 2))).1 else [] } A1 l1.length c1 (if false = true then l1.take (l1.length - 2) else l1) by
       have e : ({ a1 with unit := [] } : Ad) = a1 := by rw [← ha1]
       simp only [Bool.false_eq_true, if_false]
       rw [e]
       exact S1.out)
      clear hisU
      go_wp2_with fail
      go_meet
      exact ⟨_, _, _, rfl, HE.out, rfl⟩
     | true =>
      simp only [Bool.and_eq_true, decide_eq_true_eq] at hisU
      obtain ⟨⟨hin, h2⟩, hu⟩ := hisU
      clear hin
      obtain ⟨m, hm⟩ : ∃ m, m + 2 = l1.length := ⟨l1.length - 2, by omega⟩
      have hml : l1.length - 2 = m := by omega
      have ew : IntKind.i64.wrap ((l1.length : Int) - 2) = (m : Int) := by rw [IntKind.wrap_i64]; omega
      rw [hml] at hu
      obtain ⟨b, o, rfl, hbg, t0, t1⟩ := S1.out.t.at_ (k := 0) (by omega)
      clear t0 t1
      have hlo := S1.out.lo (by omega) b o rfl
      have mz : (0 : Int) ≤ (m : Int) := by omega
      have mn : (m : Int) ≤ (l1.length : Int) := by omega
      have mc : m ≠ c1 := by omega
      have TD := S1.out.t.drop (m := m) (by omega)
      have hlo2 : ∀ b' o', (some ⟨b, o + m * 2, none⟩ : Option Addr) = some ⟨b', o', none⟩ → b' < W.heap.size := fun b' o' e => by
       injection e with e
       injection e with e1 _ _
       subst e1
       exact hlo
      have HU := Lib.hid (fun w (hx : Ext w3 w) => runitText_any _ _ _ _ w (TD.ext hx) hu)
      obtain ⟨ut, hut⟩ : ∃ ut, (unitP (l1.drop m)).1 = ut := ⟨_, rfl⟩
      rw [hut] at HU
      have HE := Lib.hid (fun w' (hx : Ext w3 w') => (show RsAt W (w'.setCell ⟨g7, 6, none⟩ (.string ⟨ut.toArray⟩)) g4 g7 { a1 with unit := if true = true then (unitP (l1.drop (l1.length - 2))).1 else [] } (some ⟨b, o, none⟩) m c1 (if true = true then l1.take (l1.length - 2) else l1) ∧ InIs (w'.setCell ⟨g7, 6, none⟩ (.string ⟨ut.toArray⟩)) W.heap.size (.slice (some ⟨b, o + m * 2, none⟩) (l1.length - m) (c1 - m)) (if true = true then some (l1.drop (l1.length - 2)) else none) by
       rw [hml]
       simp only [if_true, hut]
       exact ⟨((S1.out.to hx).put (b := { a1 with unit := ut }) 6 (.string ⟨ut.toArray⟩) rfl).take (m := m) (by omega), ⟨_, _, _, rfl, (TD.ext hx).set (fun _ => hlo2) (p := ⟨g7, 6, none⟩) S1.out.l7 _, by rw [List.length_drop]; omega, hlo2⟩⟩))
      have HC := Lib.hid (fun w' (hx : Ext w3 w') => (show w'.cell? ⟨g7, 6, none⟩ = some (.string ⟨a1.unit.toArray⟩) ∧ w'.frozen? ⟨g7, 6, none⟩ = false ∧ g7 < w'.heap.size from ⟨(S1.out.to hx).b.cell 6, (S1.out.to hx).b.frozen 6, (S1.out.to hx).b.lt⟩))
      replace hm := Lib.hid hm
      clear TD hu hut hml hlo2 h2
      go_wp2_with fail
      refine (HU.out _ (Ext.refl _)).mono ?_
      rintro e' w4 ⟨rfl, hx4⟩
      obtain ⟨q1, q2, q3⟩ := HC.out _ hx4
      have HF := Lib.hid (HE.out _ hx4)
      clear HE HC HU hx4
      go_wp2_with fail
      go_meet
      exact ⟨_, _, _, rfl, HF.out.1, HF.out.2⟩
    case rest =>
     obtain ⟨A2, n2, c2, rfl, S2, I2⟩ := hcut
     go_upto_region 10 with (fail)
     refine rst10 W _ g4 g7 hf (if isU then (unitP (l1.drop (l1.length - 2))).1 else []) A2 n2 c2 (if isU then l1.take (l1.length - 2) else l1) _ u8 (streetP l inner) ?_ I2 ?_ _ (by assumption) _ (by assumption)
     ·rw [← ha1] at S2
      exact S2
     ·unfold streetP
      dsimp only
      rw [hl1K.out, hhfK.out, hisU]
end Go.Proofs.YtjaponmpfdpemaaGreatDoor
