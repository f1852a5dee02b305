/-
  apportionref17: street, how it stands.
-/
import Derived.Test.YtjneghncmgjkeaaGreatDoorKa39
import Derived.Deep.RegionHeld3
import Derived.Test.YtjneghncmgjkeaaGreatDoorKa23
set_option linter.unusedVariables false
namespace Go.Proofs.YtjneghncmgjkeaaGreatDoor
open Go.RowKit

/-- Where the reference's street stands: the result's block, the address's, the tokens that are left. -/
structure RsAt (W w : World) (g4 g7 : Nat) (a : Ad) (A : Option Addr) (n cap : Nat) (l : List Tok) : Prop where
  ext : Ext W w
  r : Blk w g4 23 (adC Ad.zero)
  b : Blk w g7 23 (adC a)
  t : TokS w A n cap l
  lo : 0 < l.length → ∀ b o, A = some ⟨b, o, none⟩ → b < W.heap.size
  l4 : W.heap.size ≤ g4
  l7 : W.heap.size ≤ g7
  ne : g4 ≠ g7
theorem RsAt.to {W w w' : World} {g4 g7 n cap : Nat} {a : Ad} {A : Option Addr} {l : List Tok} (h : RsAt W w g4 g7 a A n cap l) (hx : Ext w w') : RsAt W w' g4 g7 a A n cap l :=
  ⟨h.ext.trans hx, h.r.ext hx, h.b.ext hx, h.t.ext hx, h.lo, h.l4, h.l7, h.ne⟩
theorem RsAt.put {W w : World} {g4 g7 n cap : Nat} {a b : Ad} {A : Option Addr} {l : List Tok} (h : RsAt W w g4 g7 a A n cap l) (i : Nat) (u : Value) (hu : (adC a).setIfInBounds i u = adC b) : RsAt W (w.setCell ⟨g7, i, none⟩ u) g4 g7 b A n cap l :=
  ⟨h.ext.set (p := ⟨g7, i, none⟩) h.l7 _, h.r.far (p := ⟨g7, i, none⟩) h.ne _, ad_put h.b i u b hu, h.t.set (p := ⟨g7, i, none⟩) h.lo h.l7 _, h.lo, h.l4, h.l7, h.ne⟩
theorem RsAt.keep {W w : World} {g4 g7 n cap n' cap' : Nat} {a : Ad} {A A' : Option Addr} {l l' : List Tok} (h : RsAt W w g4 g7 a A n cap l) (ht : TokS w A' n' cap' l') (hlo : 0 < l'.length → ∀ b o, A' = some ⟨b, o, none⟩ → b < W.heap.size) : RsAt W w g4 g7 a A' n' cap' l' :=
  ⟨h.ext, h.r, h.b, ht, hlo, h.l4, h.l7, h.ne⟩
theorem RsAt.take {W w : World} {g4 g7 n cap : Nat} {a : Ad} {A : Option Addr} {l : List Tok} (h : RsAt W w g4 g7 a A n cap l) {m : Nat} (hm : m ≤ n) : RsAt W w g4 g7 a A m cap (l.take m) :=
  h.keep (h.t.take hm) fun h0 b o e => h.lo (by rw [List.length_take] at h0; omega) b o e
theorem RsAt.drop {W w : World} {g4 g7 n cap b o : Nat} {a : Ad} {l : List Tok} (h : RsAt W w g4 g7 a (some ⟨b, o, none⟩) n cap l) {m : Nat} (hm : m ≤ n) : RsAt W w g4 g7 a (some ⟨b, o + m * 2, none⟩) (n - m) (cap - m) (l.drop m) :=
  h.keep (h.t.drop hm) fun h0 b' o' e => by
    injection e with e
    injection e with e1 _ _
    subst e1
    exact h.lo (by rw [List.length_drop] at h0; omega) b o rfl
end Go.Proofs.YtjneghncmgjkeaaGreatDoor

set_option linter.unusedVariables false
namespace Go.Proofs.YtjneghncmgjkeaaGreatDoor
open Go.RowKit

/-- What street hands back. -/
def StrR (W : World) (r : Ad × List Tok × Option (List Tok)) (e : Ending) (w' : World) : Prop := ∃ An nn cn inV, e = .returned (.tuple #[adV r.1, .slice An nn cn, inV]) ∧ TokS w' An nn cn r.2.1 ∧ InIs w' w'.heap.size inV r.2.2 ∧ Ext W w'
/-- The rest of a code from region n on (an 'if' with its test is one statement). -/
def tailIn (n : Nat) : Code → Option Code
  | .seq a b => if headIs n a then some (.seq a b) else match tailIn n a with
    | some c => some (.seq c b)
    | none => tailIn n b
  | .region id ops d => if id == n then some (.region id ops d) else none
  | .block _ c => tailIn n c
  | .loop c => tailIn n c
  | .scope c => tailIn n c
  | .cond _ a b => match tailIn n a with
    | some c => some c
    | none => tailIn n b
  | _ => none
/-- The rest of a code, told where the walk stands at its first statement's head, what follows being a variable; KF2: that statement is a region with its 'if'. -/
def KF1 (P : Program) (Q : Exit → Act → World → Prop) (a : Act) (w : World) (c : Code × Code) : Prop :=
  ∀ K : Act → World → Prop, (∀ a w, c.2.wp P Q a w → K a w) → c.1.wp P (Exit.then K Q) a w
def KF2 (P : Program) (Q : Exit → Act → World → Prop) (a : Act) (w : World) (c : Code × Code × Code) : Prop :=
  ∀ K1 : Act → World → Prop, (∀ a w, c.2.2.wp P Q a w → K1 a w) → ∀ K2 : Act → World → Prop, (∀ a w, c.2.1.wp P (Exit.then K1 Q) a w → K2 a w) → c.1.wp P (Exit.then K2 (Exit.then K1 Q)) a w
def cut1 : Option Code → Code × Code
  | some (.seq a b) => (a, b)
  | _ => (.skip, .skip)
def cut2 : Option Code → Code × Code × Code
  | some (.seq (.seq a b) c) => (a, b, c)
  | _ => (.skip, .skip, .skip)
noncomputable def rstAt1 (n : Nat) : Code × Code := cut1 (Tryz.f46.body.bind (tailIn n))
noncomputable def rstAt2 (n : Nat) : Code × Code × Code := cut2 (Tryz.f46.body.bind (tailIn n))
theorem rback_eq {kind : Int} (hk : kindOk kind) (l : List Tok) : backP l kind = if (decide (1 < l.length) && (shortP kind (l.getLastD ⟨0, []⟩).t).2) = true then (l.take (l.length - 1), shortT (l.getLastD ⟨0, []⟩) kind) else (l, []) := by
  have hs := shortP_snd hk (l.getLastD ⟨0, []⟩).t
  have hi : (2 ≤ l.length ∧ shortT (l.getLastD ⟨0, []⟩) kind ≠ []) ↔ (decide (1 < l.length) && (shortP kind (l.getLastD ⟨0, []⟩).t).2) = true := by
    rw [← hs, Bool.and_eq_true, decide_eq_true_eq, bne_iff_ne]
    exact Iff.rfl
  unfold backP
  rw [← List.dropLast_eq_take]
  by_cases h : 2 ≤ l.length ∧ shortT (l.getLastD ⟨0, []⟩) kind ≠ []
  · rw [if_pos h, if_pos (hi.1 h)]
  · rw [if_neg h, if_neg (fun x => h (hi.2 x))]
theorem rfront_eq {kind : Int} (hk : kindOk kind) (l : List Tok) : frontP l kind = if (decide (1 < l.length) && (shortP kind (l.headD ⟨0, []⟩).t).2) = true then (l.tail, shortT (l.headD ⟨0, []⟩) kind) else (l, []) := by
  have hs := shortP_snd hk (l.headD ⟨0, []⟩).t
  have hi : (2 ≤ l.length ∧ shortT (l.headD ⟨0, []⟩) kind ≠ []) ↔ (decide (1 < l.length) && (shortP kind (l.headD ⟨0, []⟩).t).2) = true := by
    rw [← hs, Bool.and_eq_true, decide_eq_true_eq, bne_iff_ne]
    exact Iff.rfl
  unfold frontP
  by_cases h : 2 ≤ l.length ∧ shortT (l.headD ⟨0, []⟩) kind ≠ []
  · rw [if_pos h, if_pos (hi.1 h)]
  · rw [if_neg h, if_neg (fun x => h (hi.2 x))]
set_option maxRecDepth 100000 in
set_option maxHeartbeats 4000000 in
theorem rst19 (W w : World) (g4 g7 : Nat) (hf : Bool) (pre suf post unit : Bs) (A : Option Addr) (n cap : Nat) (l : List Tok) (io : Option (List Tok)) (uV : Value) (r : Ad × List Tok × Option (List Tok)) (S : RsAt W w g4 g7 ⟨0, hf, pre, [], suf, post, unit, [], [], [], []⟩ A n cap l) (I : InIs w W.heap.size uV io) (hr : r = (⟨0, hf, pre, (textsP l), suf, post, unit, [], [], [], []⟩, l, io)) ⦃u1 u2 u3 u5 u6 u9 u10 u11 u12 u13 u14 u15 u16 u17 u18 u19 u20 u21 u22 u23 u24 u25 u26 u27 u28 u29 u30 u31 u32 u33 u34 u35 u36 u37 u38 u39 u40 u41 u42 u43 u44 u45 u46 u47 u48 u49 u50 u51 u52 u53 u54 u55 u56 u57 u58 u59 u60 u61 u62 u63 u64 u65 u66 u67 u68 u69 u70 u71 u72 u73 u74 u75 u76 u77 u78 u79 u80 u81 u82 u83 u84 u85 u86 u87 u88 u89 u90 u91 u92 u93 u94 u95 u96 u97 u98 u99 u100 u101 u102 u103 u104 u105 u106 u107 u108 u109 u110 u111 u112 u113 u114 u115 : Value⦄ : KF1 Tryz.prog (bodyPost Tryz.prog Tryz.f46 (StrR W r)) ⟨#[.slice A n cap, u1, u2, u3, .pointer (some ⟨g4, 0, none⟩), u5, u6, .pointer (some ⟨g7, 0, none⟩), uV, u9, u10, u11, u12, u13, u14, u15, u16, u17, u18, u19, u20, u21, u22, u23, u24, u25, u26, u27, u28, u29, u30, u31, u32, u33, u34, u35, u36, u37, u38, u39, u40, u41, u42, u43, u44, u45, u46, u47, u48, u49, u50, u51, u52, u53, u54, u55, u56, u57, u58, u59, u60, u61, u62, u63, u64, u65, u66, u67, u68, u69, u70, u71, u72, u73, u74, u75, u76, u77, u78, u79, u80, u81, u82, u83, u84, u85, u86, u87, u88, u89, u90, u91, u92, u93, u94, u95, u96, u97, u98, u99, u100, u101, u102, u103, u104, u105, u106, u107, u108, u109, u110, u111, u112, u113, u114, u115, undef, undef, undef, undef, undef, undef], []⟩ w (rstAt1 19) := by
  have S0 := Lib.hid S
  have I0 := Lib.hid (fun w' (hx : Ext W w') => I.move S.ext hx)
  have HT := Lib.hid (fun w' (hx : Ext w w') => rtexts_any l A n cap w' (S.t.ext hx))
  replace hr := Lib.hid hr
  obtain ⟨nm, hnm⟩ : ∃ nm, textsP l = nm := ⟨_, rfl⟩
  rw [hnm] at hr HT
  replace hnm := Lib.hid hnm
  clear S I
  conv => arg 5; whnf
  conv => arg 5; arg 1; whnf
  conv => arg 5; arg 2; whnf
  unfold KF1
  dsimp only
  intro K1 hK1
  go_wp2_with fail
  refine (HT.out _ (Ext.refl _)).mono ?_
  rintro e w1 ⟨rfl, hx1⟩
  have S1 := Lib.hid (S0.out.to hx1)
  clear hx1 S0 HT
  have B1 := S1.out.b
  have r3 : w1.cell? ⟨g7, 3, none⟩ = some (.string ⟨#[]⟩) := B1.cell 3
  have f3 := B1.frozen 3
  have l7 := B1.lt
  have S2 := Lib.hid (S1.out.put 3 (.string ⟨nm.toArray⟩) (b := ⟨0, hf, pre, nm, suf, post, unit, [], [], [], []⟩) rfl)
  clear B1 S1
  go_upto_region 20 with (fail)
  clear r3 f3 l7
  generalize w1.setCell ⟨g7, 3, none⟩ (.string ⟨nm.toArray⟩) = w2 at *
  obtain ⟨q, l4, l7, ne⟩ : (∀ i, w2.cell? ⟨g7, i, none⟩ = (adC ⟨0, hf, pre, nm, suf, post, unit, [], [], [], []⟩)[i]?) ∧ g4 < w2.heap.size ∧ g7 < w2.heap.size ∧ g4 ≠ g7 := ⟨S2.out.b.cell, S2.out.r.lt, S2.out.b.lt, S2.out.ne⟩
  unfold adC at q
  dsimp only at q
  have R2 := S2.out.r
  unfold adC Ad.zero at R2
  dsimp only at R2
  obtain ⟨p, p'⟩ := R2.cells
  clear R2
  have X3 := Lib.hid (setAd_ext ⟨0, hf, pre, nm, suf, post, unit, [], [], [], []⟩ S2.out.ext S2.out.l4)
  have R3 := Lib.hid (setAd_blk ⟨0, hf, pre, nm, suf, post, unit, [], [], [], []⟩ S2.out.r)
  have T3 := Lib.hid (S2.out.t.move S2.out.lo S2.out.ext X3.out)
  have I3 := Lib.hid (I0.out _ X3.out)
  clear S2 I0
  go_wp2_with fail
  change bodyPost _ _ _ _ _ (setAd w2 g4 ⟨0, hf, pre, nm, suf, post, unit, [], [], [], []⟩)
  exact bodyPost_ret (results_ct2 rfl rfl (ld_ad R3.out)) rfl ⟨A, n, cap, uV, by rw [hr.out]; rfl, by rw [hr.out]; exact T3.out, by rw [hr.out]; exact I3.out, X3.out⟩
theorem InIs.stay {W w w' : World} {v : Value} {o : Option (List Tok)} (h : InIs w W.heap.size v o) (hx : Ext W w) (hx' : Ext W w') : InIs w' W.heap.size v o := by
  cases o with
  | none => exact h
  | some u =>
    obtain ⟨A, n, cap, rfl, T, h0, hb⟩ := h
    exact ⟨A, n, cap, rfl, T.move (fun _ => hb) hx hx', h0, hb⟩
end Go.Proofs.YtjneghncmgjkeaaGreatDoor

set_option linter.unusedVariables false
namespace Go.Proofs.YtjneghncmgjkeaaGreatDoor
open Go.RowKit

set_option maxRecDepth 100000 in
set_option maxHeartbeats 4000000 in
theorem rst16 (W w : World) (g4 g7 : Nat) (hf : Bool) (suf post unit : Bs) (A : Option Addr) (n cap : Nat) (l : List Tok) (io : Option (List Tok)) (uV : Value) (r : Ad × List Tok × Option (List Tok)) (S : RsAt W w g4 g7 ⟨0, hf, [], [], suf, post, unit, [], [], [], []⟩ A n cap l) (I : InIs w W.heap.size uV io) (hr : r = (⟨0, hf, (frontP l 2).2, (textsP (frontP l 2).1), suf, post, unit, [], [], [], []⟩, (frontP l 2).1, io)) ⦃u1 u2 u3 u5 u6 u9 u10 u11 u12 u13 u14 u15 u16 u17 u18 u19 u20 u21 u22 u23 u24 u25 u26 u27 u28 u29 u30 u31 u32 u33 u34 u35 u36 u37 u38 u39 u40 u41 u42 u43 u44 u45 u46 u47 u48 u49 u50 u51 u52 u53 u54 u55 u56 u57 u58 u59 u60 u61 u62 u63 u64 u65 u66 u67 u68 u69 u70 u71 u72 u73 u74 u75 u76 u77 u78 u79 u80 u81 u82 u83 u84 u85 u86 u87 u88 u89 u90 u91 u92 u93 u94 u95 u96 u97 u98 u99 : Value⦄ : KF2 Tryz.prog (bodyPost Tryz.prog Tryz.f46 (StrR W r)) ⟨#[.slice A n cap, u1, u2, u3, .pointer (some ⟨g4, 0, none⟩), u5, u6, .pointer (some ⟨g7, 0, none⟩), uV, u9, u10, u11, u12, u13, u14, u15, u16, u17, u18, u19, u20, u21, u22, u23, u24, u25, u26, u27, u28, u29, u30, u31, u32, u33, u34, u35, u36, u37, u38, u39, u40, u41, u42, u43, u44, u45, u46, u47, u48, u49, u50, u51, u52, u53, u54, u55, u56, u57, u58, u59, u60, u61, u62, u63, u64, u65, u66, u67, u68, u69, u70, u71, u72, u73, u74, u75, u76, u77, u78, u79, u80, u81, u82, u83, u84, u85, u86, u87, u88, u89, u90, u91, u92, u93, u94, u95, u96, u97, u98, u99, undef, undef, undef, undef, undef, undef, undef, undef, undef, undef, undef, undef, undef, undef, undef, undef, undef, undef, undef, undef, undef, undef], []⟩ w (rstAt2 16) := by
  have S0 := Lib.hid S
  have I0 := Lib.hid (fun w' (hx : Ext W w') => I.stay S.ext hx)
  have hn := S.t.len
  subst hn
  have h40 := S.t.l40
  have hle := S.t.le
  have hE := rfront_eq (kind := 2) (.inr (.inl rfl)) l
  generalize frontP l 2 = fp at *
  obtain ⟨isP, hisP⟩ : ∃ isP, (decide (1 < l.length) && (shortP 2 (l.headD ⟨0, []⟩).t).2) = isP := ⟨_, rfl⟩
  rw [hisP] at hE
  replace hr := Lib.hid hr
  clear S I
  conv => arg 5; whnf
  conv => arg 5; arg 1; whnf
  conv => arg 5; arg 2; whnf
  conv => arg 5; arg 2; arg 1; whnf
  conv => arg 5; arg 2; arg 2; whnf
  unfold KF2
  dsimp only
  intro K1 hK1 K2 hK2
  go_cut [108] from 100 to 108 (fun v wx => v = .bool isP ∧ Ext w wx)
  case first =>
    by_cases h1 : 1 < l.length
    · have d1 : decide ((1 : Int) < (l.length : Int)) = true := decide_eq_true (by omega)
      have hd0 : (l.headD ⟨0, []⟩) = l[0] := by cases l with | nil => simp at h1 | cons _ _ => rfl
      rw [hd0, decide_eq_true h1, Bool.true_and] at hisP
      obtain ⟨b, o, rfl, hb, t0, t1⟩ := S0.out.t.at_ (k := 0) (by omega)
      simp only [Nat.zero_mul, Nat.add_zero] at t0 t1
      have nz : (0 : Int) < (l.length : Int) := by omega
      have nz' : 0 < l.length := by omega
      have HH := Lib.hid (fun w' => rhas_any l[0] 2 (.inr (.inl rfl)) w')
      unfold tokV at HH
      replace hisP := Lib.hid hisP
      clear hd0 hE
      generalize l[0].k = tk at *
      generalize l[0].t = tt at *
      go_wp2_with fail
      refine (HH.out _).mono ?_
      rintro e' w1 ⟨rfl, hx1⟩
      go_wp2_with fail
      go_meet
      exact ⟨by rw [hisP.out], hx1⟩
    · have d1 : decide ((1 : Int) < (l.length : Int)) = false := decide_eq_false (by omega)
      have e : isP = false := by rw [← hisP, decide_eq_false h1]; rfl
      subst e
      clear hisP hE
      go_wp2_with fail
      go_meet
      exact ⟨rfl, Ext.refl _⟩
  case rest =>
    obtain ⟨rfl, hx2⟩ := hcut
    obtain ⟨w2, rfl⟩ : ∃ w2, w2 = wc := ⟨_, rfl⟩
    replace S0 := Lib.hid (S0.out.to hx2)
    clear hx2
    go_upto_if 108 with (fail)
    go_cut [0] from 109 to 115 (fun v wx => ∃ A2 n2 c2, v = .slice A2 n2 c2 ∧ RsAt W wx g4 g7 ⟨0, hf, fp.2, [], suf, post, unit, [], [], [], []⟩ A2 n2 c2 fp.1)
    case first =>
      cases isP with
      | false =>
        have HE := Lib.hid (show RsAt W w2 g4 g7 ⟨0, hf, fp.2, [], suf, post, unit, [], [], [], []⟩ A l.length cap fp.1 by rw [hE]; exact S0.out)
        clear hE hisP S0
        go_wp2_with fail
        go_meet
        exact ⟨_, _, _, rfl, HE.out⟩
      | true =>
        have h1 : 1 < l.length := by
          rw [Bool.and_eq_true, decide_eq_true_eq] at hisP
          exact hisP.1
        have hd0 : (l.headD ⟨0, []⟩) = l[0] := by cases l with | nil => simp at h1 | cons _ _ => rfl
        rw [hd0, if_pos rfl] at hE
        obtain ⟨b, o, rfl, hb, t0, t1⟩ := S0.out.t.at_ (k := 0) (by omega)
        simp only [Nat.zero_mul, Nat.add_zero] at t0 t1
        have nz : (0 : Int) < (l.length : Int) := by omega
        have nz' : 0 < l.length := by omega
        have l1i : (1 : Int) ≤ (l.length : Int) := by omega
        have hcb : (cap == 1) = false := by rw [beq_eq_false_iff_ne]; omega
        have HH := Lib.hid (fun w' => rshortT_any l[0] 2 (.inr (.inl rfl)) w')
        unfold tokV at HH
        have HE := Lib.hid (fun w' (hx : Ext w2 w') => (show RsAt W (w'.setCell ⟨g7, 2, none⟩ (.string ⟨fp.2.toArray⟩)) g4 g7 ⟨0, hf, fp.2, [], suf, post, unit, [], [], [], []⟩ (some ⟨b, o + 2, none⟩) (l.length - 1) (cap - 1) fp.1 by
          have X := ((S0.out.to hx).put 2 (.string ⟨fp.2.toArray⟩) (b := ⟨0, hf, fp.2, [], suf, post, unit, [], [], [], []⟩) rfl).drop (m := 1) (by omega)
          rw [Nat.one_mul] at X
          rw [show fp.1 = l.drop 1 by rw [hE, List.drop_one]]
          exact X))
        have hsh : shortT l[0] 2 = fp.2 := by rw [hE]
        rw [hsh] at HH
        have HC := Lib.hid (fun w' (hx : Ext w2 w') => (show w'.cell? ⟨g7, 2, none⟩ = some (.string ⟨#[]⟩) ∧ w'.frozen? ⟨g7, 2, none⟩ = false ∧ g7 < w'.heap.size from ⟨(S0.out.to hx).b.cell 2, (S0.out.to hx).b.frozen 2, (S0.out.to hx).b.lt⟩))
        clear hd0 hisP hE hsh S0
        generalize l[0].k = tk at *
        generalize l[0].t = tt at *
        go_wp2_with fail
        refine (HH.out _).mono ?_
        rintro e' w3 ⟨rfl, hx3⟩
        obtain ⟨q1, q2, q3⟩ := HC.out _ hx3
        have HF := Lib.hid (HE.out _ hx3)
        clear HE HC HH hx3 t0 t1 hb
        go_wp2_with fail
        go_meet
        exact ⟨_, _, _, rfl, HF.out⟩
    case rest =>
      obtain ⟨A2, n2, c2, rfl, S2⟩ := hcut
      have I2 := I0.out _ S2.ext
      go_upto_region 19 with (fail)
      exact rst19 W _ g4 g7 hf fp.2 suf post unit A2 n2 c2 fp.1 io uV r S2 I2 hr.out _ (by assumption)
end Go.Proofs.YtjneghncmgjkeaaGreatDoor
