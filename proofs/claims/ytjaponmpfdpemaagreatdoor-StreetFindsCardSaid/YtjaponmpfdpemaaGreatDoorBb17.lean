/-
  addr: Parse: its door; where it stands.
-/
import Derived.Lib.SliceRun
import Derived.Test.YtjaponmpfdpemaaGreatDoorBb16
import Derived.Test.YtjaponmpfdpemaaGreatDoorBb05
set_option linter.unusedSimpArgs false
set_option linter.unusedVariables false
namespace Go.Proofs.YtjaponmpfdpemaaGreatDoor
open Go.RowKit
structure PsAt (W w : World) (ga gf : Nat) (a : Ad) : Prop where
 ext : Ext W w
 a : Blk w ga 45 (adC a)
 f : ∃ x y, Blk w gf 36 #[x, y]
 la : W.heap.size ≤ ga
 lf : W.heap.size ≤ gf
theorem PsAt.to {W w w' : World} {ga gf : Nat} {a : Ad} (h : PsAt W w ga gf a) (hx : Ext w w') : PsAt W w' ga gf a :=
 ⟨h.ext.trans hx, h.a.ext hx, h.f.imp fun _ h => h.imp fun _ h => h.ext hx, h.la, h.lf⟩
theorem PsAt.ne {W w : World} {ga gf : Nat} {a : Ad} (h : PsAt W w ga gf a) : ga ≠ gf := by
 obtain ⟨x, y, hf⟩ := h.f
 exact h.a.ne_ hf (by decide)
theorem PsAt.put {W w : World} {ga gf : Nat} {a : Ad} (h : PsAt W w ga gf a) (i : Nat) (u : Value) (b : Ad) (hu : (adC a).setIfInBounds i u = adC b) : PsAt W (w.setCell ⟨ga, i, none⟩ u) ga gf b :=
 ⟨h.ext.set (p := ⟨ga, i, none⟩) h.la _, ad_put h.a i u b hu, h.f.imp fun _ k => k.imp fun _ k => k.far (p := ⟨ga, i, none⟩) h.ne.symm _, h.la, h.lf⟩
theorem far_setAd {w : World} {g g' : Nat} {t : TypeId} {cs : Array Value} (b : Ad) (h : Blk w g' t cs) (hne : g' ≠ g) : Blk (setAd w g b) g' t cs :=
 ((((((((((h.far (p := ⟨g, 0, none⟩) hne _).far (p := ⟨g, 1, none⟩) hne _).far (p := ⟨g, 2, none⟩) hne _).far (p := ⟨g, 3, none⟩) hne _).far (p := ⟨g, 4, none⟩) hne _).far (p := ⟨g, 5, none⟩) hne _).far (p := ⟨g, 6, none⟩) hne _).far (p := ⟨g, 7, none⟩) hne _).far (p := ⟨g, 8, none⟩) hne _).far (p := ⟨g, 9, none⟩) hne _).far (p := ⟨g, 10, none⟩) hne _
theorem PsAt.whole {W w : World} {ga gf : Nat} {a : Ad} (h : PsAt W w ga gf a) (b : Ad) : PsAt W (setAd w ga b) ga gf b :=
 ⟨setAd_ext b h.ext h.la, setAd_blk b h.a, h.f.imp fun _ k => k.imp fun _ k => far_setAd b k h.ne.symm, h.la, h.lf⟩
theorem PsAt.flt {W w : World} {ga gf : Nat} {a : Ad} (h : PsAt W w ga gf a) (x y : Value) : PsAt W ((w.setCell ⟨gf, 0, none⟩ x).setCell ⟨gf, 1, none⟩ y) ga gf a ∧ Blk ((w.setCell ⟨gf, 0, none⟩ x).setCell ⟨gf, 1, none⟩ y) gf 36 #[x, y] := by
 obtain ⟨x0, y0, hf⟩ := h.f
 have F := fault_set hf x y
 exact ⟨⟨(h.ext.set (p := ⟨gf, 0, none⟩) h.lf _).set (p := ⟨gf, 1, none⟩) h.lf _, (h.a.far (p := ⟨gf, 0, none⟩) h.ne _).far (p := ⟨gf, 1, none⟩) h.ne _, ⟨_, _, F⟩, h.la, h.lf⟩, F⟩
def PsR (W : World) (r : Ad × Int × Int) (e : Ending) (w' : World) : Prop := e = .returned (.tuple #[adV r.1, .agg #[.int .i64 r.2.1, .int .i64 r.2.2]]) ∧ Ext W w'
def dfs (ga gf : Nat) : List Deferred := [{ target := .fn (.func 90) #[], args := #[.pointer (some ⟨gf, 0, none⟩)] }, { target := .fn (.func 89) #[.pointer (some ⟨gf, 0, none⟩), .pointer (some ⟨ga, 0, none⟩)], args := #[] }]
theorem PsAt.clo {W w : World} {ga gf : Nat} {a : Ad} {tmps : Array Value} (h : PsAt W w ga gf a) (e at_ : Int) (hf : Blk w gf 36 #[.int .i64 e, .int .i64 at_]) (r : Ad × Int × Int)
  (hr : r = if e = 0 then (a, 0, at_) else (Ad.zero, e, at_)) (ha : tmps.getD 2 undef = .pointer (some ⟨ga, 0, none⟩)) (hb : tmps.getD 3 undef = .pointer (some ⟨gf, 0, none⟩)) :
  Leaves Tryz.prog Tryz.f56 tmps (PsR W r) [{ target := .fn (.func 89) #[.pointer (some ⟨gf, 0, none⟩), .pointer (some ⟨ga, 0, none⟩)], args := #[] }] .returning w := by
 refine leaves_cons (f := 89) (args := #[.pointer (some ⟨gf, 0, none⟩), .pointer (some ⟨ga, 0, none⟩)]) (by simp) (by simp [go_sem]) ?_
 by_cases he : e = 0
 ·subst he
  rw [if_pos rfl] at hr
  subst hr
  refine (clo_none gf ga at_ .returning w hf).mono ?_
  rintro e u' w4 ⟨rfl, rfl, rfl⟩
  exact ⟨_, results_cc rfl ha (ld_ad h.a) hb (ld_fault hf), rfl, h.ext⟩
 ·rw [if_neg he] at hr
  subst hr
  refine (clo_fault gf ga e at_ a .returning w hf h.a he).mono ?_
  rintro r u' w4 ⟨rfl, rfl, rfl⟩
  exact ⟨_, results_cc rfl ha (ld_ad (setAd_blk Ad.zero h.a)) hb (ld_fault (far_setAd Ad.zero hf h.ne.symm)), rfl, setAd_ext _ h.ext h.la⟩
theorem PsAt.fail {W w : World} {ga gf : Nat} {a : Ad} {tmps : Array Value} (h : PsAt W w ga gf a) (e at_ : Int) (he : e ≠ 0) (r : Ad × Int × Int) (hr : r = (Ad.zero, e, at_)) (ha : tmps.getD 2 undef = .pointer (some ⟨ga, 0, none⟩)) (hb : tmps.getD 3 undef = .pointer (some ⟨gf, 0, none⟩)) :
  Leaves Tryz.prog Tryz.f56 tmps (PsR W r) (dfs ga gf) (.panicking [{ v := .iface 184 (.agg #[.int .i64 e, .int .i64 at_]), recovered := false }]) w := by
 obtain ⟨x, y, hf⟩ := h.f
 refine leaves_cons (f := 90) (args := #[.pointer (some ⟨gf, 0, none⟩)]) (by simp) (by simp [go_sem]) ?_
 refine (caught_panic gf e at_ x y [] w hf).mono ?_
 rintro r1 u' w4 ⟨rfl, rfl, hB, hG⟩
 have h4 : PsAt W w4 ga gf a := ⟨h.ext.grown hG (fun k hk => by cases hk; exact h.lf), h.a.grown hG (fun e => h.ne (Option.some.inj e)), ⟨_, _, hB⟩, h.la, h.lf⟩
 show Leaves _ _ _ _ _ .returning w4
 exact h4.clo e at_ hB r (by rw [hr, if_neg he]) ha hb
theorem PsAt.done {W w : World} {ga gf : Nat} {a : Ad} {tmps : Array Value} (h : PsAt W w ga gf a) (e at_ : Int) (hf : Blk w gf 36 #[.int .i64 e, .int .i64 at_]) (r : Ad × Int × Int)
  (hr : r = if e = 0 then (a, 0, at_) else (Ad.zero, e, at_)) (ha : tmps.getD 2 undef = .pointer (some ⟨ga, 0, none⟩)) (hb : tmps.getD 3 undef = .pointer (some ⟨gf, 0, none⟩)) :
  Leaves Tryz.prog Tryz.f56 tmps (PsR W r) (dfs ga gf) .returning w := by
 refine leaves_cons (f := 90) (args := #[.pointer (some ⟨gf, 0, none⟩)]) (by simp) (by simp [go_sem]) ?_
 refine (caught_idle gf w).mono ?_
 rintro r1 u' w4 ⟨rfl, rfl, rfl⟩
 show Leaves _ _ _ _ _ .returning _
 exact h.clo e at_ hf r hr ha hb
theorem advS_mem {s : Bs} : ∀ {l : List Tok} {a : Nat} {t : Tok}, t ∈ l → t.t.length ≤ advS s a l
 | u :: l, a, t, h => by
  rw [advS]
  rcases List.mem_cons.1 h with rfl | h
  ·have := advS_mono s l (a + skipS (s.drop a) + t.t.length)
   omega
  ·exact advS_mem h
theorem tokensP_sm (s : Bs) : ∀ t ∈ (tokensP s).1, t.t.length ≤ 300 := by
 intro t ht
 unfold tokensP at ht
 by_cases h : 200 < s.length
 ·rw [if_pos h] at ht; cases ht
 ·rw [if_neg h] at ht
  cases hb : badAt s with
  | some i => rw [hb] at ht; cases ht
  | none =>
   rw [hb] at ht
   dsimp only at ht
   by_cases h4 : 40 < (toksOf s).length
   ·rw [if_pos h4] at ht; cases ht
   ·rw [if_neg h4] at ht
    have h1 : t.t.length ≤ advS s 0 (toksOf s) := advS_mem ht
    have h2 := (runS_ok s (s.length + 1) (Nat.le_refl _)).adv
    have h3 : advS s 0 (toksOf s) ≤ s.length + 1 := by
     refine Nat.le_trans h2 ?_
     split
     ·rename_i hi
      have := (runS_ok s (s.length + 1) (Nat.le_refl _)).lt hi
      omega
     ·omega
    omega
theorem parts_sm {l : List Tok} (h : ∀ t ∈ l, t.t.length ≤ 300) : ∀ p ∈ partsP l, ∀ t ∈ p, t.t.length ≤ 300 := fun p hp t ht => h t (partsP_mem hp ht).1
theorem PaAt.toks {w0 w : World} {v : Value} {es : List Value} {ps : List (List Tok)} (h : PaAt w0 w v es ps) (hps : ∀ p ∈ ps, p.length ≤ 100 ∧ ∀ t ∈ p, t.t.length ≤ 300) {i : Nat} (hi : i < es.length) (hi' : i < ps.length) : ∃ A c, es[i] = .slice A ps[i].length c ∧ TokS w A ps[i].length c ps[i] := by
 have hel := h.el i hi hi'
 obtain ⟨A, c, e, h1, h2, h3⟩ := own_slice hel
 obtain ⟨l1, l2⟩ := hps ps[i] (List.getElem_mem hi')
 exact ⟨A, c, e, rfl, h3, h1, h2, l1, l2⟩
theorem TokS.ne_ad {w : World} {A : Option Addr} {n cap : Nat} {l : List Tok} (h : TokS w A n cap l) {g : Nat} {a : Ad} (hB : Blk w g 45 (adC a)) (h0 : 0 < l.length) : ∃ b o, A = some ⟨b, o, none⟩ ∧ b ≠ g := by
 obtain ⟨b, o, e, _, c0, c1⟩ := h.at_ h0
 refine ⟨b, o, e, ?_⟩
 rintro rfl
 rw [Nat.zero_mul, Nat.add_zero] at c0 c1
 have k0 := (hB.cell o).symm.trans c0
 have k1 := (hB.cell (o + 1)).symm.trans c1
 unfold adC at k0 k1
 match o, k0, k1 with
 | 0, _, k1 => simp at k1
 | 1, k0, _ => simp at k0
 | 2, k0, _ => simp at k0
 | 3, k0, _ => simp at k0
 | 4, k0, _ => simp at k0
 | 5, k0, _ => simp at k0
 | 6, k0, _ => simp at k0
 | 7, k0, _ => simp at k0
 | 8, k0, _ => simp at k0
 | 9, k0, _ => simp at k0
 | 10, k0, _ => simp at k0
 | o + 11, k0, _ => simp at k0
theorem TokS.keep {w w' : World} {A : Option Addr} {n cap : Nat} {l : List Tok} (h : TokS w A n cap l) {g : Nat} {a : Ad} (hB : Blk w g 45 (adC a)) (hg : w.grownBy w' (some g)) : TokS w' A n cap l := by
 refine ⟨h.len, ⟨h.rd.1, fun h0 => ?_⟩, h.le, h.max, h.l40, h.sm⟩
 obtain ⟨b, o, e, hb, hc⟩ := h.rd.2 h0
 obtain ⟨b', o', e', hne⟩ := h.ne_ad hB (by rw [h.len]; exact h0)
 rw [e] at e'
 injection e' with e'
 injection e' with e1 e2 _
 subst e1 e2
 exact ⟨b, o, e, Nat.lt_of_lt_of_le hb hg.size, fun j u hu => hg.cell (hc j u hu) (fun e => hne (Option.some.inj e))⟩
theorem only_setAd (w : World) (g : Nat) (b : Ad) : w.grownBy (setAd w g b) (some g) := by
 unfold setAd
 iterate 11 refine only_set ?_ (.inl rfl) _
 exact World.grownBy.refl _ _
structure PcAt (W w : World) (ga gf : Nat) (a : Ad) (gO cO : Nat) (es : List Value) (ps : List (List Tok)) : Prop where
 s : PsAt W w ga gf a
 row : w.ownsRow 0 87 1 (.slice (some ⟨gO, 0, none⟩) es.length cO) es.length es
 len : es.length = ps.length
 tk : ∀ i (h : i < es.length) (h' : i < ps.length), ∃ A c, es[i] = .slice A ps[i].length c ∧ TokS w A ps[i].length c ps[i]
 f0 : Blk w gf 36 #[.int .i64 0, .int .i64 0]
theorem PcAt.to {W w w' : World} {ga gf : Nat} {a : Ad} {gO cO : Nat} {es : List Value} {ps : List (List Tok)} (h : PcAt W w ga gf a gO cO es ps) (hx : Ext w w') : PcAt W w' ga gf a gO cO es ps :=
 ⟨h.s.to hx, own_ext h.row hx, h.len, fun i a b => by obtain ⟨A, c, e, T⟩ := h.tk i a b; exact ⟨A, c, e, T.ext hx⟩, h.f0.ext hx⟩
theorem PcAt.turn {W w w' : World} {ga gf : Nat} {a b : Ad} {gO cO : Nat} {es : List Value} {ps : List (List Tok)} (h : PcAt W w ga gf a gO cO es ps) (hg : w.grownBy w' (some ga)) (hs : PsAt W w' ga gf b) : PcAt W w' ga gf b gO cO es ps :=
 ⟨hs, h.row.kept hg (.inr (own_blk_ne h.row h.s.a (by decide))), h.len, fun i hi hi' => by obtain ⟨A, c, e, T⟩ := h.tk i hi hi'; exact ⟨A, c, e, T.keep h.s.a hg⟩, h.f0.grown hg (fun e => h.s.ne (Option.some.inj e).symm)⟩
theorem PcAt.put {W w : World} {ga gf : Nat} {a : Ad} {gO cO : Nat} {es : List Value} {ps : List (List Tok)} (h : PcAt W w ga gf a gO cO es ps) (i : Nat) (u : Value) (b : Ad) (hu : (adC a).setIfInBounds i u = adC b) : PcAt W (w.setCell ⟨ga, i, none⟩ u) ga gf b gO cO es ps :=
 h.turn (only_set (World.grownBy.refl _ _) (.inl rfl) _) (h.s.put i u b hu)
theorem PcAt.whole {W w : World} {ga gf : Nat} {a : Ad} {gO cO : Nat} {es : List Value} {ps : List (List Tok)} (h : PcAt W w ga gf a gO cO es ps) (b : Ad) : PcAt W (setAd w ga b) ga gf b gO cO es ps :=
 h.turn (only_setAd w ga b) (h.s.whole b)
theorem PcAt.cell {W w : World} {ga gf : Nat} {a : Ad} {gO cO : Nat} {es : List Value} {ps : List (List Tok)} (h : PcAt W w ga gf a gO cO es ps) {k : Nat} (hk : k < es.length) : w.cell? ⟨gO, k, none⟩ = some es[k] ∧ gO < w.heap.size := by
 obtain ⟨a1, _, a3, _⟩ := own_cell h.row hk
 exact ⟨a1, a3⟩
def ptsR (p0 ct pl : List Tok) (un : Option (List Tok)) (last : Int) : Ad × Int × Int :=
 let num := (p0.headD ⟨0, []⟩).t
 if ¬ (digitsP num 1 6 = true ∧ 0 < numP num) then errA 271 0 else
 let st := streetP p0.tail un.isNone
 if un.any (fun u => !(unitP u).2) then errA 272 1 else
 let inT := if un.isSome then un else st.2.2
 if inT.any (fun l => decide (10 < ((l.getD 1 ⟨0, []⟩).t).length)) then errA 272 (last - 2) else
 let name := st.2.1
 if ¬ (0 < name.length ∧ name.length ≤ 8 ∧ kindOf name [1, 2, 3] = true ∧ st.1.name.length ≤ 40) then errA 273 0 else
 if ¬ (kindOf ct [1] = true ∧ ct.length ≤ 8 ∧ (textsP ct).length ≤ 40) then errA 274 (last - 1) else
 let z := cutDash (pl.getLastD ⟨0, []⟩).t
 if ¬ (digitsP z.1 5 5 = true ∧ (z.2.2 = false ∨ digitsP z.2.1 4 4 = true)) then errA 276 last else
 let sh := shortP 3 (textsP pl.dropLast)
 if sh.2 = false then errA 275 last else
 (⟨numP num, st.1.half, st.1.pre, st.1.name, st.1.suf, st.1.post, match un with | some u => (unitP u).1 | none => st.1.unit, textsP ct, sh.1, z.1, z.2.1⟩, 0, 0)
theorem pts_3 {p0 p1 p2 : List Tok} (h0 : 0 < p0.length) (h1 : 0 < p1.length) (h2 : 0 < p2.length) : parsePts [p0, p1, p2] 2 = ptsR p0 p1 p2 none 2 := by
 have n0 : p0.isEmpty = false := by cases p0 with | nil => simp at h0 | cons _ _ => rfl
 have n1 : p1.isEmpty = false := by cases p1 with | nil => simp at h1 | cons _ _ => rfl
 have n2 : p2.isEmpty = false := by cases p2 with | nil => simp at h2 | cons _ _ => rfl
 unfold parsePts ptsR
 dsimp only
 rw [if_neg (by simp [n0, n1, n2])]
 simp
theorem pts_4 {p0 p1 p2 p3 : List Tok} (h0 : 0 < p0.length) (h1 : 0 < p1.length) (h2 : 0 < p2.length) (h3 : 0 < p3.length) : parsePts [p0, p1, p2, p3] 3 = ptsR p0 p2 p3 (some p1) 3 := by
 have n0 : p0.isEmpty = false := by cases p0 with | nil => simp at h0 | cons _ _ => rfl
 have n1 : p1.isEmpty = false := by cases p1 with | nil => simp at h1 | cons _ _ => rfl
 have n2 : p2.isEmpty = false := by cases p2 with | nil => simp at h2 | cons _ _ => rfl
 have n3 : p3.isEmpty = false := by cases p3 with | nil => simp at h3 | cons _ _ => rfl
 unfold parsePts ptsR
 dsimp only
 rw [if_neg (by simp [n0, n1, n2, n3])]
 simp
theorem pts_none {ps : List (List Tok)} {last : Nat} {i : Nat} (hi : i < ps.length) (h : ps[i] = []) : parsePts ps last = errA 270 0 := by
 unfold parsePts
 rw [if_pos (.inr (List.any_eq_true.2 ⟨ps[i], List.getElem_mem hi, by rw [h]; rfl⟩))]
theorem PcAt.at_ {W w : World} {ga gf : Nat} {a : Ad} {gO cO : Nat} {es : List Value} {ps : List (List Tok)} (h : PcAt W w ga gf a gO cO es ps) {i n c : Nat} {A : Option Addr} {p : List Tok} (hi : i < es.length) (hi' : i < ps.length) (he : es[i] = .slice A n c) (hp : ps[i] = p) : w.cell? ⟨gO, i, none⟩ = some (.slice A n c) ∧ TokS w A n c p := by
 obtain ⟨A', c', he', T⟩ := h.tk i hi hi'
 rw [he] at he'
 injection he' with e1 e2 e3
 subst e1 e2 e3 hp
 exact ⟨by rw [← he]; exact (h.cell hi).1, T⟩
theorem digits_16 (s : Bs) (hs : s.length ≤ 1000) (W : World) : Calls Tryz.prog 52 #[.string ⟨s.toArray⟩, .int .i64 1, .int .i64 6] W fun e w' => e = .returned (.bool (digitsP s 1 6)) ∧ Ext W w' := digits_any s 1 6 hs (by decide) W
theorem digits_55 (s : Bs) (hs : s.length ≤ 1000) (W : World) : Calls Tryz.prog 52 #[.string ⟨s.toArray⟩, .int .i64 5, .int .i64 5] W fun e w' => e = .returned (.bool (digitsP s 5 5)) ∧ Ext W w' := digits_any s 5 5 hs (by decide) W
theorem digits_44 (s : Bs) (hs : s.length ≤ 1000) (W : World) : Calls Tryz.prog 52 #[.string ⟨s.toArray⟩, .int .i64 4, .int .i64 4] W fun e w' => e = .returned (.bool (digitsP s 4 4)) ∧ Ext W w' := digits_any s 4 4 hs (by decide) W
def StrRel (W : World) (ga gf gO cO : Nat) (es : List Value) (ps : List (List Tok)) (a : Ad) (nm : List Tok) (io : Option (List Tok)) (u v : Value) (w : World) : Prop :=
 PcAt W w ga gf a gO cO es ps ∧ (∃ A n c, u = .slice A n c ∧ TokS w A n c nm) ∧ InIs w w.heap.size v io
theorem InIs.keep {w w' : World} {v : Value} {io : Option (List Tok)} (h : InIs w w.heap.size v io) {g : Nat} {a : Ad} (hB : Blk w g 45 (adC a)) (hg : w.grownBy w' (some g)) : InIs w' w'.heap.size v io := by
 cases io with
 | none => exact h
 | some u =>
  obtain ⟨A, n, c, rfl, T, h0, hb⟩ := h
  exact ⟨A, n, c, rfl, T.keep hB hg, h0, fun b o e => Nat.lt_of_lt_of_le (hb b o e) hg.size⟩
theorem InIs.ext_ {w w' : World} {v : Value} {io : Option (List Tok)} (h : InIs w w.heap.size v io) (hx : Ext w w') : InIs w' w'.heap.size v io := by
 cases io with
 | none => exact h
 | some u =>
  obtain ⟨A, n, c, rfl, T, h0, hb⟩ := h
  exact ⟨A, n, c, rfl, T.ext hx, h0, fun b o e => Nat.lt_of_lt_of_le (hb b o e) hx.size⟩
theorem StrRel.turn {W w w' : World} {ga gf gO cO : Nat} {es : List Value} {ps : List (List Tok)} {a b : Ad} {nm : List Tok} {io : Option (List Tok)} {u v : Value} (h : StrRel W ga gf gO cO es ps a nm io u v w) (hg : w.grownBy w' (some ga)) (hs : PsAt W w' ga gf b) : StrRel W ga gf gO cO es ps b nm io u v w' := by
 obtain ⟨hc, ⟨A, n, c, rfl, T⟩, hi⟩ := h
 exact ⟨hc.turn hg hs, ⟨A, n, c, rfl, T.keep hc.s.a hg⟩, hi.keep hc.s.a hg⟩
theorem StrRel.to {W w w' : World} {ga gf gO cO : Nat} {es : List Value} {ps : List (List Tok)} {a : Ad} {nm : List Tok} {io : Option (List Tok)} {u v : Value} (h : StrRel W ga gf gO cO es ps a nm io u v w) (hx : Ext w w') : StrRel W ga gf gO cO es ps a nm io u v w' := by
 obtain ⟨hc, ⟨A, n, c, rfl, T⟩, hi⟩ := h
 exact ⟨hc.to hx, ⟨A, n, c, rfl, T.ext hx⟩, hi.ext_ hx⟩
theorem StrRel.put {W w : World} {ga gf gO cO : Nat} {es : List Value} {ps : List (List Tok)} {a : Ad} {nm : List Tok} {io : Option (List Tok)} {u v : Value} (h : StrRel W ga gf gO cO es ps a nm io u v w) (i : Nat) (x : Value) (b : Ad) (hu : (adC a).setIfInBounds i x = adC b) : StrRel W ga gf gO cO es ps b nm io u v (w.setCell ⟨ga, i, none⟩ x) :=
 h.turn (only_set (World.grownBy.refl _ _) (.inl rfl) _) (h.1.s.put i x b hu)
theorem StrRel.whole_ {W w : World} {ga gf gO cO : Nat} {es : List Value} {ps : List (List Tok)} {a : Ad} {nm : List Tok} {io : Option (List Tok)} {u v : Value} (h : StrRel W ga gf gO cO es ps a nm io u v w) (n : Int) (hf : Bool) (pre name suf post unit city state zip more : Bs) :
  StrRel W ga gf gO cO es ps ⟨n, hf, pre, name, suf, post, unit, city, state, zip, more⟩ nm io u v (((((((((((w.setCell ⟨ga, 0, none⟩ (.int .i64 n)).setCell ⟨ga, 1, none⟩ (.bool hf)).setCell ⟨ga, 2, none⟩ (.string ⟨pre.toArray⟩)).setCell ⟨ga, 3, none⟩ (.string ⟨name.toArray⟩)).setCell ⟨ga, 4, none⟩ (.string ⟨suf.toArray⟩)).setCell ⟨ga, 5, none⟩ (.string ⟨post.toArray⟩)).setCell ⟨ga, 6, none⟩ (.string ⟨unit.toArray⟩)).setCell ⟨ga, 7, none⟩ (.string ⟨city.toArray⟩)).setCell ⟨ga, 8, none⟩ (.string ⟨state.toArray⟩)).setCell ⟨ga, 9, none⟩ (.string ⟨zip.toArray⟩)).setCell ⟨ga, 10, none⟩ (.string ⟨more.toArray⟩)) := by
 have := h.turn (only_setAd w ga ⟨n, hf, pre, name, suf, post, unit, city, state, zip, more⟩) (h.1.s.whole _)
 unfold setAd at this
 exact this
theorem adV_eq (a : Ad) : adV a = .agg #[.int .i64 a.n, .bool a.half, .string ⟨a.pre.toArray⟩, .string ⟨a.name.toArray⟩, .string ⟨a.suf.toArray⟩, .string ⟨a.post.toArray⟩, .string ⟨a.unit.toArray⟩, .string ⟨a.city.toArray⟩, .string ⟨a.state.toArray⟩, .string ⟨a.zip.toArray⟩, .string ⟨a.more.toArray⟩] := rfl
def ptsE (a : Ad) (nm ct pl : List Tok) (inT : Option (List Tok)) (last : Int) : Ad × Int × Int :=
 if inT.any (fun l => decide (10 < ((l.getD 1 ⟨0, []⟩).t).length)) then errA 272 (last - 2) else
 if ¬ (0 < nm.length ∧ nm.length ≤ 8 ∧ kindOf nm [1, 2, 3] = true ∧ a.name.length ≤ 40) then errA 273 0 else
 if ¬ (kindOf ct [1] = true ∧ ct.length ≤ 8 ∧ (textsP ct).length ≤ 40) then errA 274 (last - 1) else
 let z := cutDash (pl.getLastD ⟨0, []⟩).t
 if ¬ (digitsP z.1 5 5 = true ∧ (z.2.2 = false ∨ digitsP z.2.1 4 4 = true)) then errA 276 last else
 let sh := shortP 3 (textsP pl.dropLast)
 if sh.2 = false then errA 275 last else
 (⟨a.n, a.half, a.pre, a.name, a.suf, a.post, a.unit, textsP ct, sh.1, z.1, z.2.1⟩, 0, 0)
theorem unitP_two {u : List Tok} (h : (unitP u).2 = true) : ∃ a b, u = [a, b] := by
 unfold unitP at h
 match u, h with
 | [a, b], _ => exact ⟨a, b, rfl⟩
 | [], h => simp at h
 | [_], h => simp at h
 | _ :: _ :: _ :: _, h => simp at h
theorem TokS.in_ {w : World} {A : Option Addr} {n c : Nat} {p : List Tok} (h : TokS w A n c p) (h0 : 0 < p.length) : InIs w w.heap.size (.slice A n c) (some p) := by
 refine ⟨A, n, c, rfl, h, h0, fun b o e => ?_⟩
 obtain ⟨g, o', e', hg, _⟩ := h.at_ h0
 rw [e] at e'
 injection e' with e'
 injection e' with e1 _ _
 rw [e1]; exact hg
theorem only_3 (l : List Tok) (A : Option Addr) (cap : Nat) (W : World) (h : TokS W A l.length cap l) :
  Calls Tryz.prog 76 #[.slice A l.length cap, .slice (some ⟨W.heap.size, 0, none⟩) 3 3] (W.alloc (.cells #[.int .i64 1, .int .i64 2, .int .i64 3] 3)) fun e w' => e = .returned (.bool (kindOf l [1, 2, 3])) ∧ Ext W w' := by
 have X := (Ext.refl W).alloc (.cells #[.int .i64 1, .int .i64 2, .int .i64 3] 3)
 have B := Blk.new W 3 #[.int .i64 1, .int .i64 2, .int .i64 3]
 have hl := h.l40
 refine (only_any l A l.length cap [1, 2, 3] (some ⟨W.heap.size, 0, none⟩) 3 3 _ rfl rfl (h.ext X).rd ⟨rfl, fun _ => ⟨_, 0, rfl, by simp, fun j u hu => ?_⟩⟩ (by omega) (by decide)).mono ?_
 ·rw [Nat.zero_add]
  exact (B.cell j).trans ((show (#[Value.int .i64 1, Value.int .i64 2, Value.int .i64 3] : Array Value)[j]? = (iV [1, 2, 3])[j]? from by simp [iV]).trans hu)
 ·rintro e w' ⟨rfl, hx⟩
  exact ⟨rfl, X.trans hx⟩
def headIs (n : Nat) : Code → Bool
 | .region id _ _ => id == n
 | _ => false
def tailAt (n : Nat) : Code → Option Code
 | .seq a b => if headIs n a then some (.seq a b) else match tailAt n a with
  | some c => some c
  | none => tailAt n b
 | .region id ops d => if id == n then some (.region id ops d) else none
 | .block _ c => tailAt n c
 | .loop c => tailAt n c
 | .scope c => tailAt n c
 | .cond _ a b => match tailAt n a with
  | some c => some c
  | none => tailAt n b
 | _ => none
noncomputable def parseAt (n : Nat) : Code := (Tryz.f56.body.bind (tailAt n)).getD .skip
def ptsS (a : Ad) (sl : List Tok) (last : Int) : Ad × Int × Int :=
 let sh := shortP 3 (textsP sl)
 if sh.2 = false then errA 275 last else (⟨a.n, a.half, a.pre, a.name, a.suf, a.post, a.unit, a.city, sh.1, a.zip, a.more⟩, 0, 0)
def ptsZ (a : Ad) (pl : List Tok) (last : Int) : Ad × Int × Int :=
 let z := cutDash (pl.getLastD ⟨0, []⟩).t
 if ¬ (digitsP z.1 5 5 = true ∧ (z.2.2 = false ∨ digitsP z.2.1 4 4 = true)) then errA 276 last else
 ptsS ⟨a.n, a.half, a.pre, a.name, a.suf, a.post, a.unit, a.city, a.state, z.1, z.2.1⟩ pl.dropLast last
def ptsC (a : Ad) (ct pl : List Tok) (last : Int) : Ad × Int × Int :=
 if ¬ (kindOf ct [1] = true ∧ ct.length ≤ 8 ∧ (textsP ct).length ≤ 40) then errA 274 (last - 1) else
 ptsZ ⟨a.n, a.half, a.pre, a.name, a.suf, a.post, a.unit, textsP ct, a.state, a.zip, a.more⟩ pl last
theorem ptsE_C (a : Ad) (nm ct pl : List Tok) (inT : Option (List Tok)) (last : Int) (h : inT.any (fun l => decide (10 < ((l.getD 1 ⟨0, []⟩).t).length)) = false) :
  ptsE a nm ct pl inT last = if ¬ (0 < nm.length ∧ nm.length ≤ 8 ∧ kindOf nm [1, 2, 3] = true ∧ a.name.length ≤ 40) then errA 273 0 else ptsC a ct pl last := by
 unfold ptsE
 rw [if_neg (by rw [h]; simp)]
 rfl
theorem texts_le : ∀ {l : List Tok} {b : Nat}, (∀ t ∈ l, t.t.length ≤ b) → (textsP l).length ≤ l.length * (b + 1)
 | [], _, _ => Nat.zero_le _
 | [t], b, h => by have := h t (by simp); show t.t.length ≤ _; simp; omega
 | t :: u :: l, b, h => by
  have h1 := h t (by simp)
  have ih := texts_le (l := u :: l) fun x hx => h x (List.mem_cons_of_mem _ hx)
  show (t.t ++ 32 :: textsP (u :: l)).length ≤ _
  simp only [List.length_append, List.length_cons, Nat.add_mul] at ih ⊢
  omega
def LpRel (w4 : World) (ps : List (List Tok)) (i : Value) (wr : World) : Prop := ∃ k : Nat, k ≤ ps.length ∧ i = .int .i64 (k : Int) ∧ wr = w4 ∧ ∀ j (h : j < ps.length), j < k → 0 < ps[j].length
end Go.Proofs.YtjaponmpfdpemaaGreatDoor
