/-
  apportionlaw18: StreetOrder (printed by tools/genMk.py).
-/
import Derived.Test.YtjaponmpfdpemaaGreatDoorMs
import Derived.Test.YtjaponmpfdpemaaGreatDoorBa45
import Derived.Test.YtjaponmpfdpemaaGreatDoorBa44
import Derived.Test.YtjaponmpfdpemaaGreatDoorBa33
set_option linter.unusedSimpArgs false
set_option linter.unusedVariables false
namespace Go.Proofs.YtjaponmpfdpemaaGreatDoor
open Go.RowKit

noncomputable def ordAt1 (n : Nat) : Code × Code := cut1 (Tryz.f6.body.bind (tailIn n))
noncomputable def ordAt2 (n : Nat) : Code × Code × Code := cut2 (Tryz.f6.body.bind (tailIn n))
set_option maxRecDepth 100000 in
set_option maxHeartbeats 4000000 in
theorem ord16 (W w : World) (ga tb1 tb2 : Nat) (a : Ad) (px py er : Int) (X : Ext W w) (BA : Blk w ga 45 (adC a))
    (HF1 : ∀ w', Ext w w' → Calls Tryz.prog 22 #[.pointer (some ⟨tb1, 0, none⟩), adV a] w' fun e w3 => e = .returned (.tuple #[.agg #[.int .i64 px, .int .i64 py], .int .i64 er]) ∧ Ext w' w3)
    (HF2 : ∀ w', Ext w w' → Calls Tryz.prog 22 #[.pointer (some ⟨tb2, 0, none⟩), adV a] w' fun e w3 => e = .returned (.tuple #[.agg #[.int .i64 px, .int .i64 py], .int .i64 er]) ∧ Ext w' w3)
    (HC : ∀ w', Ext w w' → Calls Tryz.prog 23 #[adV (plainA a)] w' fun e w3 => e = .returned (.int .i64 (checkP (plainA a))) ∧ Ext w' w3)
    (HF3 : er ≠ 2 → checkP (plainA a) = 0 → ∀ w', Ext w w' → Calls Tryz.prog 22 #[.pointer (some ⟨tb1, 0, none⟩), adV (plainA a)] w' fun e w3 => e = .returned (.tuple #[.agg #[.int .i64 px, .int .i64 py], .int .i64 er]) ∧ Ext w' w3) ⦃u0 u1 u2 u3 u5 u8 u9 u11 u13 u21 u22 u23 u24 u25 u26 u27 u28 u29 u30 u31 u32 u33 u34 u35 u36 u37 u38 u39 u40 u41 u42 u43 u44 u45 u46 u47 u48 u49 u50 u51 u52 u53 u54 u55 u56 u57 u58 u59 u60 u61 u62 u63 u64 u65 u66 u67 u68 u69 u70 u71 u72 u73 u74 u75 u76 u77 u78 u79 u80 u81 u82 u83 u84 u85 u86 u87 u88 u89 u90 u91 u92 u93 u94 u95 u96 u97 u98 u99 u100 u101 u102 u103 u104 : Value⦄ : KF1 Tryz.prog (bodyPost Tryz.prog Tryz.f6 (fun e w' => e = .returned (.bool true) ∧ Ext W w')) ⟨#[u0, u1, u2, u3, .pointer (some ⟨ga, 0, none⟩), u5, .bool false, .bool true, u8, u9, .pointer (some ⟨tb1, 0, none⟩), u11, .pointer (some ⟨tb2, 0, none⟩), u13, undef, undef, undef, undef, undef, undef, undef, u21, u22, u23, u24, u25, u26, u27, u28, u29, u30, u31, u32, u33, u34, u35, u36, u37, u38, u39, u40, u41, u42, u43, u44, u45, u46, u47, u48, u49, u50, u51, u52, u53, u54, u55, u56, u57, u58, u59, u60, u61, u62, u63, u64, u65, u66, u67, u68, u69, u70, u71, u72, u73, u74, u75, u76, u77, u78, u79, u80, u81, u82, u83, u84, u85, u86, u87, u88, u89, u90, u91, u92, u93, u94, u95, u96, u97, u98, u99, u100, u101, u102, u103, u104, undef, undef, undef, undef, undef, undef, undef, undef, undef, undef, undef, undef, undef, undef, undef, undef, undef, undef, undef, undef, undef, undef, undef, undef, undef, undef, undef, undef, undef, undef, undef, undef, undef, undef, undef, undef, undef, undef, undef, undef, undef, undef, undef, undef, undef, undef, undef, undef, undef, undef, undef, undef, undef, undef, undef, undef, undef, undef, undef, undef, undef], []⟩ w (ordAt1 16) := by
  have hpv : adV (plainA a) = .agg #[.int .i64 a.n, .bool false, .string ⟨a.pre.toArray⟩, .string ⟨a.name.toArray⟩, .string ⟨a.suf.toArray⟩, .string ⟨a.post.toArray⟩, .string ⟨#[]⟩, .string ⟨a.city.toArray⟩, .string ⟨a.state.toArray⟩, .string ⟨#[49, 50, 51, 52, 53]⟩, .string ⟨#[]⟩] := rfl
  rw [hpv] at HC HF3
  rw [adV_eq] at HF1 HF2
  clear hpv
  generalize checkP (plainA a) = q at *
  obtain ⟨zn, zh, zpre, zname, zsuf, zpost, zunit, zcity, zstate, zzip, zmore⟩ := a
  unfold adC at BA
  dsimp only at *
  have hne := fun w => pt_ne px py px py w
  have hee := fun w => pt_eq px py px py w
  simp only [ne_eq, not_true_eq_false, decide_false] at hne
  simp only [decide_true] at hee
  replace HF1 := Lib.hid HF1
  replace HF2 := Lib.hid HF2
  replace HF3 := Lib.hid HF3
  replace HC := Lib.hid HC
  replace X := Lib.hid X
  have BX := Lib.hid (fun w' (hx : Ext w w') => BA.ext hx)
  conv => arg 5; whnf
  conv => arg 5; arg 1; whnf
  conv => arg 5; arg 2; whnf
  unfold KF1
  dsimp only
  intro K1 hK1

  obtain ⟨qa, _⟩ := BA.cells
  have la := BA.lt
  clear BA
  go_wp2_with fail
  refine (HF1.out _ (Ext.refl _)).mono ?_
  rintro e w1 ⟨rfl, hx⟩
  have Y2 := Lib.hid (hx.alloc (.cells #[.int .i64 px, .int .i64 py] 23))
  have B14 := Lib.hid (Blk.new w1 23 #[.int .i64 px, .int .i64 py])
  clear hx qa la HF1
  go_upto_region 17 with (fail)
  generalize w1.alloc (.cells #[.int .i64 px, .int .i64 py] 23) = w2 at *
  generalize w1.heap.size = g14 at *
  obtain ⟨qa, _⟩ := (BX.out _ Y2.out).cells
  have la := (BX.out _ Y2.out).lt
  go_wp2_with fail
  refine (HF2.out _ Y2.out).mono ?_
  rintro e w3 ⟨rfl, hx⟩
  have Y4 := Lib.hid (Y2.out.trans (hx.alloc (.cells #[.int .i64 px, .int .i64 py] 23)))
  replace B14 := Lib.hid (B14.out.ext (hx.alloc (.cells #[.int .i64 px, .int .i64 py] 23)))
  have B16 := Lib.hid (Blk.new w3 23 #[.int .i64 px, .int .i64 py])
  clear hx qa la HF2 Y2
  go_upto_region 18 with (fail)
  generalize w3.alloc (.cells #[.int .i64 px, .int .i64 py] 23) = w4 at *
  generalize w3.heap.size = g16 at *
  obtain ⟨qp, _⟩ := B14.out.cells
  have lp := B14.out.lt
  obtain ⟨qq, _⟩ := B16.out.cells
  have lq := B16.out.lt
  by_cases he : er = 2
  · have b1 : (er == 2) = true := by simp [he]
    have XW := Lib.hid (X.out.trans Y4.out)
    clear HF3 HC BX B14 B16 he
    go_wp2_with fail
    go_ret
    exact ⟨by simp, XW.out⟩
  · have b1 : (er == 2) = false := by rw [beq_eq_false_iff_ne]; exact he
    replace HF3 := Lib.hid (HF3.out he)
    clear he
    obtain ⟨qa, _⟩ := (BX.out _ Y4.out).cells
    have la := (BX.out _ Y4.out).lt
    go_upto_region 21 with (fail)
    have BN := Blk.new w4 45 #[.int .i64 zn, .bool zh, .string ⟨zpre.toArray⟩, .string ⟨zname.toArray⟩, .string ⟨zsuf.toArray⟩, .string ⟨zpost.toArray⟩, .string ⟨zunit.toArray⟩, .string ⟨zcity.toArray⟩, .string ⟨zstate.toArray⟩, .string ⟨zzip.toArray⟩, .string ⟨zmore.toArray⟩]
    have X5 := (Ext.refl w4).alloc (.cells #[.int .i64 zn, .bool zh, .string ⟨zpre.toArray⟩, .string ⟨zname.toArray⟩, .string ⟨zsuf.toArray⟩, .string ⟨zpost.toArray⟩, .string ⟨zunit.toArray⟩, .string ⟨zcity.toArray⟩, .string ⟨zstate.toArray⟩, .string ⟨zzip.toArray⟩, .string ⟨zmore.toArray⟩] 45)
    have l18 := Nat.le_refl w4.heap.size
    clear qa la qp lp qq lq
    generalize w4.alloc (.cells #[.int .i64 zn, .bool zh, .string ⟨zpre.toArray⟩, .string ⟨zname.toArray⟩, .string ⟨zsuf.toArray⟩, .string ⟨zpost.toArray⟩, .string ⟨zunit.toArray⟩, .string ⟨zcity.toArray⟩, .string ⟨zstate.toArray⟩, .string ⟨zzip.toArray⟩, .string ⟨zmore.toArray⟩] 45) = w5 at *
    obtain ⟨g18, hg18⟩ : ∃ g, w4.heap.size = g := ⟨_, rfl⟩
    rw [hg18] at BN l18 ⊢
    have l18' : w4.heap.size ≤ g18 := by omega
    clear hg18 l18
    have BM := Lib.hid ((((BN.set_ 1 (.bool false)).set_ 6 (.string ⟨#[]⟩)).set_ 9 (.string ⟨#[49, 50, 51, 52, 53]⟩)).set_ 10 (.string ⟨#[]⟩))
    have XM := Lib.hid ((((X5.set (p := ⟨g18, 1, none⟩) l18' (.bool false)).set (p := ⟨g18, 6, none⟩) l18' (.string ⟨#[]⟩)).set (p := ⟨g18, 9, none⟩) l18' (.string ⟨#[49, 50, 51, 52, 53]⟩)).set (p := ⟨g18, 10, none⟩) l18' (.string ⟨#[]⟩))
    obtain ⟨qn, _⟩ := BN.cells
    have ln := BN.lt
    clear BN X5
    go_upto_region 22 with (fail)
    clear qn ln
    generalize (((w5.setCell ⟨g18, 1, none⟩ (.bool false)).setCell ⟨g18, 6, none⟩ (.string ⟨#[]⟩)).setCell ⟨g18, 9, none⟩ (.string ⟨#[49, 50, 51, 52, 53]⟩)).setCell ⟨g18, 10, none⟩ (.string ⟨#[]⟩) = w6 at *
    replace BM : Hid (Blk w6 g18 45 #[.int .i64 zn, .bool false, .string ⟨zpre.toArray⟩, .string ⟨zname.toArray⟩, .string ⟨zsuf.toArray⟩, .string ⟨zpost.toArray⟩, .string ⟨#[]⟩, .string ⟨zcity.toArray⟩, .string ⟨zstate.toArray⟩, .string ⟨#[49, 50, 51, 52, 53]⟩, .string ⟨#[]⟩]) := BM
    have Y6 := Lib.hid (Y4.out.trans XM.out)
    replace B14 := Lib.hid (B14.out.ext XM.out)
    obtain ⟨qn, _⟩ := BM.out.cells
    have ln := BM.out.lt
    clear B16 BX
    go_wp2_with fail
    refine (HC.out _ Y6.out).mono ?_
    rintro e w7 ⟨rfl, hx⟩
    have Y7 := Lib.hid (Y6.out.trans hx)
    replace B14 := Lib.hid (B14.out.ext hx)
    replace BM := Lib.hid (BM.out.ext hx)
    clear hx qn ln Y6 XM Y4 HC
    by_cases hq : q = 0
    · subst hq
      replace HF3 := Lib.hid (HF3.out rfl)
      obtain ⟨qn, _⟩ := BM.out.cells
      have ln := BM.out.lt
      go_wp2_with fail
      refine (HF3.out _ Y7.out).mono ?_
      rintro e w8 ⟨rfl, hx⟩
      have Y9 := Lib.hid (Y7.out.trans (hx.alloc (.cells #[.int .i64 px, .int .i64 py] 23)))
      replace B14 := Lib.hid (B14.out.ext (hx.alloc (.cells #[.int .i64 px, .int .i64 py] 23)))
      have B19 := Lib.hid (Blk.new w8 23 #[.int .i64 px, .int .i64 py])
      clear hx qn ln Y7 HF3 BM
      go_upto_region 25 with (fail)
      generalize w8.alloc (.cells #[.int .i64 px, .int .i64 py] 23) = w9 at *
      generalize w8.heap.size = g19 at *
      obtain ⟨qp, _⟩ := B14.out.cells
      have lp := B14.out.lt
      obtain ⟨qq, _⟩ := B19.out.cells
      have lq := B19.out.lt
      have XW := Lib.hid (X.out.trans Y9.out)
      clear B14 B19 X Y9
      go_wp2_with fail
      go_ret
      exact ⟨by simp, XW.out⟩
    · have hqb : (q != 0) = true := by simpa using hq
      have XW := Lib.hid (X.out.trans Y7.out)
      clear hq HF3 B14 BM X Y7
      go_wp2_with fail
      go_ret
      exact ⟨by simp, XW.out⟩
set_option maxRecDepth 100000 in
set_option maxHeartbeats 4000000 in
theorem ord10 (l m : List Sr) (hp : l.Perm m) (hs : ∀ s ∈ l, SrS s 1000) (n : Nat) (hn : l.length = n) (hl : n ≤ 100) (A A2 : Option Addr) (cap c2 : Nat) (a : Ad) (ha : AdS a 1000) (W w : World) (hS : Std w) (X : Ext W w) (ga : Nat) (BA : Blk w ga 45 (adC a))
    (hr : Reads w w.heap.size 13 A n (srCells l)) (hr2 : Reads w w.heap.size 13 A2 n (srCells m)) ⦃u1 u2 u3 u5 u9 u21 u22 u23 u24 u25 u26 u27 u28 u29 u30 u31 u32 u33 u34 u35 u36 u37 u38 u39 u40 u41 u42 u43 u44 u45 u46 u47 u48 u49 u50 u51 u52 u53 u54 u55 u56 u57 u58 : Value⦄ : KF1 Tryz.prog (bodyPost Tryz.prog Tryz.f6 (fun e w' => e = .returned (.bool true) ∧ Ext W w')) ⟨#[.slice A n cap, u1, u2, u3, .pointer (some ⟨ga, 0, none⟩), u5, .bool false, .bool true, .slice A2 n c2, u9, undef, undef, undef, undef, undef, undef, undef, undef, undef, undef, undef, u21, u22, u23, u24, u25, u26, u27, u28, u29, u30, u31, u32, u33, u34, u35, u36, u37, u38, u39, u40, u41, u42, u43, u44, u45, u46, u47, u48, u49, u50, u51, u52, u53, u54, u55, u56, u57, u58, undef, undef, undef, undef, undef, undef, undef, undef, undef, undef, undef, undef, undef, undef, undef, undef, undef, undef, undef, undef, undef, undef, undef, undef, undef, undef, undef, undef, undef, undef, undef, undef, undef, undef, undef, undef, undef, undef, undef, undef, undef, undef, undef, undef, undef, undef, undef, undef, undef, undef, undef, undef, undef, undef, undef, undef, undef, undef, undef, undef, undef, undef, undef, undef, undef, undef, undef, undef, undef, undef, undef, undef, undef, undef, undef, undef, undef, undef, undef, undef, undef, undef, undef, undef, undef, undef, undef, undef, undef, undef, undef, undef, undef, undef, undef, undef, undef, undef, undef, undef, undef, undef, undef, undef, undef, undef, undef], []⟩ w (ordAt1 10) := by
  have hap : AdS (plainA a) 1000 := ⟨ha.pre, ha.name, ha.suf, ha.post, Nat.zero_le _, ha.city, ha.state, by simp [plainA], Nat.zero_le _⟩
  have HN1 := Lib.hid (fun w' (hx : Ext w w') => srnew_two l hs n hn A cap w' (hr.ext hx) (by omega) (hS.ext hx))
  have HN2 := Lib.hid (fun w' (hx : Ext w w') => srnew_two m (fun s h => hs s (hp.mem_iff.2 h)) n (hp.length_eq.symm.trans hn) A2 c2 w' (hr2.ext hx) (by omega) (hS.ext hx))
  have h8 : (newR l).1 ≠ 8 := by rcases newR_err (l := l) (by omega) with e | e | e <;> rw [e] <;> decide
  have hiff := newR_perm hp
  have HFp := Lib.hid (fun (h0 : (newR l).1 = 0) b => findR_perm hp h0 b)
  have HFq := Lib.hid (fun (h1 : (findR l a).2 ≠ 2) (h2 : checkP (plainA a) = 0) => findR_plainA (l := l) h1 h2)
  have HCk := Lib.hid (fun w' (hx : Ext w w') => adcheck_any (plainA a) hap w' (hS.ext hx))
  have HSt := Lib.hid (fun w' (hx : Ext w w') => hS.ext hx)
  have BX := Lib.hid (fun w' (hx : Ext w w') => BA.ext hx)
  replace X := Lib.hid X
  obtain ⟨F1, hF1⟩ : ∃ F1, newR l = F1 := ⟨_, rfl⟩
  obtain ⟨F2, hF2⟩ : ∃ F2, newR m = F2 := ⟨_, rfl⟩
  rw [hF1] at HN1 hiff h8 HFp
  rw [hF2] at HN2 hiff
  clear hF1 hF2 hr hr2 hS BA hs hp hn hl
  obtain ⟨f1, f2⟩ := F1
  obtain ⟨h1, h2⟩ := F2
  dsimp only at *
  replace ha := Lib.hid ha
  replace hap := Lib.hid hap
  conv => arg 5; whnf
  conv => arg 5; arg 1; whnf
  conv => arg 5; arg 2; whnf
  unfold KF1
  dsimp only
  intro K1 hK1

  go_wp2_with fail
  refine (HN1.out _ (Ext.refl _)).mono ?_
  rintro e w1 ⟨v1, rfl, hx, hT1⟩
  have Y2 := Lib.hid (hx.alloc (.cells #[.int .i64 f1, .int .i64 f2] 36))
  have Y2' := Lib.hid ((Ext.refl w1).alloc (.cells #[.int .i64 f1, .int .i64 f2] 36))
  have B11 := Lib.hid (Blk.new w1 36 #[.int .i64 f1, .int .i64 f2])
  replace hT1 := Lib.hid hT1
  clear hx HN1
  go_upto_region 11 with (fail)
  generalize w1.alloc (.cells #[.int .i64 f1, .int .i64 f2] 36) = w2 at *
  generalize w1.heap.size = g11 at *
  go_wp2_with fail
  refine (HN2.out _ Y2.out).mono ?_
  rintro e w3 ⟨v2, rfl, hx, hT2⟩
  have Y4 := Lib.hid (hx.alloc (.cells #[.int .i64 h1, .int .i64 h2] 36))
  have Y4' := Lib.hid ((Ext.refl w3).alloc (.cells #[.int .i64 h1, .int .i64 h2] 36))
  replace B11 := Lib.hid (B11.out.ext Y4.out)
  have B13 := Lib.hid (Blk.new w3 36 #[.int .i64 h1, .int .i64 h2])
  replace hT2 := Lib.hid hT2
  clear hx HN2
  go_upto_region 12 with (fail)
  generalize w3.alloc (.cells #[.int .i64 h1, .int .i64 h2] 36) = w4 at *
  generalize w3.heap.size = g13 at *
  obtain ⟨qp, _⟩ := B11.out.cells
  have lp := B11.out.lt
  obtain ⟨qq, _⟩ := B13.out.cells
  have lq := B13.out.lt
  have YW := Lib.hid (Y2.out.trans Y4.out)
  have XW := Lib.hid (X.out.trans YW.out)
  have h8b : (f1 == 8) = false := by rw [beq_eq_false_iff_ne]; exact h8
  by_cases h0 : f1 = 0
  · have h0' : h1 = 0 := hiff.1 h0
    subst h0 h0'
    obtain ⟨tb1, rfl, hF1⟩ : ∃ tb, v1 = .pointer (some ⟨tb, 0, none⟩) ∧ Finds w1 v1 l := by
      rcases hT1.out with h | h
      · exact h.2
      · exact absurd rfl h.1
    obtain ⟨tb2, rfl, hF2⟩ : ∃ tb, v2 = .pointer (some ⟨tb, 0, none⟩) ∧ Finds w3 v2 m := by
      rcases hT2.out with h | h
      · exact h.2
      · exact absurd rfl h.1
    have hEq := HFp.out rfl a
    obtain ⟨r, hr⟩ : ∃ r, findR l a = r := ⟨_, rfl⟩
    have G1 := Lib.hid (fun w' (hx : Ext w4 w') => hF1 a ha.out w' ((Y2'.out.trans Y4.out).trans hx) (HSt.out _ (YW.out.trans hx)))
    have G2 := Lib.hid (fun w' (hx : Ext w4 w') => hF2 a ha.out w' (Y4'.out.trans hx) (HSt.out _ (YW.out.trans hx)))
    have G3 := Lib.hid (fun (e1 : r.2 ≠ 2) (e2 : checkP (plainA a) = 0) w' (hx : Ext w4 w') => (show Calls Tryz.prog 22 #[.pointer (some ⟨tb1, 0, none⟩), adV (plainA a)] w' fun e w3 => e = .returned (.tuple #[ptV r.1, .int .i64 r.2]) ∧ Ext w' w3 by
      have := hF1 (plainA a) hap.out w' ((Y2'.out.trans Y4.out).trans hx) (HSt.out _ (YW.out.trans hx))
      rwa [HFq.out (by rw [hr]; exact e1) e2, hr] at this))
    have G4 := Lib.hid (fun w' (hx : Ext w4 w') => HCk.out w' (YW.out.trans hx))
    have G5 := Lib.hid (BX.out _ YW.out)
    rw [← hEq, hr] at G2
    rw [hr] at G1
    obtain ⟨⟨px, py⟩, er⟩ := r
    clear hF1 hF2 hr hEq HFp HFq HCk HSt BX hT1 hT2 Y2 Y2' Y4 Y4' YW X B11 B13
    go_upto_region 16 with (fail)
    exact ord16 W w4 ga tb1 tb2 a px py er XW.out G5.out G1.out G2.out G4.out G3.out _ (by assumption)
  · have h0' : h1 ≠ 0 := fun e => h0 (hiff.2 e)
    have b1 : (f1 == 0) = false := by rw [beq_eq_false_iff_ne]; exact h0
    have b2 : (h1 == 0) = false := by rw [beq_eq_false_iff_ne]; exact h0'
    have b3 : (f1 != 0) = true := by simpa using h0
    obtain ⟨c, hc⟩ : ∃ c, (f1 != h1) = c := ⟨_, rfl⟩
    clear h0 h0' hiff hT1 hT2 HFp HFq HCk HSt BX Y2 Y2' Y4 Y4' YW X B11 B13 h8
    cases c with
    | true =>
      go_wp2_with fail
      go_ret
      exact ⟨by simp, XW.out⟩
    | false =>
      go_wp2_with fail
      go_ret
      exact ⟨by simp, XW.out⟩
/-- How many parts have been turned. -/
def OrAt (W : World) (ga : Nat) (cs : Array Value) (l : List Sr) (b : Nat) (vl i : Value) (wr : World) : Prop := ∃ k : Nat, k ≤ l.length ∧ i = .int .i64 (k : Int) ∧ wr.ownsRow W.heap.size 25 13 vl k (srCells ((turnS l b).take k)) ∧ Blk wr ga 45 cs ∧ Ext W wr
theorem turn_step {l : List Sr} {b k : Nat} (hb : b < l.length) (hk : k < l.length) : srCells ((turnS l b).take (k + 1)) = srCells ((turnS l b).take k) ++ srL (l[(b + l.length - k) % l.length]'(Nat.mod_lt _ (by omega))) := by
  have h := turnS_at hb hk
  rw [← List.take_append_getElem (show k < (turnS l b).length by rw [turnS_len]; exact hk), srCells_app, h]
  simp [srCells]
set_option maxRecDepth 100000 in
set_option maxHeartbeats 4000000 in
theorem streetOrder_1 (l : List Sr) (A : Option Addr) (cap : Nat) (a : Ad) (by_ : Int) (hb : longS l = true ∨ longA a = true ∨ l.length = 0) (W : World) (hr : Reads W W.heap.size 13 A l.length (srCells l)) (hS : Std W) : Calls Tryz.prog 6 #[.slice A l.length cap, adV a, .int .i64 by_] W fun e w' => e = .returned (.bool true) ∧ Ext W w' := by
  have HW := Lib.hid (fun w (hx : Ext W w) => l18awake_any w (hS.ext hx))
  have HL := Lib.hid (fun w (hx : Ext W w) => l18long_any l A cap w (hr.ext hx))
  have HG := Lib.hid (fun w => l18large_any a w)
  have hz := Lib.hid (fun h : ¬ (longS l = true ∨ longA a = true) => (hb.resolve_left (fun e => h (.inl e))).resolve_left (fun e => h (.inr e)))
  obtain ⟨b1, hb1⟩ : ∃ b, longS l = b := ⟨_, rfl⟩
  obtain ⟨b2, hb2⟩ : ∃ b, longA a = b := ⟨_, rfl⟩
  rw [hb1] at HL hz
  rw [hb2] at HG hz
  obtain ⟨n, hn⟩ : ∃ n, l.length = n := ⟨_, rfl⟩
  rw [hn] at HL hz ⊢
  clear hb hb1 hb2 hr hS hn
  rw [adV_eq] at HG ⊢
  obtain ⟨zn, zh, zpre, zname, zsuf, zpost, zunit, zcity, zstate, zzip, zmore⟩ := a
  dsimp only at *
  have BA := Lib.hid (Blk.new W 45 #[.int .i64 zn, .bool zh, .string ⟨zpre.toArray⟩, .string ⟨zname.toArray⟩, .string ⟨zsuf.toArray⟩, .string ⟨zpost.toArray⟩, .string ⟨zunit.toArray⟩, .string ⟨zcity.toArray⟩, .string ⟨zstate.toArray⟩, .string ⟨zzip.toArray⟩, .string ⟨zmore.toArray⟩])
  have X0 := Lib.hid ((Ext.refl W).alloc (.cells #[.int .i64 zn, .bool zh, .string ⟨zpre.toArray⟩, .string ⟨zname.toArray⟩, .string ⟨zsuf.toArray⟩, .string ⟨zpost.toArray⟩, .string ⟨zunit.toArray⟩, .string ⟨zcity.toArray⟩, .string ⟨zstate.toArray⟩, .string ⟨zzip.toArray⟩, .string ⟨zmore.toArray⟩] 45))
  cases b1 with
  | true =>
    go_enter Tryz.func6, Tryz.ntmps6
    go_wp2_with fail
    refine (HW.out _ X0.out).mono ?_
    rintro e w1 ⟨rfl, hx⟩
    have X1 := Lib.hid (X0.out.trans hx)
    clear hx
    go_wp2_with fail
    refine (HL.out _ X1.out).mono ?_
    rintro e w2 ⟨rfl, hx⟩
    have X2 := Lib.hid (X1.out.trans hx)
    clear hx
    go_wp2_with fail
    go_ret
    exact ⟨rfl, X2.out⟩
  | false =>
    cases b2 with
    | true =>
      go_enter Tryz.func6, Tryz.ntmps6
      go_wp2_with fail
      refine (HW.out _ X0.out).mono ?_
      rintro e w1 ⟨rfl, hx⟩
      have X1 := Lib.hid (X0.out.trans hx)
      replace BA := Lib.hid (BA.out.ext hx)
      clear hx
      go_wp2_with fail
      refine (HL.out _ X1.out).mono ?_
      rintro e w2 ⟨rfl, hx⟩
      have X2 := Lib.hid (X1.out.trans hx)
      have B2 := BA.out.ext hx
      obtain ⟨qa, _⟩ := B2.cells
      have la := B2.lt
      clear hx B2
      go_wp2_with fail
      refine (HG.out _).mono ?_
      rintro e w3 ⟨rfl, hx⟩
      have X3 := Lib.hid (X2.out.trans hx)
      clear hx
      go_wp2_with fail
      go_ret
      exact ⟨rfl, X3.out⟩
    | false =>
      obtain rfl : n = 0 := hz.out (by simp)
      go_enter Tryz.func6, Tryz.ntmps6
      go_wp2_with fail
      refine (HW.out _ X0.out).mono ?_
      rintro e w1 ⟨rfl, hx⟩
      have X1 := Lib.hid (X0.out.trans hx)
      replace BA := Lib.hid (BA.out.ext hx)
      clear hx
      go_wp2_with fail
      refine (HL.out _ X1.out).mono ?_
      rintro e w2 ⟨rfl, hx⟩
      have X2 := Lib.hid (X1.out.trans hx)
      have B2 := BA.out.ext hx
      obtain ⟨qa, _⟩ := B2.cells
      have la := B2.lt
      clear hx B2
      go_wp2_with fail
      refine (HG.out _).mono ?_
      rintro e w3 ⟨rfl, hx⟩
      have X3 := Lib.hid (X2.out.trans hx)
      clear hx
      go_wp2_with fail
      go_ret
      exact ⟨rfl, X3.out⟩
set_option maxRecDepth 100000 in
set_option maxHeartbeats 4000000 in
theorem streetOrder_2 (l : List Sr) (A : Option Addr) (cap : Nat) (a : Ad) (by_ : Int) (hb1 : longS l = false) (hb2 : longA a = false) (hz : l.length ≠ 0) (W : World) (hr : Reads W W.heap.size 13 A l.length (srCells l)) (hS : Std W) : Calls Tryz.prog 6 #[.slice A l.length cap, adV a, .int .i64 by_] W fun e w' => e = .returned (.bool true) ∧ Ext W w' := by
  have hl := (longS_no hb1).1
  have HW := Lib.hid (fun w (hx : Ext W w) => l18awake_any w (hS.ext hx))
  have HL := Lib.hid (fun w (hx : Ext W w) => l18long_any l A cap w (hr.ext hx))
  have HG := Lib.hid (fun w => l18large_any a w)
  rw [hb1] at HL
  rw [hb2] at HG
  have HP := Lib.hid (fun w => pickP_any by_ (l.length : Int) (by omega) w)
  obtain ⟨B1, B2⟩ := pickP_bd (x := by_) (n := (l.length : Int)) (by omega)
  obtain ⟨b, hbb⟩ : ∃ b : Nat, pickP by_ (l.length : Int) = (b : Int) := ⟨(pickP by_ (l.length : Int)).toNat, by omega⟩
  rw [hbb] at HP B1 B2
  have hbl : b < l.length := by omega
  have HRs := Lib.hid (fun (k : Nat) (hk : k < l.length) => turn_step (l := l) (b := b) (k := k) hbl hk)
  have HRd := Lib.hid (fun w (hx : Ext W w) => hr.ext hx)
  have HS2 := Lib.hid (fun w (hx : Ext W w) => hS.ext hx)
  have HT := Lib.hid (show (turnS l b).take l.length = turnS l b by rw [List.take_of_length_le]; rw [turnS_len]; omega)
  have hs := Lib.hid (longS_no hb1).2
  have haS := Lib.hid (longA_no hb2)
  clear hbb hr hS hb1 hb2 B1 B2
  rw [adV_eq] at HG ⊢
  have BA := Lib.hid (Blk.new W 45 #[.int .i64 a.n, .bool a.half, .string ⟨a.pre.toArray⟩, .string ⟨a.name.toArray⟩, .string ⟨a.suf.toArray⟩, .string ⟨a.post.toArray⟩, .string ⟨a.unit.toArray⟩, .string ⟨a.city.toArray⟩, .string ⟨a.state.toArray⟩, .string ⟨a.zip.toArray⟩, .string ⟨a.more.toArray⟩])
  have X0 := Lib.hid ((Ext.refl W).alloc (.cells #[.int .i64 a.n, .bool a.half, .string ⟨a.pre.toArray⟩, .string ⟨a.name.toArray⟩, .string ⟨a.suf.toArray⟩, .string ⟨a.post.toArray⟩, .string ⟨a.unit.toArray⟩, .string ⟨a.city.toArray⟩, .string ⟨a.state.toArray⟩, .string ⟨a.zip.toArray⟩, .string ⟨a.more.toArray⟩] 45))
  go_enter Tryz.func6, Tryz.ntmps6
  go_wp2_with fail
  refine (HW.out _ X0.out).mono ?_
  rintro e w1 ⟨rfl, hx⟩
  have X1 := Lib.hid (X0.out.trans hx)
  replace BA := Lib.hid (BA.out.ext hx)
  clear hx HW X0
  have hgw := Lib.hid (Nat.le_refl W.heap.size)
  generalize hga : W.heap.size = ga at *
  replace hga := Lib.hid hga
  go_wp2_with fail
  refine (HL.out _ X1.out).mono ?_
  rintro e w2 ⟨rfl, hx⟩
  have X2 := Lib.hid (X1.out.trans hx)
  replace BA := Lib.hid (BA.out.ext hx)
  clear hx HL X1
  obtain ⟨qa, _⟩ := BA.out.cells
  have la := BA.out.lt
  have hz1 : ((l.length : Int) == 0) = false := by rw [beq_eq_false_iff_ne]; omega
  go_wp2_with fail
  refine (HG.out _).mono ?_
  rintro e w3 ⟨rfl, hx⟩
  have X3 := Lib.hid (X2.out.trans hx)
  replace BA := Lib.hid (BA.out.ext hx)
  clear hx HG X2 qa la
  go_wp2_with fail
  refine (HP.out _).mono ?_
  rintro e w4 ⟨rfl, rfl⟩
  clear HP
  have R0 := Lib.hid (show OrAt W ga #[.int .i64 a.n, .bool a.half, .string ⟨a.pre.toArray⟩, .string ⟨a.name.toArray⟩, .string ⟨a.suf.toArray⟩, .string ⟨a.post.toArray⟩, .string ⟨a.unit.toArray⟩, .string ⟨a.city.toArray⟩, .string ⟨a.state.toArray⟩, .string ⟨a.zip.toArray⟩, .string ⟨a.more.toArray⟩] l b (.slice none 0 0) (.int .i64 ((0 : Nat) : Int)) w3 from ⟨0, Nat.zero_le _, rfl, by simpa [srCells] using World.ownsRow_nil _ _ _ _, BA.out, X3.out⟩)
  go_wp2_with fail
  go_loopw [8, 9] (fun vl i wr => OrAt W ga #[.int .i64 a.n, .bool a.half, .string ⟨a.pre.toArray⟩, .string ⟨a.name.toArray⟩, .string ⟨a.suf.toArray⟩, .string ⟨a.post.toArray⟩, .string ⟨a.unit.toArray⟩, .string ⟨a.city.toArray⟩, .string ⟨a.state.toArray⟩, .string ⟨a.zip.toArray⟩, .string ⟨a.more.toArray⟩] l b vl i wr) (fun vl i _ => l.length - (intOf i).toNat)
  case atStart => exact R0.out
  case round =>
    clear R0
    obtain ⟨k, hk, rfl, ho, hB, hx⟩ := hrel
    clear X3 BA
    by_cases hlt : k < l.length
    · have hd1 : decide ((k : Int) < (l.length : Int)) = true := decide_eq_true (by omega)
      have i1 : IntKind.i64.wrap ((b : Int) + (l.length : Int)) = (b : Int) + (l.length : Int) := by rw [IntKind.wrap_i64]; omega
      have i2 : IntKind.i64.wrap ((b : Int) + (l.length : Int) - (k : Int)) = ((b + l.length - k : Nat) : Int) := by rw [IntKind.wrap_i64]; omega
      have hj : (b + l.length - k) % l.length < l.length := Nat.mod_lt _ (by omega)
      have i3 : Int.tmod ((b + l.length - k : Nat) : Int) (l.length : Int) = (((b + l.length - k) % l.length : Nat) : Int) := by rw [Int.tmod_eq_emod_of_nonneg (by omega)]; omega
      have hst := HRs.out k hlt
      obtain ⟨j, hjj⟩ : ∃ j, (b + l.length - k) % l.length = j := ⟨_, rfl⟩
      simp only [hjj] at hst hj i3
      have jz : (0 : Int) ≤ (j : Int) := by omega
      have jl : (j : Int) < (l.length : Int) := by omega
      have i4 : IntKind.i64.wrap (j : Int) = (j : Int) := by rw [IntKind.wrap_i64]; omega
      obtain ⟨v, c, rfl, hnc, hcm, _⟩ := own_slice ho
      obtain ⟨g, off, hAe, hg, c0, c1, c2, c3, c4, c5, c6, c7, c8, c9, c10, c11, c12⟩ := sr_at (HRd.out _ hx) hj
      have HE := Lib.hid (fun v' W' (h1 : W'.ownsRow W.heap.size 25 13 v' (k + 1) (srCells ((turnS l b).take k) ++ srL l[j])) (h2 : Blk W' ga 45 #[.int .i64 a.n, .bool a.half, .string ⟨a.pre.toArray⟩, .string ⟨a.name.toArray⟩, .string ⟨a.suf.toArray⟩, .string ⟨a.post.toArray⟩, .string ⟨a.unit.toArray⟩, .string ⟨a.city.toArray⟩, .string ⟨a.state.toArray⟩, .string ⟨a.zip.toArray⟩, .string ⟨a.more.toArray⟩]) (h3 : Ext W W') => (show OrAt W ga #[.int .i64 a.n, .bool a.half, .string ⟨a.pre.toArray⟩, .string ⟨a.name.toArray⟩, .string ⟨a.suf.toArray⟩, .string ⟨a.post.toArray⟩, .string ⟨a.unit.toArray⟩, .string ⟨a.city.toArray⟩, .string ⟨a.state.toArray⟩, .string ⟨a.zip.toArray⟩, .string ⟨a.more.toArray⟩] l b v' (.int .i64 ((k + 1 : Nat) : Int)) W' from ⟨k + 1, by omega, rfl, by rw [hst]; exact h1, h2, h3⟩))
      replace hx := Lib.hid hx
      replace ho := Lib.hid ho
      replace hB := Lib.hid hB
      replace hjj := Lib.hid hjj
      clear hst HRs HRd
      generalize l[j] = x at *
      subst hAe
      obtain ⟨o1, ho1⟩ : ∃ o, off + j * 13 = o := ⟨_, rfl⟩
      simp only [ho1] at c0 c1 c2 c3 c4 c5 c6 c7 c8 c9 c10 c11 c12
      go_wp2_with (at_builtin; refine wpl_app1 row_sr W wr (.tmp 44) (.tmp 57) rfl rfl rfl ho.out hx.out rfl rfl rfl (by simp [Value.oneCell']) (by omega) (by unfold maxLen; omega) ?_; intro v' w' hg; have HG := Lib.hid hg; clear hg)
      have hE := Lib.hid (HE.out _ _ HG.out.own (HG.out.blk (ho.out.alloc _) (hB.out.alloc _) (by decide)) HG.out.ext)
      go_roundw
      case rel => first | exact hE.out | (repeat (with_reducible apply Exists.intro); exact ⟨hE.out, rfl⟩)
      case measure => simp [intOf]; omega
    · obtain rfl : k = l.length := by omega
      have hd1 : decide ((l.length : Int) < (l.length : Int)) = false := by simp
      obtain ⟨A2, c2, rfl, _, _, hr2⟩ := own_slice ho
      rw [HT.out] at hr2
      have XW := Lib.hid hx
      have BA2 := Lib.hid hB
      have hr1 := Lib.hid (HRd.out _ XW.out)
      have hS1 := Lib.hid (HS2.out _ XW.out)
      replace hr2 := Lib.hid hr2
      clear ho hx hB HRs HRd HS2
      go_upto_region 10 with (fail)
      exact ord10 l (turnS l b) (turnS_perm l b) hs.out l.length rfl hl A A2 cap c2 a haS.out W _ hS1.out XW.out ga BA2.out (hr1.out.more (by have := XW.out.size; omega)) hr2.out _ (by assumption)
theorem streetOrder_any (l : List Sr) (A : Option Addr) (cap : Nat) (a : Ad) (by_ : Int) (W : World) (hr : Reads W W.heap.size 13 A l.length (srCells l)) (hS : Std W) : Calls Tryz.prog 6 #[.slice A l.length cap, adV a, .int .i64 by_] W fun e w' => e = .returned (.bool true) ∧ Ext W w' := by
  by_cases h : longS l = true ∨ longA a = true ∨ l.length = 0
  · exact streetOrder_1 l A cap a by_ h W hr hS
  · refine streetOrder_2 l A cap a by_ ?_ ?_ ?_ W hr hS
    · cases e : longS l with
      | true => exact absurd (.inl e) h
      | false => rfl
    · cases e : longA a with
      | true => exact absurd (.inr (.inl e)) h
      | false => rfl
    · exact fun e => h (.inr (.inr e))
end Go.Proofs.YtjaponmpfdpemaaGreatDoor
