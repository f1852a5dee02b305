/-
  apportionref18: Find (printed by tools/genMn.py).
-/
import Derived.Test.YtjaponmpfdpemaaGreatDoorBb42
import Derived.Test.YtjaponmpfdpemaaGreatDoorBb21
import Derived.Test.YtjaponmpfdpemaaGreatDoorBb33
import Derived.Test.YtjaponmpfdpemaaGreatDoorBb39
import Derived.Test.YtjaponmpfdpemaaGreatDoorBb41
import Derived.Deep.RegionHeld3
set_option linter.unusedSimpArgs false
set_option linter.unusedVariables false
namespace Go.Proofs.YtjaponmpfdpemaaGreatDoor
open Go.RowKit
theorem srkey_iff (x : Sr) (a : Ad) (b : Bool) : ((x.state == a.state) && (x.city == a.city) && (x.pre == a.pre) && (x.name == a.name) && (x.suf == a.suf) && (x.post == a.post) && b) = true ↔ (x.key = a.key ∧ b = true) := by
 unfold Sr.key Ad.key
 simp [and_assoc]
def RfAt (w w0 : World) (l : List Sr) (a : Ad) (i : Value) (wr : World) : Prop := ∃ k : Nat, k ≤ l.length ∧ i = .int .i64 (k : Int) ∧ (∀ j (h : j < l.length), j < k → ¬ (l[j].key = a.key ∧ l[j].hasR a.n = true)) ∧ Ext w0 wr
theorem findR_first {l : List Sr} {a : Ad} (hc : checkP a = 0) {k : Nat} (hk : k < l.length) (h0 : ∀ j (h : j < l.length), j < k → ¬ (l[j].key = a.key ∧ l[j].hasR a.n = true)) (h1 : l[k].key = a.key ∧ l[k].hasR a.n = true) : findR l a = ((l[k].at_ a.n).1, 0) := by
 unfold findR
 rw [if_neg (by simp [hc])]
 have e : l.find? (fun s => decide (s.key = a.key) && s.hasR a.n) = some l[k] := by
  rw [List.find?_eq_some_iff_getElem]
  refine ⟨by simp [h1.1, h1.2], k, hk, rfl, fun j hj => ?_⟩
  have := h0 j (by omega) hj
  by_cases hk2 : l[j].key = a.key
  ·cases e : l[j].hasR a.n with
   | true => exact absurd ⟨hk2, e⟩ this
   | false => simp
  ·simp [hk2]
 rw [e]
set_option maxRecDepth 100000 in
set_option maxHeartbeats 4000000 in
theorem rsrfind_any (l : List Sr) (hs : ∀ s ∈ l, SrS s 1000) (A : Option Addr) (cap : Nat) (a : Ad) (h : AdS a 1000) (W : World) (hr : Reads W W.heap.size 13 A l.length (srCells l)) (hl : l.length ≤ 1000) :
  Calls Tryz.prog 28 #[.slice A l.length cap, adV a] W fun e w' => e = .returned (.tuple #[ptV (findR l a).1, .int .i64 (findR l a).2]) ∧ Ext W w' := by
 have HC := Lib.hid (fun w (_ : Ext W w) => rcheck_any a h w)
 have HR := Lib.hid (fun w (hx : Ext W w) => hr.ext hx)
 have HH := Lib.hid (fun (k : Nat) (hk : k < l.length) w => rsrhas_any l[k] a.n w)
 have HA := Lib.hid (fun (k : Nat) (hk : k < l.length) w => rsrat_any l[k] (hs _ (List.getElem_mem hk)) a.n w)
 obtain ⟨R, hRR⟩ : ∃ R, findR l a = R := ⟨_, rfl⟩
 have HB := Lib.hid (fun (hc : checkP a ≠ 0) => (show R = ((0, 0), 2) by rw [← hRR]; unfold findR; rw [if_pos hc]))
 have HF := Lib.hid (fun (hc : checkP a = 0) (k : Nat) (hk : k < l.length) h0 h1 => (findR_first hc hk h0 h1).symm.trans hRR)
 have HN := Lib.hid (fun (hc : checkP a = 0) (h0 : ∀ s ∈ l, s.key = a.key → s.hasR a.n = false) => (findR_none hc h0).symm.trans hRR)
 rw [hRR]
 clear hRR hr hs h
 obtain ⟨q, hq⟩ : ∃ q, checkP a = q := ⟨_, rfl⟩
 rw [hq] at HC HB HF HN
 clear hq
 by_cases hc : q = 0
 rotate_left
 ·have hR2 := Lib.hid (HB.out hc)
  have hqb : (q != 0) = true := by simpa using hc
  clear HF HN HH HA HR HB hc
  rw [adV_eq] at HC ⊢
  obtain ⟨zn, zh, zpre, zname, zsuf, zpost, zunit, zcity, zstate, zzip, zmore⟩ := a
  dsimp only at *
  have X2 := ((Ext.refl W).alloc (.cells #[.int .i64 zn, .bool zh, .string ⟨zpre.toArray⟩, .string ⟨zname.toArray⟩, .string ⟨zsuf.toArray⟩, .string ⟨zpost.toArray⟩, .string ⟨zunit.toArray⟩, .string ⟨zcity.toArray⟩, .string ⟨zstate.toArray⟩, .string ⟨zzip.toArray⟩, .string ⟨zmore.toArray⟩] 45)).alloc (.cells #[.int .i64 0, .int .i64 0] 23)
  have BA := (Blk.new W 45 #[.int .i64 zn, .bool zh, .string ⟨zpre.toArray⟩, .string ⟨zname.toArray⟩, .string ⟨zsuf.toArray⟩, .string ⟨zpost.toArray⟩, .string ⟨zunit.toArray⟩, .string ⟨zcity.toArray⟩, .string ⟨zstate.toArray⟩, .string ⟨zzip.toArray⟩, .string ⟨zmore.toArray⟩]).alloc (.cells #[.int .i64 0, .int .i64 0] 23)
  have BP := Blk.new (W.alloc (.cells #[.int .i64 zn, .bool zh, .string ⟨zpre.toArray⟩, .string ⟨zname.toArray⟩, .string ⟨zsuf.toArray⟩, .string ⟨zpost.toArray⟩, .string ⟨zunit.toArray⟩, .string ⟨zcity.toArray⟩, .string ⟨zstate.toArray⟩, .string ⟨zzip.toArray⟩, .string ⟨zmore.toArray⟩] 45)) 23 #[.int .i64 0, .int .i64 0]
  rw [show (W.alloc (.cells #[.int .i64 zn, .bool zh, .string ⟨zpre.toArray⟩, .string ⟨zname.toArray⟩, .string ⟨zsuf.toArray⟩, .string ⟨zpost.toArray⟩, .string ⟨zunit.toArray⟩, .string ⟨zcity.toArray⟩, .string ⟨zstate.toArray⟩, .string ⟨zzip.toArray⟩, .string ⟨zmore.toArray⟩] 45)).heap.size = W.heap.size + 1 by simp] at BP
  go_enter Tryz.func28, Tryz.ntmps28
  go_upto_region 1 with (fail)
  generalize (W.alloc (.cells #[.int .i64 zn, .bool zh, .string ⟨zpre.toArray⟩, .string ⟨zname.toArray⟩, .string ⟨zsuf.toArray⟩, .string ⟨zpost.toArray⟩, .string ⟨zunit.toArray⟩, .string ⟨zcity.toArray⟩, .string ⟨zstate.toArray⟩, .string ⟨zzip.toArray⟩, .string ⟨zmore.toArray⟩] 45)).alloc (.cells #[.int .i64 0, .int .i64 0] 23) = w0 at *
  have hle : W.heap.size ≤ W.heap.size + 1 := by omega
  obtain ⟨gp, hgp⟩ : ∃ gp, W.heap.size + 1 = gp := ⟨_, rfl⟩
  rw [hgp] at BP hle ⊢
  obtain ⟨ga, hga⟩ : ∃ ga, W.heap.size = ga := ⟨_, rfl⟩
  rw [hga] at BA ⊢
  have hle2 : W.heap.size ≤ gp := hle
  clear hgp hga hle
  replace BA := Lib.hid BA
  replace BP := Lib.hid BP
  have X0 := Lib.hid X2
  clear X2
  obtain ⟨qa, _⟩ := BA.out.cells
  have la := BA.out.lt
  go_wp2_with fail
  refine (HC.out _ X0.out).mono ?_
  rintro e w1 ⟨rfl, hx1⟩
  have BP2 := BP.out.ext hx1
  have BE := Lib.hid (pt_set BP2 (.int .i64 0) (.int .i64 0))
  have XE := Lib.hid (((X0.out.trans hx1).set (p := ⟨gp, 0, none⟩) hle2 (.int .i64 0)).set (p := ⟨gp, 1, none⟩) hle2 (.int .i64 0))
  obtain ⟨p4, p4'⟩ := BP2.cells
  have l4 := BP2.lt
  clear BP2 hx1 qa la
  go_wp2_with fail
  exact bodyPost_ret (results_ct rfl rfl (ld_pt BE.out)) rfl ⟨by rw [hR2.out]; rfl, XE.out⟩
 ·subst hc
  clear HB
  have HE := Lib.hid (fun (w0 wr : World) (k : Nat) (hk : k < l.length) (hx : Ext w0 wr) (hN : ∀ j (h : j < l.length), j < k → ¬ (l[j].key = a.key ∧ l[j].hasR a.n = true)) (h : ((l[k].state == a.state) && (l[k].city == a.city) && (l[k].pre == a.pre) && (l[k].name == a.name) && (l[k].suf == a.suf) && (l[k].post == a.post) && l[k].hasR a.n) = false) W' (hx2 : Ext wr W') => (show RfAt W w0 l a (.int .i64 ((k + 1 : Nat) : Int)) W' from ⟨k + 1, by omega, rfl, fun j hj hjk => by
   by_cases e : j = k
   ·subst e
    intro hh
    rw [(srkey_iff l[j] a _).2 hh] at h
    cases h
   ·exact hN j hj (by omega), hx.trans hx2⟩))
  have HY := Lib.hid (fun (k : Nat) (hk : k < l.length) (hN : ∀ j (h : j < l.length), j < k → ¬ (l[j].key = a.key ∧ l[j].hasR a.n = true)) (h : ((l[k].state == a.state) && (l[k].city == a.city) && (l[k].pre == a.pre) && (l[k].name == a.name) && (l[k].suf == a.suf) && (l[k].post == a.post) && l[k].hasR a.n) = true) => (HF.out rfl k hk hN ((srkey_iff l[k] a _).1 h)))
  have HZ := Lib.hid (fun (hN : ∀ j (h : j < l.length), j < l.length → ¬ (l[j].key = a.key ∧ l[j].hasR a.n = true)) => (HN.out rfl (fun s hs hk => by
   obtain ⟨j, hj, rfl⟩ := List.mem_iff_getElem.1 hs
   cases e : l[j].hasR a.n with
   | false => rfl
   | true => exact absurd ⟨hk, e⟩ (hN j hj hj))))
  clear HF HN
  rw [adV_eq] at HC ⊢
  obtain ⟨zn, hzn⟩ : ∃ z, a.n = z := ⟨_, rfl⟩
  obtain ⟨zh, hzh⟩ : ∃ z, a.half = z := ⟨_, rfl⟩
  obtain ⟨zpre, hzpre⟩ : ∃ z, a.pre = z := ⟨_, rfl⟩
  obtain ⟨zname, hzname⟩ : ∃ z, a.name = z := ⟨_, rfl⟩
  obtain ⟨zsuf, hzsuf⟩ : ∃ z, a.suf = z := ⟨_, rfl⟩
  obtain ⟨zpost, hzpost⟩ : ∃ z, a.post = z := ⟨_, rfl⟩
  obtain ⟨zunit, hzunit⟩ : ∃ z, a.unit = z := ⟨_, rfl⟩
  obtain ⟨zcity, hzcity⟩ : ∃ z, a.city = z := ⟨_, rfl⟩
  obtain ⟨zstate, hzstate⟩ : ∃ z, a.state = z := ⟨_, rfl⟩
  obtain ⟨zzip, hzzip⟩ : ∃ z, a.zip = z := ⟨_, rfl⟩
  obtain ⟨zmore, hzmore⟩ : ∃ z, a.more = z := ⟨_, rfl⟩
  simp only [hzn, hzh, hzpre, hzname, hzsuf, hzpost, hzunit, hzcity, hzstate, hzzip, hzmore] at HC ⊢
  have X2 := ((Ext.refl W).alloc (.cells #[.int .i64 zn, .bool zh, .string ⟨zpre.toArray⟩, .string ⟨zname.toArray⟩, .string ⟨zsuf.toArray⟩, .string ⟨zpost.toArray⟩, .string ⟨zunit.toArray⟩, .string ⟨zcity.toArray⟩, .string ⟨zstate.toArray⟩, .string ⟨zzip.toArray⟩, .string ⟨zmore.toArray⟩] 45)).alloc (.cells #[.int .i64 0, .int .i64 0] 23)
  have BA := (Blk.new W 45 #[.int .i64 zn, .bool zh, .string ⟨zpre.toArray⟩, .string ⟨zname.toArray⟩, .string ⟨zsuf.toArray⟩, .string ⟨zpost.toArray⟩, .string ⟨zunit.toArray⟩, .string ⟨zcity.toArray⟩, .string ⟨zstate.toArray⟩, .string ⟨zzip.toArray⟩, .string ⟨zmore.toArray⟩]).alloc (.cells #[.int .i64 0, .int .i64 0] 23)
  have BP := Blk.new (W.alloc (.cells #[.int .i64 zn, .bool zh, .string ⟨zpre.toArray⟩, .string ⟨zname.toArray⟩, .string ⟨zsuf.toArray⟩, .string ⟨zpost.toArray⟩, .string ⟨zunit.toArray⟩, .string ⟨zcity.toArray⟩, .string ⟨zstate.toArray⟩, .string ⟨zzip.toArray⟩, .string ⟨zmore.toArray⟩] 45)) 23 #[.int .i64 0, .int .i64 0]
  rw [show (W.alloc (.cells #[.int .i64 zn, .bool zh, .string ⟨zpre.toArray⟩, .string ⟨zname.toArray⟩, .string ⟨zsuf.toArray⟩, .string ⟨zpost.toArray⟩, .string ⟨zunit.toArray⟩, .string ⟨zcity.toArray⟩, .string ⟨zstate.toArray⟩, .string ⟨zzip.toArray⟩, .string ⟨zmore.toArray⟩] 45)).heap.size = W.heap.size + 1 by simp] at BP
  go_enter Tryz.func28, Tryz.ntmps28
  go_upto_region 1 with (fail)
  generalize (W.alloc (.cells #[.int .i64 zn, .bool zh, .string ⟨zpre.toArray⟩, .string ⟨zname.toArray⟩, .string ⟨zsuf.toArray⟩, .string ⟨zpost.toArray⟩, .string ⟨zunit.toArray⟩, .string ⟨zcity.toArray⟩, .string ⟨zstate.toArray⟩, .string ⟨zzip.toArray⟩, .string ⟨zmore.toArray⟩] 45)).alloc (.cells #[.int .i64 0, .int .i64 0] 23) = w0 at *
  have hle : W.heap.size ≤ W.heap.size + 1 := by omega
  obtain ⟨gp, hgp⟩ : ∃ gp, W.heap.size + 1 = gp := ⟨_, rfl⟩
  rw [hgp] at BP hle ⊢
  obtain ⟨ga, hga⟩ : ∃ ga, W.heap.size = ga := ⟨_, rfl⟩
  rw [hga] at BA ⊢
  have hle2 : W.heap.size ≤ gp := hle
  clear hgp hga hle
  replace BA := Lib.hid BA
  replace BP := Lib.hid BP
  have X0 := Lib.hid X2
  clear X2
  obtain ⟨qa, _⟩ := BA.out.cells
  have la := BA.out.lt
  go_wp2_with fail
  refine (HC.out _ X0.out).mono ?_
  rintro e w1 ⟨rfl, hx1⟩
  have X1 := Lib.hid (X0.out.trans hx1)
  replace BA := Lib.hid (fun w (hx : Ext w1 w) => BA.out.ext (hx1.trans hx))
  replace BP := Lib.hid (fun w (hx : Ext w1 w) => BP.out.ext (hx1.trans hx))
  clear hx1 qa la X0 HC
  have R0 := Lib.hid (show RfAt W w1 l a (.int .i64 ((0 : Nat) : Int)) w1 from ⟨0, by omega, rfl, fun j _ hj => absurd hj (by omega), Ext.refl _⟩)
  go_wp2_with fail
  go_loopw [6] (fun i wr => RfAt W w1 l a i wr) (fun i _ => l.length - (intOf i).toNat)
  case atStart => exact R0.out
  case round =>
   clear R0
   obtain ⟨k, hk, rfl, hN, hx⟩ := hrel
   by_cases hlt : k < l.length
   ·have hd1 : decide ((k : Int) < (l.length : Int)) = true := decide_eq_true (by omega)
    have kl : (k : Int) < (l.length : Int) := by omega
    have kz : (0 : Int) ≤ (k : Int) := by omega
    obtain ⟨g, off, rfl, hg, c0, c1, c2, c3, c4, c5, c6, c7, c8, c9, c10, c11, c12⟩ := sr_at (HR.out _ (X1.out.trans hx)) hlt
    replace HE := Lib.hid (HE.out w1 wr k hlt hx hN)
    replace HY := Lib.hid (HY.out k hlt hN)
    replace HH := Lib.hid (HH.out k hlt)
    replace HA := Lib.hid (HA.out k hlt)
    replace hx := Lib.hid hx
    clear hN HZ HR
    simp only [srV_eq] at HH HA
    generalize l[k] = x at *
    go_upto_region 7 with (fail)
    have BX := Lib.hid (Blk.new wr 25 #[.string ⟨x.state.toArray⟩, .string ⟨x.city.toArray⟩, .string ⟨x.pre.toArray⟩, .string ⟨x.name.toArray⟩, .string ⟨x.suf.toArray⟩, .string ⟨x.post.toArray⟩, .int .i64 x.fr, .int .i64 x.to_, .int .i64 x.side, .int .i64 x.ax, .int .i64 x.ay, .int .i64 x.bx, .int .i64 x.by_])
    have X2 := Lib.hid ((Ext.refl wr).alloc (.cells #[.string ⟨x.state.toArray⟩, .string ⟨x.city.toArray⟩, .string ⟨x.pre.toArray⟩, .string ⟨x.name.toArray⟩, .string ⟨x.suf.toArray⟩, .string ⟨x.post.toArray⟩, .int .i64 x.fr, .int .i64 x.to_, .int .i64 x.side, .int .i64 x.ax, .int .i64 x.ay, .int .i64 x.bx, .int .i64 x.by_] 25))
    clear c0 c1 c2 c3 c4 c5 c6 c7 c8 c9 c10 c11 c12 hg
    generalize wr.alloc (.cells #[.string ⟨x.state.toArray⟩, .string ⟨x.city.toArray⟩, .string ⟨x.pre.toArray⟩, .string ⟨x.name.toArray⟩, .string ⟨x.suf.toArray⟩, .string ⟨x.post.toArray⟩, .int .i64 x.fr, .int .i64 x.to_, .int .i64 x.side, .int .i64 x.ax, .int .i64 x.ay, .int .i64 x.bx, .int .i64 x.by_] 25) = w2 at *
    generalize wr.heap.size = gx at *
    obtain ⟨qx, _⟩ := BX.out.cells
    have lx := BX.out.lt
    obtain ⟨qa, _⟩ := (BA.out _ (hx.out.trans X2.out)).cells
    have la := (BA.out _ (hx.out.trans X2.out)).lt
    obtain ⟨e0, q0⟩ : ∃ b, (x.state == a.state) = b := ⟨_, rfl⟩
    rw [q0] at HE HY
    obtain ⟨e1, q1⟩ : ∃ b, (x.city == a.city) = b := ⟨_, rfl⟩
    rw [q1] at HE HY
    obtain ⟨e2, q2⟩ : ∃ b, (x.pre == a.pre) = b := ⟨_, rfl⟩
    rw [q2] at HE HY
    obtain ⟨e3, q3⟩ : ∃ b, (x.name == a.name) = b := ⟨_, rfl⟩
    rw [q3] at HE HY
    obtain ⟨e4, q4⟩ : ∃ b, (x.suf == a.suf) = b := ⟨_, rfl⟩
    rw [q4] at HE HY
    obtain ⟨e5, q5⟩ : ∃ b, (x.post == a.post) = b := ⟨_, rfl⟩
    rw [q5] at HE HY
    rw [hzstate] at q0
    rw [hzcity] at q1
    rw [hzpre] at q2
    rw [hzname] at q3
    rw [hzsuf] at q4
    rw [hzpost] at q5
    cases e0 with
    | false =>
     have hE := Lib.hid (HE.out (by simp) _ X2.out)
     clear HE HY HH HA
     go_wp2_with fail
     go_roundw
     case rel => first | exact hE.out | (repeat (with_reducible apply Exists.intro); exact ⟨hE.out, rfl⟩)
     case measure => simp [intOf]; omega
    | true =>
     cases e1 with
     | false =>
      have hE := Lib.hid (HE.out (by simp) _ X2.out)
      clear HE HY HH HA
      go_wp2_with fail
      go_roundw
      case rel => first | exact hE.out | (repeat (with_reducible apply Exists.intro); exact ⟨hE.out, rfl⟩)
      case measure => simp [intOf]; omega
     | true =>
      cases e2 with
      | false =>
       have hE := Lib.hid (HE.out (by simp) _ X2.out)
       clear HE HY HH HA
       go_wp2_with fail
       go_roundw
       case rel => first | exact hE.out | (repeat (with_reducible apply Exists.intro); exact ⟨hE.out, rfl⟩)
       case measure => simp [intOf]; omega
      | true =>
       cases e3 with
       | false =>
        have hE := Lib.hid (HE.out (by simp) _ X2.out)
        clear HE HY HH HA
        go_wp2_with fail
        go_roundw
        case rel => first | exact hE.out | (repeat (with_reducible apply Exists.intro); exact ⟨hE.out, rfl⟩)
        case measure => simp [intOf]; omega
       | true =>
        cases e4 with
        | false =>
         have hE := Lib.hid (HE.out (by simp) _ X2.out)
         clear HE HY HH HA
         go_wp2_with fail
         go_roundw
         case rel => first | exact hE.out | (repeat (with_reducible apply Exists.intro); exact ⟨hE.out, rfl⟩)
         case measure => simp [intOf]; omega
        | true =>
         cases e5 with
         | false =>
          have hE := Lib.hid (HE.out (by simp) _ X2.out)
          clear HE HY HH HA
          go_wp2_with fail
          go_roundw
          case rel => first | exact hE.out | (repeat (with_reducible apply Exists.intro); exact ⟨hE.out, rfl⟩)
          case measure => simp [intOf]; omega
         | true =>
          obtain ⟨b, hb⟩ : ∃ b, x.hasR zn = b := ⟨_, rfl⟩
          rw [hzn] at HH HA HE HY
          rw [hb] at HE HY HH
          simp only [Bool.and_self, Bool.true_and] at HE HY
          clear hb
          go_wp2_with fail
          refine (HH.out _).mono ?_
          rintro e w3 ⟨rfl, hx3⟩
          have X3 := Lib.hid (X2.out.trans hx3)
          replace BX := Lib.hid (BX.out.ext hx3)
          clear hx3 X2 qx lx qa la HH q0 q1 q2 q3 q4 q5
          cases b with
          | false =>
           have hE := Lib.hid (HE.out rfl _ X3.out)
           clear HE HY HA
           go_wp2_with fail
           go_roundw
           case rel => first | exact hE.out | (repeat (with_reducible apply Exists.intro); exact ⟨hE.out, rfl⟩)
           case measure => simp [intOf]; omega
          | true =>
           have hR2 := HY.out rfl
           clear HE HY
           obtain ⟨r, hra⟩ : ∃ r, x.at_ zn = r := ⟨_, rfl⟩
           rw [hra] at hR2 HA
           clear hra
           obtain ⟨⟨px, py⟩, bb⟩ := r
           unfold ptV at HA
           dsimp only at HA hR2
           replace hR2 := Lib.hid hR2
           obtain ⟨qx, _⟩ := BX.out.cells
           have lx := BX.out.lt
           obtain ⟨qa, _⟩ := (BA.out _ (hx.out.trans X3.out)).cells
           have la := (BA.out _ (hx.out.trans X3.out)).lt
           go_wp2_with fail
           refine (HA.out _).mono ?_
           rintro e w4 ⟨rfl, hx4⟩
           have Y4 := X3.out.trans hx4
           have BN := Blk.new w4 23 #[.int .i64 px, .int .i64 py]
           have X4 := Lib.hid (Y4.alloc (.cells #[.int .i64 px, .int .i64 py] 23))
           have BPr := (BP.out _ (hx.out.trans Y4)).alloc (.cells #[.int .i64 px, .int .i64 py] 23)
           have hgne : gp < w4.heap.size := (BP.out _ (hx.out.trans Y4)).lt
           clear hx4 X3 qx lx qa la HA Y4 BX
           go_upto_region 9 with (fail)
           generalize w4.alloc (.cells #[.int .i64 px, .int .i64 py] 23) = w5 at *
           have hne : w4.heap.size ≠ gp := by omega
           generalize w4.heap.size = g8 at *
           have BE := Lib.hid (pt_set BPr (.int .i64 px) (.int .i64 py))
           have XE := Lib.hid (((X1.out.trans (hx.out.trans X4.out)).set (p := ⟨gp, 0, none⟩) hle2 (.int .i64 px)).set (p := ⟨gp, 1, none⟩) hle2 (.int .i64 py))
           obtain ⟨p4, p4'⟩ := BPr.cells
           have l4 := BPr.lt
           obtain ⟨r4, _⟩ := BN.cells
           have l8 := BN.lt
           clear BN BPr hgne
           go_wp2_with fail
           exact bodyPost_ret (results_ct rfl rfl (ld_pt BE.out)) rfl ⟨by rw [← hR2.out]; rfl, XE.out⟩
   ·obtain rfl : k = l.length := by omega
    have hd1 : decide ((l.length : Int) < (l.length : Int)) = false := by simp
    have hR2 := Lib.hid (HZ.out hN)
    have BPr := BP.out _ hx
    have BE := Lib.hid (pt_set BPr (.int .i64 0) (.int .i64 0))
    have XE := Lib.hid (((X1.out.trans hx).set (p := ⟨gp, 0, none⟩) hle2 (.int .i64 0)).set (p := ⟨gp, 1, none⟩) hle2 (.int .i64 0))
    obtain ⟨p4, p4'⟩ := BPr.cells
    have l4 := BPr.lt
    clear hN hx HE HY HZ HH HA HR BPr
    go_wp2_with fail
    exact bodyPost_ret (results_ct rfl rfl (ld_pt BE.out)) rfl ⟨by rw [← hR2.out]; rfl, XE.out⟩
end Go.Proofs.YtjaponmpfdpemaaGreatDoor
set_option linter.unusedSimpArgs false
set_option linter.unusedVariables false
namespace Go.Proofs.YtjaponmpfdpemaaGreatDoor
open Go
section
variable {P : Program} {ops : Array Oper} {Q : Exit → Act → World → Prop} {md : Region.Mode} {S : World → Prop}
def PutsAs (o : Oper) (u v : Value) : Prop := o.dst = none ∨ u = v
theorem PutsAs.put {o : Oper} {u v : Value} (h : PutsAs o u v) (a : Act) : a.put o.dst u = a.put o.dst v := by
 rcases h with h | rfl
 ·rw [h]; rfl
 ·rfl
def Steady (P : Program) (ops : Array Oper) (S : World → Prop) (o : Oper) (v : Value) (a : Act) : Prop :=
 (Region.wanted o (yielded ops a.tmps) = true ∧ ∀ w, S w → (∃ u w', (execOp a.eval o).run P w = .ok (.value u) w' ∧ PutsAs o u v ∧ S w') ∨
  (∃ f args w1, (execOp a.eval o).run P w = .ok (.enter f args) w1 ∧ Calls P f args w1 (fun e w' => ∃ u, e = .returned u ∧ PutsAs o u v ∧ S w')) ∨
  (∃ w', (execOp a.eval o).run P w = .ok .skip w' ∧ PutsAs o undef v ∧ S w') ∨
  (∃ row args w1, (execOp a.eval o).run P w = .ok (.row row args) w1 ∧ Rows P row args w1 (fun u w' => PutsAs o u v ∧ S w'))) ∨
 (Region.wanted o (yielded ops a.tmps) = false ∧ v = undef)
theorem Steady.of_same {o : Oper} {v : Value} {a a' : Act} (hy : Steady P ops S o v a) (he : execOp a'.eval o = execOp a.eval o)
  (hw : Region.wanted o (yielded ops a'.tmps) = Region.wanted o (yielded ops a.tmps)) : Steady P ops S o v a' := by
 unfold Steady at *
 rw [he, hw]
 exact hy
theorem Steady.of_yields {o : Oper} {v : Value} {a : Act} (h : YieldsIf P ops S o v a) : Steady P ops S o v a :=
 h.imp (fun ⟨hw, hv⟩ => ⟨hw, fun w hS => .inl ⟨v, w, hv w hS, .inr rfl, hS⟩⟩) id
theorem Steady.of_wp {o : Oper} {v : Value} {a : Act} (hw : Region.wanted o (yielded ops a.tmps) = true) (hd : (match o.dst with | none => true | some d => decide (d < a.tmps.size)) = true)
  (h : ∀ w, S w → ∀ K : Act → World → Prop, (∀ w', S w' → K (a.put o.dst v) w') → Oper.wp P o a w K (fun _ _ _ => False)) : Steady P ops S o v a := by
 have hput : ∀ u, a.put o.dst u = a.put o.dst v → PutsAs o u v := fun u hu => by
  unfold PutsAs
  cases hdd : o.dst with
  | none => exact .inl rfl
  | some d =>
   right
   rw [hdd] at hd hu
   have hlt : d < a.tmps.size := of_decide_eq_true hd
   have h1 := congrArg (fun b : Act => b.tmps[d]?) hu
   simpa [Act.put, hlt] using h1
 refine .inl ⟨hw, fun w hS => ?_⟩
 have h1 := h w hS (fun a' w' => a' = a.put o.dst v ∧ S w') (fun w' hS' => ⟨rfl, hS'⟩)
 unfold Oper.wp at h1
 generalize hr : (execOp a.eval o).run P w = r at *
 cases r with
 | ok n w' =>
  cases n <;> simp only [Oper.upon] at h1
  case value u => exact .inl ⟨u, w', rfl, hput u h1.1, h1.2⟩
  case skip => exact .inr (.inr (.inl ⟨w', rfl, hput _ h1.1, h1.2⟩))
  case defer d =>
   have h2 := congrArg (fun b : Act => b.defers.length) h1.1
   cases hdd : o.dst <;> simp [hdd, Act.put] at h2
  case enter f args =>
   refine .inr (.inl ⟨f, args, w', rfl, Calls.mono h1 fun e w'' he => ?_⟩)
   cases e with
   | returned u => exact ⟨u, rfl, hput u he.1, he.2⟩
   | panicked c => exact absurd he id
   | outgrown => obtain ⟨_, _, h2⟩ := he; exact absurd h2 id
  case row row args => exact .inr (.inr (.inr ⟨row, args, w', rfl, Rows.mono h1 fun u w'' he => ⟨hput u he.1, he.2⟩⟩))
 | halt x w' => cases x <;> simp only [Oper.upon] at h1
theorem Steady.wpOp {i : Nat} {o : Oper} {v : Value} {a : Act} (hi : ops[i]? = some o) (hy : Steady P ops S o v a)
  {K : Act → World → Prop} {w : World} (hS : S w) (h : ∀ w', S w' → K (a.put o.dst v) w') : wpOp P ops Q i K a w := by
 unfold Go.wpOp
 simp only [hi]
 rcases hy with ⟨hw, hv⟩ | ⟨hw, rfl⟩
 ·simp only [hw, if_true]
  left
  unfold Oper.wp
  rcases hv w hS with ⟨u, w', hr, hp, hS'⟩ | ⟨f, args, w1, hr, hc⟩ | ⟨w', hr, hp, hS'⟩ | ⟨row, args, w1, hr, hc⟩
  ·rw [hr]
   show K (a.put o.dst u) w'
   rw [hp.put a]
   exact h w' hS'
  ·rw [hr]
   refine Calls.mono hc fun e w'' ⟨u, he, hp, hS'⟩ => ?_
   subst he
   show K (a.put o.dst u) w''
   rw [hp.put a]
   exact h w'' hS'
  ·rw [hr]
   show K (a.put o.dst undef) w'
   rw [hp.put a]
   exact h w' hS'
  ·rw [hr]
   refine Rows.mono hc fun u w'' ⟨hp, hS'⟩ => ?_
   show K (a.put o.dst u) w''
   rw [hp.put a]
   exact h w'' hS'
 ·simp only [hw, Bool.false_eq_true, if_false]
  exact h w hS
inductive Conf (P : Program) (md : Region.Mode) (ops : Array Oper) (Q : Exit → Act → World → Prop) (S : World → Prop) : Nat → Array Bool → Act → Prop
 | done {fuel : Nat} {listed : Array Bool} {a : Act} : Region.ready md ops listed = [] → (∀ w, S w → Q .normal a w) → Conf P md ops Q S fuel listed a
 | take {fuel : Nat} {listed : Array Bool} {a : Act} {i : Nat} {oi : Oper} {v : Value} : ops[i]? = some oi →
  (∀ j oj, ops[j]? = some oj → j ≠ i → listed.getD j true = false → (∀ e ∈ oj.after, Region.binds md e = true → e.on ≠ i) → oi.apart ops oj = true) →
  i ∈ Region.ready md ops listed → Steady P ops S oi v a → Conf P md ops Q S fuel (listed.setIfInBounds i true) (a.put oi.dst v) → Conf P md ops Q S (fuel + 1) listed a
theorem Conf.step (hsel : ∀ (j : Nat) (o : Oper) cs b, ops[j]? = some o → o.op ≠ .select cs b) {fuel : Nat} {listed : Array Bool} {a : Act} (h : Conf P md ops Q S fuel listed a) :
  ∀ j ∈ Region.ready md ops listed, ∃ oj v f', ops[j]? = some oj ∧ fuel = f' + 1 ∧ Steady P ops S oj v a ∧ Conf P md ops Q S f' (listed.setIfInBounds j true) (a.put oj.dst v) := by
 induction h with
 | done hr _ => intro j hj; rw [hr] at hj; cases hj
 | @take fuel listed a i oi v hi hfree hr hy hC ih =>
  intro j hj
  by_cases hji : j = i
  ·subst hji; exact ⟨oi, v, fuel, hi, rfl, hy, hC⟩
  ·obtain ⟨oj, vj, f', hoj, rfl, hyj, hCj⟩ := ih j (ready_mono hj hji)
   obtain ⟨hjun, oj', hoj', hall⟩ := mem_ready.1 hj
   have : oj' = oj := by rw [hoj] at hoj'; exact (Option.some.inj hoj').symm
   subst this
   have hnot : ∀ e ∈ oj'.after, Region.binds md e = true → e.on ≠ i := fun e he hb heq => by
    have h1 := hall e he hb
    have h0 := (mem_ready.1 hr).1
    rw [heq] at h1
    rcases Nat.lt_or_ge i listed.size with h' | h'
    ·simp [h'] at h0 h1; rw [h0] at h1; cases h1
    ·simp [Array.getElem?_eq_none h'] at h1
   obtain ⟨h1, h2, h3⟩ := Oper.apart_spec (hfree j oj' hoj hji hjun hnot)
   have hfree' : ∀ k ok, ops[k]? = some ok → k ≠ i → (listed.setIfInBounds j true).getD k true = false →
     (∀ e ∈ ok.after, Region.binds md e = true → e.on ≠ i) → oi.apart ops ok = true := fun k ok hk hki hun hno => by
    refine hfree k ok hk hki ?_ hno
    by_cases hjk : j = k
    ·subst hjk; exact hjun
    ·rw [getD_set_ne true hjk] at hun; exact hun
   refine ⟨oj', vj, f' + 1, hoj, rfl, ?_, ?_⟩
   ·exact hyj.of_same (execOp_put oj' (fun cs b => hsel j oj' cs b hoj) a oi.dst v h1).symm (wanted_put oj' a oi.dst v h1).symm
   ·refine Conf.take hi hfree' (ready_mono hr (Ne.symm hji)) (hy.of_same (execOp_put oi (fun cs b => hsel i oi cs b hi) a oj'.dst vj h3) (wanted_put oi a oj'.dst vj h3)) ?_
    rw [Array.setIfInBounds_comm _ _ hji, ← Act.put_comm a v vj h2]
    exact hCj
theorem Conf.sound (hsel : ∀ (j : Nat) (o : Oper) cs b, ops[j]? = some o → o.op ≠ .select cs b) : ∀ (fuel : Nat) (listed : Array Bool) (a : Act), Conf P md ops Q S fuel listed a → ∀ w, S w → wpAny P md ops Q fuel listed a w
 | 0, listed, a, h, w, hS => by
  cases h with
  | done hr hq => exact ⟨hr, hq w hS⟩
 | fuel + 1, listed, a, h, w, hS => by
  refine ⟨fun h0 => ?_, fun j hj => ?_⟩
  ·cases h with
   | done hr hq => exact hq w hS
   | take hi hfree hr hy hC => rw [h0] at hr; cases hr
  ·obtain ⟨oj, v, f', hoj, hf, hy, hC⟩ := h.step hsel j hj
   obtain rfl : fuel = f' := by omega
   exact hy.wpOp hoj hS (fun w' hS' => Conf.sound hsel fuel _ _ hC w' hS')
theorem Conf.next {i : Nat} {oi : Oper} {v : Value} {fuel : Nat} {listed : Array Bool} {a : Act} (hi : ops[i]? = some oi) (hf : Region.free md ops listed i = true) (hr : (Region.ready md ops listed).contains i = true)
  (hy : Steady P ops S oi v a) (h : Conf P md ops Q S fuel (listed.setIfInBounds i true) (a.put oi.dst v)) : Conf P md ops Q S (fuel + 1) listed a :=
 Conf.take hi (Region.free_spec hi hf) (by simpa using hr) hy h
theorem region_conf (S : World → Prop) {id : Nat} {a : Act} {w : World} (hm : P.follows .mixedOrders = true) (hs : Region.noSelect ops = true) (hS : S w.drew)
  (h : Conf P .any ops Q S ops.size (Array.replicate ops.size false) a) : (Code.region id ops true).wp P Q a w :=
 wp_region_any hm (Conf.sound (Region.noSelect_spec hs) _ _ _ h w.drew hS)
end
end Go.Proofs.YtjaponmpfdpemaaGreatDoor
set_option linter.unusedSimpArgs false
set_option linter.unusedVariables false
namespace Go.Proofs.YtjaponmpfdpemaaGreatDoor
open Go
theorem nrm : (∀ (l : List Value) (i : Nat) (a : Value), l.toArray.setIfInBounds i a = (l.set i a).toArray) ∧ (∀ (x a : Value) (xs : List Value), (x :: xs).set 0 a = a :: xs) ∧ (∀ (x a : Value) (n : Nat) (xs : List Value), (x :: xs).set (n + 1) a = x :: xs.set n a) :=
 ⟨fun l i a => List.setIfInBounds_toArray l i a, fun _ _ _ => rfl, fun _ _ _ _ => rfl⟩
section
variable {P : Program} {ops : Array Oper} {Q : Exit → Act → World → Prop} {md : Region.Mode} {S : World → Prop}
theorem Conf.nextD {i : Nat} {oi : Oper} {v : Value} {dst : Option Tmp} {fuel : Nat} {listed : Array Bool} {a : Act} (hi : ops[i]? = some oi) (hd : oi.dst = dst) (hf : Region.free md ops listed i = true) (hr : (Region.ready md ops listed).contains i = true)
  (hy : Steady P ops S oi v a) (h : Conf P md ops Q S fuel (listed.setIfInBounds i true) (a.put dst v)) : Conf P md ops Q S (fuel + 1) listed a := by
 subst hd
 exact Conf.next hi hf hr hy h
def dstOk (d : Option Tmp) (n : Nat) : Bool := match d with
 | none => true
 | some d => decide (d < n)
theorem Steady.of_wpD {o : Oper} {v : Value} {dst : Option Tmp} {a : Act} (hw : Region.wanted o (yielded ops a.tmps) = true) (ho : o.dst = dst) (hd : dstOk dst a.tmps.size = true)
  (h : ∀ w, S w → ∀ K : Act → World → Prop, (∀ w', S w' → K (a.put dst v) w') → Oper.wp P o a w K (fun _ _ _ => False)) : Steady P ops S o v a := by
 subst ho
 refine Steady.of_wp hw ?_ h
 unfold dstOk at hd
 split at hd <;> rename_i e <;> first | exact hd | (rw [e]; exact hd) | (rw [e]; done) | simp_all
theorem Conf.y {fuel : Nat} {listed : Array Bool} {a : Act} {oi : Oper} (i : Nat) (dst : Option Tmp) (v : Value) (hi : ops[i]? = some oi) (hg : ∀ w, S w → (execOp a.eval oi).run P w = .ok (.value v) w)
  (h : Conf P md ops Q S fuel (listed.setIfInBounds i true) (a.put dst v)) (hd : oi.dst = dst := by rfl) (hf : Region.free md ops listed i = true := by kernel_rfl) (hr : (Region.ready md ops listed).contains i = true := by kernel_rfl)
  (hw : Region.wanted oi (yielded ops a.tmps) = true := by rfl) : Conf P md ops Q S (fuel + 1) listed a :=
 Conf.nextD hi hd hf hr (Steady.of_yields (Or.inl ⟨hw, hg⟩)) h
end
end Go.Proofs.YtjaponmpfdpemaaGreatDoor
