/-
  addr: Parse, of four parts (printed by tools/genYy.py).
-/
import Derived.Test.YtjaponmpfdpemaaGreatDoorBb25
set_option linter.unusedSimpArgs false
set_option linter.unusedVariables false
namespace Go.Proofs.YtjaponmpfdpemaaGreatDoor
open Go.RowKit
set_option maxRecDepth 100000 in
set_option maxHeartbeats 4000000 in
theorem parse_3 (s : Bs) (hs : s.length ≤ 100000) (W : World) (hS : Std W)  (hf0 : (tokensP s).2.1 = 0) {p0 p1 p2 p3 : List Tok} (hps : partsP (tokensP s).1 = [p0, p1, p2, p3]) : Calls Tryz.prog 56 #[.string ⟨s.toArray⟩] W (PsR W (parseP s)) := by
 have hmf : ∀ (fn : Fn) (first cap : Array Value) (w : World), (Instr.makeFunc fn first cap).run Tryz.prog w = .ok (.func fn first cap) w := fun _ _ _ _ => rfl
 have HS := Lib.hid (fun w' (hx : Ext W w') => hS.ext hx)
 have HT := Lib.hid (fun w => tokens_any s w hs)
 have hsm := Lib.hid (tokensP_sm s)
 have h40 := (tokensP_ok s).l40
 have hfa : (tokensP s).2.1 = 0 → (tokensP s).2.2 = 0 := fun h => by rw [(tokensP_zero h).2.1]
 obtain ⟨r, hr⟩ : ∃ r, parseP s = r := ⟨_, rfl⟩
 have hP : parseP s = if (tokensP s).2.1 ≠ 0 then (Ad.zero, (tokensP s).2) else parsePts (partsP (tokensP s).1) ((partsP (tokensP s).1).length - 1) := rfl
 rw [hr] at hP ⊢
 replace hr := Lib.hid hr
 clear hS hs
 generalize tokensP s = tk at *
 obtain ⟨l, fe, fa⟩ := tk
 dsimp only at *
 subst hf0
 obtain rfl : fa = 0 := hfa rfl
 clear hfa
 rw [if_neg (by simp), hps] at hP
 have hsp := parts_sm hsm.out
 have hl100 : ∀ p ∈ partsP l, p.length ≤ 100 := fun p hp => by
  have h1 := parts_total l
  have h2 : p.length ≤ ((partsP l).map List.length).sum := le_sum_mem (List.mem_map.2 ⟨p, hp, rfl⟩)
  omega
 rw [hps] at hsp hl100
 have hPS := Lib.hid (fun p hp => (show p.length ≤ 100 ∧ ∀ t ∈ p, t.t.length ≤ 300 from ⟨hl100 p hp, hsp p hp⟩))
 clear hsp hl100
 replace hP := Lib.hid (show r = parsePts [p0, p1, p2, p3] 3 from hP)
 go_enter_defers Tryz.func56, Tryz.ntmps56
 go_wp2_with fail
 refine (HT.out _).mono ?_
 rintro e w1 ⟨v, rfl, hown, hx1⟩
 have S1 : PsAt W w1 W.heap.size (W.heap.size + 1) Ad.zero := by
  have X := ((Ext.refl W).alloc (.cells (adC Ad.zero) 45)).alloc (.cells #[.int .i64 0, .int .i64 0] 36)
  have B1 := Blk.new (W.alloc (.cells (adC Ad.zero) 45)) 36 #[.int .i64 0, .int .i64 0]
  rw [show (W.alloc (.cells (adC Ad.zero) 45)).heap.size = W.heap.size + 1 by simp] at B1
  exact ⟨X.trans hx1, ((Blk.new W _ _).alloc _).ext hx1, ⟨_, _, B1.ext hx1⟩, Nat.le_refl _, by omega⟩
 have hsz : (W.alloc (.cells (adC Ad.zero) 45)).heap.size = W.heap.size + 1 := by simp
 have hb0 : W.heap.size ≤ (((W.alloc (.cells (adC Ad.zero) 45)).alloc (.cells #[.int .i64 0, .int .i64 0] 36))).heap.size := by simp; omega
 have hown2 := own_base hown hb0
 clear hown hx1 hsz hb0 HT
 generalize hga : W.heap.size = ga at *
 generalize ga + 1 = gf at *
 obtain ⟨A, cap, rfl, hc1, hc2, hrd⟩ := own_slice hown2
 obtain ⟨x0, y0, hf0⟩ := S1.f
 have F1 := fault_set hf0 (.int .i64 0) (.int .i64 0)
 have T1 : TokS ((w1.setCell ⟨gf, 0, none⟩ (.int .i64 0)).setCell ⟨gf, 1, none⟩ (.int .i64 0)) A l.length cap l := by
  have h2 := own_set (own_set hown2 (a := ⟨gf, 0, none⟩) (own_blk_ne hown2 hf0 (by decide)) (.int .i64 0)) (a := ⟨gf, 1, none⟩) (own_blk_ne hown2 hf0 (by decide)) (.int .i64 0)
  obtain ⟨_, _, e, _, _, hrd2⟩ := own_slice h2
  injection e with e1 _ _
  subst e1
  exact ⟨rfl, hrd2, hc1, hc2, by omega, hsm.out⟩
 have S2 : PsAt W ((w1.setCell ⟨gf, 0, none⟩ (.int .i64 0)).setCell ⟨gf, 1, none⟩ (.int .i64 0)) ga gf Ad.zero :=
  ⟨(S1.ext.set (p := ⟨gf, 0, none⟩) S1.lf _).set (p := ⟨gf, 1, none⟩) S1.lf _, (S1.a.far (p := ⟨gf, 0, none⟩) S1.ne _).far (p := ⟨gf, 1, none⟩) S1.ne _, ⟨_, _, F1⟩, S1.la, S1.lf⟩
 replace hga := Lib.hid hga
 obtain ⟨q0, q1⟩ := hf0.cells
 have lf := hf0.lt
 clear S1 hown2 hrd hf0
 go_upto_region 4 with (fail)
 clear q0 q1 lf
 generalize (w1.setCell ⟨gf, 0, none⟩ (.int .i64 0)).setCell ⟨gf, 1, none⟩ (.int .i64 0) = w2 at *
 obtain ⟨q0, q1⟩ := F1.cells
 have lf := F1.lt
 go_wp2_with fail
 refine (parts_any l A l.length cap w2 T1).mono ?_
 rintro e w3 ⟨v, es, rfl, HPa⟩
 rw [hps] at HPa
 have S3 := S2.to HPa.ext
 have hlen : es.length = 4 := HPa.len
 obtain ⟨gO, cO, hv, hcO, _⟩ := own_some HPa.row (by omega)
 have hrow := HPa.row
 rw [hv] at hrow
 have HC : PcAt W w3 ga gf Ad.zero gO cO es [p0, p1, p2, p3] := ⟨S3, own_base hrow (Nat.zero_le _), HPa.len, fun i h h' => HPa.toks hPS.out h h', F1.ext HPa.ext⟩
 rw [hlen] at hv hcO
 subst hv
 clear S2 T1 F1 HPa q0 q1 lf hps h40 hsm hc1 hc2
 obtain ⟨A0, c0, h0, _⟩ := HC.tk 0 (by omega) (by simp)
 replace h0 : es[0] = .slice A0 p0.length c0 := h0
 obtain ⟨k0, T0⟩ := HC.at_ (p := p0) (by omega) (by simp) h0 rfl
 have l0 := T0.l40
 have m0 := T0.le
 obtain ⟨A1, c1, h1, _⟩ := HC.tk 1 (by omega) (by simp)
 replace h1 : es[1] = .slice A1 p1.length c1 := h1
 obtain ⟨k1, T1⟩ := HC.at_ (p := p1) (by omega) (by simp) h1 rfl
 have l1 := T1.l40
 have m1 := T1.le
 obtain ⟨A2, c2, h2, _⟩ := HC.tk 2 (by omega) (by simp)
 replace h2 : es[2] = .slice A2 p2.length c2 := h2
 obtain ⟨k2, T2⟩ := HC.at_ (p := p2) (by omega) (by simp) h2 rfl
 have l2 := T2.l40
 have m2 := T2.le
 obtain ⟨A3, c3, h3, _⟩ := HC.tk 3 (by omega) (by simp)
 replace h3 : es[3] = .slice A3 p3.length c3 := h3
 obtain ⟨k3, T3⟩ := HC.at_ (p := p3) (by omega) (by simp) h3 rfl
 have l3 := T3.l40
 have m3 := T3.le
 have lO := (HC.cell (k := 0) (by omega)).2
 replace HC := Lib.hid HC
 have S3' := Lib.hid S3
 have HE3 := Lib.hid (show es[0] = .slice A0 p0.length c0 ∧ es[1] = .slice A1 p1.length c1 ∧ es[2] = .slice A2 p2.length c2 ∧ es[3] = .slice A3 p3.length c3 from ⟨h0, h1, h2, h3⟩)
 clear S3 hrow h0 h1 h2 h3 T0 T1 T2 T3
 replace hlen := Lib.hid hlen
 go_wp2_with fail
 refine (must_so 270 0 _).mono ?_
 rintro e w4 ⟨rfl, rfl⟩
 go_wp2_with fail
 go_loopw [47] (fun i wr => LpRel w4 [p0, p1, p2, p3] i wr) (fun i _ => 4 - (intOf i).toNat)
 case atStart => exact ⟨0, Nat.zero_le _, rfl, rfl, fun j _ h => absurd h (by omega)⟩
 case round =>
  obtain ⟨k, hk, rfl, rfl, hne⟩ := hrel
  replace hk : k ≤ 4 := hk
  rcases (show k = 0 ∨ k = 1 ∨ k = 2 ∨ k = 3 ∨ k = 4 by omega) with rfl | rfl | rfl | rfl | rfl
  ·have kl : ((0 : Nat) : Int) < 4 := by decide
   by_cases hz : 0 < p0.length
   ·have hd : decide ((0 : Int) < (p0.length : Int)) = true := decide_eq_true (by omega)
    have hd' : decide (0 < p0.length) = true := decide_eq_true (by omega)
    have HE := Lib.hid (show LpRel wr [p0, p1, p2, p3] (.int .i64 1) wr from ⟨1, by simp, rfl, rfl, fun j h hj => by
     by_cases e : j = 0
     ·subst e; exact hz
     ·exact hne j h (by omega)⟩)
    clear hne
    go_wp2_with fail
    refine (must_so 270 0 _).mono ?_
    rintro e w5 ⟨rfl, rfl⟩
    go_wp2_with fail
    exact ⟨HE.out, by simp [intOf]⟩
   ·have hd : decide ((0 : Int) < (p0.length : Int)) = false := decide_eq_false (by omega)
    have hd' : decide (0 < p0.length) = false := decide_eq_false (by omega)
    have hQ := Lib.hid (hP.out.trans (pts_none (ps := [p0, p1, p2, p3]) (i := 0) (by simp) (List.eq_nil_of_length_eq_zero (by show p0.length = 0; omega))))
    clear hne hz
    go_wp2_with fail
    refine (must_not 270 0 _).mono ?_
    rintro e w5 ⟨rfl, rfl⟩
    go_wp2_with fail
    exact S3'.out.fail 270 0 (by decide) r hQ.out rfl rfl
  ·have kl : ((1 : Nat) : Int) < 4 := by decide
   by_cases hz : 0 < p1.length
   ·have hd : decide ((0 : Int) < (p1.length : Int)) = true := decide_eq_true (by omega)
    have hd' : decide (0 < p1.length) = true := decide_eq_true (by omega)
    have HE := Lib.hid (show LpRel wr [p0, p1, p2, p3] (.int .i64 2) wr from ⟨2, by simp, rfl, rfl, fun j h hj => by
     by_cases e : j = 1
     ·subst e; exact hz
     ·exact hne j h (by omega)⟩)
    clear hne
    go_wp2_with fail
    refine (must_so 270 0 _).mono ?_
    rintro e w5 ⟨rfl, rfl⟩
    go_wp2_with fail
    exact ⟨HE.out, by simp [intOf]⟩
   ·have hd : decide ((0 : Int) < (p1.length : Int)) = false := decide_eq_false (by omega)
    have hd' : decide (0 < p1.length) = false := decide_eq_false (by omega)
    have hQ := Lib.hid (hP.out.trans (pts_none (ps := [p0, p1, p2, p3]) (i := 1) (by simp) (List.eq_nil_of_length_eq_zero (by show p1.length = 0; omega))))
    clear hne hz
    go_wp2_with fail
    refine (must_not 270 0 _).mono ?_
    rintro e w5 ⟨rfl, rfl⟩
    go_wp2_with fail
    exact S3'.out.fail 270 0 (by decide) r hQ.out rfl rfl
  ·have kl : ((2 : Nat) : Int) < 4 := by decide
   by_cases hz : 0 < p2.length
   ·have hd : decide ((0 : Int) < (p2.length : Int)) = true := decide_eq_true (by omega)
    have hd' : decide (0 < p2.length) = true := decide_eq_true (by omega)
    have HE := Lib.hid (show LpRel wr [p0, p1, p2, p3] (.int .i64 3) wr from ⟨3, by simp, rfl, rfl, fun j h hj => by
     by_cases e : j = 2
     ·subst e; exact hz
     ·exact hne j h (by omega)⟩)
    clear hne
    go_wp2_with fail
    refine (must_so 270 0 _).mono ?_
    rintro e w5 ⟨rfl, rfl⟩
    go_wp2_with fail
    exact ⟨HE.out, by simp [intOf]⟩
   ·have hd : decide ((0 : Int) < (p2.length : Int)) = false := decide_eq_false (by omega)
    have hd' : decide (0 < p2.length) = false := decide_eq_false (by omega)
    have hQ := Lib.hid (hP.out.trans (pts_none (ps := [p0, p1, p2, p3]) (i := 2) (by simp) (List.eq_nil_of_length_eq_zero (by show p2.length = 0; omega))))
    clear hne hz
    go_wp2_with fail
    refine (must_not 270 0 _).mono ?_
    rintro e w5 ⟨rfl, rfl⟩
    go_wp2_with fail
    exact S3'.out.fail 270 0 (by decide) r hQ.out rfl rfl
  ·have kl : ((3 : Nat) : Int) < 4 := by decide
   by_cases hz : 0 < p3.length
   ·have hd : decide ((0 : Int) < (p3.length : Int)) = true := decide_eq_true (by omega)
    have hd' : decide (0 < p3.length) = true := decide_eq_true (by omega)
    have HE := Lib.hid (show LpRel wr [p0, p1, p2, p3] (.int .i64 4) wr from ⟨4, by simp, rfl, rfl, fun j h hj => by
     by_cases e : j = 3
     ·subst e; exact hz
     ·exact hne j h (by omega)⟩)
    clear hne
    go_wp2_with fail
    refine (must_so 270 0 _).mono ?_
    rintro e w5 ⟨rfl, rfl⟩
    go_wp2_with fail
    exact ⟨HE.out, by simp [intOf]⟩
   ·have hd : decide ((0 : Int) < (p3.length : Int)) = false := decide_eq_false (by omega)
    have hd' : decide (0 < p3.length) = false := decide_eq_false (by omega)
    have hQ := Lib.hid (hP.out.trans (pts_none (ps := [p0, p1, p2, p3]) (i := 3) (by simp) (List.eq_nil_of_length_eq_zero (by show p3.length = 0; omega))))
    clear hne hz
    go_wp2_with fail
    refine (must_not 270 0 _).mono ?_
    rintro e w5 ⟨rfl, rfl⟩
    go_wp2_with fail
    exact S3'.out.fail 270 0 (by decide) r hQ.out rfl rfl
  ·have hn0 : 0 < p0.length := hne 0 (by simp) (by omega)
   have hn1 : 0 < p1.length := hne 1 (by simp) (by omega)
   have hn2 : 0 < p2.length := hne 2 (by simp) (by omega)
   have hn3 : 0 < p3.length := hne 3 (by simp) (by omega)
   have hP1 : r = ptsR p0 p2 p3 (some p1) 3 := hP.out.trans (pts_4 hn0 hn1 hn2 hn3)
   clear hne
   obtain ⟨_, T0⟩ := HC.out.at_ (i := 0) (p := p0) (by have := hlen.out; omega) (by simp) HE3.out.1 rfl
   obtain ⟨b0, o0, rfl, hb0, t0, t1⟩ := T0.at_ hn0
   simp only [Nat.zero_mul, Nat.add_zero] at t0 t1
   have hnl : p0[0].t.length ≤ 300 := T0.sm _ (List.getElem_mem hn0)
   have hnum : (p0.headD ⟨0, []⟩).t = p0[0].t := by cases p0 with | nil => simp at hn0 | cons _ _ => rfl
   unfold ptsR at hP1
   dsimp only at hP1
   rw [hnum] at hP1
   have z0 : (0 : Int) < (p0.length : Int) := by omega
   generalize p0[0].t = num at *
   generalize p0[0].k = nk at *
   replace hP1 := Lib.hid hP1
   clear T0 hnum
   go_wp2_with fail
   refine (atoiS_any num (by omega) _ (HS.out _ S3'.out.ext)).mono ?_
   rintro e w5 ⟨n, er, rfl, hnn, hx5⟩
   replace hnn := Lib.hid hnn
   have C5 := Lib.hid (HC.out.to hx5)
   go_wp2_with fail
   refine (digits_16 num (by omega) _).mono ?_
   rintro e w6 ⟨rfl, hx6⟩
   have C6 := Lib.hid (C5.out.to hx6)
   clear C5 hx5 t0 t1 hb0
   generalize hD : digitsP num 1 6 = D at *
   cases D with
   | false =>
    have hQ := Lib.hid (show r = (Ad.zero, 271, 0) by rw [hP1.out, if_pos (by simp)]; rfl)
    clear hx6
    go_wp2_with fail
    refine (must_not 271 0 _).mono ?_
    rintro e wf ⟨rfl, rfl⟩
    go_wp2_with fail
    exact C6.out.s.fail 271 0 (by decide) r hQ.out rfl rfl
   | true =>
    have hn' : n = numP num := hnn.out rfl
    by_cases hz : 0 < n
    rotate_left
    ·have hd : decide ((0 : Int) < n) = false := decide_eq_false hz
     have hQ := Lib.hid (show r = (Ad.zero, 271, 0) by rw [hP1.out, if_pos (by rw [← hn']; simp [hz])]; rfl)
     clear hx6 hz hn'
     go_wp2_with fail
     refine (must_not 271 0 _).mono ?_
     rintro e wf ⟨rfl, rfl⟩
     go_wp2_with fail
     exact C6.out.s.fail 271 0 (by decide) r hQ.out rfl rfl
    ·have hd : decide ((0 : Int) < n) = true := decide_eq_true hz
     have hP2 := hP1.out
     rw [if_neg (by rw [← hn']; simp [hz]), ← hn'] at hP2
     have T0 := (C6.out.at_ (i := 0) (p := p0) (by have := hlen.out; omega) (by simp) HE3.out.1 rfl).2
     obtain ⟨kk0, lO6⟩ := C6.out.cell (k := 0) (by have := hlen.out; omega)
     rw [HE3.out.1] at kk0
     have TT := T0.tail' hn0
     replace hP2 := Lib.hid hP2
     have l1p : (1 : Int) ≤ (p0.length : Int) := by omega
     clear hP1 hz hn' hnn T0 hx6 z0
     go_wp2_with fail
     refine (must_so 271 0 _).mono ?_
     rintro e w6b ⟨rfl, rfl⟩
     obtain ⟨st, hst⟩ : ∃ st, streetP p0.tail false = st := ⟨_, rfl⟩
     have HSt := Lib.hid (fun (Aq : Option Addr) (nq cq : Nat) (h : TokS w6b Aq nq cq p0.tail) => street_any p0.tail false Aq nq cq w6b h (HS.out _ C6.out.s.ext))
     rw [hst] at HSt
     have hP3 := hP2.out
     dsimp only [Option.isNone] at hP3
     simp only [hst] at hP3
     have hSO := streetP_ok p0.tail false
     rw [hst] at hSO
     replace hP3 := Lib.hid hP3
     replace hst := Lib.hid hst
     replace hSO := Lib.hid hSO
     obtain ⟨⟨zn, zh, zpre, zname, zsuf, zpost, zunit, zcity, zstate, zzip, zmore⟩, nm, io⟩ := st
     dsimp only at *
     clear hP2
     go_upto_region 17 with (fail)
     go_cut [12, 13] from 22 to 84 (fun u v wx => StrRel W ga gf gO cO es [p0, p1, p2, p3] ⟨zn, zh, zpre, zname, zsuf, zpost, zunit, zcity, zstate, zzip, zmore⟩ nm io u v wx)
     case first =>
      clear hP hP3 hSO
      by_cases hc : c0 = 1
      ·subst hc
       have TT' : TokS w6b (some ⟨b0, o0, none⟩) 0 0 p0.tail := by
        have e0 : p0.length - 1 = 0 := by omega
        rw [e0] at TT
        simpa using TT
       clear TT
       go_wp2_with fail
       refine (HSt.out _ _ _ TT').mono ?_
       rintro e w7 ⟨An, nn, cn, inV, rfl, TN, IN, hx7⟩
       have C7 := C6.out.to hx7
       have R7 := Lib.hid (show StrRel W ga gf gO cO es [p0, p1, p2, p3] Ad.zero nm io (.slice An nn cn) inV w7 from ⟨C7, ⟨An, nn, cn, rfl, TN⟩, IN⟩)
       have la := C7.s.a.lt
       have hA := C7.s.a
       unfold adC at hA
       dsimp only [Ad.zero] at hA
       obtain ⟨q2, q3⟩ := hA.cells
       clear hA C7 TN IN hx7
       rw [adV_eq]
       dsimp only
       go_wp2_with fail
       go_meet
       case rel => exact R7.out.whole_ zn zh zpre zname zsuf zpost zunit zcity zstate zzip zmore
      ·rw [if_neg hc] at TT
       go_wp2_with fail
       refine (HSt.out _ _ _ TT).mono ?_
       rintro e w7 ⟨An, nn, cn, inV, rfl, TN, IN, hx7⟩
       have C7 := C6.out.to hx7
       have R7 := Lib.hid (show StrRel W ga gf gO cO es [p0, p1, p2, p3] Ad.zero nm io (.slice An nn cn) inV w7 from ⟨C7, ⟨An, nn, cn, rfl, TN⟩, IN⟩)
       have la := C7.s.a.lt
       have hA := C7.s.a
       unfold adC at hA
       dsimp only [Ad.zero] at hA
       obtain ⟨q2, q3⟩ := hA.cells
       clear hA C7 TN IN hx7
       rw [adV_eq]
       dsimp only
       go_wp2_with fail
       go_meet
       case rel => exact R7.out.whole_ zn zh zpre zname zsuf zpost zunit zcity zstate zzip zmore
     case rest =>
      have hA := hcut.1.s.a
      have la := hA.lt
      unfold adC at hA
      dsimp only at hA
      obtain ⟨q2, q3⟩ := hA.cells
      replace hcut := Lib.hid hcut
      clear hA
      go_upto_region 19 with (fail)
      replace hcut := Lib.hid (hcut.out.put 0 (.int .i64 n) ⟨n, zh, zpre, zname, zsuf, zpost, zunit, zcity, zstate, zzip, zmore⟩ rfl)
      clear q2 q3 la
      obtain ⟨_, T1⟩ := hcut.out.1.at_ (i := 1) (p := p1) (by have := hlen.out; omega) (by simp) HE3.out.2.1 rfl
      obtain ⟨kk1, lO7⟩ := hcut.out.1.cell (k := 1) (by have := hlen.out; omega)
      rw [HE3.out.2.1] at kk1
      go_wp2_with fail
      refine (unit_any p1 A1 p1.length c1 _ T1 (HS.out _ hcut.out.1.s.ext)).mono ?_
      rintro e w8 ⟨rfl, hx8⟩
      replace hcut := Lib.hid (hcut.out.to hx8)
      have HT1 := Lib.hid (T1.ext hx8)
      clear T1 hx8
      obtain ⟨u1, hu1⟩ : ∃ u1, unitP p1 = u1 := ⟨_, rfl⟩
      obtain ⟨un, uo⟩ := u1
      rw [hu1]
      dsimp only
      cases uo with
      | false =>
       have hQ := Lib.hid (show r = (Ad.zero, 272, 1) by rw [hP3.out, if_pos (by simp [hu1])]; rfl)
       go_wp2_with fail
       refine (must_not 272 1 _).mono ?_
       rintro e wf ⟨rfl, rfl⟩
       go_wp2_with fail
       exact hcut.out.1.s.fail 272 1 (by decide) r hQ.out rfl rfl
      | true =>
      have hP24 : r = ptsE ⟨n, zh, zpre, zname, zsuf, zpost, un, zcity, zstate, zzip, zmore⟩ nm p2 p3 (some p1) 3 := by
       have h := hP3.out
       rw [if_neg (by simp [hu1])] at h
       simpa only [ptsE, Option.isSome_some, if_true, hu1] using h
      have hQ2 : ∀ u, some p1 = some u → (unitP u).2 = true := fun u e => by injection e with e; subst e; rw [hu1]
      replace hQ2 := Lib.hid hQ2
      replace hP24 := Lib.hid hP24
      clear hu1 hP3
      have hcut := Lib.hid (show StrRel W ga gf gO cO es [p0, p1, p2, p3] ⟨n, zh, zpre, zname, zsuf, zpost, zunit, zcity, zstate, zzip, zmore⟩ nm (some p1) u12 (.slice A1 p1.length c1) w8 from ⟨hcut.out.1, hcut.out.2.1, HT1.out.in_ hn1⟩)
      have hA := hcut.out.1.s.a
      have la := hA.lt
      unfold adC at hA
      dsimp only at hA
      obtain ⟨q2, q3⟩ := hA.cells
      clear hA
      go_wp2_with fail
      refine (must_so 272 1 _).mono ?_
      rintro e w8b ⟨rfl, rfl⟩
      go_upto_region 24 with (fail)
      replace hcut := Lib.hid (hcut.out.put 6 (.string ⟨un.toArray⟩) ⟨n, zh, zpre, zname, zsuf, zpost, un, zcity, zstate, zzip, zmore⟩ rfl)
      clear q2 q3 la
      generalize (w8b.setCell ⟨ga, 6, none⟩ (.string ⟨un.toArray⟩)) = w24 at *
      obtain ⟨C24, ⟨An, nn, cn, rfl, TN⟩, IN⟩ := hcut.out
      clear hcut
      generalize Value.slice A1 p1.length c1 = u13 at IN ⊢
      generalize (some p1 : Option (List Tok)) = iq at *
      replace C24 := Lib.hid C24
      replace TN := Lib.hid TN
      replace IN := Lib.hid IN
      go_cut [] from 22 to 113 (fun wx => wx = w24 ∧ (iq).any (fun l => decide (10 < ((l.getD 1 ⟨0, []⟩).t).length)) = false)
      case first =>
       generalize hin : iq = inT at *
       replace IN := IN.out
       cases inT with
       | none =>
        obtain rfl : u13 = .slice none 0 0 := IN
        have he := Lib.run_eql_slice_nil (P := Tryz.prog) w24 87 105 none 0 0 0 0 Tryz.underlying87
        go_wp2_with fail
        refine (must_so 272 1 _).mono ?_
        rintro e wq ⟨rfl, rfl⟩
        go_wp2_with fail
        go_meet
        case rel => exact ⟨rfl, rfl⟩
       | some u =>
        obtain ⟨A', n', c', hv', T', h0', _⟩ := IN
        obtain ⟨ta, tb, rfl⟩ := unitP_two (hQ2.out u rfl)
        obtain rfl : 2 = n' := T'.len
        obtain ⟨g', o', rfl, hg', _, t1'⟩ := T'.at_ (k := 1) (by simp)
        replace t1' : w24.cell? ⟨g', o' + 3, none⟩ = some (.string ⟨tb.t.toArray⟩) := t1'
        have hle' := T'.le
        have hmax' := T'.max
        have hsm' : tb.t.length ≤ 300 := T'.sm tb (by simp)
        have he := Lib.run_eql_slice_nil (P := Tryz.prog) w24 87 105 (some ⟨g', o', none⟩) 2 c' 0 0 Tryz.underlying87
        subst hv'
        clear T' h0'
        by_cases hz : tb.t.length ≤ 10
        ·have hd1 : decide ((tb.t.length : Int) ≤ 10) = true := decide_eq_true (by omega)
         have hd2 : decide (tb.t.length ≤ 10) = true := decide_eq_true hz
         have hE := Lib.hid (show (some [ta, tb]).any (fun l => decide (10 < ((l.getD 1 ⟨0, []⟩).t).length)) = false by simp; omega)
         clear hz
         go_wp2_with fail
         refine (must_so 272 1 _).mono ?_
         rintro e wq ⟨rfl, rfl⟩
         go_wp2_with fail
         go_meet
         case rel => exact ⟨rfl, hE.out⟩
        ·have hd1 : decide ((tb.t.length : Int) ≤ 10) = false := decide_eq_false (by omega)
         have hd2 : decide (tb.t.length ≤ 10) = false := decide_eq_false hz
         have hQ := Lib.hid (show r = (Ad.zero, 272, 1) by rw [hP24.out]; unfold ptsE; rw [if_pos (by simp; omega)]; rfl)
         clear hz
         go_wp2_with fail
         refine (must_not 272 1 _).mono ?_
         rintro e wf ⟨rfl, rfl⟩
         go_wp2_with fail
         exact C24.out.s.fail 272 1 (by decide) r hQ.out rfl rfl
      case rest =>
       obtain ⟨rfl, hin⟩ := hcut
       obtain rfl := TN.out.len
       have hP25 := hP24.out.trans (ptsE_C _ _ _ _ _ _ hin)
       have C25 := C24.out
       have T25 := TN.out
       have hE := HE3.out
       have hln := hlen.out
       clear hP24 hin
       go_step
       exact parse_r25 W _ ga gf gO cO 4 3 2 es [p0, p1, p2, p3] nm p2 p3 An _ _ cn _ _ _ r C25 T25 hln (by decide) rfl hE.2.2.1 rfl hE.2.2.2 rfl hn3 (by decide) (HS.out _ (Ext.refl _)) hP25
end Go.Proofs.YtjaponmpfdpemaaGreatDoor
