/-
  apportionlaw17: AddrParts (printed by tools/genZv.py).
-/
import Derived.Test.YtjneghncmgjkeaaGreatDoorRx45
set_option linter.unusedVariables false
namespace Go.Proofs.YtjneghncmgjkeaaGreatDoor
open Go.RowKit

set_option maxRecDepth 100000 in
set_option maxHeartbeats 4000000 in
theorem addrParts_1 (a : Ad) (hn : i64 a.n) (which : Int) (hl : longA a = true) (W : World) (hS : Std W) : Calls Tryz.prog 7 #[adV a, .int .i64 which] W fun e w' => e = .returned (.bool true) ∧ Ext W w' := by
  have HA := Lib.hid (fun w (hx : Ext W w) => l17awake_any w (hS.ext hx))
  have HLg := Lib.hid (fun w => l17long_any a w)
  rw [hl] at HLg
  clear hS hn hl
  obtain ⟨zn, zh, zpre, zname, zsuf, zpost, zunit, zcity, zstate, zzip, zmore⟩ := a
  rw [adV_eq] at HLg ⊢
  dsimp only at *
  go_enter Tryz.func7, Tryz.ntmps7
  go_upto_region 1 with (fail)
  have BA := Lib.hid (Blk.new W 23 #[.int .i64 zn, .bool zh, .string ⟨zpre.toArray⟩, .string ⟨zname.toArray⟩, .string ⟨zsuf.toArray⟩, .string ⟨zpost.toArray⟩, .string ⟨zunit.toArray⟩, .string ⟨zcity.toArray⟩, .string ⟨zstate.toArray⟩, .string ⟨zzip.toArray⟩, .string ⟨zmore.toArray⟩])
  have X0 := Lib.hid ((Ext.refl W).alloc (.cells #[.int .i64 zn, .bool zh, .string ⟨zpre.toArray⟩, .string ⟨zname.toArray⟩, .string ⟨zsuf.toArray⟩, .string ⟨zpost.toArray⟩, .string ⟨zunit.toArray⟩, .string ⟨zcity.toArray⟩, .string ⟨zstate.toArray⟩, .string ⟨zzip.toArray⟩, .string ⟨zmore.toArray⟩] 23))
  generalize W.alloc (.cells #[.int .i64 zn, .bool zh, .string ⟨zpre.toArray⟩, .string ⟨zname.toArray⟩, .string ⟨zsuf.toArray⟩, .string ⟨zpost.toArray⟩, .string ⟨zunit.toArray⟩, .string ⟨zcity.toArray⟩, .string ⟨zstate.toArray⟩, .string ⟨zzip.toArray⟩, .string ⟨zmore.toArray⟩] 23) = w0 at *
  generalize W.heap.size = ga at *
  have BC := Lib.hid (fun w (hx : Ext w0 w) => (show (∀ i, w.cell? ⟨ga, i, none⟩ = (#[.int .i64 zn, .bool zh, .string ⟨zpre.toArray⟩, .string ⟨zname.toArray⟩, .string ⟨zsuf.toArray⟩, .string ⟨zpost.toArray⟩, .string ⟨zunit.toArray⟩, .string ⟨zcity.toArray⟩, .string ⟨zstate.toArray⟩, .string ⟨zzip.toArray⟩, .string ⟨zmore.toArray⟩] : Array Value)[i]?) ∧ ga < w.heap.size from ⟨(BA.out.ext hx).cell, (BA.out.ext hx).lt⟩))
  clear BA
  go_wp2_with fail
  refine (HA.out _ X0.out).mono ?_
  rintro e w1 ⟨rfl, hx⟩
  have Xw1 := Lib.hid (((Ext.refl w0)).trans hx)
  clear hx
  obtain ⟨qa, la⟩ := BC.out _ Xw1.out
  go_wp2_with fail
  refine (HLg.out _).mono ?_
  rintro e w2 ⟨rfl, hx⟩
  have Xw2 := Lib.hid ((Xw1.out).trans hx)
  clear hx
  go_wp2_with fail
  go_ret
  exact ⟨rfl, X0.out.trans Xw2.out⟩
set_option maxRecDepth 100000 in
set_option maxHeartbeats 4000000 in
theorem addrParts_2 (a : Ad) (hn : i64 a.n) (which : Int) (hl : longA a = false) (hq : checkP a ≠ 0) (W : World) (hS : Std W) : Calls Tryz.prog 7 #[adV a, .int .i64 which] W fun e w' => e = .returned (.bool true) ∧ Ext W w' := by
  have HA := Lib.hid (fun w (hx : Ext W w) => l17awake_any w (hS.ext hx))
  have HLg := Lib.hid (fun w => l17long_any a w)
  have HCk := Lib.hid (fun w (hx : Ext W w) => adcheck_any a (longA_no hl) w (hS.ext hx))
  rw [hl] at HLg
  have hqb : (checkP a != 0) = true := by simpa using hq
  generalize checkP a = q at *
  clear hS hn hl hq
  obtain ⟨zn, zh, zpre, zname, zsuf, zpost, zunit, zcity, zstate, zzip, zmore⟩ := a
  rw [adV_eq] at HLg HCk ⊢
  dsimp only at *
  go_enter Tryz.func7, Tryz.ntmps7
  go_upto_region 1 with (fail)
  have BA := Lib.hid (Blk.new W 23 #[.int .i64 zn, .bool zh, .string ⟨zpre.toArray⟩, .string ⟨zname.toArray⟩, .string ⟨zsuf.toArray⟩, .string ⟨zpost.toArray⟩, .string ⟨zunit.toArray⟩, .string ⟨zcity.toArray⟩, .string ⟨zstate.toArray⟩, .string ⟨zzip.toArray⟩, .string ⟨zmore.toArray⟩])
  have X0 := Lib.hid ((Ext.refl W).alloc (.cells #[.int .i64 zn, .bool zh, .string ⟨zpre.toArray⟩, .string ⟨zname.toArray⟩, .string ⟨zsuf.toArray⟩, .string ⟨zpost.toArray⟩, .string ⟨zunit.toArray⟩, .string ⟨zcity.toArray⟩, .string ⟨zstate.toArray⟩, .string ⟨zzip.toArray⟩, .string ⟨zmore.toArray⟩] 23))
  generalize W.alloc (.cells #[.int .i64 zn, .bool zh, .string ⟨zpre.toArray⟩, .string ⟨zname.toArray⟩, .string ⟨zsuf.toArray⟩, .string ⟨zpost.toArray⟩, .string ⟨zunit.toArray⟩, .string ⟨zcity.toArray⟩, .string ⟨zstate.toArray⟩, .string ⟨zzip.toArray⟩, .string ⟨zmore.toArray⟩] 23) = w0 at *
  generalize W.heap.size = ga at *
  have BC := Lib.hid (fun w (hx : Ext w0 w) => (show (∀ i, w.cell? ⟨ga, i, none⟩ = (#[.int .i64 zn, .bool zh, .string ⟨zpre.toArray⟩, .string ⟨zname.toArray⟩, .string ⟨zsuf.toArray⟩, .string ⟨zpost.toArray⟩, .string ⟨zunit.toArray⟩, .string ⟨zcity.toArray⟩, .string ⟨zstate.toArray⟩, .string ⟨zzip.toArray⟩, .string ⟨zmore.toArray⟩] : Array Value)[i]?) ∧ ga < w.heap.size from ⟨(BA.out.ext hx).cell, (BA.out.ext hx).lt⟩))
  clear BA
  go_wp2_with fail
  refine (HA.out _ X0.out).mono ?_
  rintro e w1 ⟨rfl, hx⟩
  have Xw1 := Lib.hid (((Ext.refl w0)).trans hx)
  clear hx
  obtain ⟨qa, la⟩ := BC.out _ Xw1.out
  go_wp2_with fail
  refine (HLg.out _).mono ?_
  rintro e w2 ⟨rfl, hx⟩
  have Xw2 := Lib.hid ((Xw1.out).trans hx)
  clear hx
  obtain ⟨qa, la⟩ := BC.out _ Xw2.out
  go_wp2_with fail
  refine (HCk.out _ (X0.out.trans Xw2.out)).mono ?_
  rintro e w3 ⟨rfl, hx⟩
  have Xw3 := Lib.hid ((Xw2.out).trans hx)
  clear hx
  go_wp2_with fail
  go_ret
  exact ⟨rfl, X0.out.trans Xw3.out⟩
set_option maxRecDepth 100000 in
set_option maxHeartbeats 4000000 in
theorem addrParts_3 (a : Ad) (hn : i64 a.n) (which : Int) (hl : longA a = false) (hq : checkP a = 0) (W : World) (hS : Std W) : Calls Tryz.prog 7 #[adV a, .int .i64 which] W fun e w' => e = .returned (.bool true) ∧ Ext W w' := by
  have HA := Lib.hid (fun w (hx : Ext W w) => l17awake_any w (hS.ext hx))
  have HS := Lib.hid (fun w (hx : Ext W w) => hS.ext hx)
  have HLg := Lib.hid (fun w => l17long_any a w)
  have HCk := Lib.hid (fun w (hx : Ext W w) => adcheck_any a (longA_no hl) w (hS.ext hx))
  have HTx := Lib.hid (fun w (hx : Ext W w) => addText_any a (longA_no hl) hn w (hS.ext hx))
  rw [hl] at HLg
  rw [hq] at HCk
  rw [(textA_zero (a := a)).2 hq] at HTx
  obtain ⟨_, l150, _, h34⟩ := text_facts hq
  obtain ⟨pm1, pm2⟩ := parse_more hq
  have pls := Lib.hid (fun (k : Nat) (hk : k < (splitC (textA a).1).length) => parse_less hq hk)
  generalize (textA a).1 = tt at *
  have HF1 := Lib.hid (fun w (hx : Ext W w) => l17fails_any (tt ++ [44]) 270 0 (by simp; omega) pm1 w (HS.out w hx))
  have HF2 := Lib.hid (fun w (hx : Ext W w) => l17fails_any (44 :: tt) 270 0 (by simp; omega) pm2 w (HS.out w hx))
  have hpl := Lib.hid (fun x (hx : x ∈ splitC tt) => (show x.length ≤ 150 by have := split_len tt x hx; omega))
  obtain ⟨L, hL⟩ : ∃ L, splitC tt = L := ⟨_, rfl⟩
  rw [hL] at h34 pls hpl
  have HPt := Lib.hid (show ∀ w, PtAt w L L.length (.slice none 0 0) (.string ⟨tt.toArray⟩) (.bool true) w from fun w => ⟨[], tt, true, rfl, rfl, World.ownsRow_nil _ _ _ _, Ext.refl _, hL.symm, by rw [hL]; rfl, by omega, by omega⟩)
  have hap1 : (⟨tt.toArray⟩ ++ ⟨#[44]⟩ : ByteArray) = ⟨(tt ++ [44]).toArray⟩ := bs_app tt [44]
  have hap2 : (⟨#[44]⟩ ++ ⟨tt.toArray⟩ : ByteArray) = ⟨(44 :: tt).toArray⟩ := bs_app [44] tt
  replace hL := Lib.hid hL
  clear hS hn hl hq pm1 pm2
  obtain ⟨zn, zh, zpre, zname, zsuf, zpost, zunit, zcity, zstate, zzip, zmore⟩ := a
  rw [adV_eq] at HLg HCk HTx ⊢
  dsimp only at *
  go_enter Tryz.func7, Tryz.ntmps7
  go_upto_region 1 with (fail)
  have BA := Lib.hid (Blk.new W 23 #[.int .i64 zn, .bool zh, .string ⟨zpre.toArray⟩, .string ⟨zname.toArray⟩, .string ⟨zsuf.toArray⟩, .string ⟨zpost.toArray⟩, .string ⟨zunit.toArray⟩, .string ⟨zcity.toArray⟩, .string ⟨zstate.toArray⟩, .string ⟨zzip.toArray⟩, .string ⟨zmore.toArray⟩])
  have X0 := Lib.hid ((Ext.refl W).alloc (.cells #[.int .i64 zn, .bool zh, .string ⟨zpre.toArray⟩, .string ⟨zname.toArray⟩, .string ⟨zsuf.toArray⟩, .string ⟨zpost.toArray⟩, .string ⟨zunit.toArray⟩, .string ⟨zcity.toArray⟩, .string ⟨zstate.toArray⟩, .string ⟨zzip.toArray⟩, .string ⟨zmore.toArray⟩] 23))
  generalize W.alloc (.cells #[.int .i64 zn, .bool zh, .string ⟨zpre.toArray⟩, .string ⟨zname.toArray⟩, .string ⟨zsuf.toArray⟩, .string ⟨zpost.toArray⟩, .string ⟨zunit.toArray⟩, .string ⟨zcity.toArray⟩, .string ⟨zstate.toArray⟩, .string ⟨zzip.toArray⟩, .string ⟨zmore.toArray⟩] 23) = w0 at *
  generalize W.heap.size = ga at *
  have BC := Lib.hid (fun w (hx : Ext w0 w) => (show (∀ i, w.cell? ⟨ga, i, none⟩ = (#[.int .i64 zn, .bool zh, .string ⟨zpre.toArray⟩, .string ⟨zname.toArray⟩, .string ⟨zsuf.toArray⟩, .string ⟨zpost.toArray⟩, .string ⟨zunit.toArray⟩, .string ⟨zcity.toArray⟩, .string ⟨zstate.toArray⟩, .string ⟨zzip.toArray⟩, .string ⟨zmore.toArray⟩] : Array Value)[i]?) ∧ ga < w.heap.size from ⟨(BA.out.ext hx).cell, (BA.out.ext hx).lt⟩))
  clear BA
  go_wp2_with fail
  refine (HA.out _ X0.out).mono ?_
  rintro e w1 ⟨rfl, hx⟩
  have Xw1 := Lib.hid (((Ext.refl w0)).trans hx)
  clear hx
  obtain ⟨qa, la⟩ := BC.out _ Xw1.out
  go_wp2_with fail
  refine (HLg.out _).mono ?_
  rintro e w2 ⟨rfl, hx⟩
  have Xw2 := Lib.hid ((Xw1.out).trans hx)
  clear hx
  obtain ⟨qa, la⟩ := BC.out _ Xw2.out
  go_wp2_with fail
  refine (HCk.out _ (X0.out.trans Xw2.out)).mono ?_
  rintro e w3 ⟨rfl, hx⟩
  have Xw3 := Lib.hid ((Xw2.out).trans hx)
  clear hx
  obtain ⟨qa, la⟩ := BC.out _ Xw3.out
  go_wp2_with fail
  refine (HTx.out _ (X0.out.trans Xw3.out)).mono ?_
  rintro e w4 ⟨rfl, hx⟩
  have Xw4 := Lib.hid ((Xw3.out).trans hx)
  clear hx
  replace X0 := Lib.hid (X0.out.trans Xw4.out)
  clear BC HA HLg HCk HTx Xw1 Xw2 Xw3 Xw4 qa la
  go_wp2_with fail
  go_loopg [8, 9, 10] L.length (fun g v r m wr => PtAt w4 L g v r m wr)
  case atStart => exact HPt.out w4
  case round =>
    obtain ⟨d, rest, more, rfl, rfl, hown, hx, hLd, hg, hr2, h4⟩ := hrel
    cases more with
    | true =>
      have HC := Lib.hid (fun w => (show Calls Tryz.prog 23 #[.string ⟨rest.toArray⟩, .int .u8 44] w fun e w' => e = .returned (.tuple #[.string ⟨(cutB 44 rest).1.toArray⟩, .string ⟨(cutB 44 rest).2.1.toArray⟩, .bool (cutB 44 rest).2.2]) ∧ Ext w w' from l17cut_any rest 44 (by omega) w))
      have hg1 : (splitC rest).length - 1 < gk := by
        have := List.length_pos_iff.2 (splitC_ne rest)
        rw [hg, if_pos rfl]; omega
      have hd4 : d.length ≤ 4 := by rw [hLd, List.length_append] at h4; omega
      have HN := Lib.hid (fun (vp v5 : Value) (W5 : World) (z : Value) (w5 : World) (hgr : Grew w4 w5 W5 9 1 z vp v5 (d.length + 1) (strC d ++ (#[Value.string ⟨(cutB 44 rest).1.toArray⟩] : Array Value).toList)) => (show PtAt w4 L ((splitC rest).length - 1) v5 (.string ⟨(cutB 44 rest).2.1.toArray⟩) (.bool (cutB 44 rest).2.2) W5 from
        PtAt.next (by rw [hLd, if_pos rfl]) hgr.own hgr.ext hr2 h4))
      generalize (splitC rest).length - 1 = g1 at *
      generalize cutB 44 rest = ct at *
      obtain ⟨c1, c2, c3⟩ := ct
      dsimp only at *
      obtain ⟨A3, cp3, rfl, _, _, _⟩ := own_slice hown
      clear hg hLd hap1 hap2
      go_wp2_with fail
      refine (HC.out _).mono ?_
      rintro e w5 ⟨rfl, hx5⟩
      have H5 := own_ext hown hx5
      have X5 := hx.trans hx5
      clear hown hx5 HC
      go_wp2_with (at_builtin; refine wpl_app1 row_strS w4 w5 (.tmp 38) (.tmp 40) rfl rfl rfl H5 X5 rfl rfl rfl (by simp [Value.oneCell']) (by omega) (by unfold maxLen; omega) ?_; intro v5 W5 hg5; replace HN := Lib.hid (HN.out _ _ _ _ _ hg5); obtain ⟨A5, c5, rfl, _, _, _⟩ := own_slice hg5.own; clear hg5)
      go_roundg g1
      case rel => exact HN.out
      case measure => exact hg1
    | false =>
      rw [if_neg (by simp), List.append_nil] at hLd
      subst hLd
      obtain ⟨N, hN⟩ : ∃ N, L.length = N := ⟨_, rfl⟩
      rw [hN] at hown h34 h4
      have n1 : decide ((N : Int) < 3) = false := decide_eq_false (by omega)
      have n2 : decide ((4 : Int) < (N : Int)) = false := decide_eq_false (by omega)
      have n3 : decide (N < 3) = false := decide_eq_false (by omega)
      have n4 : decide (4 < N) = false := decide_eq_false (by omega)
      obtain ⟨A3, cp3, rfl, _, _, hrd⟩ := own_slice hown
      have HP := Lib.hid (fun w => l17pick_any which (N : Int) (by omega) (by omega) w)
      obtain ⟨p1, p2⟩ := pickP_bd which (n := (N : Int)) (by omega)
      generalize pickP which (N : Int) = pk at *
      obtain ⟨kp, rfl⟩ : ∃ k : Nat, pk = (k : Int) := ⟨pk.toNat, by omega⟩
      have X4 := Lib.hid (X0.out.trans hx)
      have hkp : kp < N := by omega
      have hrd' := Lib.hid hrd
      replace hN := Lib.hid hN
      clear hg hown hx hrd hL HPt
      go_wp2_with fail
      refine (HF1.out _ X4.out).mono ?_
      rintro e w5 ⟨rfl, hx⟩
      have X5 := Lib.hid (X4.out.trans hx)
      have R5 := Lib.hid (hrd'.out.ext hx)
      clear hx
      go_wp2_with fail
      refine (HF2.out _ X5.out).mono ?_
      rintro e w6 ⟨rfl, hx⟩
      have X6 := Lib.hid (X5.out.trans hx)
      have R6 := Lib.hid (R5.out.ext hx)
      clear hx hap1 hap2 HF1 HF2 R5 X5
      go_wp2_with fail
      refine (HP.out _).mono ?_
      rintro e w7 ⟨rfl, rfl⟩
      clear n1 n2 n3 n4 HP
      obtain ⟨M, hM⟩ : ∃ M, L.set kp [] = M := ⟨_, rfl⟩
      have hMl : M.length = N := by rw [← hM, List.length_set, hN.out]
      have HMi := Lib.hid (fun (i : Nat) (h : i < M.length) => (show M[i] = if i = kp then [] else L[i]'(by have := hN.out; omega) by
        subst hM
        rw [List.getElem_set]
        by_cases e : kp = i
        · rw [if_pos e, if_pos e.symm]
        · rw [if_neg e, if_neg (fun e' => e e'.symm)]))
      have HFl := Lib.hid (fun w (hx : Ext W w) => l17fails_any (joinB M) 270 0 (by
        have h1 := List.take_length (l := M)
        have hb : ∀ i, i ≤ M.length → (joinB (M.take i)).length ≤ i * 200 := fun i => by
          induction i with
          | zero => intro _; simp [joinB]
          | succ i ih =>
            intro hi
            have := ih (by omega)
            rw [join_take M i (by omega), List.length_append, List.length_append]
            have h2 : (if 0 < i then [44] else [] : Bs).length ≤ 1 := by split <;> simp
            have h3 : M[i].length ≤ 150 := by
              rw [HMi.out i (by omega)]
              split
              · simp
              · exact hpl.out _ (List.getElem_mem _)
            omega
        have := hb M.length (Nat.le_refl _)
        rw [h1] at this
        omega) (by rw [← hM]; exact pls.out kp (by have := hN.out; omega)) w (HS.out w hx))
      replace hM := Lib.hid hM
      replace hMl := Lib.hid hMl
      have HJ0 := Lib.hid (show JnAt w6 M (.string ⟨#[]⟩) (.int .i64 ((0 : Nat) : Int)) w6 from ⟨0, by omega, rfl, rfl, Nat.zero_le _, rfl⟩)
      go_wp2_with fail
      go_loopw [14, 15] (fun v i wr => JnAt w6 M v i wr) (fun _ i _ => N - (intOf i).toNat)
      case atStart => exact HJ0.out
      case round =>
        clear HJ0
        obtain ⟨i, hi, rfl, rfl, hjl, rfl⟩ := hrel
        rw [hMl.out] at hi
        by_cases hlt : i < N
        · have hd : decide ((i : Int) < (N : Int)) = true := decide_eq_true (by omega)
          have hd' : decide (i < N) = true := decide_eq_true hlt
          have iz : (0 : Int) ≤ (i : Int) := by omega
          have il : (i : Int) < (N : Int) := by omega
          have hiM : i < M.length := by have := hMl.out; omega
          have hiL : i < L.length := by have := hN.out; omega
          obtain ⟨g3, o3, rfl, hg3, hc3⟩ := R6.out.cellAt hlt
          have ck := hc3 i (.string ⟨L[i].toArray⟩) (by simp [strC, hiL])
          have hLi : L[i].length ≤ 150 := hpl.out _ (List.getElem_mem hiL)
          have hMi := HMi.out i hiM
          have HE := Lib.hid (fun (x : Bs) (hx : x = joinB (M.take i) ++ (if 0 < i then [44] else []) ++ M[i]) => JnAt.next (w0 := wr) hiM hjl (by rw [hMi]; split <;> first | exact Nat.zero_le _ | exact hLi) hx)
          have hjb : (joinB (M.take i)).length ≤ 800 := by omega
          replace hMi := Lib.hid hMi
          generalize M[i] = mi at *
          generalize L[i] = li at *
          generalize joinB (M.take i) = J at *
          clear hc3 hjl
          by_cases i0 : 0 < i
          · have e0 : decide ((0 : Int) < (i : Int)) = true := decide_eq_true (by omega)
            have e1 : decide (0 < i) = true := decide_eq_true i0
            have ha : (⟨J.toArray⟩ ++ ⟨#[44]⟩ : ByteArray) = ⟨(J ++ [44]).toArray⟩ := bs_app J [44]
            by_cases ik : i = kp
            · have hne : ((i : Int) != (kp : Int)) = false := by rw [ik]; simp
              replace HE := Lib.hid (HE.out (J ++ [44]) (by rw [if_pos i0, hMi.out, if_pos ik, List.append_nil]))
              clear i0 ik hMi
              go_wp2_with fail
              exact ⟨HE.out, by simp [intOf]; omega⟩
            · have hne : ((i : Int) != (kp : Int)) = true := by rw [bne_iff_ne]; omega
              replace HE := Lib.hid (HE.out (J ++ [44] ++ li) (by rw [if_pos i0, hMi.out, if_neg ik]))
              have hb : (⟨(J ++ [44]).toArray⟩ ++ ⟨li.toArray⟩ : ByteArray) = ⟨(J ++ [44] ++ li).toArray⟩ := bs_app _ _
              have hbl : (J ++ [44]).length ≤ 900 := by simp; omega
              generalize J ++ [44] = J2 at *
              clear i0 ik hMi
              go_wp2_with fail
              exact ⟨HE.out, by simp [intOf]; omega⟩
          · have e0 : decide ((0 : Int) < (i : Int)) = false := decide_eq_false (by omega)
            have e1 : decide (0 < i) = false := decide_eq_false i0
            by_cases ik : i = kp
            · have hne : ((i : Int) != (kp : Int)) = false := by rw [ik]; simp
              replace HE := Lib.hid (HE.out J (by rw [if_neg i0, hMi.out, if_pos ik, List.append_nil, List.append_nil]))
              clear i0 ik hMi
              go_wp2_with fail
              exact ⟨HE.out, by simp [intOf]; omega⟩
            · have hne : ((i : Int) != (kp : Int)) = true := by rw [bne_iff_ne]; omega
              replace HE := Lib.hid (HE.out (J ++ li) (by rw [if_neg i0, hMi.out, if_neg ik, List.append_nil]))
              have hb : (⟨J.toArray⟩ ++ ⟨li.toArray⟩ : ByteArray) = ⟨(J ++ li).toArray⟩ := bs_app _ _
              clear i0 ik hMi
              go_wp2_with fail
              exact ⟨HE.out, by simp [intOf]; omega⟩
        · obtain rfl : i = N := by omega
          have hd : decide ((i : Int) < (i : Int)) = false := by simp
          have hT : M.take i = M := by rw [← hMl.out, List.take_length]
          rw [hT]
          clear hT hjl
          go_wp2_with fail
          refine (HFl.out _ X6.out).mono ?_
          rintro e w8 ⟨rfl, hx⟩
          have X8 := Lib.hid (X6.out.trans hx)
          clear hx
          go_wp2_with fail
          go_ret
          exact ⟨rfl, X8.out⟩
theorem addrParts_any (a : Ad) (hn : i64 a.n) (which : Int) (W : World) (hS : Std W) : Calls Tryz.prog 7 #[adV a, .int .i64 which] W fun e w' => e = .returned (.bool true) ∧ Ext W w' := by
  cases hl : longA a with
  | true => exact addrParts_1 a hn which hl W hS
  | false =>
    by_cases hq : checkP a = 0
    · exact addrParts_3 a hn which hl hq W hS
    · exact addrParts_2 a hn which hl hq W hS
end Go.Proofs.YtjneghncmgjkeaaGreatDoor
