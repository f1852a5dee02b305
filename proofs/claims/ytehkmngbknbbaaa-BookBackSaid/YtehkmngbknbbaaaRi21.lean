/-
  order.taxLine: the walk.
-/
import Derived.Test.YtehkmngbknbbaaaRi20
import Derived.Deep.DeepCutAuto
import Derived.Deep.RegionHeld3
import Derived.IntWalk
set_option linter.unusedVariables false
namespace Go.Proofs.Ytehkmngbknbbaaa
open Go.RowKit Go.Maps

set_option maxRecDepth 100000 in
set_option maxHeartbeats 8000000 in
theorem taxLine_any (s : RS) (ks : List (Int × Int)) (last : Int) (g B n : Nat) (w : World) (hrd : RdO w g s) (hmet : MetIs w B n ks) (hgB : g < B) (hn : n < 100000) :
    Calls Try.prog 99 #[.pointer (some ⟨g, 0, none⟩), .map (some B), .int .i64 last] w fun r W => r = .returned (.tuple #[(taxLineP s ks last).x.V, .agg #[.int .i64 (taxLineP s ks last).fe, .int .i64 ((taxLineP s ks last).fa : Int)]]) ∧ TLOut w W g B n (taxLineP s ks last) := by
  obtain ⟨n1, s1, e1⟩ : ∃ n1 s1, s.num 0 99 5 = (n1, s1) := ⟨_, _, rfl⟩
  obtain ⟨n2, s2, e2⟩ : ∃ n2 s2, s1.num 1 1099511627775 5 = (n2, s2) := ⟨_, _, rfl⟩
  obtain ⟨n3, s3, e3⟩ : ∃ n3 s3, s2.num 0 4611686018427387904 5 = (n3, s3) := ⟨_, _, rfl⟩
  obtain ⟨n4, s4, e4⟩ : ∃ n4 s4, s3.num 0 4611686018427387904 5 = (n4, s4) := ⟨_, _, rfl⟩
  obtain ⟨n5, s5, e5⟩ : ∃ n5 s5, s4.num 0 1000000 5 = (n5, s5) := ⟨_, _, rfl⟩
  obtain ⟨n6, s6, e6⟩ : ∃ n6 s6, s5.num 0 4611686018427387904 5 = (n6, s6) := ⟨_, _, rfl⟩
  have hb1 := RS.num_bd s 0 99 5 (by omega) (by omega)
  have hb3 := RS.num_bd s2 0 4611686018427387904 5 (by omega) (by omega)
  have hb4 := RS.num_bd s3 0 4611686018427387904 5 (by omega) (by omega)
  rw [e1] at hb1
  rw [e3] at hb3
  rw [e4] at hb4
  simp only at hb1 hb3 hb4
  have hb2 := RS.num_any s1 1 1099511627775 5 (by omega) (by omega)
  rw [e2] at hb2
  simp only at hb2
  have hs2 := Lib.hid (show s1.fe ≠ 0 → s2.fe ≠ 0 from fun h => by
    have := RS.num_sticky h 1 1099511627775 5
    rw [e2] at this
    injection this with _ this
    rw [this]; exact h)
  have hs4 := Lib.hid (show s2.fe ≠ 0 → s4.fe ≠ 0 from fun h => by
    have h3 := RS.num_sticky h 0 4611686018427387904 5
    rw [e3] at h3
    injection h3 with _ h3
    have h4 := RS.num_sticky (s := s3) (by rw [h3]; exact h) 0 4611686018427387904 5
    rw [e4] at h4
    injection h4 with _ h4
    rw [h4, h3]; exact h)
  have HP := Lib.hid (show taxLineP s ks last = (if s1.fe = 0 ∧ n1 < last then ⟨Tx.zero, 2, s.at_, s1, ks⟩ else if s2.fe = 0 ∧ (n1, n2) ∈ ks then ⟨Tx.zero, 7, s1.at_, s2, ks ++ [(n1, n2)]⟩ else
      if s4.fe = 0 ∧ 4611686018427387904 - n3 < n4 then ⟨Tx.zero, 5, s3.at_, s4, if s2.fe = 0 then ks ++ [(n1, n2)] else ks⟩ else ⟨⟨n1, n2, n3, n4, n5, n6⟩, s6.fe, s6.fa, s6, if s2.fe = 0 then ks ++ [(n1, n2)] else ks⟩ : TL) by
    unfold taxLineP
    simp only [e1, e2, e3, e4, e5, e6])
  generalize taxLineP s ks last = T at *
  have X0 := (((Ext.refl w).alloc (.cells #[.int .i64 0, .int .i64 0, .int .i64 0, .int .i64 0, .int .i64 0, .int .i64 0] 46)).alloc (.cells #[.int .i64 0, .int .i64 0] 37)).alloc (.cells #[.int .i64 0, .int .i64 0, .int .i64 0, .int .i64 0, .int .i64 0, .int .i64 0] 46)
  have hgw := hrd.lt
  have hBw := hmet.lt
  have H0 : TS w (((w.alloc (.cells #[.int .i64 0, .int .i64 0, .int .i64 0, .int .i64 0, .int .i64 0, .int .i64 0] 46)).alloc (.cells #[.int .i64 0, .int .i64 0] 37)).alloc (.cells #[.int .i64 0, .int .i64 0, .int .i64 0, .int .i64 0, .int .i64 0, .int .i64 0] 46)) g B n s ks w.heap.size (w.heap.size + 1) (w.heap.size + 1 + 1) #[.int .i64 0, .int .i64 0, .int .i64 0, .int .i64 0, .int .i64 0, .int .i64 0] := by
    refine ⟨hrd.ext X0, hmet.ext X0, ((Blk.new w _ _).alloc _).alloc _, ?_, ?_, Chg.ext X0, by omega, by omega, by omega, by omega, hgB, hgw, hBw⟩
    · have := (Blk.new (w.alloc (.cells #[.int .i64 0, .int .i64 0, .int .i64 0, .int .i64 0, .int .i64 0, .int .i64 0] 46)) 37 #[.int .i64 0, .int .i64 0]).alloc (.cells #[.int .i64 0, .int .i64 0, .int .i64 0, .int .i64 0, .int .i64 0, .int .i64 0] 46)
      simpa using this
    · have := Blk.new ((w.alloc (.cells #[.int .i64 0, .int .i64 0, .int .i64 0, .int .i64 0, .int .i64 0, .int .i64 0] 46)).alloc (.cells #[.int .i64 0, .int .i64 0] 37)) 46 #[.int .i64 0, .int .i64 0, .int .i64 0, .int .i64 0, .int .i64 0, .int .i64 0]
      simpa using this
  replace e1 := Lib.hid e1
  replace e2 := Lib.hid e2
  replace e3 := Lib.hid e3
  replace e4 := Lib.hid e4
  replace e5 := Lib.hid e5
  replace e6 := Lib.hid e6
  clear hrd hmet X0 hgw hBw
  go_enter Try.func99, Try.ntmps99
  go_wp2_with fail
  generalize ((w.alloc (.cells #[.int .i64 0, .int .i64 0, .int .i64 0, .int .i64 0, .int .i64 0, .int .i64 0] 46)).alloc (.cells #[.int .i64 0, .int .i64 0] 37)).alloc (.cells #[.int .i64 0, .int .i64 0, .int .i64 0, .int .i64 0, .int .i64 0, .int .i64 0] 46) = W0 at *
  generalize hg8 : w.heap.size + 1 + 1 = g8 at *
  generalize hg7 : w.heap.size + 1 = g7 at *
  generalize hg6 : w.heap.size = g6 at *
  replace hg8 := Lib.hid hg8
  replace hg7 := Lib.hid hg7
  replace hg6 := Lib.hid hg6
  refine (oat_any s g _ H0.rd).mono ?_
  rintro r w' ⟨rfl, rfl⟩
  go_wp2_with fail
  refine (oint_is e1.out g _ H0.rd).mono ?_
  rintro r w1 ⟨rfl, hR1, hG1⟩
  have H1 := H0.call hR1 hG1
  clear H0 hR1 hG1
  obtain ⟨q, q'⟩ := H1.b8.cells
  go_upto_region 5 with (fail)
  have T1 : TS w _ g B n s1 ks g6 g7 g8 #[.int .i64 n1, .int .i64 0, .int .i64 0, .int .i64 0, .int .i64 0, .int .i64 0] := H1.set8 0 (.int .i64 n1)
  clear H1 q q'
  generalize w1.setCell ⟨g8, 0, none⟩ (.int .i64 n1) = W1 at *
  go_cut [23] (fun v wx => v = .bool (decide (s1.fe = 0 ∧ n1 < last)) ∧ TS w wx g B n s1 ks g6 g7 g8 #[.int .i64 n1, .int .i64 0, .int .i64 0, .int .i64 0, .int .i64 0, .int .i64 0])
  case first =>
    go_wp2_with fail
    refine (ofine_any s1 g _ T1.rd).mono ?_
    rintro r w2 ⟨rfl, hx2⟩
    have T2 := T1.to hx2
    obtain ⟨q, q'⟩ := T2.b8.cells
    have HT2 := Lib.hid T2
    clear T1 hx2 T2
    by_cases f1 : s1.fe = 0
    · have hb : (s1.fe == 0) = true := by simp [f1]
      by_cases c1 : n1 < last
      · have hd : decide (n1 < last) = true := by simpa using c1
        have HR := Lib.hid (show decide (s1.fe = 0 ∧ n1 < last) = true by simp [f1, c1])
        clear f1 c1
        go_wp2_with fail
        go_meet
        exact ⟨by rw [HR.out], HT2.out⟩
      · have hd : decide (n1 < last) = false := by simpa using c1
        have HR := Lib.hid (show decide (s1.fe = 0 ∧ n1 < last) = false by simp [c1])
        clear f1 c1
        go_wp2_with fail
        go_meet
        exact ⟨by rw [HR.out], HT2.out⟩
    · have hb : (s1.fe == 0) = false := by simp [f1]
      have HR := Lib.hid (show decide (s1.fe = 0 ∧ n1 < last) = false by simp [f1])
      clear f1
      go_wp2_with fail
      go_meet
      exact ⟨by rw [HR.out], HT2.out⟩
  case rest =>
    obtain ⟨rfl, T2⟩ := hcut
    clear T1
    by_cases d1 : s1.fe = 0 ∧ n1 < last
    · have hb : decide (s1.fe = 0 ∧ n1 < last) = true := by simpa using d1
      have HT := Lib.hid (HP.out.trans (if_pos d1))
      rw [hb]
      clear HP d1 hb
      have h67 : g6 < g7 := by have := hg7.out; omega
      go_wp2_with fail
      refine (taxFault_any 2 (s.at_ : Int) _).mono ?_
      rintro r wf ⟨rfl, hxf⟩
      have TF := T2.to hxf
      obtain ⟨q6, q6'⟩ := TF.b6.cells
      obtain ⟨q7, q7'⟩ := TF.b7.cells
      obtain ⟨E1, E2, E3, E4, E5⟩ := TF.end8 (.int .i64 0) (.int .i64 0) (.int .i64 0) (.int .i64 0) (.int .i64 0) (.int .i64 0) (.int .i64 2) (.int .i64 (s.at_ : Int))
      have HE1 := Lib.hid E1
      have HE2 := Lib.hid E2
      have HE3 := Lib.hid E3
      have HE4 := Lib.hid E4
      have HE5 := Lib.hid E5
      clear E1 E2 E3 E4 E5 TF hxf
      go_wp2_with fail
      refine bodyPost_ret (results_cc rfl rfl (ld_taxF HE1.out) rfl (ld_fault HE2.out)) rfl ?_
      rw [HT.out]
      exact ⟨rfl, HE3.out, HE4.out.mono (by omega), HE5.out⟩
    have hb : decide (s1.fe = 0 ∧ n1 < last) = false := by simpa using d1
    have HP1 := Lib.hid (HP.out.trans (if_neg d1))
    rw [hb]
    clear HP d1 hb
    go_wp2_with fail
    refine (oat_any s1 g _ T2.rd).mono ?_
    rintro r w' ⟨rfl, rfl⟩
    go_wp2_with fail
    refine (oint_is e2.out g _ T2.rd).mono ?_
    rintro r w3 ⟨rfl, hR3, hG3⟩
    have T3 := T2.call hR3 hG3
    obtain ⟨q, q'⟩ := T3.b8.cells
    clear hR3 hG3 T2
    go_upto_region 9 with (fail)
    have T4 : TS w _ g B n s2 ks g6 g7 g8 #[.int .i64 n1, .int .i64 n2, .int .i64 0, .int .i64 0, .int .i64 0, .int .i64 0] := T3.set8 1 (.int .i64 n2)
    clear T3 q q'
    generalize w3.setCell ⟨g8, 1, none⟩ (.int .i64 n2) = W3 at *
    go_cut [43] (fun v wx => v = .bool (decide (s2.fe = 0 ∧ (n1, n2) ∈ ks)) ∧ TS w wx g B (n + 1) s2 (if s2.fe = 0 then ks ++ [(n1, n2)] else ks) g6 g7 g8 #[.int .i64 n1, .int .i64 n2, .int .i64 0, .int .i64 0, .int .i64 0, .int .i64 0])
    case first =>
      go_wp2_with fail
      refine (ofine_any s2 g _ T4.rd).mono ?_
      rintro r w4 ⟨rfl, hx4⟩
      have T5 := T4.to hx4
      obtain ⟨q, q'⟩ := T5.b8.cells
      have HT5 := Lib.hid T5
      clear T4 hx4 T5
      by_cases f2 : s2.fe = 0
      · have hb : (s2.fe == 0) = true := by simp [f2]
        have HKS := Lib.hid (show (if s2.fe = 0 then ks ++ [(n1, n2)] else ks) = ks ++ [(n1, n2)] from if_pos f2)
        have HR := Lib.hid (show decide (s2.fe = 0 ∧ (n1, n2) ∈ ks) = decide ((n1, n2) ∈ ks) by simp [f2])
        clear f2
        go_wp2_with fail
        refine (twice_any B n ks n1 n2 (by unfold i64; omega) (by unfold i64; omega) _ (by unfold maxLen; omega) HT5.out.met).mono ?_
        rintro r w5 ⟨rfl, hM, hG⟩
        have T6 := Lib.hid (HT5.out.twice hM hG)
        clear hM hG q q'
        go_wp2_with fail
        go_meet
        exact ⟨by rw [HR.out], by rw [HKS.out]; exact T6.out⟩
      · have hb : (s2.fe == 0) = false := by simp [f2]
        have HKS := Lib.hid (show (if s2.fe = 0 then ks ++ [(n1, n2)] else ks) = ks from if_neg f2)
        have HR := Lib.hid (show decide (s2.fe = 0 ∧ (n1, n2) ∈ ks) = false by simp [f2])
        clear f2
        go_wp2_with fail
        go_meet
        exact ⟨by rw [HR.out], by rw [HKS.out]; exact HT5.out.more⟩
    case rest =>
      obtain ⟨rfl, T5⟩ := hcut
      clear T4
      by_cases d2 : s2.fe = 0 ∧ (n1, n2) ∈ ks
      · have hb : decide (s2.fe = 0 ∧ (n1, n2) ∈ ks) = true := by simpa using d2
        have HT := Lib.hid (HP1.out.trans (if_pos d2))
        have hks : (if s2.fe = 0 then ks ++ [(n1, n2)] else ks) = ks ++ [(n1, n2)] := if_pos d2.1
        rw [hks] at T5
        rw [hb]
        clear HP1 d2 hb hks
        have h67 : g6 < g7 := by have := hg7.out; omega
        go_wp2_with fail
        refine (taxFault_any 7 (s1.at_ : Int) _).mono ?_
        rintro r wf ⟨rfl, hxf⟩
        have TF := T5.to hxf
        obtain ⟨q6, q6'⟩ := TF.b6.cells
        obtain ⟨q7, q7'⟩ := TF.b7.cells
        obtain ⟨E1, E2, E3, E4, E5⟩ := TF.end8 (.int .i64 0) (.int .i64 0) (.int .i64 0) (.int .i64 0) (.int .i64 0) (.int .i64 0) (.int .i64 7) (.int .i64 (s1.at_ : Int))
        have HE1 := Lib.hid E1
        have HE2 := Lib.hid E2
        have HE3 := Lib.hid E3
        have HE4 := Lib.hid E4
        have HE5 := Lib.hid E5
        clear E1 E2 E3 E4 E5 TF hxf
        go_wp2_with fail
        refine bodyPost_ret (results_cc rfl rfl (ld_taxF HE1.out) rfl (ld_fault HE2.out)) rfl ?_
        rw [HT.out]
        exact ⟨rfl, HE3.out, HE4.out, HE5.out⟩
      have hb : decide (s2.fe = 0 ∧ (n1, n2) ∈ ks) = false := by simpa using d2
      have HP2 := Lib.hid (HP1.out.trans (if_neg d2))
      rw [hb]
      clear HP1 d2 hb
      generalize (if s2.fe = 0 then ks ++ [(n1, n2)] else ks) = KS at *
      go_wp2_with fail
      refine (oint_is e3.out g _ T5.rd).mono ?_
      rintro r w5 ⟨rfl, hR5, hG5⟩
      have T6 := T5.call hR5 hG5
      obtain ⟨q, q'⟩ := T6.b8.cells
      clear hR5 hG5 T5
      go_wp2_with fail
      have T7 : TS w _ g B (n + 1) s3 KS g6 g7 g8 #[.int .i64 n1, .int .i64 n2, .int .i64 n3, .int .i64 0, .int .i64 0, .int .i64 0] := T6.set8 2 (.int .i64 n3)
      clear T6 q q'
      generalize w5.setCell ⟨g8, 2, none⟩ (.int .i64 n3) = W5 at *
      refine (oat_any s3 g _ T7.rd).mono ?_
      rintro r w' ⟨rfl, rfl⟩
      go_wp2_with fail
      refine (oint_is e4.out g _ T7.rd).mono ?_
      rintro r w6 ⟨rfl, hR6, hG6⟩
      have T8 := T7.call hR6 hG6
      obtain ⟨q, q'⟩ := T8.b8.cells
      clear hR6 hG6 T7
      go_upto_region 14 with (fail)
      have T9 : TS w _ g B (n + 1) s4 KS g6 g7 g8 #[.int .i64 n1, .int .i64 n2, .int .i64 n3, .int .i64 n4, .int .i64 0, .int .i64 0] := T8.set8 3 (.int .i64 n4)
      clear T8 q q'
      generalize w6.setCell ⟨g8, 3, none⟩ (.int .i64 n4) = W6 at *
      go_cut [66] (fun v wx => v = .bool (decide (s4.fe = 0 ∧ 4611686018427387904 - n3 < n4)) ∧ TS w wx g B (n + 1) s4 KS g6 g7 g8 #[.int .i64 n1, .int .i64 n2, .int .i64 n3, .int .i64 n4, .int .i64 0, .int .i64 0])
      case first =>
        go_wp2_with fail
        refine (ofine_any s4 g _ T9.rd).mono ?_
        rintro r w7 ⟨rfl, hx7⟩
        have T10 := T9.to hx7
        obtain ⟨q, q'⟩ := T10.b8.cells
        have HT10 := Lib.hid T10
        clear T9 hx7 T10
        by_cases f4 : s4.fe = 0
        · have hb : (s4.fe == 0) = true := by simp [f4]
          have HR := Lib.hid (show decide (s4.fe = 0 ∧ 4611686018427387904 - n3 < n4) = decide (4611686018427387904 - n3 < n4) by simp [f4])
          clear f4
          go_wp2_with fail
          go_meet
          exact ⟨by rw [HR.out], HT10.out⟩
        · have hb : (s4.fe == 0) = false := by simp [f4]
          have HR := Lib.hid (show decide (s4.fe = 0 ∧ 4611686018427387904 - n3 < n4) = false by simp [f4])
          clear f4
          go_wp2_with fail
          go_meet
          exact ⟨by rw [HR.out], HT10.out⟩
      case rest =>
        obtain ⟨rfl, T10⟩ := hcut
        clear T9
        by_cases d4 : s4.fe = 0 ∧ 4611686018427387904 - n3 < n4
        · have hb : decide (s4.fe = 0 ∧ 4611686018427387904 - n3 < n4) = true := by simpa using d4
          have HT := Lib.hid (HP2.out.trans (if_pos d4))
          rw [hb]
          clear HP2 d4 hb
          have h67 : g6 < g7 := by have := hg7.out; omega
          go_wp2_with fail
          refine (taxFault_any 5 (s3.at_ : Int) _).mono ?_
          rintro r wf ⟨rfl, hxf⟩
          have TF := T10.to hxf
          obtain ⟨q6, q6'⟩ := TF.b6.cells
          obtain ⟨q7, q7'⟩ := TF.b7.cells
          obtain ⟨E1, E2, E3, E4, E5⟩ := TF.end8 (.int .i64 0) (.int .i64 0) (.int .i64 0) (.int .i64 0) (.int .i64 0) (.int .i64 0) (.int .i64 5) (.int .i64 (s3.at_ : Int))
          have HE1 := Lib.hid E1
          have HE2 := Lib.hid E2
          have HE3 := Lib.hid E3
          have HE4 := Lib.hid E4
          have HE5 := Lib.hid E5
          clear E1 E2 E3 E4 E5 TF hxf
          go_wp2_with fail
          refine bodyPost_ret (results_cc rfl rfl (ld_taxF HE1.out) rfl (ld_fault HE2.out)) rfl ?_
          rw [HT.out]
          exact ⟨rfl, HE3.out, HE4.out, HE5.out⟩
        have hb : decide (s4.fe = 0 ∧ 4611686018427387904 - n3 < n4) = false := by simpa using d4
        have HT := Lib.hid (HP2.out.trans (if_neg d4))
        rw [hb]
        clear HP2 d4 hb
        go_wp2_with fail
        refine (oint_is e5.out g _ T10.rd).mono ?_
        rintro r w8 ⟨rfl, hR8, hG8⟩
        have T11 := T10.call hR8 hG8
        obtain ⟨q, q'⟩ := T11.b8.cells
        clear hR8 hG8 T10
        go_wp2_with fail
        have T12 : TS w _ g B (n + 1) s5 KS g6 g7 g8 #[.int .i64 n1, .int .i64 n2, .int .i64 n3, .int .i64 n4, .int .i64 n5, .int .i64 0] := T11.set8 4 (.int .i64 n5)
        clear T11 q q'
        generalize w8.setCell ⟨g8, 4, none⟩ (.int .i64 n5) = W8 at *
        refine (oint_is e6.out g _ T12.rd).mono ?_
        rintro r w9 ⟨rfl, hR9, hG9⟩
        have T13 := T12.call hR9 hG9
        obtain ⟨q, q'⟩ := T13.b8.cells
        clear hR9 hG9 T12
        go_wp2_with fail
        have T14 : TS w _ g B (n + 1) s6 KS g6 g7 g8 #[.int .i64 n1, .int .i64 n2, .int .i64 n3, .int .i64 n4, .int .i64 n5, .int .i64 n6] := T13.set8 5 (.int .i64 n6)
        clear T13 q q'
        generalize w9.setCell ⟨g8, 5, none⟩ (.int .i64 n6) = W9 at *
        have h67 : g6 < g7 := by have := hg7.out; omega
        have h78 : g7 < g8 := by have := hg8.out; omega
        have HQ := Lib.hid (fun W2 (h : Chg [g6, g7] W9 W2) => (show W2.cell? ⟨g8, 0, none⟩ = some (.int .i64 n1) ∧ W2.cell? ⟨g8, 1, none⟩ = some (.int .i64 n2) ∧ W2.cell? ⟨g8, 2, none⟩ = some (.int .i64 n3) ∧ W2.cell? ⟨g8, 3, none⟩ = some (.int .i64 n4) ∧ W2.cell? ⟨g8, 4, none⟩ = some (.int .i64 n5) ∧ W2.cell? ⟨g8, 5, none⟩ = some (.int .i64 n6) from
          have hb := h.blk T14.b8 (by simp; omega)
          ⟨hb.cell 0, hb.cell 1, hb.cell 2, hb.cell 3, hb.cell 4, hb.cell 5⟩))
        obtain ⟨k0, k1, k2, k3, k4, k5⟩ := HQ.out _ (Chg.refl _ W9)
        have m6 : g6 ∈ [g6, g7] := by simp
        have m7 : g7 ∈ [g6, g7] := by simp
        have HT14 := Lib.hid T14
        clear T14
        go_region_held3 (fun w' => w'.cell? ⟨g8, 0, none⟩ = some (.int .i64 n1) ∧ w'.cell? ⟨g8, 1, none⟩ = some (.int .i64 n2) ∧ w'.cell? ⟨g8, 2, none⟩ = some (.int .i64 n3) ∧ w'.cell? ⟨g8, 3, none⟩ = some (.int .i64 n4) ∧ w'.cell? ⟨g8, 4, none⟩ = some (.int .i64 n5) ∧ w'.cell? ⟨g8, 5, none⟩ = some (.int .i64 n6))
          (first | (with_reducible refine HQ.out _ ?_; with_reducible repeat (first | exact Chg.refl _ _ | exact XF | refine Chg.drewF ?_ | refine Chg.setcF ?_ m6 _ | refine Chg.setcF ?_ m7 _)))
          (first
          | (go_at_call 101; refine (ofaultR_any s6 g _ (HT14.out.to (Ext.refl W9).drew).rd).mono ?_; rintro r wf ⟨rfl, hxf⟩; have hxf2 := Ext.trans (Ext.refl W9).drew hxf; have XF := Chg.ext (S := [g6, g7]) hxf2; have TF := HT14.out.to hxf2; obtain ⟨q6, q6'⟩ := TF.b6.cells; obtain ⟨q7, q7'⟩ := TF.b7.cells; have HTF := Lib.hid TF; clear TF hxf hxf2))
        all_goals
          obtain ⟨E1, E2, E3, E4, E5⟩ := HTF.out.end8 (.int .i64 n1) (.int .i64 n2) (.int .i64 n3) (.int .i64 n4) (.int .i64 n5) (.int .i64 n6) (.int .i64 s6.fe) (.int .i64 (s6.fa : Int))
          have HE1 := Lib.hid E1
          have HE2 := Lib.hid E2
          have HE3 := Lib.hid E3
          have HE4 := Lib.hid E4
          have HE5 := Lib.hid E5
          clear E1 E2 E3 E4 E5
          go_wp2_with fail
          refine bodyPost_ret (results_cc rfl rfl (ld_taxF HE1.out) rfl (ld_fault HE2.out)) rfl ?_
          rw [HT.out]
          exact ⟨rfl, HE3.out, HE4.out, HE5.out⟩
end Go.Proofs.Ytehkmngbknbbaaa
