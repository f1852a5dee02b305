/-
  period: First, Of; civil: Date.
-/
import Derived.Test.YtokakpbpenndlaaGreatDoorRs35
import Derived.Test.YtokakpbpenndlaaGreatDoorRs05
import Derived.Test.YtokakpbpenndlaaGreatDoorRs19
import Derived.Test.YtokakpbpenndlaaGreatDoorRs32
import Derived.Test.YtokakpbpenndlaaGreatDoorRs34
set_option linter.unusedVariables false
namespace Go.Proofs.YtokakpbpenndlaaGreatDoor
open Go.RowKit

theorem span_ok {k p : Int} (h : perE k p = 0) : (longI k = 1 ∨ longI k = 3 ∨ longI k = 6 ∨ longI k = 12) ∧ 0 ≤ p ∧ p < 119988 ∧ (spanI k p).1 = p * longI k ∧ 0 ≤ p * longI k ∧ p * longI k < 119988 := by
  have hs : (spanI k p).1 = p * longI k := by unfold spanI; rw [if_pos h]
  unfold perE at h
  by_cases h0 : longI k = 0
  · rw [if_pos h0] at h; cases h
  rw [if_neg h0] at h
  by_cases hp : p < 0 ∨ 119988 / longI k ≤ p
  · rw [if_pos hp] at h; cases h
  have hn : longI k = 1 ∨ longI k = 3 ∨ longI k = 6 ∨ longI k = 12 := by
    unfold longI at h0 ⊢
    repeat' split at h0
    all_goals simp_all
  refine ⟨hn, by omega, ?_, hs, ?_, ?_⟩
  all_goals rcases hn with e | e | e | e <;> rw [e] at hp <;> (try rw [e]) <;> omega
set_option maxRecDepth 100000 in
set_option maxHeartbeats 2000000 in
theorem pfirst_any (k p : Int) (hk : i64 k) (w : World) : Calls Tryz.prog 55 #[.int .i64 k, .int .i64 p] w fun e w' => ∃ n : Int, e = .returned (.tuple #[.int .i64 n, .int .i64 (perE k p)]) ∧ Ext w w' := by
  by_cases h : perE k p = 0
  · obtain ⟨_, _, _, hs, h1, h2⟩ := span_ok h
    have HS := Lib.hid (pspan_any k p hk w)
    rw [hs, h] at HS
    have HE := Lib.hid h
    generalize p * longI k = m at *
    have HD := Lib.hid (show (dayI (m / 12 + 1) (m % 12 + 1) 1).2 = 0 by
      have := lenI_pos (y := m / 12 + 1) (m := m % 12 + 1) (by omega) (by omega)
      unfold dayI
      rw [if_neg (by omega)])
    clear hs h
    go_enter Tryz.func55, Tryz.ntmps55
    go_wp2_with fail
    refine HS.out.mono ?_
    rintro e w1 ⟨rfl, hx⟩
    go_wp2_with fail
    refine (cday_any _ _ _ _).mono ?_
    rintro e w2 ⟨rfl, rfl⟩
    rw [HD.out]
    go_wp2_with fail
    go_ret2
    exact ⟨_, by rw [HE.out]; rfl, hx⟩
  · have HS := Lib.hid (pspan_any k p hk w)
    have hb : (perE k p != 0) = true := by simpa using h
    clear h
    generalize perE k p = E at *
    go_enter Tryz.func55, Tryz.ntmps55
    go_wp2_with fail
    refine HS.out.mono ?_
    rintro e w1 ⟨rfl, hx⟩
    go_wp2_with fail
    go_ret2
    exact ⟨0, rfl, hx⟩
theorem ld_date {w : World} {g : Nat} {a b c : Value} (h : Blk w g 188 #[a, b, c]) : (loadVar 188 ⟨g, 0, none⟩).run Tryz.prog w = .ok (.agg #[a, b, c]) w := by
  have q := h.cell
  simp [go_sem, q]
theorem put3' {w : World} {g : Nat} {t : TypeId} {a b c a' b' c' : Value} (h : Blk w g t #[a, b, c]) : Blk (((w.setCell ⟨g, 0, none⟩ a').setCell ⟨g, 1, none⟩ b').setCell ⟨g, 2, none⟩ c') g t #[a', b', c'] := by
  have := ((h.set_ 0 a').set_ 1 b').set_ 2 c'
  simpa using this
/-- Where the search for the month stands. -/
def DtRel (w : World) (y L : Int) (g : Nat) (v : Value) (wr : World) : Prop := ∃ m : Nat, m < 12 ∧ v = .int .i64 (L - msI y m) ∧ 0 ≤ L - msI y m ∧ Blk wr g 188 #[.int .i64 y, .int .i64 ((m : Int) + 1), .int .i64 0] ∧ Blk wr w.heap.size 188 #[.int .i64 0, .int .i64 0, .int .i64 0] ∧ Ext w wr
set_option maxRecDepth 100000 in
set_option maxHeartbeats 4000000 in
theorem cdate_any (day : Int) (hd : 0 ≤ day ∧ day ≤ 3652058) (w : World) : Calls Tryz.prog 114 #[.int .i64 day] w fun e w' => ∃ (y l : Int) (m : Nat), e = .returned (.tuple #[.agg #[.int .i64 y, .int .i64 ((m : Int) + 1), .int .i64 (l + 1)], .int .i64 0]) ∧ DateIs day y m l ∧ Ext w w' := by
  have hv : decide (0 ≤ day ∧ day ≤ 3652058) = true := decide_eq_true hd
  have HV := Lib.hid (cvalid_any day)
  rw [hv] at HV
  obtain ⟨d0, d1⟩ := hd
  clear hv
  go_enter Tryz.func114, Tryz.ntmps114
  go_wp2_with fail
  refine (HV.out _).mono ?_
  rintro e w1 ⟨rfl, rfl⟩
  go_wp2_with fail
  have HYO := year_of (day := day) (q := day / 146097) (r := day % 146097) (by omega) (by omega) rfl rfl rfl rfl rfl
  generalize 400 * (day / 146097) + 100 * min (day % 146097 / 36524) 3 + 4 * ((day % 146097 - min (day % 146097 / 36524) 3 * 36524) / 1461) + min ((day % 146097 - min (day % 146097 / 36524) 3 * 36524) % 1461 / 365) 3 + 1 = y at HYO ⊢
  generalize (day % 146097 - min (day % 146097 / 36524) 3 * 36524) % 1461 - 365 * min ((day % 146097 - min (day % 146097 / 36524) 3 * 36524) % 1461 / 365) 3 = L at HYO ⊢
  obtain ⟨h1, h2, h3⟩ := HYO
  obtain ⟨m0, HD⟩ := DateIs.mk' ⟨d0, d1⟩ h1 h2 h3
  have hy := HD.hy
  rw [← msI_year hy] at h3
  have H0 : DtRel w y L (w.heap.size + 1) (.int .i64 L) ((w.alloc (.cells #[.int .i64 0, .int .i64 0, .int .i64 0] 188)).alloc (.cells #[.int .i64 y, .int .i64 1, .int .i64 0] 188)) :=
    ⟨0, by omega, by simp [msI], by simp [msI]; exact h2, by have := Blk.new (w.alloc (.cells #[.int .i64 0, .int .i64 0, .int .i64 0] 188)) 188 #[.int .i64 y, .int .i64 1, .int .i64 0]; simpa using this, (Blk.new w _ _).alloc _, ((Ext.refl w).alloc _).alloc _⟩
  have hg9 : w.heap.size < w.heap.size + 1 := by omega
  have hgn : w.heap.size ≠ w.heap.size + 1 := by omega
  generalize (w.alloc (.cells #[.int .i64 0, .int .i64 0, .int .i64 0] 188)).alloc (.cells #[.int .i64 y, .int .i64 1, .int .i64 0] 188) = W at H0 ⊢
  obtain ⟨g9, hg⟩ : ∃ g9, w.heap.size + 1 = g9 := ⟨_, rfl⟩
  rw [hg] at H0 hg9 hgn ⊢
  clear hg
  have HH := Lib.hid H0
  have HMK := Lib.hid (fun (m : Nat) (hm : m < 12) (a : 0 ≤ L - msI y m) (b : L - msI y m < lenI y ((m : Int) + 1)) => (show DateIs day y m (L - msI y m) from ⟨hy, hm, by rw [show (((m + 1 : Nat)) : Int) = (m : Int) + 1 by omega]; exact ⟨a, b⟩, by omega⟩))
  have HL := Lib.hid h3
  have hL372 : L ≤ 372 := by have := msI_bd y 12; omega
  clear H0 HD h1 h3 HV
  go_loopw [5] (fun v wr => DtRel w y L g9 v wr) (fun v _ => (intOf v).toNat)
  case atStart => exact HH.out
  case round =>
    clear HH
    obtain ⟨m, hm, rfl, hn, hB, hB2, hx⟩ := hrel
    have hmb := msI_bd y m
    have hl28 := lenI_pos hy (m := (m : Int) + 1) (by omega)
    have hl31 := lenI_bd y ((m : Int) + 1)
    have hms : msI y (m + 1) = msI y m + lenI y ((m : Int) + 1) := by show msI y m + lenI y ((m + 1 : Nat) : Int) = _; rw [show (((m + 1 : Nat)) : Int) = (m : Int) + 1 by omega]
    have hlt9 := hB.lt
    by_cases hge : lenI y ((m : Int) + 1) ≤ L - msI y m
    · have hm1 : m + 1 < 12 := by
        by_cases h : m + 1 < 12
        · exact h
        · have e : m + 1 = 12 := by omega
          rw [e] at hms
          have := HL.out
          omega
      have HN := Lib.hid (fun (W : World) (v : Int) (hv : v = L - msI y m - lenI y ((m : Int) + 1)) (h1 : Blk W g9 188 #[.int .i64 y, .int .i64 ((m : Int) + 1 + 1), .int .i64 0]) (h2 : Blk W w.heap.size 188 #[.int .i64 0, .int .i64 0, .int .i64 0]) (h3 : Ext w W) =>
        (show DtRel w y L g9 (.int .i64 v) W from ⟨m + 1, hm1, by rw [hms, hv]; congr 1; omega, by rw [hms]; omega, by rw [show (((m + 1 : Nat)) : Int) = (m : Int) + 1 by omega]; exact h1, h2, h3⟩))
      clear hms
      have hd : decide (lenI y ((m : Int) + 1) ≤ L - msI y m) = true := decide_eq_true hge
      obtain ⟨q, q'⟩ := hB.cells
      have HB := Lib.hid hB
      clear hB
      go_wp2_with fail
      refine (clength_any y ((m : Int) + 1) _).mono ?_
      rintro e w' ⟨rfl, rfl⟩
      go_wp2_with fail
      refine (clength_any y ((m : Int) + 1) _).mono ?_
      rintro e w' ⟨rfl, rfl⟩
      go_wp2_with fail
      go_roundw
      case rel => exact HN.out _ _ rfl (by have := HB.out.set_ 1 (.int .i64 ((m : Int) + 1 + 1)); simpa using this) (hB2.far (p := ⟨g9, 1, none⟩) hgn _) (hx.set (p := ⟨g9, 1, none⟩) (Nat.le_of_lt hg9) _)
      case measure => simp [intOf]; omega
    · have hd : decide (lenI y ((m : Int) + 1) ≤ L - msI y m) = false := decide_eq_false hge
      have HI := Lib.hid (HMK.out m hm hn (by omega))
      obtain ⟨q, q'⟩ := hB.cells
      have HB := Lib.hid hB
      obtain ⟨r, r'⟩ := hB2.cells
      have lt2 := hB2.lt
      have HB2 := Lib.hid hB2
      clear hB hms hB2
      go_wp2_with fail
      refine (clength_any y ((m : Int) + 1) _).mono ?_
      rintro e w' ⟨rfl, rfl⟩
      go_wp2_with fail
      have B9 := HB2.out.far (p := ⟨g9, 2, none⟩) hgn (.int .i64 (L - msI y m + 1))
      refine bodyPost_ret (results_ct rfl rfl (ld_date (put3' B9))) rfl ⟨y, L - msI y m, m, rfl, HI.out, ?_⟩
      exact ((((hx.set (p := ⟨g9, 2, none⟩) (Nat.le_of_lt hg9) _).set (p := ⟨w.heap.size, 0, none⟩) (Nat.le_refl _) _).set (p := ⟨w.heap.size, 1, none⟩) (Nat.le_refl _) _).set (p := ⟨w.heap.size, 2, none⟩) (Nat.le_refl _) _)
theorem longI_of {k : Int} (hk : 1 ≤ k ∧ k ≤ 4) : longI k = 1 ∨ longI k = 3 ∨ longI k = 6 ∨ longI k = 12 := by
  have : k = 1 ∨ k = 2 ∨ k = 3 ∨ k = 4 := by omega
  rcases this with h | h | h | h <;> subst h <;> simp [longI]
set_option maxRecDepth 100000 in
set_option maxHeartbeats 2000000 in
theorem pof_any (k day : Int) (hk : 1 ≤ k ∧ k ≤ 4) (hd : 0 ≤ day ∧ day ≤ 3652058) (w : World) : Calls Tryz.prog 70 #[.int .i64 k, .int .i64 day] w fun e w' => e = .returned (.tuple #[.int .i64 (ofI k day), .int .i64 0]) ∧ Ext w w' := by
  have HC := Lib.hid (plong_any k (by unfold i64; omega) w)
  have hn := longI_of hk
  rw [show decide (longI k ≠ 0) = true by simp; omega] at HC
  have HO := Lib.hid (show ofI k day = monI day / longI k from rfl)
  rcases hn with e | e | e | e
  all_goals
    rw [e] at HC HO
    clear e
    go_enter Tryz.func70, Tryz.ntmps70
    go_wp2_with fail
    refine HC.out.mono ?_
    rintro e w1 ⟨rfl, hx⟩
    go_wp2_with fail
    refine (cdate_any day hd _).mono ?_
    rintro e w2 ⟨y, l, m, rfl, HD, hx2⟩
    have hm := monI_of HD
    have hy := HD.hy
    have hm12 := HD.hm
    rw [hm] at HO
    have B8 := Blk.new w2 188 #[.int .i64 y, .int .i64 ((m : Int) + 1), .int .i64 (l + 1)]
    obtain ⟨q, q'⟩ := B8.cells
    clear HD hm
    obtain ⟨y1, y2⟩ := hy
    go_wp2_with fail
    go_ret2
    refine ⟨?_, ((Ext.trans hx hx2).alloc _)⟩
    rw [HO.out]
    first | rfl | (congr 4; omega) | (simp; omega)
end Go.Proofs.YtokakpbpenndlaaGreatDoor

set_option linter.unusedVariables false
namespace Go.Proofs.YtokakpbpenndlaaGreatDoor
open Go.RowKit Go.Maps

/-- No book. -/
def NoneB (W : World) (v : Value) : Prop := v = .pointer none ∨ ∃ g, v = .pointer (some ⟨g, 0, none⟩) ∧ Blk W g 66 #[.slice none 0 0, .map none]
theorem NoneB.ext {W W' : World} {v : Value} (h : NoneB W v) (hx : Ext W W') : NoneB W' v := by
  rcases h with h | ⟨g, h1, h2⟩
  · exact .inl h
  · exact .inr ⟨g, h1, h2.ext hx⟩
set_option maxRecDepth 100000 in
set_option maxHeartbeats 1000000 in
theorem none_n {W : World} {v : Value} (h : NoneB W v) : Calls Tryz.prog 87 #[v] W fun r w' => r = .returned (.bool true) ∧ W = w' := by
  rcases h with rfl | ⟨g, rfl, hb⟩
  · go_enter Tryz.func87, Tryz.ntmps87
    go_wp2_with fail
    go_ret
    exact ⟨rfl, rfl⟩
  · obtain ⟨q, q'⟩ := hb.cells
    clear hb
    have hm := fun W : World => run_eql_map_nil (P := Tryz.prog) W 64 3 112 none Tryz.underlying64
    go_enter Tryz.func87, Tryz.ntmps87
    go_wp2_with fail
    go_ret
    exact ⟨rfl, rfl⟩
set_option maxRecDepth 100000 in
theorem sale_n {W : World} {v : Value} (h : NoneB W v) (id : Int) : Calls Tryz.prog 63 #[v, .int .i64 id] W fun r w' => r = .returned (.pointer none) ∧ W = w' := by
  have H := Lib.hid h
  clear h
  go_enter Tryz.func63, Tryz.ntmps63
  go_wp2_with fail
  refine (none_n H.out).mono ?_
  rintro r w' ⟨rfl, rfl⟩
  go_wp2_with fail
  go_ret
  exact ⟨rfl, rfl⟩
set_option maxRecDepth 100000 in
theorem lines_n {W : World} {v : Value} (h : NoneB W v) (id : Int) : Calls Tryz.prog 58 #[v, .int .i64 id] W fun r w' => r = .returned (.slice none 0 0) ∧ W = w' := by
  have H := Lib.hid h
  clear h
  go_enter Tryz.func58, Tryz.ntmps58
  go_wp2_with fail
  refine (none_n H.out).mono ?_
  rintro r w' ⟨rfl, rfl⟩
  go_wp2_with fail
  go_ret
  exact ⟨rfl, rfl⟩
set_option maxRecDepth 100000 in
theorem moves_n {W : World} {v : Value} (h : NoneB W v) (id : Int) : Calls Tryz.prog 41 #[v, .int .i64 id] W fun r w' => r = .returned (.slice none 0 0) ∧ W = w' := by
  have H := Lib.hid h
  clear h
  go_enter Tryz.func41, Tryz.ntmps41
  go_wp2_with fail
  refine (none_n H.out).mono ?_
  rintro r w' ⟨rfl, rfl⟩
  go_wp2_with fail
  go_ret
  exact ⟨rfl, rfl⟩
set_option maxRecDepth 100000 in
set_option maxHeartbeats 1000000 in
theorem may_n {W : World} {v : Value} (h : NoneB W v) (e : Ent) (Aa At : Option Addr) (ca ct : Nat) : Calls Tryz.prog 57 #[v, entV e Aa At ca ct] W fun r w' => r = .returned (.int .i64 1) ∧ Ext W w' := by
  have X0 := (Ext.refl W).alloc (.cells #[.int .i64 e.k, .int .i64 e.id, .int .i64 e.of_, .int .i64 e.day, .slice Aa e.am.length ca, .slice At e.tax.length ct] 52)
  have H := Lib.hid (h.ext X0)
  clear h
  go_enter Tryz.func57, Tryz.ntmps57
  go_wp2_with fail
  refine (none_n H.out).mono ?_
  rintro r w' ⟨rfl, rfl⟩
  go_wp2_with fail
  go_ret
  exact ⟨rfl, X0⟩
set_option maxRecDepth 100000 in
set_option maxHeartbeats 1000000 in
theorem add_n {W : World} {v : Value} (h : NoneB W v) (e : Ent) (Aa At : Option Addr) (ca ct : Nat) : Calls Tryz.prog 26 #[v, entV e Aa At ca ct] W fun r w' => r = .returned (.tuple #[.slice none 0 0, .int .i64 1]) ∧ Ext W w' := by
  have X0 := (Ext.refl W).alloc (.cells #[.int .i64 e.k, .int .i64 e.id, .int .i64 e.of_, .int .i64 e.day, .slice Aa e.am.length ca, .slice At e.tax.length ct] 52)
  have H := Lib.hid (h.ext X0)
  clear h
  go_enter Tryz.func26, Tryz.ntmps26
  go_wp2_with fail
  refine (may_n H.out e Aa At ca ct).mono ?_
  rintro r w1 ⟨rfl, hx1⟩
  go_wp2_with fail
  go_quiet (fail)
  go_wp2_with fail
  go_ret2
  exact ⟨rfl, X0.trans (hx1.drewN _)⟩
end Go.Proofs.YtokakpbpenndlaaGreatDoor

set_option linter.unusedVariables false
namespace Go.Proofs.YtokakpbpenndlaaGreatDoor
open Go.RowKit Go.Maps

theorem zero_check : Ent.zero.check = 5 := by decide
theorem rnone_any {w0 W : World} {bb mb : Nat} {vids : Value} {M : BkM} (h : BookAt w0 W bb mb vids M) : Calls Tryz.prog 68 #[.pointer (some ⟨bb, 0, none⟩)] W fun e w' => e = .returned (.bool false) ∧ Ext W w' := by
  have hm : M.b.may Ent.zero = 5 := by unfold Bk.may; rw [if_pos (by rw [zero_check]; decide)]; exact zero_check
  have HB := Lib.hid (bmay_any h Ent.zero none none 0 0 ⟨Reads.none_, Reads.none_, by simp [Ent.zero, maxLen], by simp [Ent.zero, maxLen]⟩)
  rw [hm] at HB
  clear h hm
  go_enter Tryz.func68, Tryz.ntmps68
  go_wp2_with fail
  refine HB.out.mono ?_
  rintro e w1 ⟨rfl, hx⟩
  go_wp2_with fail
  go_ret
  exact ⟨rfl, hx⟩
theorem rnone_n {W : World} {v : Value} (h : NoneB W v) : Calls Tryz.prog 68 #[v] W fun e w' => e = .returned (.bool true) ∧ Ext W w' := by
  have HB := Lib.hid (may_n h Ent.zero none none 0 0)
  clear h
  go_enter Tryz.func68, Tryz.ntmps68
  go_wp2_with fail
  refine HB.out.mono ?_
  rintro e w1 ⟨rfl, hx⟩
  go_wp2_with fail
  go_ret
  exact ⟨rfl, hx⟩
def Rep.cs (r : Rep) : Array Value := #[.int .i64 r.j, .int .i64 r.k, .int .i64 r.p, .int .i64 r.t, .int .i64 r.x, .int .i64 r.v, .int .i64 r.s, .int .i64 r.r]
abbrev Rep.V (r : Rep) : Value := .agg #[.int .i64 r.j, .int .i64 r.k, .int .i64 r.p, .int .i64 r.t, .int .i64 r.x, .int .i64 r.v, .int .i64 r.s, .int .i64 r.r]
theorem ld_rep {w : World} {g : Nat} {a b c d e f i j : Value} (h : Blk w g 23 #[a, b, c, d, e, f, i, j]) : (loadVar 23 ⟨g, 0, none⟩).run Tryz.prog w = .ok (.agg #[a, b, c, d, e, f, i, j]) w := by
  have q := h.cell
  simp [go_sem, q]
theorem put8 {w : World} {g : Nat} {t : TypeId} {a b c d e f i j a' b' c' d' e' f' i' j' : Value} (h : Blk w g t #[a, b, c, d, e, f, i, j]) :
    Blk ((((((((w.setCell ⟨g, 0, none⟩ a').setCell ⟨g, 1, none⟩ b').setCell ⟨g, 2, none⟩ c').setCell ⟨g, 3, none⟩ d').setCell ⟨g, 4, none⟩ e').setCell ⟨g, 5, none⟩ f').setCell ⟨g, 6, none⟩ i').setCell ⟨g, 7, none⟩ j') g t #[a', b', c', d', e', f', i', j'] := by
  have := (((((((h.set_ 0 a').set_ 1 b').set_ 2 c').set_ 3 d').set_ 4 e').set_ 5 f').set_ 6 i').set_ 7 j'
  simpa using this
theorem ext8 {a w : World} {g : Nat} (hx : Ext a w) (hg : a.heap.size ≤ g) (v0 v1 v2 v3 v4 v5 v6 v7 : Value) :
    Ext a ((((((((w.setCell ⟨g, 0, none⟩ v0).setCell ⟨g, 1, none⟩ v1).setCell ⟨g, 2, none⟩ v2).setCell ⟨g, 3, none⟩ v3).setCell ⟨g, 4, none⟩ v4).setCell ⟨g, 5, none⟩ v5).setCell ⟨g, 6, none⟩ v6).setCell ⟨g, 7, none⟩ v7) :=
  (((((((hx.set (p := ⟨g, 0, none⟩) hg _).set (p := ⟨g, 1, none⟩) hg _).set (p := ⟨g, 2, none⟩) hg _).set (p := ⟨g, 3, none⟩) hg _).set (p := ⟨g, 4, none⟩) hg _).set (p := ⟨g, 5, none⟩) hg _).set (p := ⟨g, 6, none⟩) hg _).set (p := ⟨g, 7, none⟩) hg _
abbrev zRep : Array Value := #[.int .i64 0, .int .i64 0, .int .i64 0, .int .i64 0, .int .i64 0, .int .i64 0, .int .i64 0, .int .i64 0]
/-- Of no book. -/
theorem rfile_n {W : World} {v : Value} (h : NoneB W v) (L : Value) (id p : Int) : Calls Tryz.prog 29 #[v, L, .int .i64 id, .int .i64 p] W fun e w' => e = .returned (.tuple #[Rep.zero.V, .int .i64 1]) ∧ Ext W w' := by
  have X0 := (Ext.refl W).alloc (.cells #[.int .i64 0, .int .i64 0, .int .i64 0, .int .i64 0, .int .i64 0, .int .i64 0, .int .i64 0, .int .i64 0] 23)
  have B0 := Blk.new W 23 #[.int .i64 0, .int .i64 0, .int .i64 0, .int .i64 0, .int .i64 0, .int .i64 0, .int .i64 0, .int .i64 0]
  have HN := Lib.hid (rnone_n (h.ext X0))
  clear h
  go_enter Tryz.func29, Tryz.ntmps29
  go_wp2_with fail
  refine HN.out.mono ?_
  rintro e w1 ⟨rfl, hx⟩
  have B1 := B0.ext hx
  obtain ⟨q, q'⟩ := B1.cells
  go_wp2_with fail
  exact bodyPost_ret (results_ct rfl rfl (ld_rep (put8 B1))) rfl ⟨rfl, ext8 (X0.trans hx) (Nat.le_refl _) _ _ _ _ _ _ _ _⟩

/-- How the world stands in File's loops. -/
structure FlAt (W : World) (g8 g12 g16 g17 : Nat) (x : JV) (R : Array Value) (T X V : Int) (wr : World) : Prop where
  b8 : Blk wr g8 23 zRep
  b12 : Blk wr g12 83 #[.int .i64 x.j.id, .int .i64 x.j.k, .int .i64 x.j.par, .int .i64 x.j.f, .slice x.A x.n x.c]
  b16 : Blk wr g16 23 R
  b17 : Blk wr g17 135 #[.int .u64 (hiI T), .int .u64 (loI T), .int .u64 (hiI X), .int .u64 (loI X), .int .u64 (hiI V), .int .u64 (loI V)]
  ne : g8 ≠ g16
  ext : Ext W wr
  l8 : W.heap.size ≤ g8
  l16 : W.heap.size ≤ g16
  l17 : W.heap.size ≤ g17
theorem FlAt.to {W wr w' : World} {g8 g12 g16 g17 : Nat} {x : JV} {R : Array Value} {T X V : Int} (h : FlAt W g8 g12 g16 g17 x R T X V wr) (hx : Ext wr w') : FlAt W g8 g12 g16 g17 x R T X V w' :=
  ⟨h.b8.ext hx, h.b12.ext hx, h.b16.ext hx, h.b17.ext hx, h.ne, h.ext.trans hx, h.l8, h.l16, h.l17⟩
theorem FlAt.put {W wr : World} {g8 g12 g16 g17 : Nat} {x : JV} {R : Array Value} {T X V : Int} (h : FlAt W g8 g12 g16 g17 x R T X V wr) (i : Nat) (u : Value) : FlAt W g8 g12 g16 g17 x (R.setIfInBounds i u) T X V (wr.setCell ⟨g16, i, none⟩ u) :=
  ⟨h.b8.far (p := ⟨g16, i, none⟩) h.ne _, h.b12.far (p := ⟨g16, i, none⟩) (h.b12.ne_ h.b16 (by decide)) _, h.b16.set_ i u, h.b17.far (p := ⟨g16, i, none⟩) (h.b17.ne_ h.b16 (by decide)) _, h.ne, h.ext.set (p := ⟨g16, i, none⟩) h.l16 _, h.l8, h.l16, h.l17⟩
theorem FlAt.sum {W wr : World} {g8 g12 g16 g17 : Nat} {x : JV} {R : Array Value} {T X V T' X' V' : Int} (h : FlAt W g8 g12 g16 g17 x R T X V wr) (o : Nat) (hi lo : Value)
    (he : ((#[.int .u64 (hiI T), .int .u64 (loI T), .int .u64 (hiI X), .int .u64 (loI X), .int .u64 (hiI V), .int .u64 (loI V)] : Array Value).setIfInBounds (o + 1) lo).setIfInBounds o hi = #[.int .u64 (hiI T'), .int .u64 (loI T'), .int .u64 (hiI X'), .int .u64 (loI X'), .int .u64 (hiI V'), .int .u64 (loI V')]) :
    FlAt W g8 g12 g16 g17 x R T' X' V' ((wr.setCell ⟨g17, o + 1, none⟩ lo).setCell ⟨g17, o, none⟩ hi) :=
  ⟨(h.b8.far (p := ⟨g17, o + 1, none⟩) (h.b8.ne_ h.b17 (by decide)) _).far (p := ⟨g17, o, none⟩) (h.b8.ne_ h.b17 (by decide)) _,
   (h.b12.far (p := ⟨g17, o + 1, none⟩) (h.b12.ne_ h.b17 (by decide)) _).far (p := ⟨g17, o, none⟩) (h.b12.ne_ h.b17 (by decide)) _,
   (h.b16.far (p := ⟨g17, o + 1, none⟩) (h.b16.ne_ h.b17 (by decide)) _).far (p := ⟨g17, o, none⟩) (h.b16.ne_ h.b17 (by decide)) _,
   by have := (h.b17.set_ (o + 1) lo).set_ o hi; rwa [he] at this, h.ne, (h.ext.set (p := ⟨g17, o + 1, none⟩) h.l17 _).set (p := ⟨g17, o, none⟩) h.l17 _, h.l8, h.l16, h.l17⟩
end Go.Proofs.YtokakpbpenndlaaGreatDoor
