/-
  period: First, Of; civil: Date.
-/
import Derived.Test.YtokakpbpenndlaaGreatDoorRt22
import Derived.Test.YtokakpbpenndlaaGreatDoorRt02
import Derived.Test.YtokakpbpenndlaaGreatDoorRt18
import Derived.Test.YtokakpbpenndlaaGreatDoorRt20
import Derived.Test.YtokakpbpenndlaaGreatDoorRt21
import Derived.Test.YtokakpbpenndlaaGreatDoorRt10
import Derived.Test.YtokakpbpenndlaaGreatDoorRt11
import Derived.Deep.RegionLaw
set_option linter.unusedVariables false
namespace Go.Proofs.YtokakpbpenndlaaGreatDoor
open Go.RowKit

theorem span_ok {k p : Int} (h : perE k p = 0) : (longI k = 1 ∨ longI k = 3 ∨ longI k = 6 ∨ longI k = 12) ∧ 0 ≤ p ∧ p < 119988 ∧ (spanI k p).1 = p * longI k ∧ 0 ≤ p * longI k ∧ p * longI k < 119988 := by
  have hs : (spanI k p).1 = p * longI k := by unfold spanI; rw [if_pos h]
  unfold perE at h
  by_cases h0 : longI k = 0
  · rw [if_pos h0] at h; cases h
  rw [if_neg h0] at h
  by_cases hp : p < 0 ∨ 119988 / longI k ≤ p
  · rw [if_pos hp] at h; cases h
  have hn : longI k = 1 ∨ longI k = 3 ∨ longI k = 6 ∨ longI k = 12 := by
    unfold longI at h0 ⊢
    repeat' split at h0
    all_goals simp_all
  refine ⟨hn, by omega, ?_, hs, ?_, ?_⟩
  all_goals rcases hn with e | e | e | e <;> rw [e] at hp <;> (try rw [e]) <;> omega
set_option maxRecDepth 100000 in
set_option maxHeartbeats 2000000 in
theorem pfirst_any (k p : Int) (hk : i64 k) (w : World) : Calls Tryz.prog 55 #[.int .i64 k, .int .i64 p] w fun e w' => ∃ n : Int, e = .returned (.tuple #[.int .i64 n, .int .i64 (perE k p)]) ∧ Ext w w' := by
  by_cases h : perE k p = 0
  · obtain ⟨_, _, _, hs, h1, h2⟩ := span_ok h
    have HS := Lib.hid (pspan_any k p hk w)
    rw [hs, h] at HS
    have HE := Lib.hid h
    generalize p * longI k = m at *
    have HD := Lib.hid (show (dayI (m / 12 + 1) (m % 12 + 1) 1).2 = 0 by
      have := lenI_pos (y := m / 12 + 1) (m := m % 12 + 1) (by omega) (by omega)
      unfold dayI
      rw [if_neg (by omega)])
    clear hs h
    go_enter Tryz.func55, Tryz.ntmps55
    go_wp2_with fail
    refine HS.out.mono ?_
    rintro e w1 ⟨rfl, hx⟩
    go_wp2_with fail
    refine (cday_any _ _ _ _).mono ?_
    rintro e w2 ⟨rfl, rfl⟩
    rw [HD.out]
    go_wp2_with fail
    go_ret2
    exact ⟨_, by rw [HE.out]; rfl, hx⟩
  · have HS := Lib.hid (pspan_any k p hk w)
    have hb : (perE k p != 0) = true := by simpa using h
    clear h
    generalize perE k p = E at *
    go_enter Tryz.func55, Tryz.ntmps55
    go_wp2_with fail
    refine HS.out.mono ?_
    rintro e w1 ⟨rfl, hx⟩
    go_wp2_with fail
    go_ret2
    exact ⟨0, rfl, hx⟩
theorem ld_date {w : World} {g : Nat} {a b c : Value} (h : Blk w g 188 #[a, b, c]) : (loadVar 188 ⟨g, 0, none⟩).run Tryz.prog w = .ok (.agg #[a, b, c]) w := by
  have q := h.cell
  simp [go_sem, q]
theorem put3' {w : World} {g : Nat} {t : TypeId} {a b c a' b' c' : Value} (h : Blk w g t #[a, b, c]) : Blk (((w.setCell ⟨g, 0, none⟩ a').setCell ⟨g, 1, none⟩ b').setCell ⟨g, 2, none⟩ c') g t #[a', b', c'] := by
  have := ((h.set_ 0 a').set_ 1 b').set_ 2 c'
  simpa using this
/-- Where the search for the month stands. -/
def DtRel (w : World) (y L : Int) (g : Nat) (v : Value) (wr : World) : Prop := ∃ m : Nat, m < 12 ∧ v = .int .i64 (L - msI y m) ∧ 0 ≤ L - msI y m ∧ Blk wr g 188 #[.int .i64 y, .int .i64 ((m : Int) + 1), .int .i64 0] ∧ Blk wr w.heap.size 188 #[.int .i64 0, .int .i64 0, .int .i64 0] ∧ Ext w wr
set_option maxRecDepth 100000 in
set_option maxHeartbeats 4000000 in
theorem cdate_any (day : Int) (hd : 0 ≤ day ∧ day ≤ 3652058) (w : World) : Calls Tryz.prog 114 #[.int .i64 day] w fun e w' => ∃ (y l : Int) (m : Nat), e = .returned (.tuple #[.agg #[.int .i64 y, .int .i64 ((m : Int) + 1), .int .i64 (l + 1)], .int .i64 0]) ∧ DateIs day y m l ∧ Ext w w' := by
  have hv : decide (0 ≤ day ∧ day ≤ 3652058) = true := decide_eq_true hd
  have HV := Lib.hid (cvalid_any day)
  rw [hv] at HV
  obtain ⟨d0, d1⟩ := hd
  clear hv
  go_enter Tryz.func114, Tryz.ntmps114
  go_wp2_with fail
  refine (HV.out _).mono ?_
  rintro e w1 ⟨rfl, rfl⟩
  go_wp2_with fail
  have HYO := year_of (day := day) (q := day / 146097) (r := day % 146097) (by omega) (by omega) rfl rfl rfl rfl rfl
  generalize 400 * (day / 146097) + 100 * min (day % 146097 / 36524) 3 + 4 * ((day % 146097 - min (day % 146097 / 36524) 3 * 36524) / 1461) + min ((day % 146097 - min (day % 146097 / 36524) 3 * 36524) % 1461 / 365) 3 + 1 = y at HYO ⊢
  generalize (day % 146097 - min (day % 146097 / 36524) 3 * 36524) % 1461 - 365 * min ((day % 146097 - min (day % 146097 / 36524) 3 * 36524) % 1461 / 365) 3 = L at HYO ⊢
  obtain ⟨h1, h2, h3⟩ := HYO
  obtain ⟨m0, HD⟩ := DateIs.mk' ⟨d0, d1⟩ h1 h2 h3
  have hy := HD.hy
  rw [← msI_year hy] at h3
  have H0 : DtRel w y L (w.heap.size + 1) (.int .i64 L) ((w.alloc (.cells #[.int .i64 0, .int .i64 0, .int .i64 0] 188)).alloc (.cells #[.int .i64 y, .int .i64 1, .int .i64 0] 188)) :=
    ⟨0, by omega, by simp [msI], by simp [msI]; exact h2, by have := Blk.new (w.alloc (.cells #[.int .i64 0, .int .i64 0, .int .i64 0] 188)) 188 #[.int .i64 y, .int .i64 1, .int .i64 0]; simpa using this, (Blk.new w _ _).alloc _, ((Ext.refl w).alloc _).alloc _⟩
  have hg9 : w.heap.size < w.heap.size + 1 := by omega
  have hgn : w.heap.size ≠ w.heap.size + 1 := by omega
  generalize (w.alloc (.cells #[.int .i64 0, .int .i64 0, .int .i64 0] 188)).alloc (.cells #[.int .i64 y, .int .i64 1, .int .i64 0] 188) = W at H0 ⊢
  obtain ⟨g9, hg⟩ : ∃ g9, w.heap.size + 1 = g9 := ⟨_, rfl⟩
  rw [hg] at H0 hg9 hgn ⊢
  clear hg
  have HH := Lib.hid H0
  have HMK := Lib.hid (fun (m : Nat) (hm : m < 12) (a : 0 ≤ L - msI y m) (b : L - msI y m < lenI y ((m : Int) + 1)) => (show DateIs day y m (L - msI y m) from ⟨hy, hm, by rw [show (((m + 1 : Nat)) : Int) = (m : Int) + 1 by omega]; exact ⟨a, b⟩, by omega⟩))
  have HL := Lib.hid h3
  have hL372 : L ≤ 372 := by have := msI_bd y 12; omega
  clear H0 HD h1 h3 HV
  go_loopw [5] (fun v wr => DtRel w y L g9 v wr) (fun v _ => (intOf v).toNat)
  case atStart => exact HH.out
  case round =>
    clear HH
    obtain ⟨m, hm, rfl, hn, hB, hB2, hx⟩ := hrel
    have hmb := msI_bd y m
    have hl28 := lenI_pos hy (m := (m : Int) + 1) (by omega)
    have hl31 := lenI_bd y ((m : Int) + 1)
    have hms : msI y (m + 1) = msI y m + lenI y ((m : Int) + 1) := by show msI y m + lenI y ((m + 1 : Nat) : Int) = _; rw [show (((m + 1 : Nat)) : Int) = (m : Int) + 1 by omega]
    have hlt9 := hB.lt
    by_cases hge : lenI y ((m : Int) + 1) ≤ L - msI y m
    · have hm1 : m + 1 < 12 := by
        by_cases h : m + 1 < 12
        · exact h
        · have e : m + 1 = 12 := by omega
          rw [e] at hms
          have := HL.out
          omega
      have HN := Lib.hid (fun (W : World) (v : Int) (hv : v = L - msI y m - lenI y ((m : Int) + 1)) (h1 : Blk W g9 188 #[.int .i64 y, .int .i64 ((m : Int) + 1 + 1), .int .i64 0]) (h2 : Blk W w.heap.size 188 #[.int .i64 0, .int .i64 0, .int .i64 0]) (h3 : Ext w W) =>
        (show DtRel w y L g9 (.int .i64 v) W from ⟨m + 1, hm1, by rw [hms, hv]; congr 1; omega, by rw [hms]; omega, by rw [show (((m + 1 : Nat)) : Int) = (m : Int) + 1 by omega]; exact h1, h2, h3⟩))
      clear hms
      have hd : decide (lenI y ((m : Int) + 1) ≤ L - msI y m) = true := decide_eq_true hge
      obtain ⟨q, q'⟩ := hB.cells
      have HB := Lib.hid hB
      clear hB
      go_wp2_with fail
      refine (clength_any y ((m : Int) + 1) _).mono ?_
      rintro e w' ⟨rfl, rfl⟩
      go_wp2_with fail
      refine (clength_any y ((m : Int) + 1) _).mono ?_
      rintro e w' ⟨rfl, rfl⟩
      go_wp2_with fail
      go_roundw
      case rel => exact HN.out _ _ rfl (by have := HB.out.set_ 1 (.int .i64 ((m : Int) + 1 + 1)); simpa using this) (hB2.far (p := ⟨g9, 1, none⟩) hgn _) (hx.set (p := ⟨g9, 1, none⟩) (Nat.le_of_lt hg9) _)
      case measure => simp [intOf]; omega
    · have hd : decide (lenI y ((m : Int) + 1) ≤ L - msI y m) = false := decide_eq_false hge
      have HI := Lib.hid (HMK.out m hm hn (by omega))
      obtain ⟨q, q'⟩ := hB.cells
      have HB := Lib.hid hB
      obtain ⟨r, r'⟩ := hB2.cells
      have lt2 := hB2.lt
      have HB2 := Lib.hid hB2
      clear hB hms hB2
      go_wp2_with fail
      refine (clength_any y ((m : Int) + 1) _).mono ?_
      rintro e w' ⟨rfl, rfl⟩
      go_wp2_with fail
      have B9 := HB2.out.far (p := ⟨g9, 2, none⟩) hgn (.int .i64 (L - msI y m + 1))
      refine bodyPost_ret (results_ct rfl rfl (ld_date (put3' B9))) rfl ⟨y, L - msI y m, m, rfl, HI.out, ?_⟩
      exact ((((hx.set (p := ⟨g9, 2, none⟩) (Nat.le_of_lt hg9) _).set (p := ⟨w.heap.size, 0, none⟩) (Nat.le_refl _) _).set (p := ⟨w.heap.size, 1, none⟩) (Nat.le_refl _) _).set (p := ⟨w.heap.size, 2, none⟩) (Nat.le_refl _) _)
theorem longI_of {k : Int} (hk : 1 ≤ k ∧ k ≤ 4) : longI k = 1 ∨ longI k = 3 ∨ longI k = 6 ∨ longI k = 12 := by
  have : k = 1 ∨ k = 2 ∨ k = 3 ∨ k = 4 := by omega
  rcases this with h | h | h | h <;> subst h <;> simp [longI]
set_option maxRecDepth 100000 in
set_option maxHeartbeats 2000000 in
theorem pof_any (k day : Int) (hk : 1 ≤ k ∧ k ≤ 4) (hd : 0 ≤ day ∧ day ≤ 3652058) (w : World) : Calls Tryz.prog 70 #[.int .i64 k, .int .i64 day] w fun e w' => e = .returned (.tuple #[.int .i64 (ofI k day), .int .i64 0]) ∧ Ext w w' := by
  have HC := Lib.hid (plong_any k (by unfold i64; omega) w)
  have hn := longI_of hk
  rw [show decide (longI k ≠ 0) = true by simp; omega] at HC
  have HO := Lib.hid (show ofI k day = monI day / longI k from rfl)
  rcases hn with e | e | e | e
  all_goals
    rw [e] at HC HO
    clear e
    go_enter Tryz.func70, Tryz.ntmps70
    go_wp2_with fail
    refine HC.out.mono ?_
    rintro e w1 ⟨rfl, hx⟩
    go_wp2_with fail
    refine (cdate_any day hd _).mono ?_
    rintro e w2 ⟨y, l, m, rfl, HD, hx2⟩
    have hm := monI_of HD
    have hy := HD.hy
    have hm12 := HD.hm
    rw [hm] at HO
    have B8 := Blk.new w2 188 #[.int .i64 y, .int .i64 ((m : Int) + 1), .int .i64 (l + 1)]
    obtain ⟨q, q'⟩ := B8.cells
    clear HD hm
    obtain ⟨y1, y2⟩ := hy
    go_wp2_with fail
    go_ret2
    refine ⟨?_, ((Ext.trans hx hx2).alloc _)⟩
    rw [HO.out]
    first | rfl | (congr 4; omega) | (simp; omega)
end Go.Proofs.YtokakpbpenndlaaGreatDoor

set_option linter.unusedVariables false
namespace Go.Proofs.YtokakpbpenndlaaGreatDoor
open Go.RowKit Go.Maps

/-- No book. -/
def NoneB (W : World) (v : Value) : Prop := v = .pointer none ∨ ∃ g, v = .pointer (some ⟨g, 0, none⟩) ∧ Blk W g 66 #[.slice none 0 0, .map none]
theorem NoneB.ext {W W' : World} {v : Value} (h : NoneB W v) (hx : Ext W W') : NoneB W' v := by
  rcases h with h | ⟨g, h1, h2⟩
  · exact .inl h
  · exact .inr ⟨g, h1, h2.ext hx⟩
end Go.Proofs.YtokakpbpenndlaaGreatDoor

set_option linter.unusedVariables false
namespace Go.Proofs.YtokakpbpenndlaaGreatDoor
open Go.RowKit Go.Maps

theorem zero_check : Ent.zero.check = 5 := by decide
theorem rnone_any {w0 W : World} {bb mb : Nat} {vids : Value} {M : BkM} (h : BookAt w0 W bb mb vids M) : Calls Tryz.prog 68 #[.pointer (some ⟨bb, 0, none⟩)] W fun e w' => e = .returned (.bool false) ∧ Ext W w' := by
  have hm : M.b.may Ent.zero = 5 := by unfold Bk.may; rw [if_pos (by rw [zero_check]; decide)]; exact zero_check
  have HB := Lib.hid (bmay_any h Ent.zero none none 0 0 ⟨Reads.none_, Reads.none_, by simp [Ent.zero, maxLen], by simp [Ent.zero, maxLen]⟩)
  rw [hm] at HB
  clear h hm
  go_enter Tryz.func68, Tryz.ntmps68
  go_wp2_with fail
  refine HB.out.mono ?_
  rintro e w1 ⟨rfl, hx⟩
  go_wp2_with fail
  go_ret
  exact ⟨rfl, hx⟩
def Rep.cs (r : Rep) : Array Value := #[.int .i64 r.j, .int .i64 r.k, .int .i64 r.p, .int .i64 r.t, .int .i64 r.x, .int .i64 r.v, .int .i64 r.s, .int .i64 r.r]
abbrev Rep.V (r : Rep) : Value := .agg #[.int .i64 r.j, .int .i64 r.k, .int .i64 r.p, .int .i64 r.t, .int .i64 r.x, .int .i64 r.v, .int .i64 r.s, .int .i64 r.r]
theorem ld_rep {w : World} {g : Nat} {a b c d e f i j : Value} (h : Blk w g 23 #[a, b, c, d, e, f, i, j]) : (loadVar 23 ⟨g, 0, none⟩).run Tryz.prog w = .ok (.agg #[a, b, c, d, e, f, i, j]) w := by
  have q := h.cell
  simp [go_sem, q]
theorem put8 {w : World} {g : Nat} {t : TypeId} {a b c d e f i j a' b' c' d' e' f' i' j' : Value} (h : Blk w g t #[a, b, c, d, e, f, i, j]) :
    Blk ((((((((w.setCell ⟨g, 0, none⟩ a').setCell ⟨g, 1, none⟩ b').setCell ⟨g, 2, none⟩ c').setCell ⟨g, 3, none⟩ d').setCell ⟨g, 4, none⟩ e').setCell ⟨g, 5, none⟩ f').setCell ⟨g, 6, none⟩ i').setCell ⟨g, 7, none⟩ j') g t #[a', b', c', d', e', f', i', j'] := by
  have := (((((((h.set_ 0 a').set_ 1 b').set_ 2 c').set_ 3 d').set_ 4 e').set_ 5 f').set_ 6 i').set_ 7 j'
  simpa using this
theorem ext8 {a w : World} {g : Nat} (hx : Ext a w) (hg : a.heap.size ≤ g) (v0 v1 v2 v3 v4 v5 v6 v7 : Value) :
    Ext a ((((((((w.setCell ⟨g, 0, none⟩ v0).setCell ⟨g, 1, none⟩ v1).setCell ⟨g, 2, none⟩ v2).setCell ⟨g, 3, none⟩ v3).setCell ⟨g, 4, none⟩ v4).setCell ⟨g, 5, none⟩ v5).setCell ⟨g, 6, none⟩ v6).setCell ⟨g, 7, none⟩ v7) :=
  (((((((hx.set (p := ⟨g, 0, none⟩) hg _).set (p := ⟨g, 1, none⟩) hg _).set (p := ⟨g, 2, none⟩) hg _).set (p := ⟨g, 3, none⟩) hg _).set (p := ⟨g, 4, none⟩) hg _).set (p := ⟨g, 5, none⟩) hg _).set (p := ⟨g, 6, none⟩) hg _).set (p := ⟨g, 7, none⟩) hg _
abbrev zRep : Array Value := #[.int .i64 0, .int .i64 0, .int .i64 0, .int .i64 0, .int .i64 0, .int .i64 0, .int .i64 0, .int .i64 0]
/-- How the world stands in File's loops. -/
structure FlAt (W : World) (g8 g12 g16 g17 : Nat) (x : JV) (R : Array Value) (T X V : Int) (wr : World) : Prop where
  b8 : Blk wr g8 23 zRep
  b12 : Blk wr g12 83 #[.int .i64 x.j.id, .int .i64 x.j.k, .int .i64 x.j.par, .int .i64 x.j.f, .slice x.A x.n x.c]
  b16 : Blk wr g16 23 R
  b17 : Blk wr g17 135 #[.int .u64 (hiI T), .int .u64 (loI T), .int .u64 (hiI X), .int .u64 (loI X), .int .u64 (hiI V), .int .u64 (loI V)]
  ne : g8 ≠ g16
  ext : Ext W wr
  l8 : W.heap.size ≤ g8
  l16 : W.heap.size ≤ g16
  l17 : W.heap.size ≤ g17
theorem FlAt.to {W wr w' : World} {g8 g12 g16 g17 : Nat} {x : JV} {R : Array Value} {T X V : Int} (h : FlAt W g8 g12 g16 g17 x R T X V wr) (hx : Ext wr w') : FlAt W g8 g12 g16 g17 x R T X V w' :=
  ⟨h.b8.ext hx, h.b12.ext hx, h.b16.ext hx, h.b17.ext hx, h.ne, h.ext.trans hx, h.l8, h.l16, h.l17⟩
theorem FlAt.put {W wr : World} {g8 g12 g16 g17 : Nat} {x : JV} {R : Array Value} {T X V : Int} (h : FlAt W g8 g12 g16 g17 x R T X V wr) (i : Nat) (u : Value) : FlAt W g8 g12 g16 g17 x (R.setIfInBounds i u) T X V (wr.setCell ⟨g16, i, none⟩ u) :=
  ⟨h.b8.far (p := ⟨g16, i, none⟩) h.ne _, h.b12.far (p := ⟨g16, i, none⟩) (h.b12.ne_ h.b16 (by decide)) _, h.b16.set_ i u, h.b17.far (p := ⟨g16, i, none⟩) (h.b17.ne_ h.b16 (by decide)) _, h.ne, h.ext.set (p := ⟨g16, i, none⟩) h.l16 _, h.l8, h.l16, h.l17⟩
theorem FlAt.sum {W wr : World} {g8 g12 g16 g17 : Nat} {x : JV} {R : Array Value} {T X V T' X' V' : Int} (h : FlAt W g8 g12 g16 g17 x R T X V wr) (o : Nat) (hi lo : Value)
    (he : ((#[.int .u64 (hiI T), .int .u64 (loI T), .int .u64 (hiI X), .int .u64 (loI X), .int .u64 (hiI V), .int .u64 (loI V)] : Array Value).setIfInBounds (o + 1) lo).setIfInBounds o hi = #[.int .u64 (hiI T'), .int .u64 (loI T'), .int .u64 (hiI X'), .int .u64 (loI X'), .int .u64 (hiI V'), .int .u64 (loI V')]) :
    FlAt W g8 g12 g16 g17 x R T' X' V' ((wr.setCell ⟨g17, o + 1, none⟩ lo).setCell ⟨g17, o, none⟩ hi) :=
  ⟨(h.b8.far (p := ⟨g17, o + 1, none⟩) (h.b8.ne_ h.b17 (by decide)) _).far (p := ⟨g17, o, none⟩) (h.b8.ne_ h.b17 (by decide)) _,
   (h.b12.far (p := ⟨g17, o + 1, none⟩) (h.b12.ne_ h.b17 (by decide)) _).far (p := ⟨g17, o, none⟩) (h.b12.ne_ h.b17 (by decide)) _,
   (h.b16.far (p := ⟨g17, o + 1, none⟩) (h.b16.ne_ h.b17 (by decide)) _).far (p := ⟨g17, o, none⟩) (h.b16.ne_ h.b17 (by decide)) _,
   by have := (h.b17.set_ (o + 1) lo).set_ o hi; rwa [he] at this, h.ne, (h.ext.set (p := ⟨g17, o + 1, none⟩) h.l17 _).set (p := ⟨g17, o, none⟩) h.l17 _, h.l8, h.l16, h.l17⟩
end Go.Proofs.YtokakpbpenndlaaGreatDoor

set_option linter.unusedVariables false
namespace Go.Proofs.YtokakpbpenndlaaGreatDoor
open Go.RowKit Go.Maps

theorem put13_chg {W w2 : World} {g : Nat} {s : Bool} {f : Nat → Int} (hx : Ext W w2) (hg : g < W.heap.size) : Chg [g] W (((((((((((((w2.setCell ⟨g, 0, none⟩ (.bool s)).setCell ⟨g, 1, none⟩ (.int .i64 (f 0))).setCell ⟨g, 2, none⟩ (.int .i64 (f 1))).setCell ⟨g, 3, none⟩ (.int .i64 (f 2))).setCell ⟨g, 4, none⟩ (.int .i64 (f 3))).setCell ⟨g, 5, none⟩ (.int .i64 (f 4))).setCell ⟨g, 6, none⟩ (.int .i64 (f 5))).setCell ⟨g, 7, none⟩ (.int .i64 (f 6))).setCell ⟨g, 8, none⟩ (.int .i64 (f 7))).setCell ⟨g, 9, none⟩ (.int .i64 (f 8))).setCell ⟨g, 10, none⟩ (.int .i64 (f 9))).setCell ⟨g, 11, none⟩ (.int .i64 (f 10))).setCell ⟨g, 12, none⟩ (.int .i64 (f 11))) := by
  have h : ∀ {w : World} (k : Nat) (u : Value), Chg [g] W w → Chg [g] W (w.setCell ⟨g, k, none⟩ u) := fun k u h =>
    h.then_grown (only_set (World.grownBy.refl _ (some g)) (.inl rfl) u) fun j hj => .inl (by simp [Option.some.inj hj])
  exact h _ _ (h _ _ (h _ _ (h _ _ (h _ _ (h _ _ (h _ _ (h _ _ (h _ _ (h _ _ (h _ _ (h _ _ (h _ _ (Chg.ext hx)))))))))))))
set_option maxRecDepth 100000 in
set_option maxHeartbeats 4000000 in
theorem radd30_any (gs : Nat) (S n : Int) (back : Bool) (W : World) (hB : Blk W gs 145 (numIC S)) (hS : S.natAbs < 65536 ^ 11) (hn : 0 ≤ n ∧ n ≤ 4611686018427387904) {T : Int} (hT : (if back then S - n else S + n) = T) :
    Calls Tryz.prog 77 #[.pointer (some ⟨gs, 0, none⟩), .int .i64 n, .bool back] W fun e w' => e = .returned (.tuple #[]) ∧ Blk w' gs 145 (numIC T) ∧ Chg [gs] W w' := by
  obtain ⟨n0, n1⟩ := hn
  obtain ⟨m, rfl⟩ : ∃ m : Nat, n = (m : Int) := ⟨n.toNat, by omega⟩
  have HO := Lib.hid (of_any01 m (by omega) W)
  have hgl := hB.lt
  cases back
  · have HP := Lib.hid (fun W' => plusI_any S (m : Int) hS (by have : (4611686018427387904 : Nat) < 65536 ^ 11 := by decide
                                                               omega) W')
    rw [show S + (m : Int) = T by simpa using hT] at HP
    unfold numI at HP
    rw [show decide ((m : Int) < 0) = false by simp, show ((m : Int)).natAbs = m by omega] at HP
    unfold numIC at hB ⊢
    generalize decide (S < 0) = sg at *
    generalize digI S.natAbs = f at *
    generalize decide (T < 0) = tg at *
    generalize digI T.natAbs = h at *
    generalize digI m = u at *
    have HBs := Lib.hid (fun W' (hx : Ext W W') => hB.ext hx)
    clear hT hS hB
    go_enter Tryz.func77, Tryz.ntmps77
    go_wp2_with fail
    refine HO.out.mono ?_
    rintro e w1 ⟨rfl, hx1⟩
    go_upto_region 3 with (fail)
    generalize hW6 : World.alloc w1 _ = w6
    have B6 : Blk w6 w1.heap.size 143 (numC false u) := by rw [← hW6]; exact Blk.new w1 _ _
    have X6 : Ext W w6 := by rw [← hW6]; exact hx1.alloc _
    clear hW6
    generalize w1.heap.size = g6 at *
    have BS := HBs.out _ X6
    obtain ⟨q, q'⟩ := BS.cells
    obtain ⟨p, p'⟩ := B6.cells
    unfold numC at q p
    have lb := BS.lt
    have l6 := B6.lt
    have HC := Lib.hid (fun W' (hx : Ext w6 W') => (HBs.out _ (X6.trans hx)).cells)
    unfold numC at HC
    clear B6 BS
    go_region_law (first | (go_simp; go_at_call 123; refine (HP.out _).mono ?_; rintro e w2 ⟨rfl, hx2⟩; have X2 : Ext w6 w2 := Ext.trans (Ext.refl w6).drew hx2; obtain ⟨q2, q2'⟩ := HC.out _ X2))
    all_goals
      have HE := Lib.hid (And.intro (put13 (s := tg) (f := h) (HBs.out _ (X6.trans X2))) (put13_chg (s := tg) (f := h) (X6.trans X2) hgl))
      clear q q' p p' q2 q2' hx2 X2
      go_wp2_with fail
      go_end0
      exact ⟨rfl, HE.out⟩
  · have HP := Lib.hid (fun W' => plusI_any S (-(m : Int)) hS (by have : (4611686018427387904 : Nat) < 65536 ^ 11 := by decide
                                                                  omega) W')
    have HLs := Lib.hid (fun W' => less_any false m (by have : (4611686018427387904 : Nat) < 65536 ^ 12 := by decide
                                                        omega) W')
    rw [show S + -(m : Int) = T by have : S - (m : Int) = T := by simpa using hT
                                   omega] at HP
    unfold numI at HP
    rw [show decide (-(m : Int) < 0) = (!false && decide (m ≠ 0)) by rw [Bool.not_false, Bool.true_and, decide_eq_decide]; omega, show (-(m : Int)).natAbs = m by omega] at HP
    unfold numIC at hB ⊢
    generalize (!false && decide (m ≠ 0)) = ug at *
    generalize decide (S < 0) = sg at *
    generalize digI S.natAbs = f at *
    generalize decide (T < 0) = tg at *
    generalize digI T.natAbs = h at *
    generalize digI m = u at *
    have HBs := Lib.hid (fun W' (hx : Ext W W') => hB.ext hx)
    clear hT hS hB
    go_enter Tryz.func77, Tryz.ntmps77
    go_wp2_with fail
    refine HO.out.mono ?_
    rintro e w1 ⟨rfl, hx1⟩
    go_upto_region 2 with (fail)
    generalize hW6 : World.alloc w1 _ = w6
    have B6 : Blk w6 w1.heap.size 143 (numC false u) := by rw [← hW6]; exact Blk.new w1 _ _
    have X6 : Ext W w6 := by rw [← hW6]; exact hx1.alloc _
    have hg6 : W.heap.size ≤ w1.heap.size := hx1.size
    clear hW6
    generalize w1.heap.size = g6 at *
    obtain ⟨p, p'⟩ := B6.cells
    unfold numC at p
    have l6 := B6.lt
    have HB6 := Lib.hid (fun W' (hx : Ext w6 W') => B6.ext hx)
    clear B6
    go_wp2_with fail
    refine (HLs.out _).mono ?_
    rintro e w7 ⟨rfl, hx7⟩
    have B7 := HB6.out _ hx7
    have X7 := X6.trans hx7
    clear p p' l6
    obtain ⟨p, p'⟩ := B7.cells
    unfold numC at p
    have l7 := B7.lt
    have B8 := put13 (s := ug) (f := u) B7
    have X8 := ext13 (s := ug) (f := u) X7 hg6
    go_upto_region 3 with (fail)
    clear p p' l7 B7 hx7 X7 X6 HB6
    generalize World.setCell _ _ _ = w8 at B8 X8 ⊢
    have BS := HBs.out _ X8
    obtain ⟨q, q'⟩ := BS.cells
    obtain ⟨p, p'⟩ := B8.cells
    unfold numC at q p
    have lb := BS.lt
    have l6 := B8.lt
    have HC := Lib.hid (fun W' (hx : Ext w8 W') => (HBs.out _ (X8.trans hx)).cells)
    unfold numC at HC
    clear B8 BS
    go_region_law (first | (go_simp; go_at_call 123; refine (HP.out _).mono ?_; rintro e w2 ⟨rfl, hx2⟩; have X2 : Ext w8 w2 := Ext.trans (Ext.refl w8).drew hx2; obtain ⟨q2, q2'⟩ := HC.out _ X2))
    all_goals
      have HE := Lib.hid (And.intro (put13 (s := tg) (f := h) (HBs.out _ (X8.trans X2))) (put13_chg (s := tg) (f := h) (X8.trans X2) hgl))
      clear q q' p p' q2 q2' hx2 X2
      go_wp2_with fail
      go_end0
      exact ⟨rfl, HE.out⟩
end Go.Proofs.YtokakpbpenndlaaGreatDoor
