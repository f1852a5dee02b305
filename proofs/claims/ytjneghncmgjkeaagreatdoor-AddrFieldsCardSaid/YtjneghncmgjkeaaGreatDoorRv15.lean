/-
  token: the state between parts.
-/
import Derived.Test.YtjneghncmgjkeaaGreatDoorRv14
set_option linter.unusedVariables false
namespace Go.Proofs.YtjneghncmgjkeaaGreatDoor
open Go.RowKit

theorem row_tk : RowT Tryz.prog 51 58 2 24 (.agg #[.int .i64 0, .string ByteArray.empty]) := rowT_mk Tryz.underlying51 (by kernel_rfl) rfl (by decide)
def tokC (t : Tok) : List Value := [.int .i64 t.k, .string ⟨t.t.toArray⟩]
def tokCells (l : List Tok) : List Value := l.flatMap tokC
/-- The cutter in memory, with the tokens that it cut. -/
structure CutAt (w0 W : World) (g : Nat) (s : Bs) (v : Value) (out : List Tok) (a : Int) : Prop where
  blk : Blk W g 95 (cutC s v a)
  row : W.ownsRow w0.heap.size 58 2 v out.length (tokCells out)
  ext : Ext w0 W
  ge : w0.heap.size ≤ g
theorem CutAt.to {w0 W W' : World} {g : Nat} {s : Bs} {v : Value} {out : List Tok} {a : Int} (h : CutAt w0 W g s v out a) (hx : Ext W W') : CutAt w0 W' g s v out a := ⟨h.blk.ext hx, own_ext h.row hx, h.ext.trans hx, h.ge⟩
theorem CutAt.place {w0 W : World} {g : Nat} {s : Bs} {v : Value} {out : List Tok} {a : Int} (h : CutAt w0 W g s v out a) (b : Int) : CutAt w0 (W.setCell ⟨g, 258, none⟩ (.int .i64 b)) g s v out b := by
  refine ⟨?_, ownsRow_setCell_other h.row (own_blk_ne h.row h.blk (by decide)) _, h.ext.set (p := ⟨g, 258, none⟩) h.ge _, h.ge⟩
  have := h.blk.set_ 258 (.int .i64 b)
  rwa [cutC_seta] at this
theorem tokCells_snoc (l : List Tok) (t : Tok) : tokCells (l ++ [t]) = tokCells l ++ tokC t := by simp [tokCells]
/-- A token put behind the others. -/
theorem CutAt.push {w0 W W5 : World} {g : Nat} {s : Bs} {v v5 : Value} {out : List Tok} {a : Int} {t : Tok} {z : Value} (h : CutAt w0 W g s v out a) (hg : Grew w0 (W.alloc (.cells #[.int .i64 t.k, .string ⟨t.t.toArray⟩] 58)) W5 58 2 z v v5 (out.length + 1) (tokCells out ++ #[Value.int .i64 t.k, .string ⟨t.t.toArray⟩].toList)) :
    CutAt w0 (W5.setCell ⟨g, 257, none⟩ v5) g s v5 (out ++ [t]) a ∧ W5.cell? ⟨g, 257, none⟩ = some v ∧ W5.frozen? ⟨g, 257, none⟩ = false ∧ g < W5.heap.size := by
  have B5 := hg.blk (h.row.alloc _) (h.blk.alloc _) (by decide)
  have hrow : W5.ownsRow w0.heap.size 58 2 v5 (out ++ [t]).length (tokCells (out ++ [t])) := by
    rw [List.length_append, tokCells_snoc]
    exact hg.own
  refine ⟨⟨?_, ownsRow_setCell_other hrow (own_blk_ne hrow B5 (by decide)) _, hg.ext.set (p := ⟨g, 257, none⟩) h.ge _, h.ge⟩, (B5.cell 257).trans (cutC_v s v a), B5.frozen 257, B5.lt⟩
  have := B5.set_ 257 v5
  rwa [cutC_setv] at this
/-- The two states. -/
def stV (inn : Bool) : Value := if inn then .func (.func 86) #[] #[] else .func (.func 65) #[] #[]
set_option maxRecDepth 100000 in
theorem apart_any {w0 W : World} {g : Nat} {s : Bs} {v : Value} {out : List Tok} {a : Int} (h : CutAt w0 W g s v out a) (i : Nat) (hs : s.length ≤ 200) (hi : i ≤ 1000) (hl : out.length ≤ 1000) :
    Calls Tryz.prog 65 #[.pointer (some ⟨g, 0, none⟩), .int .i64 (i : Int)] W fun e w' => e = .returned (stV (stepA s out i).inn) ∧ ∃ v', CutAt w0 w' g s v' (stepA s out i).out (i : Int) := by
  have S1 := h.place (i : Int)
  have fz := h.blk.frozen 258
  have cz := (h.blk.cell 258).trans (cutC_a s v a)
  have lg := h.blk.lt
  clear h
  go_enter Tryz.func65, Tryz.ntmps65
  go_upto_region 2 with (fail)
  generalize W.setCell ⟨g, 258, none⟩ (.int .i64 (i : Int)) = w1 at *
  clear fz cz lg
  go_wp2_with fail
  refine (class_any S1.blk i hs hi).mono ?_
  rintro e w2 ⟨rfl, hx2⟩
  have S2 := S1.to hx2
  clear S1 hx2
  generalize hc : clsAt s i = c at *
  by_cases h23 : c = 2 ∨ c = 3
  · have hst : stepA s out i = ⟨i, true, out⟩ := by unfold stepA; rw [if_pos (by omega)]
    replace hst := Lib.hid hst
    replace hc := Lib.hid hc
    rcases h23 with rfl | rfl
    · go_wp2_with fail
      go_ret
      exact ⟨by rw [hst.out]; rfl, v, by rw [hst.out]; exact S2⟩
    · go_wp2_with fail
      go_ret
      exact ⟨by rw [hst.out]; rfl, v, by rw [hst.out]; exact S2⟩
  have d2 : ((c : Int) == 2) = false := by rw [beq_eq_false_iff_ne]; omega
  have d3 : ((c : Int) == 3) = false := by rw [beq_eq_false_iff_ne]; omega
  have c257 := (S2.blk.cell 257).trans (cutC_v s v i)
  have lg2 := S2.blk.lt
  obtain ⟨A, cap, rfl, hcl, hcm, _⟩ := own_slice S2.row
  by_cases h5 : c = 5
  · have hst : stepA s out i = ⟨i, false, out ++ [tComma]⟩ := by unfold stepA; rw [if_neg (by omega), if_pos (by omega)]
    subst h5
    have HS := Lib.hid S2
    replace hst := Lib.hid hst
    replace hc := Lib.hid hc
    clear S2
    go_wp2_with (at_builtin; refine wpl_app1 row_tk w0 w2 (.tmp 21) (.tmp 23) rfl rfl rfl HS.out.row HS.out.ext rfl rfl rfl (by simp [Value.oneCell']) (by omega) (by unfold maxLen; omega) ?_; intro v5 w5 hg5; obtain ⟨HP, k1, k2, k3⟩ := CutAt.push (t := tComma) HS.out hg5; obtain ⟨A5, c5, rfl, _, _, _⟩ := own_slice hg5.own; replace HP := Lib.hid HP; clear hg5)
    go_ret
    exact ⟨by rw [hst.out]; rfl, _, by rw [hst.out]; exact HP.out⟩
  by_cases h6 : c = 6
  · have hst : stepA s out i = ⟨i, false, out ++ [tHash]⟩ := by unfold stepA; rw [if_neg (by omega), if_neg (by omega), if_pos (by omega)]
    subst h6
    have HS := Lib.hid S2
    replace hst := Lib.hid hst
    replace hc := Lib.hid hc
    clear S2
    go_wp2_with (at_builtin; refine wpl_app1 row_tk w0 w2 (.tmp 33) (.tmp 35) rfl rfl rfl HS.out.row HS.out.ext rfl rfl rfl (by simp [Value.oneCell']) (by omega) (by unfold maxLen; omega) ?_; intro v5 w5 hg5; obtain ⟨HP, k1, k2, k3⟩ := CutAt.push (t := tHash) HS.out hg5; obtain ⟨A5, c5, rfl, _, _, _⟩ := own_slice hg5.own; replace HP := Lib.hid HP; clear hg5)
    go_ret
    exact ⟨by rw [hst.out]; rfl, _, by rw [hst.out]; exact HP.out⟩
  · have hst : stepA s out i = ⟨i, false, out⟩ := by unfold stepA; rw [if_neg (by omega), if_neg (by omega), if_neg (by omega)]
    have d5 : ((c : Int) == 5) = false := by rw [beq_eq_false_iff_ne]; omega
    have d6 : ((c : Int) == 6) = false := by rw [beq_eq_false_iff_ne]; omega
    have HS := Lib.hid S2
    replace hst := Lib.hid hst
    replace hc := Lib.hid hc
    clear S2
    go_wp2_with fail
    go_ret
    exact ⟨by rw [hst.out]; rfl, _, by rw [hst.out]; exact HS.out⟩
end Go.Proofs.YtjneghncmgjkeaaGreatDoor
