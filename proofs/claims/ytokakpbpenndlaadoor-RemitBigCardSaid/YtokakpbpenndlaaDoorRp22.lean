/-
  book.May.
-/
import Derived.Test.YtokakpbpenndlaaDoorRp21
set_option linter.unusedVariables false
namespace Go.Proofs.YtokakpbpenndlaaDoor
open Go.RowKit Go.Maps

theorem Ent.i64s {e : Ent} (h : e.check = 0) : i64 e.id ∧ i64 e.of_ := by
  have h1 := (Ent.check_ok h).1
  unfold Ent.head at h1
  simp only [Bool.and_eq_true] at h1
  have a := win_bd h1.1.1
  have b := win_bd h1.1.2
  unfold i64
  omega
theorem Ent.kinds {e : Ent} (h : e.check = 0) : e.k = 1 ∨ e.k = 2 ∨ e.k = 3 := by
  have h1 := (Ent.check_ok h).2.2
  unfold Ent.fine at h1
  by_cases h2 : e.k = 1
  · exact .inl h2
  by_cases h3 : e.k = 2
  · exact .inr (.inl h3)
  by_cases h4 : e.k = 3
  · exact .inr (.inr h4)
  rw [if_neg h2, if_neg h3, if_neg h4] at h1
  cases h1
theorem BookAt.look_n {w0 W : World} {bb mb : Nat} {vids : Value} {M : BkM} (h : BookAt w0 W bb mb vids M) (id : Int) (hi : i64 id) (n : Nat) :
    (Instr.lookup 44 (.map (some mb)) (.int .i64 id) true).run Tryd.prog (W.drewN n) = .ok (.tuple #[M.ptr id, .bool (M.find id).isSome]) (W.drewN n) := (h.ext ((Ext.refl W).drewN n)).look_ok id hi

/-- Whether an entry is of a kind. -/
abbrev zeroEnt : Value := .agg #[.int .i64 0, .int .i64 0, .int .i64 0, .int .i64 0, .slice none 0 0, .slice none 0 0]
theorem asSS (cs : Array Value) (W : World) : (Instr.typeAssert (.iface 58 (.agg cs)) 55 58 true).run Tryd.prog W = .ok (.tuple #[.agg cs, .bool true]) W := by kernel_rfl
theorem asSR (cs : Array Value) (W : World) : (Instr.typeAssert (.iface 58 (.agg cs)) 55 59 true).run Tryd.prog W = .ok (.tuple #[zeroEnt, .bool false]) W := by kernel_rfl
theorem asSV (cs : Array Value) (W : World) : (Instr.typeAssert (.iface 58 (.agg cs)) 55 62 true).run Tryd.prog W = .ok (.tuple #[zeroEnt, .bool false]) W := by kernel_rfl
theorem asRS (cs : Array Value) (W : World) : (Instr.typeAssert (.iface 59 (.agg cs)) 55 58 true).run Tryd.prog W = .ok (.tuple #[zeroEnt, .bool false]) W := by kernel_rfl
theorem asRR (cs : Array Value) (W : World) : (Instr.typeAssert (.iface 59 (.agg cs)) 55 59 true).run Tryd.prog W = .ok (.tuple #[.agg cs, .bool true]) W := by kernel_rfl
theorem asVS (cs : Array Value) (W : World) : (Instr.typeAssert (.iface 62 (.agg cs)) 55 58 true).run Tryd.prog W = .ok (.tuple #[zeroEnt, .bool false]) W := by kernel_rfl
theorem asVR (cs : Array Value) (W : World) : (Instr.typeAssert (.iface 62 (.agg cs)) 55 59 true).run Tryd.prog W = .ok (.tuple #[zeroEnt, .bool false]) W := by kernel_rfl
theorem asVV (cs : Array Value) (W : World) : (Instr.typeAssert (.iface 62 (.agg cs)) 55 62 true).run Tryd.prog W = .ok (.tuple #[.agg cs, .bool true]) W := by kernel_rfl

set_option maxRecDepth 100000 in
set_option maxHeartbeats 4000000 in
theorem bmay_any {w0 W : World} {bb mb : Nat} {vids : Value} {M : BkM} (h : BookAt w0 W bb mb vids M) (e : Ent) (Aa At : Option Addr) (ca ct : Nat) (he : EntR W e Aa At) :
    Calls Tryd.prog 12 #[.pointer (some ⟨bb, 0, none⟩), entV e Aa At ca ct] W fun r w' => r = .returned (.int .i64 (M.b.may e)) ∧ Ext W w' := by
  have X0 := (Ext.refl W).alloc (.cells #[.int .i64 e.k, .int .i64 e.id, .int .i64 e.of_, .int .i64 e.day, .slice Aa e.am.length ca, .slice At e.tax.length ct] 30)
  have B := Blk.new W 30 #[.int .i64 e.k, .int .i64 e.id, .int .i64 e.of_, .int .i64 e.day, .slice Aa e.am.length ca, .slice At e.tax.length ct]
  have HB := Lib.hid (h.ext X0)
  have HE := Lib.hid (he.ext X0)
  clear h he
  by_cases hc : e.check = 0
  case neg =>
    have hR := Lib.hid (show M.b.may e = e.check by unfold Bk.may; rw [if_pos hc])
    have hb : (e.check != 0) = true := by simpa using hc
    clear hc
    go_enter Tryd.func12, Tryd.ntmps12
    go_wp2_with fail
    refine (none_any HB.out).mono ?_
    rintro r w' ⟨rfl, rfl⟩
    go_wp2_with fail
    refine (bcheck_any e Aa At ca ct _ HE.out).mono ?_
    rintro r w1 ⟨rfl, hx1⟩
    go_wp2_with fail
    go_ret
    exact ⟨by rw [hR.out]; rfl, X0.trans hx1⟩
  have hR0 := Lib.hid (show M.b.may e = if (M.b.find e.id).isSome then 7 else if e.k = 2 then M.b.refMay e else if e.k = 3 then M.b.voidMay e else 0 by unfold Bk.may; rw [if_neg (by simpa using hc)]; rfl)
  obtain ⟨hi, ho⟩ := Ent.i64s hc
  have hk := Ent.kinds hc
  replace hc := Lib.hid hc
  go_enter Tryd.func12, Tryd.ntmps12
  go_wp2_with fail
  refine (none_any HB.out).mono ?_
  rintro r w' ⟨rfl, rfl⟩
  go_wp2_with fail
  refine (bcheck_any e Aa At ca ct _ HE.out).mono ?_
  rintro r w1 ⟨rfl, hx1⟩
  rw [hc.out]
  replace HB := Lib.hid (HB.out.ext hx1)
  replace HE := Lib.hid (HE.out.ext hx1)
  replace B := B.ext hx1
  replace X0 := X0.trans hx1
  clear hx1 hc
  generalize W.heap.size = g0 at B ⊢
  obtain ⟨q, q'⟩ := B.cells
  obtain ⟨m, m'⟩ := HB.out.blk.cells
  have hl := fun n => HB.out.look_n e.id hi n
  have hl0 := HB.out.look_ok e.id hi
  have hF := BkM.find_b M e.id
  cases hf : M.find e.id with
  | some p =>
    have hR := Lib.hid (show M.b.may e = 7 by rw [hR0.out, hF, hf]; rfl)
    have hp0 : M.ptr e.id = .pointer (some ⟨p.2.g, 0, none⟩) := by unfold BkM.ptr; rw [hf]
    rw [hf, hp0] at hl0
    simp only [hf, hp0, Option.isSome_some] at hl hl0
    clear hF hR0 hf hp0 hk
    go_wp2_with fail
    go_quiet (fail)
    go_wp2_with fail
    go_ret
    exact ⟨by rw [hR.out]; rfl, X0.drewN _⟩
  | none =>
    have hR := Lib.hid (show M.b.may e = if e.k = 2 then M.b.refMay e else if e.k = 3 then M.b.voidMay e else 0 by rw [hR0.out, hF, hf]; rfl)
    have hp0 : M.ptr e.id = .pointer none := by unfold BkM.ptr; rw [hf]
    rw [hf, hp0] at hl0
    simp only [hf, hp0, Option.isSome_none] at hl hl0
    clear hF hR0 hf hp0
    go_wp2_with fail
    go_quiet (fail)
    go_wp2_with fail
    clear hl hl0 m m'
    refine (of_any e Aa At ca ct _).mono ?_
    rintro r w2 ⟨rfl, hx2⟩
    have hx2' := Ext.trans ((Ext.refl w1).drewN _) hx2
    replace HB := Lib.hid (HB.out.ext hx2')
    replace HE := Lib.hid (HE.out.ext hx2')
    replace X0 := X0.trans hx2'
    clear hx2 hx2' q q' B
    rcases hk with h1 | h1 | h1
    · have hv : ofV e.k (entV e Aa At ca ct) = .iface 58 (entV e Aa At ca ct) := by unfold ofV; rw [if_pos h1]
      rw [hv]
      have hR3 := Lib.hid (hR.out.trans (by rw [if_neg (by omega), if_neg (by omega)]))
      clear hv h1 hR
      have a1 := asSR
      have a2 := asSV
      go_wp2_with fail
      go_ret
      exact ⟨by rw [hR3.out]; rfl, X0⟩
    · have hv : ofV e.k (entV e Aa At ca ct) = .iface 59 (entV e Aa At ca ct) := by unfold ofV; rw [if_neg (by omega), if_pos h1]
      rw [hv]
      have hR3 := Lib.hid (hR.out.trans (if_pos h1))
      clear hv h1 hR
      have a1 := asRR
      have hx3 := (Ext.refl w2).alloc (.cells #[.int .i64 e.k, .int .i64 e.id, .int .i64 e.of_, .int .i64 e.day, .slice Aa e.am.length ca, .slice At e.tax.length ct] 59)
      go_wp2_with fail
      refine (refMay_any (HB.out.ext hx3) e Aa At ca ct ho (HE.out.ext hx3)).mono ?_
      rintro r w3 ⟨rfl, hx4⟩
      go_wp2_with fail
      go_ret
      exact ⟨by rw [hR3.out]; rfl, X0.trans (hx3.trans hx4)⟩
    · have hv : ofV e.k (entV e Aa At ca ct) = .iface 62 (entV e Aa At ca ct) := by unfold ofV; rw [if_neg (by omega), if_neg (by omega), if_pos h1]
      rw [hv]
      have hR3 := Lib.hid (hR.out.trans (by rw [if_neg (by omega), if_pos h1]))
      clear hv h1 hR
      have a1 := asVR
      have a2 := asVV
      have hx3 := (Ext.refl w2).alloc (.cells #[.int .i64 e.k, .int .i64 e.id, .int .i64 e.of_, .int .i64 e.day, .slice Aa e.am.length ca, .slice At e.tax.length ct] 62)
      go_wp2_with fail
      refine (voidMay_any (HB.out.ext hx3) e Aa At ca ct ho).mono ?_
      rintro r w3 ⟨rfl, hx4⟩
      go_wp2_with fail
      go_ret
      exact ⟨by rw [hR3.out]; rfl, X0.trans (hx3.trans hx4)⟩
end Go.Proofs.YtokakpbpenndlaaDoor
