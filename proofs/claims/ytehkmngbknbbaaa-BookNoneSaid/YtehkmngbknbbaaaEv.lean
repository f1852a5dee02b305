/-
  A book that is none, or that New did not make.
-/
import Derived.Test.YtehkmngbknbbaaaEp
set_option linter.unusedVariables false
namespace Go.Proofs.Ytehkmngbknbbaaa
open Go.RowKit Go.Maps

/-- No book. -/
def NoneB (W : World) (v : Value) : Prop := v = .pointer none ∨ ∃ g, v = .pointer (some ⟨g, 0, none⟩) ∧ Blk W g 85 #[.slice none 0 0, .map none]
theorem NoneB.ext {W W' : World} {v : Value} (h : NoneB W v) (hx : Ext W W') : NoneB W' v := by
  rcases h with h | ⟨g, h1, h2⟩
  · exact .inl h
  · exact .inr ⟨g, h1, h2.ext hx⟩
set_option maxRecDepth 100000 in
set_option maxHeartbeats 1000000 in
theorem none_n {W : World} {v : Value} (h : NoneB W v) : Calls Try.prog 95 #[v] W fun r w' => r = .returned (.bool true) ∧ W = w' := by
  rcases h with rfl | ⟨g, rfl, hb⟩
  · go_enter Try.func95, Try.ntmps95
    go_wp2_with fail
    go_ret
    exact ⟨rfl, rfl⟩
  · obtain ⟨q, q'⟩ := hb.cells
    clear hb
    have hm := fun W : World => run_eql_map_nil (P := Try.prog) W 83 3 135 none Try.underlying83
    go_enter Try.func95, Try.ntmps95
    go_wp2_with fail
    go_ret
    exact ⟨rfl, rfl⟩
set_option maxRecDepth 100000 in
theorem sale_n {W : World} {v : Value} (h : NoneB W v) (id : Int) : Calls Try.prog 94 #[v, .int .i64 id] W fun r w' => r = .returned (.pointer none) ∧ W = w' := by
  have H := Lib.hid h
  clear h
  go_enter Try.func94, Try.ntmps94
  go_wp2_with fail
  refine (none_n H.out).mono ?_
  rintro r w' ⟨rfl, rfl⟩
  go_wp2_with fail
  go_ret
  exact ⟨rfl, rfl⟩
set_option maxRecDepth 100000 in
theorem left_n {W : World} {v : Value} (h : NoneB W v) (id line : Int) : Calls Try.prog 44 #[v, .int .i64 id, .int .i64 line] W fun r w' => r = .returned (.tuple #[.int .i64 0, .bool false]) ∧ W = w' := by
  have H := Lib.hid h
  clear h
  go_enter Try.func44, Try.ntmps44
  go_wp2_with fail
  refine (sale_n H.out _).mono ?_
  rintro r w' ⟨rfl, rfl⟩
  go_wp2_with fail
  go_ret2
  exact ⟨rfl, rfl⟩
set_option maxRecDepth 100000 in
theorem voided_n {W : World} {v : Value} (h : NoneB W v) (id : Int) : Calls Try.prog 49 #[v, .int .i64 id] W fun r w' => r = .returned (.bool false) ∧ W = w' := by
  have H := Lib.hid h
  clear h
  go_enter Try.func49, Try.ntmps49
  go_wp2_with fail
  refine (sale_n H.out _).mono ?_
  rintro r w' ⟨rfl, rfl⟩
  go_wp2_with fail
  go_ret
  exact ⟨rfl, rfl⟩
set_option maxRecDepth 100000 in
theorem lines_n {W : World} {v : Value} (h : NoneB W v) (id : Int) : Calls Try.prog 55 #[v, .int .i64 id] W fun r w' => r = .returned (.slice none 0 0) ∧ W = w' := by
  have H := Lib.hid h
  clear h
  go_enter Try.func55, Try.ntmps55
  go_wp2_with fail
  refine (none_n H.out).mono ?_
  rintro r w' ⟨rfl, rfl⟩
  go_wp2_with fail
  go_ret
  exact ⟨rfl, rfl⟩
set_option maxRecDepth 100000 in
theorem moves_n {W : World} {v : Value} (h : NoneB W v) (id : Int) : Calls Try.prog 47 #[v, .int .i64 id] W fun r w' => r = .returned (.slice none 0 0) ∧ W = w' := by
  have H := Lib.hid h
  clear h
  go_enter Try.func47, Try.ntmps47
  go_wp2_with fail
  refine (none_n H.out).mono ?_
  rintro r w' ⟨rfl, rfl⟩
  go_wp2_with fail
  go_ret
  exact ⟨rfl, rfl⟩
set_option maxRecDepth 100000 in
theorem ids_n {W : World} {v : Value} (h : NoneB W v) : Calls Try.prog 56 #[v] W fun r w' => r = .returned (.slice none 0 0) ∧ W = w' := by
  have H := Lib.hid h
  clear h
  go_enter Try.func56, Try.ntmps56
  go_wp2_with fail
  refine (none_n H.out).mono ?_
  rintro r w' ⟨rfl, rfl⟩
  go_wp2_with fail
  go_ret
  exact ⟨rfl, rfl⟩
set_option maxRecDepth 100000 in
set_option maxHeartbeats 1000000 in
theorem entry_n {W : World} {v : Value} (h : NoneB W v) (id : Int) : Calls Try.prog 52 #[v, .int .i64 id] W fun r w' => r = .returned (.tuple #[zeroEnt, .bool false]) ∧ Ext W w' := by
  have X0 := (Ext.refl W).alloc (.cells #[.int .i64 0, .int .i64 0, .int .i64 0, .int .i64 0, .slice none 0 0, .slice none 0 0] 66)
  have B0 := Blk.new W 66 #[.int .i64 0, .int .i64 0, .int .i64 0, .int .i64 0, .slice none 0 0, .slice none 0 0]
  have H := Lib.hid (h.ext X0)
  clear h
  go_enter Try.func52, Try.ntmps52
  go_wp2_with fail
  refine (none_n H.out).mono ?_
  rintro r w' ⟨rfl, rfl⟩
  go_wp2_with fail
  exact bodyPost_ret (results_ct rfl rfl (ld_ent B0)) rfl ⟨rfl, X0⟩
set_option maxRecDepth 100000 in
set_option maxHeartbeats 1000000 in
theorem may_n {W : World} {v : Value} (h : NoneB W v) (e : Ent) (Aa At : Option Addr) (ca ct : Nat) : Calls Try.prog 53 #[v, entV e Aa At ca ct] W fun r w' => r = .returned (.int .i64 1) ∧ Ext W w' := by
  have X0 := (Ext.refl W).alloc (.cells #[.int .i64 e.k, .int .i64 e.id, .int .i64 e.of_, .int .i64 e.day, .slice Aa e.am.length ca, .slice At e.tax.length ct] 66)
  have H := Lib.hid (h.ext X0)
  clear h
  go_enter Try.func53, Try.ntmps53
  go_wp2_with fail
  refine (none_n H.out).mono ?_
  rintro r w' ⟨rfl, rfl⟩
  go_wp2_with fail
  go_ret
  exact ⟨rfl, X0⟩
set_option maxRecDepth 100000 in
set_option maxHeartbeats 1000000 in
theorem add_n {W : World} {v : Value} (h : NoneB W v) (e : Ent) (Aa At : Option Addr) (ca ct : Nat) : Calls Try.prog 42 #[v, entV e Aa At ca ct] W fun r w' => r = .returned (.tuple #[.slice none 0 0, .int .i64 1]) ∧ Ext W w' := by
  have X0 := (Ext.refl W).alloc (.cells #[.int .i64 e.k, .int .i64 e.id, .int .i64 e.of_, .int .i64 e.day, .slice Aa e.am.length ca, .slice At e.tax.length ct] 66)
  have H := Lib.hid (h.ext X0)
  clear h
  go_enter Try.func42, Try.ntmps42
  go_wp2_with fail
  refine (may_n H.out e Aa At ca ct).mono ?_
  rintro r w1 ⟨rfl, hx1⟩
  go_wp2_with fail
  go_quiet (fail)
  go_wp2_with fail
  go_ret2
  exact ⟨rfl, X0.trans (hx1.drewN _)⟩
end Go.Proofs.Ytehkmngbknbbaaa
