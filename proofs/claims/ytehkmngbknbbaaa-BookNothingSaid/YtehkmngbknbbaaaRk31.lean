/-
  The statements' own helpers: entries made, added; the chapter's first example (awake).
-/
import Derived.Test.YtehkmngbknbbaaaRk30
set_option linter.unusedVariables false
namespace Go.Proofs.Ytehkmngbknbbaaa
open Go.RowKit Go.Maps

def saleE : Ent := ⟨1, 1, 0, 10, [100, 50], [⟨0, 7, 100, 0, 72500, 7⟩, ⟨1, 7, 50, 0, 72500, 4⟩]⟩
def refundE (id of_ : Int) (am : List Int) : Ent := ⟨2, id, of_, 12, am, []⟩
def voidE (id of_ : Int) : Ent := ⟨3, id, of_, 0, [], []⟩
theorem reads_nil (w : World) (B size : Nat) : Reads w B size none 0 [] := Reads.none_
set_option maxRecDepth 100000 in
set_option maxHeartbeats 1000000 in
theorem sale29_any (w : World) : Calls Try.prog 41 #[] w fun r w' => ∃ A A', r = .returned (entV saleE A A' 2 2) ∧ EntR w' saleE A A' ∧ Ext w w' := by
  go_enter Try.func41, Try.ntmps41
  go_wp2_with fail
  have B0 := Blk.new w 66 #[.int .i64 1, .int .i64 1, .int .i64 0, .int .i64 10, .slice (some ⟨w.heap.size + 1, 0, none⟩) 2 2, .slice (some ⟨w.heap.size + 1 + 1, 0, none⟩) 2 2]
  have X0 := (Ext.refl w).alloc (.cells #[.int .i64 1, .int .i64 1, .int .i64 0, .int .i64 10, .slice (some ⟨w.heap.size + 1, 0, none⟩) 2 2, .slice (some ⟨w.heap.size + 1 + 1, 0, none⟩) 2 2] 66)
  have hs0 : w.heap.size + 1 = (w.alloc (.cells #[.int .i64 1, .int .i64 1, .int .i64 0, .int .i64 10, .slice (some ⟨w.heap.size + 1, 0, none⟩) 2 2, .slice (some ⟨w.heap.size + 1 + 1, 0, none⟩) 2 2] 66)).heap.size := by simp
  generalize w.alloc (.cells #[.int .i64 1, .int .i64 1, .int .i64 0, .int .i64 10, .slice (some ⟨w.heap.size + 1, 0, none⟩) 2 2, .slice (some ⟨w.heap.size + 1 + 1, 0, none⟩) 2 2] 66) = W0 at *
  have R1 : Reads _ _ 1 (some ⟨w.heap.size + 1, 0, none⟩) 2 (iV [100, 50]) := reads_new' W0 #[.int .i64 100, .int .i64 50] 3 2 1 hs0 rfl
  have hs1 : w.heap.size + 1 + 1 = (W0.alloc (.cells #[.int .i64 100, .int .i64 50] 3)).heap.size := by simp [hs0]
  have X1 := (Ext.refl W0).alloc (.cells #[.int .i64 100, .int .i64 50] 3)
  generalize W0.alloc (.cells #[.int .i64 100, .int .i64 50] 3) = W1 at *
  have R2 : Reads _ _ 6 (some ⟨w.heap.size + 1 + 1, 0, none⟩) 2 (txCells saleE.tax) := reads_new' W1 #[.int .i64 0, .int .i64 7, .int .i64 100, .int .i64 0, .int .i64 72500, .int .i64 7, .int .i64 1, .int .i64 7, .int .i64 50, .int .i64 0, .int .i64 72500, .int .i64 4] 46 2 6 hs1 rfl
  have X2 := (Ext.refl W1).alloc (.cells #[.int .i64 0, .int .i64 7, .int .i64 100, .int .i64 0, .int .i64 72500, .int .i64 7, .int .i64 1, .int .i64 7, .int .i64 50, .int .i64 0, .int .i64 72500, .int .i64 4] 46)
  exact bodyPost_ret (results_c rfl rfl (ld_ent (B0.ext (X1.trans X2)))) rfl ⟨_, _, rfl, ⟨R1.ext X2, R2, by simp [saleE, maxLen], by simp [saleE, maxLen]⟩, X0.trans (X1.trans X2)⟩
set_option maxRecDepth 100000 in
set_option maxHeartbeats 1000000 in
theorem refund29_any (id of_ : Int) (am : List Int) (A : Option Addr) (c : Nat) (w : World) (hr : Reads w w.heap.size 1 A am.length (iV am)) (hm : am.length ≤ maxLen) : Calls Try.prog 43 #[.int .i64 id, .int .i64 of_, .slice A am.length c] w fun r w' => r = .returned (entV (refundE id of_ am) A none c 0) ∧ EntR w' (refundE id of_ am) A none ∧ Ext w w' := by
  have X := (Ext.refl w).alloc (.cells #[.int .i64 2, .int .i64 id, .int .i64 of_, .int .i64 12, .slice A am.length c, .slice none 0 0] 66)
  have B := Blk.new w 66 #[.int .i64 2, .int .i64 id, .int .i64 of_, .int .i64 12, .slice A am.length c, .slice none 0 0]
  have HR := Lib.hid (hr.ext X)
  clear hr
  go_enter Try.func43, Try.ntmps43
  go_wp2_with fail
  exact bodyPost_ret (results_c rfl rfl (ld_ent B)) rfl ⟨rfl, ⟨HR.out, Reads.none_, hm, by simp [refundE, maxLen]⟩, X⟩
set_option maxRecDepth 100000 in
set_option maxHeartbeats 1000000 in
theorem void29_any (id of_ : Int) (w : World) : Calls Try.prog 48 #[.int .i64 id, .int .i64 of_] w fun r w' => r = .returned (entV (voidE id of_) none none 0 0) ∧ EntR w' (voidE id of_) none none ∧ Ext w w' := by
  have X := (Ext.refl w).alloc (.cells #[.int .i64 3, .int .i64 id, .int .i64 of_, .int .i64 0, .slice none 0 0, .slice none 0 0] 66)
  have B := Blk.new w 66 #[.int .i64 3, .int .i64 id, .int .i64 of_, .int .i64 0, .slice none 0 0, .slice none 0 0]
  go_enter Try.func48, Try.ntmps48
  go_wp2_with fail
  exact bodyPost_ret (results_c rfl rfl (ld_ent B)) rfl ⟨rfl, ⟨Reads.none_, Reads.none_, by simp [voidE, maxLen], by simp [voidE, maxLen]⟩, X⟩
/-- An Add whose answer is known. -/
theorem add_is {w0 W : World} {bb mb : Nat} {vids : Value} {M : BkM} (h : BookAt w0 W bb mb vids M) (hx0 : Ext w0 W) (e : Ent) (Aa At : Option Addr) (ca ct : Nat) (he : EntR W e Aa At) (hml : M.length ≤ 100000) (hs : M.b.small) {B : Bk} {l : List Tx} {f : Int} (hE : M.b.add e = (B, l, f)) {n : Nat} (hn : l.length = n) :
    Calls Try.prog 42 #[.pointer (some ⟨bb, 0, none⟩), entV e Aa At ca ct] W fun r W' => ∃ A c vids' M' B1, r = .returned (.tuple #[.slice A n c, .int .i64 f]) ∧ Added w0 W W' bb mb vids M e A c vids' M' B1 ∧ M'.b = B ∧ (∀ g ∈ foot bb mb vids' M', g < B1) ∧ W'.ownsRow B1 46 6 (.slice A n c) n (txCells l) := by
  subst hn
  refine (add_any h hx0 e Aa At ca ct he hml hs).mono ?_
  rintro r W' ⟨A, c, vids', M', B1, rfl, hA⟩
  have ho := hA.own
  rw [hE] at ho
  refine ⟨A, c, vids', M', B1, by rw [hE], hA, by rw [hA.b, hE], fun g hg => ?_, ho⟩
  rcases hA.foot g hg with h1 | h1
  · exact Nat.lt_of_lt_of_le (h.foot_ge g h1).2 hA.le
  · exact h1.2
set_option maxRecDepth 100000 in
set_option maxHeartbeats 1000000 in
theorem added29_any {w0 W : World} {bb mb : Nat} {vids : Value} {M : BkM} (h : BookAt w0 W bb mb vids M) (hx0 : Ext w0 W) (e : Ent) (Aa At : Option Addr) (ca ct : Nat) (he : EntR W e Aa At) (hml : M.length ≤ 100000) (hs : M.b.small) {B : Bk} {l : List Tx} {f : Int} (hE : M.b.add e = (B, l, f)) :
    Calls Try.prog 40 #[.pointer (some ⟨bb, 0, none⟩), entV e Aa At ca ct, .int .i64 f] W fun r W' => ∃ vids' M', r = .returned (.bool true) ∧ BookAt w0 W' bb mb vids' M' ∧ M'.b = B ∧ Chg (foot bb mb vids M) W W' ∧ (∀ g ∈ foot bb mb vids' M', g ∈ foot bb mb vids M ∨ W.heap.size ≤ g) := by
  have X := (Ext.refl W).alloc (.cells #[.int .i64 e.k, .int .i64 e.id, .int .i64 e.of_, .int .i64 e.day, .slice Aa e.am.length ca, .slice At e.tax.length ct] 66)
  have HB := Lib.hid (h.ext X)
  have HE := Lib.hid (he.ext X)
  have HX := Lib.hid (hx0.trans X)
  replace hE := Lib.hid hE
  clear h he
  go_enter Try.func40, Try.ntmps40
  go_wp2_with fail
  refine (add_is HB.out HX.out e Aa At ca ct HE.out hml hs hE.out rfl).mono ?_
  rintro r W' ⟨A, c, vids', M', B1, rfl, hA, hb, hlow, ho⟩
  have HA := Lib.hid hA
  replace hb := Lib.hid hb
  clear hA ho hlow
  go_wp2_with fail
  go_ret
  refine ⟨vids', M', by simp, HA.out.at_, hb.out, (Chg.ext X).trans HA.out.chg, fun g hg => ?_⟩
  rcases HA.out.foot g hg with h1 | h1
  · exact .inl h1
  · exact .inr (Nat.le_trans X.size h1.1)
theorem BkM.len_b (M : BkM) : M.b.length = M.length := by simp [BkM.b]
def kpSale : Kp := ⟨saleE, saleE.tax, [0, 0], false⟩
theorem add_sale0 : Bk.add [] saleE = ([kpSale], saleE.tax, 0) := by kernel_rfl
theorem add_sale1 : Bk.add [kpSale] saleE = ([kpSale], saleE.tax, 7) := by kernel_rfl
theorem fld5 (e : Ent) (A A' : Option Addr) (c c' : Nat) (W : World) : (Instr.field 66 (entV e A A' c c') 5).run Try.prog W = .ok (.slice A' e.tax.length c') W := by kernel_rfl
theorem small0 : Bk.small [] := by intro x hx; cases hx
theorem small1 : Bk.small [kpSale] := by
  intro x hx
  rw [List.mem_singleton.1 hx]
  decide
set_option maxRecDepth 100000 in
set_option maxHeartbeats 8000000 in
theorem awake29_any (w : World) : Calls Try.prog 50 #[] w fun r w' => r = .returned (.bool true) ∧ Ext w w' := by
  have hfld := fun (W : World) (A A' : Option Addr) => fld5 saleE A A' 2 2 W
  have hleft := Lib.hid (show Bk.left [kpSale] 1 0 = (100, true) by kernel_rfl)
  go_enter Try.func50, Try.ntmps50
  go_wp2_with fail
  refine (newBook_any _).mono ?_
  rintro r w1 ⟨rfl, hB1, hx1⟩
  have HB1 := Lib.hid hB1
  clear hB1
  generalize w.heap.size + 1 = bb at *
  generalize hmb : w.heap.size = mb at *
  go_wp2_with fail
  refine (sale29_any _).mono ?_
  rintro r w2 ⟨A, A', rfl, hE, hx2⟩
  have HE := Lib.hid hE
  clear hE
  go_wp2_with fail
  refine (add_is (HB1.out.ext hx2) (hx1.trans hx2) saleE A A' 2 2 HE.out (by simp) small0 add_sale0 (n := 2) rfl).mono ?_
  rintro r w3 ⟨A3, c3, vids3, M3, b3, rfl, hA3, hb3, hlow3, ho3⟩
  have HA3 := Lib.hid hA3.at_
  have X3 : Ext w w3 := Chg.to_ext (hx1.trans hx2) hA3.chg (fun k hk => ((HB1.out.ext hx2).foot_ge k hk).1)
  have HO3 := Lib.hid ho3
  have HL3 := Lib.hid hlow3
  replace hb3 := Lib.hid hb3
  have hl3 : M3.length ≤ 100000 := by rw [← BkM.len_b, hb3.out]; decide
  clear hA3 ho3 hlow3 HB1 HE hx1 hx2 hmb
  go_wp2_with fail
  refine (sale29_any _).mono ?_
  rintro r w4 ⟨A4, A4', rfl, hE4, hx4⟩
  have HE4 := Lib.hid hE4
  clear hE4
  go_wp2_with fail
  refine (add_is (HA3.out.ext hx4) (X3.trans hx4) saleE A4 A4' 2 2 HE4.out hl3 (by rw [hb3.out]; exact small1) (B := [kpSale]) (l := saleE.tax) (f := 7) (by rw [hb3.out, add_sale1]) (n := 2) rfl).mono ?_
  rintro r w5 ⟨A5, c5, vids5, M5, b5, rfl, hA5, hb5, hlow5, ho5⟩
  have HA5 := Lib.hid hA5.at_
  have X5 : Ext w w5 := Chg.to_ext (X3.trans hx4) hA5.chg (fun k hk => ((HA3.out.ext hx4).foot_ge k hk).1)
  have HO3' := Lib.hid (hA5.chg.own (own_ext HO3.out hx4) (fun g hg hm => by have a1 := (HO3.out.lt g hg).1; have a2 := HL3.out g hm; omega))
  have HO5 := Lib.hid ho5
  replace hb5 := Lib.hid hb5
  clear hA5 ho5 hlow5 HE4 hx4 HO3 HA3 HL3 hb3 hl3 X3
  go_wp2_with fail
  refine (left_any HA5.out 1 0 (by unfold i64; omega)).mono ?_
  rintro r w6 ⟨rfl, hx6⟩
  rw [hb5.out, hleft.out]
  go_wp2_with fail
  refine (sale29_any _).mono ?_
  rintro r w7 ⟨A7, A7', rfl, hE7, hx7⟩
  have HE7 := Lib.hid hE7
  clear hE7
  go_wp2_with fail
  have hx37 := hx6.trans hx7
  refine (sameTax_any saleE.tax saleE.tax A3 A7' 2 2 c3 2 w7 rfl rfl (by have h := Reads.of_own (own_ext HO3'.out hx37); exact h) HE7.out.rt (by unfold maxLen; omega) (by unfold maxLen; omega)).mono ?_
  rintro r w8 ⟨rfl, hx8⟩
  simp only [decide_true]
  go_wp2_with fail
  refine (sale29_any _).mono ?_
  rintro r w9 ⟨A9, A9', rfl, hE9, hx9⟩
  have HE9 := Lib.hid hE9
  clear hE9
  go_wp2_with fail
  have hx59 := hx37.trans (hx8.trans hx9)
  refine (sameTax_any saleE.tax saleE.tax A5 A9' 2 2 c5 2 w9 rfl rfl (by have h := Reads.of_own (own_ext HO5.out hx59); exact h) HE9.out.rt (by unfold maxLen; omega) (by unfold maxLen; omega)).mono ?_
  rintro r w10 ⟨rfl, hx10⟩
  simp only [decide_true]
  go_wp2_with fail
  go_ret
  exact ⟨rfl, X5.trans (hx59.trans hx10)⟩
end Go.Proofs.Ytehkmngbknbbaaa
