/-
  words: of, Short, Long.
-/
import Derived.Test.YtjneghncmgjkeaaGreatDoorRw19
set_option linter.unusedVariables false
namespace Go.Proofs.YtjneghncmgjkeaaGreatDoor
open Go.RowKit Go.Maps

def kindOk (k : Int) : Prop := k = 1 ∨ k = 2 ∨ k = 3 ∨ k = 4
def OfPost (kind : Int) (W : World) (e : Ending) (w' : World) : Prop := ∃ b1 b2 A n c, e = .returned (.agg #[.map (some b1), .map (some b2), .slice A n c]) ∧ w'.ownsMap Tryz.prog 9 formR b1 1000 (shortD (wordsP kind)) ∧ w'.ownsMap Tryz.prog 9 formR b2 1000 (longD' (wordsP kind)) ∧ Ext W w'
theorem cut_of (kind : Int) (T : Bs) (h : txtP kind = T) (hk : wdsOk kind = true) (W w : World) (hS : Std W) (hx : Ext W w) :
    Calls Tryz.prog 100 #[.string ⟨T.toArray⟩] w (OfPost kind w) := by
  subst h
  exact cut_any kind hk w (hS.ext hx)
theorem of_end {kind : Int} {W w' : World} {g b1 b2 n c : Nat} {A : Option Addr} {x y z : Value} {tmps : Array Value} (hg : W.heap.size ≤ g) (B : Blk w' g 108 #[x, y, z]) (M1 : w'.ownsMap Tryz.prog 9 formR b1 1000 (shortD (wordsP kind))) (M2 : w'.ownsMap Tryz.prog 9 formR b2 1000 (longD' (wordsP kind))) (X : Ext W w')
    (ht : tmps.getD 2 undef = .pointer (some ⟨g, 0, none⟩)) :
    bodyPost Tryz.prog Tryz.f75 (OfPost kind W) Exit.ret { tmps := tmps, defers := [] } (((w'.setCell ⟨g, 0, none⟩ (.map (some b1))).setCell ⟨g, 1, none⟩ (.map (some b2))).setCell ⟨g, 2, none⟩ (.slice A n c)) := by
  have m1 := (blk_map_ne B M1).symm
  have m2 := (blk_map_ne B M2).symm
  exact bodyPost_ret (results_c rfl ht (ld_table (((B.set_ 0 (.map (some b1))).set_ 1 (.map (some b2))).set_ 2 (.slice A n c)))) rfl ⟨b1, b2, A, n, c, rfl, ((M1.setCell (a := ⟨g, 0, none⟩) m1 _).setCell (a := ⟨g, 1, none⟩) m1 _).setCell (a := ⟨g, 2, none⟩) m1 _, ((M2.setCell (a := ⟨g, 0, none⟩) m2 _).setCell (a := ⟨g, 1, none⟩) m2 _).setCell (a := ⟨g, 2, none⟩) m2 _,
    ((X.set (p := ⟨g, 0, none⟩) hg _).set (p := ⟨g, 1, none⟩) hg _).set (p := ⟨g, 2, none⟩) hg _⟩
set_option maxRecDepth 100000 in
theorem of_1 (W : World) (hS : Std W) : Calls Tryz.prog 75 #[.int .i64 1] W (OfPost 1 W) := by
  have HC := Lib.hid (fun w hx => cut_of 1 sufText rfl wds_ok.1 W w hS hx)
  go_enter Tryz.func75, Tryz.ntmps75
  go_wp2_with fail
  have B0 := Blk.new W 108 #[.map none, .map none, .slice none 0 0]
  have X0 := (Ext.refl W).alloc (.cells #[.map none, .map none, .slice none 0 0] 108)
  have hg := Nat.le_refl W.heap.size
  generalize W.alloc (.cells #[.map none, .map none, .slice none 0 0] 108) = w1 at *
  refine (HC.out _ (X0.alloc _)).mono ?_
  rintro e w' ⟨b1, b2, A, n, c, rfl, M1, M2, X⟩
  have B2 := (B0.alloc _).ext X
  have X2 := (X0.alloc _).trans X
  clear HC X0 B0 X
  obtain ⟨q0, q1⟩ := B2.cells
  have lg := B2.lt
  generalize hgg : W.heap.size = g at *
  have hg' := Lib.hid (show W.heap.size ≤ g by omega)
  clear hg
  replace hgg := Lib.hid hgg
  replace B2 := Lib.hid B2
  replace M1 := Lib.hid M1
  replace M2 := Lib.hid M2
  go_wp2_with fail
  refine of_end hg'.out B2.out M1.out M2.out X2 ?_
  rfl
set_option maxRecDepth 100000 in
theorem of_2 (W : World) (hS : Std W) : Calls Tryz.prog 75 #[.int .i64 2] W (OfPost 2 W) := by
  have HC := Lib.hid (fun w hx => cut_of 2 dirText rfl wds_ok.2.1 W w hS hx)
  go_enter Tryz.func75, Tryz.ntmps75
  go_wp2_with fail
  have B0 := Blk.new W 108 #[.map none, .map none, .slice none 0 0]
  have X0 := (Ext.refl W).alloc (.cells #[.map none, .map none, .slice none 0 0] 108)
  have hg := Nat.le_refl W.heap.size
  generalize W.alloc (.cells #[.map none, .map none, .slice none 0 0] 108) = w1 at *
  refine (HC.out _ (X0.alloc _)).mono ?_
  rintro e w' ⟨b1, b2, A, n, c, rfl, M1, M2, X⟩
  have B2 := (B0.alloc _).ext X
  have X2 := (X0.alloc _).trans X
  clear HC X0 B0 X
  obtain ⟨q0, q1⟩ := B2.cells
  have lg := B2.lt
  generalize hgg : W.heap.size = g at *
  have hg' := Lib.hid (show W.heap.size ≤ g by omega)
  clear hg
  replace hgg := Lib.hid hgg
  replace B2 := Lib.hid B2
  replace M1 := Lib.hid M1
  replace M2 := Lib.hid M2
  go_wp2_with fail
  refine of_end hg'.out B2.out M1.out M2.out X2 ?_
  rfl
set_option maxRecDepth 100000 in
theorem of_3 (W : World) (hS : Std W) : Calls Tryz.prog 75 #[.int .i64 3] W (OfPost 3 W) := by
  have HC := Lib.hid (fun w hx => cut_of 3 staText rfl wds_ok.2.2.1 W w hS hx)
  go_enter Tryz.func75, Tryz.ntmps75
  go_wp2_with fail
  have B0 := Blk.new W 108 #[.map none, .map none, .slice none 0 0]
  have X0 := (Ext.refl W).alloc (.cells #[.map none, .map none, .slice none 0 0] 108)
  have hg := Nat.le_refl W.heap.size
  generalize W.alloc (.cells #[.map none, .map none, .slice none 0 0] 108) = w1 at *
  refine (HC.out _ (X0.alloc _)).mono ?_
  rintro e w' ⟨b1, b2, A, n, c, rfl, M1, M2, X⟩
  have B2 := (B0.alloc _).ext X
  have X2 := (X0.alloc _).trans X
  clear HC X0 B0 X
  obtain ⟨q0, q1⟩ := B2.cells
  have lg := B2.lt
  generalize hgg : W.heap.size = g at *
  have hg' := Lib.hid (show W.heap.size ≤ g by omega)
  clear hg
  replace hgg := Lib.hid hgg
  replace B2 := Lib.hid B2
  replace M1 := Lib.hid M1
  replace M2 := Lib.hid M2
  go_wp2_with fail
  refine of_end hg'.out B2.out M1.out M2.out X2 ?_
  rfl
set_option maxRecDepth 100000 in
theorem of_4 (W : World) (hS : Std W) : Calls Tryz.prog 75 #[.int .i64 4] W (OfPost 4 W) := by
  have HC := Lib.hid (fun w hx => cut_of 4 uniText rfl wds_ok.2.2.2 W w hS hx)
  go_enter Tryz.func75, Tryz.ntmps75
  go_wp2_with fail
  have B0 := Blk.new W 108 #[.map none, .map none, .slice none 0 0]
  have X0 := (Ext.refl W).alloc (.cells #[.map none, .map none, .slice none 0 0] 108)
  have hg := Nat.le_refl W.heap.size
  generalize W.alloc (.cells #[.map none, .map none, .slice none 0 0] 108) = w1 at *
  refine (HC.out _ (X0.alloc _)).mono ?_
  rintro e w' ⟨b1, b2, A, n, c, rfl, M1, M2, X⟩
  have B2 := (B0.alloc _).ext X
  have X2 := (X0.alloc _).trans X
  clear HC X0 B0 X
  obtain ⟨q0, q1⟩ := B2.cells
  have lg := B2.lt
  generalize hgg : W.heap.size = g at *
  have hg' := Lib.hid (show W.heap.size ≤ g by omega)
  clear hg
  replace hgg := Lib.hid hgg
  replace B2 := Lib.hid B2
  replace M1 := Lib.hid M1
  replace M2 := Lib.hid M2
  go_wp2_with fail
  refine of_end hg'.out B2.out M1.out M2.out X2 ?_
  rfl
theorem wof_any (kind : Int) (hk : kindOk kind) (W : World) (hS : Std W) : Calls Tryz.prog 75 #[.int .i64 kind] W (OfPost kind W) := by
  rcases hk with rfl | rfl | rfl | rfl
  · exact of_1 W hS
  · exact of_2 W hS
  · exact of_3 W hS
  · exact of_4 W hS
theorem shortP_F (kind : Int) (w : Bs) : shortP kind w = shortF (wordsP kind).reverse w := rfl
theorem look_form {w : World} {b n : Nat} {D : DataW Unit} (h : w.ownsMap Tryz.prog 9 formR b n D) {k s : Bs} (hk : k.length ≤ 100000) (ha : D.atKey (klS k) (.lit (.string [])) = .lit (.string s)) {q : Bool} (hh : has D (klS k) = q) :
    (Instr.lookup 106 (.map (some b)) (.string ⟨k.toArray⟩) true).run Tryz.prog w = .ok (.tuple #[.agg #[.string ⟨s.toArray⟩], .bool q]) w := by
  obtain ⟨v, ps, hr, hv⟩ := h.look_ok keyedS Tryz.underlying106 (zeroForm w) (formR_mk []) (keyS k hk)
  rw [ha] at hv
  rw [hh] at hr
  have := formR_inv hv
  rw [this] at hr
  exact hr
set_option maxRecDepth 100000 in
theorem short_any (kind : Int) (hk : kindOk kind) (word : Bs) (hw : word.length ≤ 100000) (W : World) (hS : Std W) :
    Calls Tryz.prog 40 #[.int .i64 kind, .string ⟨word.toArray⟩] W fun e w' => e = .returned (.tuple #[.string ⟨(shortP kind word).1.toArray⟩, .bool (shortP kind word).2]) ∧ Ext W w' := by
  have HO := Lib.hid (wof_any kind hk W hS)
  have HD := Lib.hid (shortD_at _ (wordsP kind) word rfl)
  rw [shortP_F]
  generalize shortF (wordsP kind).reverse word = R at *
  clear hk
  go_enter Tryz.func40, Tryz.ntmps40
  go_wp2_with fail
  refine HO.out.mono ?_
  rintro e w1 ⟨b1, b2, A, n, c, rfl, M1, M2, X⟩
  have hl := look_form M1 hw HD.out.2.1 HD.out.2.2
  clear HO HD M1 M2
  have hfd : (Instr.field 108 (.agg #[.map (some b1), .map (some b2), .slice A n c]) 0).run Tryz.prog w1 = .ok (.map (some b1)) w1 := by kernel_rfl
  go_wp2_with fail
  go_ret2
  exact ⟨rfl, X.alloc _⟩
end Go.Proofs.YtjneghncmgjkeaaGreatDoor
