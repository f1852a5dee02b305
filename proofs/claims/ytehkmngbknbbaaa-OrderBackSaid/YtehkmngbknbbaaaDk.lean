/-
  The statement OrderKnown: the walk.
-/
import Derived.Test.YtehkmngbknbbaaaDj
set_option linter.unusedVariables false
namespace Go.Proofs.Ytehkmngbknbbaaa
open Go.RowKit

theorem Blk.two (w : World) (t t' : TypeId) (cs cs' : Array Value) : Blk ((w.alloc (.cells cs t)).alloc (.cells cs' t')) (w.heap.size + 1) t' cs' := by
  have := Blk.new (w.alloc (.cells cs t)) t' cs'
  simpa using this
theorem Blk.newD (w : World) (t : TypeId) (cs : Array Value) : Blk (w.drew.alloc (.cells cs t)) w.heap.size t cs := Blk.new w.drew t cs
/-- The six cells of a tax line. -/
abbrev SixAt (w : World) (g : Nat) (a b c d e f : Int) : Prop := w.cell? ⟨g, 0, none⟩ = some (.int .i64 a) ∧ w.cell? ⟨g, 1, none⟩ = some (.int .i64 b) ∧ w.cell? ⟨g, 2, none⟩ = some (.int .i64 c) ∧ w.cell? ⟨g, 3, none⟩ = some (.int .i64 d) ∧ w.cell? ⟨g, 4, none⟩ = some (.int .i64 e) ∧ w.cell? ⟨g, 5, none⟩ = some (.int .i64 f)
theorem Blk.six {w : World} {g : Nat} {t : TypeId} {a b c d e f : Int} (h : Blk w g t #[.int .i64 a, .int .i64 b, .int .i64 c, .int .i64 d, .int .i64 e, .int .i64 f]) : SixAt w g a b c d e f := ⟨h.cell 0, h.cell 1, h.cell 2, h.cell 3, h.cell 4, h.cell 5⟩
def sampleX : Tx := ⟨0, 1, 100, 0, 72500, 7⟩
set_option maxRecDepth 100000 in
set_option maxHeartbeats 1000000 in
theorem returns2_any (w : World) : Calls Try.prog 38 #[.int .i64 50, .int .i64 100, .int .i64 50, .int .i64 3] w fun r w' => r = .returned (.bool true) ∧ Ext w w' := by
  have hR := Lib.hid (show sampleX.ret 50 100 = (⟨0, 1, 50, 0, 72500, 3⟩, 0) by decide)
  go_enter Try.func38, Try.ntmps38
  go_wp2_with fail
  refine (sample_any _).mono ?_
  rintro e v1 ⟨rfl, hx1⟩
  unfold taxV
  go_wp2_with fail
  refine (return_any sampleX 50 100 _).mono ?_
  rintro e v2 ⟨rfl, hx2⟩
  rw [hR.out]
  unfold Tx.V taxV
  go_wp2_with fail
  exact bodyPost_ret (results_tmp rfl _ _ _) rfl ⟨rfl, (hx1.trans hx2).alloc _⟩

abbrev samL : List Tx := [sampleX, { sampleX with j := 2 }]
theorem sam2_reads (w : World) : Reads (w.alloc (.cells #[.int .i64 0, .int .i64 1, .int .i64 100, .int .i64 0, .int .i64 72500, .int .i64 7, .int .i64 0, .int .i64 2, .int .i64 100, .int .i64 0, .int .i64 72500, .int .i64 7] 46)) (w.alloc (.cells #[.int .i64 0, .int .i64 1, .int .i64 100, .int .i64 0, .int .i64 72500, .int .i64 7, .int .i64 0, .int .i64 2, .int .i64 100, .int .i64 0, .int .i64 72500, .int .i64 7] 46)).heap.size 6 (some ⟨w.heap.size, 0, none⟩) 2 (txCells samL) := reads_new' w #[.int .i64 0, .int .i64 1, .int .i64 100, .int .i64 0, .int .i64 72500, .int .i64 7, .int .i64 0, .int .i64 2, .int .i64 100, .int .i64 0, .int .i64 72500, .int .i64 7] 46 2 6 rfl rfl
theorem sam2_reads2 (w : World) (o : Obj) : Reads ((w.alloc (.cells #[.int .i64 0, .int .i64 1, .int .i64 100, .int .i64 0, .int .i64 72500, .int .i64 7, .int .i64 0, .int .i64 2, .int .i64 100, .int .i64 0, .int .i64 72500, .int .i64 7] 46)).alloc o) ((w.alloc (.cells #[.int .i64 0, .int .i64 1, .int .i64 100, .int .i64 0, .int .i64 72500, .int .i64 7, .int .i64 0, .int .i64 2, .int .i64 100, .int .i64 0, .int .i64 72500, .int .i64 7] 46)).alloc o).heap.size 6 (some ⟨w.heap.size, 0, none⟩) 2 (txCells samL) := (sam2_reads w).ext ((Ext.refl _).alloc o)
theorem sam2_reads3 (w : World) (o : Obj) : Reads ((w.alloc o).alloc (.cells #[.int .i64 0, .int .i64 1, .int .i64 100, .int .i64 0, .int .i64 72500, .int .i64 7, .int .i64 0, .int .i64 2, .int .i64 100, .int .i64 0, .int .i64 72500, .int .i64 7] 46)) ((w.alloc o).alloc (.cells #[.int .i64 0, .int .i64 1, .int .i64 100, .int .i64 0, .int .i64 72500, .int .i64 7, .int .i64 0, .int .i64 2, .int .i64 100, .int .i64 0, .int .i64 72500, .int .i64 7] 46)).heap.size 6 (some ⟨w.heap.size + 1, 0, none⟩) 2 (txCells samL) := reads_new' (w.alloc o) #[.int .i64 0, .int .i64 1, .int .i64 100, .int .i64 0, .int .i64 72500, .int .i64 7, .int .i64 0, .int .i64 2, .int .i64 100, .int .i64 0, .int .i64 72500, .int .i64 7] 46 2 6 (by simp) rfl
set_option maxRecDepth 100000 in
theorem totalK (A : Option Addr) (w : World) (hr : Reads w w.heap.size 6 A 2 (txCells samL)) : Calls Try.prog 34 #[.slice A 2 2] w fun e w' => e = .returned (.tuple #[taxV 0 0 200 0 0 14, .int .i64 0]) ∧ Ext w w' := by
  refine (total_n samL 2 A 2 w rfl hr (by decide)).mono ?_
  rintro e w' ⟨rfl, hx⟩
  refine ⟨?_, hx⟩
  rw [show totalI samL = (⟨0, 0, 200, 0, 0, 14⟩, 0) by decide]
  rfl
theorem set6 {w v : World} {q : Nat} (h : Ext w v) (hq : w.heap.size ≤ q) (a b c d e f : Value) : Ext w ((((((v.setCell ⟨q, 0, none⟩ a).setCell ⟨q, 1, none⟩ b).setCell ⟨q, 2, none⟩ c).setCell ⟨q, 3, none⟩ d).setCell ⟨q, 4, none⟩ e).setCell ⟨q, 5, none⟩ f) :=
  (((((h.set (p := ⟨q, 0, none⟩) hq a).set (p := ⟨q, 1, none⟩) hq b).set (p := ⟨q, 2, none⟩) hq c).set (p := ⟨q, 3, none⟩) hq d).set (p := ⟨q, 4, none⟩) hq e).set (p := ⟨q, 5, none⟩) hq f
set_option maxRecDepth 100000 in
set_option maxHeartbeats 40000000 in
theorem orderKnown_any (w : World) : Calls Try.prog 6 #[] w fun r w' => r = .returned (.bool true) ∧ Ext w w' := by
  have f1 := Lib.hid (show sampleX.ret 0 101 = (Tx.zero, 2) by decide)
  have f2 := Lib.hid (show backI 0 0 0 0 = (0, 0) by decide)
  have f3 := Lib.hid (show readP [0, 2, 4, 1, 2, 14] = (⟨0, 0, 0, 0, []⟩, 4, 6) by decide)
  have f4 := Lib.hid (show readP [0, 2, 4, 1, 2, 14, 10, 0] = (⟨0, 0, 0, 0, []⟩, 4, 7) by decide)
  have f5 := Lib.hid (show readP [0, 2, 4, 1, 0] = (⟨0, 0, 0, 0, []⟩, 2, 4) by decide)
  have f6 := Lib.hid (show checkTax [sampleX, sampleX] = (7, 1) by decide)
  have f7 := Lib.hid (show checkTax [{ sampleX with r := -1 }] = (5, 0) by decide)
  have f8 := Lib.hid (show totalI [sampleX, { sampleX with j := 2 }] = (⟨0, 0, 200, 0, 0, 14⟩, 0) by decide)
  go_enter Try.func6, Try.ntmps6
  go_wp2_with fail
  refine (sample_any _).mono ?_
  rintro e v1 ⟨rfl, hx1⟩
  unfold taxV
  go_wp2_with fail
  refine (return_any sampleX 0 101 _).mono ?_
  rintro e v2 ⟨rfl, hx2⟩
  rw [f1.out]
  unfold Tx.V taxV Tx.zero
  dsimp only
  have X := hx1.trans hx2
  clear hx1 hx2
  go_wp2_with fail
  replace X := X.alloc (.cells #[.int .i64 0, .int .i64 0, .int .i64 0, .int .i64 0, .int .i64 0, .int .i64 0] 46)
  refine (back_any 0 0 0 0 _).mono ?_
  rintro e v3 ⟨rfl, hx⟩
  rw [f2.out]
  replace X := X.trans hx
  clear hx
  go_wp2_with fail
  refine (bytes_any _).mono ?_
  rintro e v4 ⟨u, rfl, ho, hx⟩
  obtain ⟨A4, c4, rfl, hc4, hm4, hr4⟩ := own_slice ho
  replace X := X.trans hx
  clear hx
  unfold maxLen at hm4
  go_wp2_with fail
  refine (oreadOrder_any [0, 2, 4, 1, 2, 14] A4 c4 _ (hr4.take (k := 6) (by decide)) (by decide)).mono ?_
  rintro e v5 ⟨A5, c5, rfl, _, hx⟩
  rw [f3.out]
  replace X := X.trans hx
  clear hx ho hr4
  simp only [ordV, List.length_nil]
  go_wp2_with fail
  have F6 := Blk.two v5 26 37 #[.int .i64 0, .int .i64 0, .int .i64 0, .int .i64 0, .slice A5 0 c5] #[.int .i64 4, .int .i64 6]
  have hy5 : Ext v5 ((v5.alloc (.cells #[.int .i64 0, .int .i64 0, .int .i64 0, .int .i64 0, .slice A5 0 c5] 26)).alloc (.cells #[.int .i64 4, .int .i64 6] 37)) := ((Ext.refl _).alloc _).alloc _
  replace X := X.trans hy5
  have hs5 : v5.heap.size + 1 + 1 = ((v5.alloc (.cells #[.int .i64 0, .int .i64 0, .int .i64 0, .int .i64 0, .slice A5 0 c5] 26)).alloc (.cells #[.int .i64 4, .int .i64 6] 37)).heap.size := by simp
  generalize ((v5.alloc (.cells #[.int .i64 0, .int .i64 0, .int .i64 0, .int .i64 0, .slice A5 0 c5] 26)).alloc (.cells #[.int .i64 4, .int .i64 6] 37)) = V5 at hs5 F6 X  ⊢
  generalize v5.heap.size + 1 = g5 at F6 hs5 ⊢
  replace hs5 := Lib.hid hs5
  clear hy5
  refine (bytes_any _).mono ?_
  rintro e v6 ⟨u, rfl, ho, hx⟩
  go_wp2_with (at_builtin; refine wpl_app1 row_u8 V5 v6 (.tmp 36) (.tmp 37) rfl rfl rfl ho hx rfl rfl rfl (by simp [Value.oneCell']) (by decide) (by decide) ?_; intro u7 v7 hg7; obtain ⟨A7, c7, rfl, hc7, hm7, hr7⟩ := own_slice hg7.own)
  replace X := X.trans hg7.ext
  replace F6 := F6.ext hg7.ext
  clear ho hx hg7
  have e7 : bV [0, 2, 4, 1, 2, 14, 10] ++ #[Value.int .u8 0].toList = bV [0, 2, 4, 1, 2, 14, 10, 0] := by simp [bV]
  rw [e7] at hr7
  replace hr7 : Reads v7 v7.heap.size 1 A7 8 (bV [0, 2, 4, 1, 2, 14, 10, 0]) := hr7
  refine (oreadOrder_any [0, 2, 4, 1, 2, 14, 10, 0] A7 c7 _ hr7 (by decide)).mono ?_
  rintro e v8 ⟨A8, c8, rfl, _, hx⟩
  rw [f4.out]
  replace X := X.trans hx
  replace F6 := F6.ext hx
  clear hx hr7
  simp only [ordV, List.length_nil]
  go_wp2_with fail
  have F8 := Blk.two v8 26 37 #[.int .i64 0, .int .i64 0, .int .i64 0, .int .i64 0, .slice A8 0 c8] #[.int .i64 4, .int .i64 7]
  have hy8 : Ext v8 ((v8.alloc (.cells #[.int .i64 0, .int .i64 0, .int .i64 0, .int .i64 0, .slice A8 0 c8] 26)).alloc (.cells #[.int .i64 4, .int .i64 7] 37)) := ((Ext.refl _).alloc _).alloc _
  replace X := X.trans hy8
  replace F6 := F6.ext hy8
  have hs8 : v8.heap.size + 1 + 1 = ((v8.alloc (.cells #[.int .i64 0, .int .i64 0, .int .i64 0, .int .i64 0, .slice A8 0 c8] 26)).alloc (.cells #[.int .i64 4, .int .i64 7] 37)).heap.size := by simp
  generalize ((v8.alloc (.cells #[.int .i64 0, .int .i64 0, .int .i64 0, .int .i64 0, .slice A8 0 c8] 26)).alloc (.cells #[.int .i64 4, .int .i64 7] 37)) = V8 at hs8 F8 X F6 ⊢
  generalize v8.heap.size + 1 = g8 at F8 hs8 ⊢
  replace hs8 := Lib.hid hs8
  clear hy8
  have R9 := reads_new' V8 #[.int .u8 0, .int .u8 2, .int .u8 4, .int .u8 1, .int .u8 0] 5 5 1 hs8.out rfl
  have e9 : #[Value.int .u8 0, .int .u8 2, .int .u8 4, .int .u8 1, .int .u8 0].toList = bV [0, 2, 4, 1, 0] := by simp [bV]
  rw [e9] at R9
  have hx : Ext V8 (V8.alloc (.cells #[.int .u8 0, .int .u8 2, .int .u8 4, .int .u8 1, .int .u8 0] 5)) := (Ext.refl _).alloc _
  replace X := X.trans hx
  replace F6 := F6.ext hx
  replace F8 := F8.ext hx
  clear hx
  refine (oreadOrder_any [0, 2, 4, 1, 0] (some ⟨g8 + 1, 0, none⟩) 5 _ R9 (by decide)).mono ?_
  rintro e v10 ⟨A10, c10, rfl, _, hx⟩
  rw [f5.out]
  replace X := X.trans hx
  replace F6 := F6.ext hx
  replace F8 := F8.ext hx
  clear hx R9
  simp only [ordV, List.length_nil]
  go_wp2_with fail
  have F10 := Blk.two v10 26 37 #[.int .i64 0, .int .i64 0, .int .i64 0, .int .i64 0, .slice A10 0 c10] #[.int .i64 2, .int .i64 4]
  have hy10 : Ext v10 ((v10.alloc (.cells #[.int .i64 0, .int .i64 0, .int .i64 0, .int .i64 0, .slice A10 0 c10] 26)).alloc (.cells #[.int .i64 2, .int .i64 4] 37)) := ((Ext.refl _).alloc _).alloc _
  replace X := X.trans hy10
  replace F6 := F6.ext hy10
  replace F8 := F8.ext hy10
  have hs10 : v10.heap.size + 1 + 1 = ((v10.alloc (.cells #[.int .i64 0, .int .i64 0, .int .i64 0, .int .i64 0, .slice A10 0 c10] 26)).alloc (.cells #[.int .i64 2, .int .i64 4] 37)).heap.size := by simp
  generalize ((v10.alloc (.cells #[.int .i64 0, .int .i64 0, .int .i64 0, .int .i64 0, .slice A10 0 c10] 26)).alloc (.cells #[.int .i64 2, .int .i64 4] 37)) = V10 at hs10 F10 X F6 F8 ⊢
  generalize v10.heap.size + 1 = g10 at F10 hs10 ⊢
  replace hs10 := Lib.hid hs10
  clear hy10
  refine (sample_any _).mono ?_
  rintro e v11 ⟨rfl, hx⟩
  replace X := X.trans hx
  replace F6 := F6.ext hx
  replace F8 := F8.ext hx
  replace F10 := F10.ext hx
  clear hx
  unfold taxV
  go_wp2_with fail
  refine (sample_any _).mono ?_
  rintro e v12 ⟨rfl, hx⟩
  replace X := X.trans hx
  replace F6 := F6.ext hx
  replace F8 := F8.ext hx
  replace F10 := F10.ext hx
  clear hx
  unfold taxV
  go_wp2_with fail
  have R13 : Reads _ _ 6 (some ⟨v12.heap.size, 0, none⟩) 2 (txCells [sampleX, sampleX]) := reads_new' v12 #[.int .i64 0, .int .i64 1, .int .i64 100, .int .i64 0, .int .i64 72500, .int .i64 7, .int .i64 0, .int .i64 1, .int .i64 100, .int .i64 0, .int .i64 72500, .int .i64 7] 46 2 6 rfl rfl
  have hx : Ext v12 (v12.alloc (.cells #[.int .i64 0, .int .i64 1, .int .i64 100, .int .i64 0, .int .i64 72500, .int .i64 7, .int .i64 0, .int .i64 1, .int .i64 100, .int .i64 0, .int .i64 72500, .int .i64 7] 46)) := (Ext.refl _).alloc _
  replace X := X.trans hx
  replace F6 := F6.ext hx
  replace F8 := F8.ext hx
  replace F10 := F10.ext hx
  clear hx
  refine (checkTax_any [sampleX, sampleX] (some ⟨v12.heap.size, 0, none⟩) 2 _ R13 (by decide)).mono ?_
  rintro e v13 ⟨rfl, hx⟩
  rw [f6.out]
  replace X := X.trans hx
  replace F6 := F6.ext hx
  replace F8 := F8.ext hx
  replace F10 := F10.ext hx
  clear hx R13
  go_wp2_with fail
  refine (sample_any _).mono ?_
  rintro e v14 ⟨rfl, hx⟩
  replace X := X.trans hx
  replace F6 := F6.ext hx
  replace F8 := F8.ext hx
  replace F10 := F10.ext hx
  clear hx
  unfold taxV
  go_wp2_with fail
  refine (sample_any _).mono ?_
  rintro e v15 ⟨rfl, hx⟩
  replace X := X.trans hx
  replace F6 := F6.ext hx
  replace F8 := F8.ext hx
  replace F10 := F10.ext hx
  clear hx
  unfold taxV
  go_wp2_with fail
  have B14 := Blk.two v15 46 46 #[.int .i64 0, .int .i64 1, .int .i64 100, .int .i64 0, .int .i64 (-1), .int .i64 7] #[.int .i64 0, .int .i64 2, .int .i64 100, .int .i64 0, .int .i64 72500, .int .i64 7]
  have hx : Ext v15 ((v15.alloc (.cells #[.int .i64 0, .int .i64 1, .int .i64 100, .int .i64 0, .int .i64 (-1), .int .i64 7] 46)).alloc (.cells #[.int .i64 0, .int .i64 2, .int .i64 100, .int .i64 0, .int .i64 72500, .int .i64 7] 46)) := ((Ext.refl _).alloc _).alloc _
  have hs16 : v15.heap.size + 1 + 1 = ((v15.alloc (.cells #[.int .i64 0, .int .i64 1, .int .i64 100, .int .i64 0, .int .i64 (-1), .int .i64 7] 46)).alloc (.cells #[.int .i64 0, .int .i64 2, .int .i64 100, .int .i64 0, .int .i64 72500, .int .i64 7] 46)).heap.size := by simp
  replace X := X.trans hx
  replace F6 := F6.ext hx
  replace F8 := F8.ext hx
  replace F10 := F10.ext hx
  generalize ((v15.alloc (.cells #[.int .i64 0, .int .i64 1, .int .i64 100, .int .i64 0, .int .i64 (-1), .int .i64 7] 46)).alloc (.cells #[.int .i64 0, .int .i64 2, .int .i64 100, .int .i64 0, .int .i64 72500, .int .i64 7] 46)) = V16 at B14 hx hs16 X F6 F8 F10 ⊢
  generalize v15.heap.size + 1 = g14 at B14 hs16 ⊢
  replace hs16 := Lib.hid hs16
  have R17 : Reads _ _ 6 (some ⟨g14 + 1, 0, none⟩) 1 (txCells [{ sampleX with r := -1 }]) := reads_new' V16 #[.int .i64 0, .int .i64 1, .int .i64 100, .int .i64 0, .int .i64 (-1), .int .i64 7] 46 1 6 hs16.out rfl
  have hy : Ext V16 (V16.alloc (.cells #[.int .i64 0, .int .i64 1, .int .i64 100, .int .i64 0, .int .i64 (-1), .int .i64 7] 46)) := (Ext.refl _).alloc _
  replace X := X.trans hy
  replace F6 := F6.ext hy
  replace F8 := F8.ext hy
  replace F10 := F10.ext hy
  replace B14 := B14.ext hy
  clear hx hy
  refine (checkTax_any [{ sampleX with r := -1 }] (some ⟨g14 + 1, 0, none⟩) 1 _ R17 (by decide)).mono ?_
  rintro e v17 ⟨rfl, hx⟩
  rw [f7.out]
  replace X := X.trans hx
  replace F6 := F6.ext hx
  replace F8 := F8.ext hx
  replace F10 := F10.ext hx
  replace B14 := B14.ext hx
  clear hx R17
  go_wp2_with fail
  have HX := Lib.hid (fun W (h : Ext v17 W) => (B14.ext h).six)
  have HF := Lib.hid (fun W (h : Ext v17 W) => And.intro (F6.ext h) (And.intro (F8.ext h) (F10.ext h)))
  clear F6 F8 F10 f1 f2 f3 f4 f5 f6 f7 f8
  obtain ⟨e0, e1, e2, e3, e4, e5⟩ := B14.six
  have l14 := B14.lt
  clear B14
  go_region_held3 (fun w' => w'.cell? ⟨g14, 0, none⟩ = some (.int .i64 0) ∧ w'.cell? ⟨g14, 1, none⟩ = some (.int .i64 2) ∧ w'.cell? ⟨g14, 2, none⟩ = some (.int .i64 100) ∧ w'.cell? ⟨g14, 3, none⟩ = some (.int .i64 0) ∧ w'.cell? ⟨g14, 4, none⟩ = some (.int .i64 72500) ∧ w'.cell? ⟨g14, 5, none⟩ = some (.int .i64 7))
    (first | (with_reducible exact HX.out _ (Ext.refl v17).drew) | (with_reducible exact HX.out _ ((Ext.refl v17).alloc _)) | (with_reducible exact HX.out _ ((Ext.refl v17).alloc _).drew) | (with_reducible exact HX.out _ ((Ext.refl v17).drew.alloc _)) | (with_reducible exact HX.out _ X18) | (with_reducible exact HX.out _ (X18.alloc _)) | (with_reducible exact HX.out _ ((X18.alloc _).alloc _)) | (with_reducible exact HX.out _ X19) | (with_reducible exact HX.out _ (X19.alloc _)) | (with_reducible exact HX.out _ (set6 X19 hq18 _ _ _ _ _ _)) | (with_reducible exact HX.out _ (set6 X19 hq18' _ _ _ _ _ _)) | (with_reducible exact HX.out _ (set6 X19 (Nat.le_refl _) _ _ _ _ _ _)) | (with_reducible exact HX.out _ (set6 (X19.alloc _) hq19 _ _ _ _ _ _)) | (trace_state; fail))
    (first
    | (go_at_call 36; refine (sample_any _).mono ?_; rintro e v18 ⟨rfl, hx18⟩; unfold taxV; have X18 : Ext v17 v18 := Ext.trans (by first | with_reducible exact (Ext.refl v17).drew | with_reducible exact ((Ext.refl v17).drew).alloc _ | with_reducible exact (Ext.refl v17).alloc _ | with_reducible exact ((Ext.refl v17).alloc _).drew | with_reducible exact Ext.refl v17) hx18; have hq18 : v17.heap.size ≤ v18.heap.size + 1 := Nat.le_succ_of_le X18.size; have hq18' : v17.heap.size ≤ v18.heap.size := X18.size; (first | (with_reducible have C18 : Blk v18 v17.heap.size 46 #[.int .i64 0, .int .i64 0, .int .i64 0, .int .i64 0, .int .i64 0, .int .i64 0] := Blk.ext (Blk.newD v17 46 #[.int .i64 0, .int .i64 0, .int .i64 0, .int .i64 0, .int .i64 0, .int .i64 0]) hx18) | (with_reducible have C18 : Blk v18 v17.heap.size 46 #[.int .i64 0, .int .i64 0, .int .i64 0, .int .i64 0, .int .i64 0, .int .i64 0] := Blk.ext (Blk.new v17 46 #[.int .i64 0, .int .i64 0, .int .i64 0, .int .i64 0, .int .i64 0, .int .i64 0]) hx18) | (with_reducible have C18 : Blk v18 v17.heap.size 46 #[.int .i64 0, .int .i64 0, .int .i64 0, .int .i64 0, .int .i64 0, .int .i64 0] := Blk.ext (Blk.ext (Blk.new v17 46 #[.int .i64 0, .int .i64 0, .int .i64 0, .int .i64 0, .int .i64 0, .int .i64 0]) (Ext.refl _).drew) hx18) | skip))
    | (go_at_call 34; refine (totalK _ _ (by first | with_reducible exact sam2_reads v18 | with_reducible exact sam2_reads2 v18 _ | with_reducible exact sam2_reads3 v18 _)).mono ?_; rintro e v19 ⟨rfl, hx19⟩; unfold taxV; have X19 : Ext v17 v19 := Ext.trans (by first | with_reducible exact X18.alloc _ | with_reducible exact (X18.alloc _).alloc _) hx19; have hq19 : v17.heap.size ≤ v19.heap.size := X19.size; (first | (with_reducible have C17a : Blk v19 (v18.heap.size + 1) 46 #[.int .i64 0, .int .i64 0, .int .i64 0, .int .i64 0, .int .i64 0, .int .i64 0] := Blk.ext (Blk.two v18 46 46 #[.int .i64 0, .int .i64 1, .int .i64 100, .int .i64 0, .int .i64 72500, .int .i64 7, .int .i64 0, .int .i64 2, .int .i64 100, .int .i64 0, .int .i64 72500, .int .i64 7] #[.int .i64 0, .int .i64 0, .int .i64 0, .int .i64 0, .int .i64 0, .int .i64 0]) hx19) | (with_reducible have C17b : Blk v19 v18.heap.size 46 #[.int .i64 0, .int .i64 0, .int .i64 0, .int .i64 0, .int .i64 0, .int .i64 0] := Blk.ext (Blk.ext (Blk.new v18 46 #[.int .i64 0, .int .i64 0, .int .i64 0, .int .i64 0, .int .i64 0, .int .i64 0]) ((Ext.refl _).alloc _)) hx19) | (with_reducible have C17c : Blk v19 v17.heap.size 46 #[.int .i64 0, .int .i64 0, .int .i64 0, .int .i64 0, .int .i64 0, .int .i64 0] := Blk.ext (C18.alloc _) hx19) | (with_reducible have C17c : Blk v19 v17.heap.size 46 #[.int .i64 0, .int .i64 0, .int .i64 0, .int .i64 0, .int .i64 0, .int .i64 0] := Blk.ext (Blk.ext C18 ((Ext.refl _).alloc _)) hx19) | skip); (first | (obtain ⟨k17, k17'⟩ := C17a.cells) | (obtain ⟨k17, k17'⟩ := C17b.cells) | (obtain ⟨k17, k17'⟩ := C17c.cells) | skip)))
  all_goals
    have hr6 := fun W : World => (show (binOp .eql 37 (.agg #[.int .i64 4, .int .i64 6]) (.agg #[.int .i64 4, .int .i64 6])).run Try.prog W = .ok (.bool true) W by kernel_rfl)
    have hr8 := fun W : World => (show (binOp .eql 37 (.agg #[.int .i64 4, .int .i64 7]) (.agg #[.int .i64 4, .int .i64 7])).run Try.prog W = .ok (.bool true) W by kernel_rfl)
    have hr10 := fun W : World => (show (binOp .eql 37 (.agg #[.int .i64 2, .int .i64 4]) (.agg #[.int .i64 2, .int .i64 4])).run Try.prog W = .ok (.bool true) W by kernel_rfl)
    have hr17 := fun W : World => (show (binOp .eql 46 (.agg #[.int .i64 0, .int .i64 0, .int .i64 200, .int .i64 0, .int .i64 0, .int .i64 14]) (.agg #[.int .i64 0, .int .i64 0, .int .i64 200, .int .i64 0, .int .i64 0, .int .i64 14])).run Try.prog W = .ok (.bool true) W by kernel_rfl)
    go_wp2_with fail
    refine (returns2_any _).mono ?_
    rintro e v20 ⟨rfl, hx20⟩
    first
    | (have Y20 : Blk v20 (v18.heap.size + 1) 46 #[.int .i64 0, .int .i64 0, .int .i64 200, .int .i64 0, .int .i64 0, .int .i64 14] ∧ Ext v17 v20 := ⟨Blk.ext (put6_blk (a := .int .i64 0) (b := .int .i64 0) (c := .int .i64 200) (d := .int .i64 0) (e := .int .i64 0) (f := .int .i64 14) C17a) hx20, Ext.trans (put6_ext X19 hq18) hx20⟩)
    | (have Y20 : Blk v20 v18.heap.size 46 #[.int .i64 0, .int .i64 0, .int .i64 200, .int .i64 0, .int .i64 0, .int .i64 14] ∧ Ext v17 v20 := ⟨Blk.ext (put6_blk (a := .int .i64 0) (b := .int .i64 0) (c := .int .i64 200) (d := .int .i64 0) (e := .int .i64 0) (f := .int .i64 14) C17b) hx20, Ext.trans (put6_ext X19 hq18') hx20⟩)
    | (have Y20 : Blk v20 v17.heap.size 46 #[.int .i64 0, .int .i64 0, .int .i64 200, .int .i64 0, .int .i64 0, .int .i64 14] ∧ Ext v17 v20 := ⟨Blk.ext (put6_blk (a := .int .i64 0) (b := .int .i64 0) (c := .int .i64 200) (d := .int .i64 0) (e := .int .i64 0) (f := .int .i64 14) C17c) hx20, Ext.trans (put6_ext X19 (Nat.le_refl _)) hx20⟩)
    | (have Y20 : Blk v20 v19.heap.size 46 #[.int .i64 0, .int .i64 0, .int .i64 200, .int .i64 0, .int .i64 0, .int .i64 14] ∧ Ext v17 v20 := ⟨Blk.ext (Blk.new v19 46 #[.int .i64 0, .int .i64 0, .int .i64 200, .int .i64 0, .int .i64 0, .int .i64 14]) hx20, Ext.trans (X19.alloc _) hx20⟩)
    obtain ⟨D20, X20⟩ := Y20
    obtain ⟨F6, F8, F10⟩ := HF.out _ X20
    obtain ⟨m6, m6'⟩ := F6.cells
    obtain ⟨m8, m8'⟩ := F8.cells
    obtain ⟨m10, m10'⟩ := F10.cells
    clear F6 F8 F10 hx20
    go_wp2_with fail
    refine (awake25_any _).mono ?_
    rintro e v21 ⟨rfl, hx21⟩
    obtain ⟨m17, m17'⟩ := (D20.ext hx21).cells
    clear m6 m6' m8 m8' m10 m10' hr6 hr8 hr10
    go_wp2_with fail
    go_ret
    exact ⟨rfl, X.trans (X20.trans hx21)⟩
end Go.Proofs.Ytehkmngbknbbaaa
