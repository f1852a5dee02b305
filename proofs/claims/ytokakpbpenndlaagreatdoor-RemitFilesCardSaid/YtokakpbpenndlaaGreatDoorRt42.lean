/-
  The statements' helpers of remit: the sample, the chapter's first examples (awake).
-/
import Derived.Test.YtokakpbpenndlaaGreatDoorRt41
import Derived.Test.YtokakpbpenndlaaGreatDoorRt36
import Derived.Test.YtokakpbpenndlaaGreatDoorRt19
import Derived.Deep.RegionHeld3
import Derived.Test.YtokakpbpenndlaaGreatDoorRt06
import Derived.Test.YtokakpbpenndlaaGreatDoorRt29
import Derived.Deep.DeepCutAuto
import Derived.LaidEql
import Derived.Test.YtokakpbpenndlaaGreatDoorRt40
import Derived.Test.YtokakpbpenndlaaGreatDoorRt18
import Derived.Test.YtokakpbpenndlaaGreatDoorRt39
set_option linter.unusedVariables false
namespace Go.Proofs.YtokakpbpenndlaaGreatDoor
open Go.RowKit Go.Maps

theorem One.add {w W : World} {bb mb : Nat} {K : Bk} (h : One w W bb mb K) (e : Ent) (Aa At : Option Addr) (ca ct : Nat) (he : EntR W e Aa At) (hs : K.small) (hk : K.length ≤ 100000) {K' : Bk} {l : List Tx} {f : Int} (hE : K.add e = (K', l, f)) {n m q : Nat} (hn : e.am.length = n) (hm : e.tax.length = m) (hq : l.length = q) :
    Calls Tryz.prog 26 #[.pointer (some ⟨bb, 0, none⟩), .agg #[.int .i64 e.k, .int .i64 e.id, .int .i64 e.of_, .int .i64 e.day, .slice Aa n ca, .slice At m ct]] W fun r W' => ∃ A c, r = .returned (.tuple #[.slice A q c, .int .i64 f]) ∧ One w W' bb mb K' := by
  subst hn hm
  obtain ⟨v, M, hB, rfl, hx⟩ := h
  refine (add_is hB hx e Aa At ca ct he (by rw [← BkM.len_b]; exact hk) hs hE (n := q) hq).mono ?_
  rintro r w3 ⟨A3, c3, v3, M3, b3, rfl, hA3, hb3, _, _⟩
  exact ⟨A3, c3, rfl, v3, M3, hA3.at_, hb3, Chg.to_ext hx hA3.chg (fun k hk => (hB.foot_ge k hk).1)⟩
theorem reads_c (W : World) (cs : Array Value) (e : TypeId) (m size : Nat) (xs : List Value) (h : cs.size = m * size) (hx : cs.toList = xs) : Reads (W.alloc (.cells cs e)) (W.alloc (.cells cs e)).heap.size size (some ⟨W.heap.size, 0, none⟩) m xs := by
  subst hx
  exact reads_new' W cs e m size rfl h
set_option maxRecDepth 100000 in
set_option maxHeartbeats 2000000 in
theorem sample30_any (w : World) : Calls Tryz.prog 36 #[] w fun r w' => ∃ bb mb, r = .returned (.pointer (some ⟨bb, 0, none⟩)) ∧ One w w' bb mb bk1 := by
  go_enter Tryz.func36, Tryz.ntmps36
  go_wp2_with fail
  refine (newBook_any _).mono ?_
  rintro r w1 ⟨rfl, hB1, hx1⟩
  have O1 : One w w1 (w.heap.size + 1) w.heap.size [] := ⟨_, _, hB1, rfl, hx1⟩
  clear hB1 hx1
  generalize w.heap.size + 1 = bb at *
  generalize w.heap.size = mb at *
  go_wp2_with fail
  have X2 := (Ext.refl w1).alloc (.cells #[.int .i64 100, .int .i64 50] 3)
  have R2 := reads_c w1 #[.int .i64 100, .int .i64 50] 3 2 1 (iV saleE.am) rfl rfl
  have hs2 : (w1.alloc (.cells #[.int .i64 100, .int .i64 50] 3)).heap.size = w1.heap.size + 1 := by simp
  generalize w1.alloc (.cells #[.int .i64 100, .int .i64 50] 3) = w2 at *
  have X3 := (Ext.refl w2).alloc (.cells #[.int .i64 0, .int .i64 7, .int .i64 100, .int .i64 0, .int .i64 72500, .int .i64 7, .int .i64 1, .int .i64 7, .int .i64 50, .int .i64 0, .int .i64 72500, .int .i64 4] 117)
  have R3 := reads_c w2 #[.int .i64 0, .int .i64 7, .int .i64 100, .int .i64 0, .int .i64 72500, .int .i64 7, .int .i64 1, .int .i64 7, .int .i64 50, .int .i64 0, .int .i64 72500, .int .i64 4] 117 2 6 (txCells saleE.tax) rfl rfl
  rw [hs2] at R3
  generalize w2.alloc (.cells #[.int .i64 0, .int .i64 7, .int .i64 100, .int .i64 0, .int .i64 72500, .int .i64 7, .int .i64 1, .int .i64 7, .int .i64 50, .int .i64 0, .int .i64 72500, .int .i64 4] 117) = w3 at *
  have HE := Lib.hid (show EntR w3 saleE (some ⟨w1.heap.size, 0, none⟩) (some ⟨w1.heap.size + 1, 0, none⟩) from ⟨R2.ext X3, R3, by simp [saleE, maxLen], by simp [saleE, maxLen]⟩)
  have O3 := Lib.hid (O1.to (X2.trans X3))
  clear R2 R3 O1 X2 X3 hs2
  refine (O3.out.add saleE _ _ 2 2 HE.out small0 (by simp) add_sale0 (n := 2) (m := 2) (q := 2) rfl rfl rfl).mono ?_
  rintro r w4 ⟨A4, c4, rfl, O4⟩
  clear HE O3
  go_wp2_with fail
  have X5 := (Ext.refl w4).alloc (.cells #[.int .i64 50, .int .i64 0] 3)
  have R5 := reads_c w4 #[.int .i64 50, .int .i64 0] 3 2 1 (iV [50, 0]) rfl rfl
  generalize w4.alloc (.cells #[.int .i64 50, .int .i64 0] 3) = w5 at *
  have HE := Lib.hid (show EntR w5 (refundE 2 1 [50, 0]) (some ⟨w4.heap.size, 0, none⟩) none from ⟨R5, Reads.none_, by simp [refundE, maxLen], by simp [refundE, maxLen]⟩)
  have O5 := Lib.hid (O4.to X5)
  clear R5 O4 X5
  refine (O5.out.add (refundE 2 1 [50, 0]) _ _ 2 0 HE.out small1 (by simp) k_ref2 (n := 2) (m := 0) (q := 1) rfl rfl rfl).mono ?_
  rintro r w6 ⟨A6, c6, rfl, O6⟩
  clear HE O5
  go_wp2_with fail
  go_ret
  exact ⟨bb, mb, rfl, O6⟩
def jSeven : JV := ⟨⟨7, 1, 0, 1⟩, none, 0, 0⟩
theorem seven30_any (w : World) : Calls Tryz.prog 37 #[] w fun r w' => ∃ A, r = .returned (.slice A 1 1) ∧ Reads w' w'.heap.size 5 A 1 (jvCells [jSeven]) ∧ Ext w w' := by
  go_enter Tryz.func37, Tryz.ntmps37
  go_wp2_with fail
  go_ret
  exact ⟨_, rfl, reads_c w #[.int .i64 7, .int .i64 1, .int .i64 0, .int .i64 1, .slice none 0 0] 83 1 5 (jvCells [jSeven]) rfl rfl, (Ext.refl w).alloc _⟩
def repFirst : Rep := ⟨7, 1, 0, 100, 0, 7, 2, 1⟩
theorem first30_any (w : World) : Calls Tryz.prog 38 #[] w fun r w' => r = .returned repFirst.V ∧ Ext w w' := by
  go_enter Tryz.func38, Tryz.ntmps38
  go_wp2_with fail
  exact bodyPost_ret (results_c rfl rfl (ld_rep (Blk.new w _ _))) rfl ⟨rfl, (Ext.refl w).alloc _⟩
theorem mon10 : monI 10 = 0 := by
  have h : DateIs 10 1 0 10 := ⟨by omega, by omega, by decide, by decide⟩
  rw [monI_of h]; rfl
theorem mon12 : monI 12 = 0 := by
  have h : DateIs 12 1 0 12 := ⟨by omega, by omega, by decide, by decide⟩
  rw [monI_of h]; rfl
theorem of10 : ofI 1 10 = 0 := by unfold ofI; rw [mon10]; rfl
theorem of12 : ofI 1 12 = 0 := by unfold ofI; rw [mon12]; rfl
theorem per_mv3 : perM 1 0 mv3 = mv3 := by
  unfold perM mv3 inP
  simp [of10, of12]
theorem file_first : Bk.file bk1 [⟨7, 1, 0, 1⟩] 7 0 = (repFirst, 0) := by
  unfold Bk.file
  rw [if_neg (by decide), show findJ [⟨7, 1, 0, 1⟩] 7 = some ⟨7, 1, 0, 1⟩ by decide]
  simp only
  rw [if_neg (by decide), k_mv]
  have : repOf 7 1 0 mv3 = repFirst := by unfold repOf; rw [per_mv3]; decide
  rw [this, if_pos (by decide)]
theorem dec_lo {u : Nat} (h : u < 10) : Lib.decDigits u = [UInt8.ofNat (48 + u)] := by rw [Lib.decDigits, dif_pos h]
theorem dec_hi {u : Nat} (h : ¬ u < 10) : Lib.decDigits u = Lib.decDigits (u / 10) ++ [UInt8.ofNat (48 + u % 10)] := by rw [Lib.decDigits, dif_neg h]
theorem first_check : repFirst.check = 0 := by decide
theorem first_text : repFirst.textO = [55, 32, 48, 48, 48, 49, 45, 77, 48, 49, 32, 49, 48, 48, 32, 48, 32, 55, 32, 50, 32, 49] := by
  unfold Rep.textO
  rw [if_pos first_check]
  have e7 : Lib.itoa 7 = [55] := by unfold Lib.itoa; rw [if_neg (by decide)]; exact dec_lo (by decide)
  have e0 : Lib.itoa 0 = [48] := by unfold Lib.itoa; rw [if_neg (by decide)]; exact dec_lo (by decide)
  have e2 : Lib.itoa 2 = [50] := by unfold Lib.itoa; rw [if_neg (by decide)]; exact dec_lo (by decide)
  have e1 : Lib.itoa 1 = [49] := by unfold Lib.itoa; rw [if_neg (by decide)]; exact dec_lo (by decide)
  have e100 : Lib.itoa 100 = [49, 48, 48] := by
    unfold Lib.itoa; rw [if_neg (by decide)]
    show Lib.decDigits 100 = _
    rw [dec_hi (by decide), dec_hi (by decide), dec_lo (by decide)]
    rfl
  have hp : perText 1 0 = [48, 48, 48, 49, 45, 77, 48, 49] := by decide
  have hT : repTexts repFirst 8 = [Lib.itoa 7, perText 1 0, Lib.itoa 100, Lib.itoa 0, Lib.itoa 7, Lib.itoa 2, Lib.itoa 1] := rfl
  unfold Rep.text
  rw [hT, e7, e0, e2, e1, e100, hp]
  rfl
theorem first_i64 : repFirst.i64s := by constructor <;> decide
theorem b3_bk1 : bk1.b3 := by
  have h1 : (Bk.add [kpSale] (refundE 2 1 [50, 0])).1.b3 := add_b3 (by
    have := add_b3 Bk.b3_nil saleE
    rwa [add_sale0] at this) _
  rwa [k_ref2] at h1
/-- A report of a book in use. -/
theorem One.file {w W : World} {bb mb : Nat} {K : Bk} (h : One w W bb mb K) (hs : K.small) (h3 : K.b3) (hk : K.length ≤ 100000) (l : List JV) (A : Option Addr) (cap n : Nat) (hn : l.length = n) (hr : Reads W W.heap.size 5 A n (jvCells l)) (hm : n ≤ maxLen) (id p : Int) {R : Rep} {E : Int} (hF : K.file (jsOf l) id p = (R, E)) :
    Calls Tryz.prog 29 #[.pointer (some ⟨bb, 0, none⟩), .slice A n cap, .int .i64 id, .int .i64 p] W fun r W' => r = .returned (.tuple #[R.V, .int .i64 E]) ∧ One w W' bb mb K ∧ Ext W W' := by
  subst hn
  obtain ⟨v, M, hB, rfl, hx⟩ := h
  refine (rfile_any hB (by rw [← BkM.len_b]; exact hk) hs h3 l A cap hr hm id p).mono ?_
  rintro r W' ⟨rfl, hx2⟩
  rw [hF]
  exact ⟨rfl, ⟨v, M, hB.ext hx2, rfl, hx.trans hx2⟩, hx2⟩
theorem eq_first (w : World) : (binOp .eql 23 repFirst.V repFirst.V).run Tryz.prog w = .ok (.bool true) w := by kernel_rfl
set_option maxRecDepth 100000 in
set_option maxHeartbeats 2000000 in
theorem awake30_any (w : World) (ht : Tab10 w) : Calls Tryz.prog 10 #[] w fun r w' => r = .returned (.bool true) ∧ Ext w w' := by
  have HT := Lib.hid (fun W (hx : Ext w W) => ht.ext hx)
  clear ht
  go_enter Tryz.func10, Tryz.ntmps10
  go_wp2_with fail
  refine (sample30_any _).mono ?_
  rintro r w1 ⟨bb, mb, rfl, O1⟩
  go_wp2_with fail
  refine (seven30_any _).mono ?_
  rintro r w2 ⟨A2, rfl, R2, hx2⟩
  have O2 := O1.to hx2
  go_wp2_with fail
  refine (O2.file small_b1 b3_bk1 (by simp [bk1]) [jSeven] A2 1 1 rfl R2 (by simp [maxLen]) 7 0 file_first).mono ?_
  rintro r w3 ⟨rfl, O3, hx3⟩
  clear O1 O2 R2 hx2 hx3
  have X3 := O3.x
  clear O3
  go_wp2_with fail
  have B2 := Blk.new w3 23 #[.int .i64 repFirst.j, .int .i64 repFirst.k, .int .i64 repFirst.p, .int .i64 repFirst.t, .int .i64 repFirst.x, .int .i64 repFirst.v, .int .i64 repFirst.s, .int .i64 repFirst.r]
  have X4 := X3.alloc (.cells #[.int .i64 repFirst.j, .int .i64 repFirst.k, .int .i64 repFirst.p, .int .i64 repFirst.t, .int .i64 repFirst.x, .int .i64 repFirst.v, .int .i64 repFirst.s, .int .i64 repFirst.r] 23)
  generalize w3.alloc (.cells #[.int .i64 repFirst.j, .int .i64 repFirst.k, .int .i64 repFirst.p, .int .i64 repFirst.t, .int .i64 repFirst.x, .int .i64 repFirst.v, .int .i64 repFirst.s, .int .i64 repFirst.r] 23) = w4 at *
  generalize w3.heap.size = g2 at *
  refine (first30_any _).mono ?_
  rintro r w5 ⟨rfl, hx5⟩
  have X5 := X4.trans hx5
  have B5 := B2.ext hx5
  clear X4 B2 hx5
  have HTx := Lib.hid (rtext_any repFirst first_i64 _ (HT.out _ X5))
  rw [first_check, first_text] at HTx
  go_wp2_with fail
  refine HTx.out.mono ?_
  rintro r w6 ⟨rfl, hx6⟩
  have X6 := X5.trans hx6
  have B6 := B5.ext hx6
  clear X5 B5 hx6 HTx
  have HS := Lib.hid (fun (w' : World) (hx : Ext w6 w') => (show w'.cell? ⟨g2, 0, none⟩ = some (.int .i64 repFirst.j) ∧ w'.cell? ⟨g2, 1, none⟩ = some (.int .i64 repFirst.k) ∧ w'.cell? ⟨g2, 2, none⟩ = some (.int .i64 repFirst.p) ∧ w'.cell? ⟨g2, 3, none⟩ = some (.int .i64 repFirst.t) ∧ w'.cell? ⟨g2, 4, none⟩ = some (.int .i64 repFirst.x) ∧ w'.cell? ⟨g2, 5, none⟩ = some (.int .i64 repFirst.v) ∧ w'.cell? ⟨g2, 6, none⟩ = some (.int .i64 repFirst.s) ∧ w'.cell? ⟨g2, 7, none⟩ = some (.int .i64 repFirst.r) from
    have B := B6.ext hx
    ⟨B.cell 0, B.cell 1, B.cell 2, B.cell 3, B.cell 4, B.cell 5, B.cell 6, B.cell 7⟩))
  have S6 := Lib.hid (HS.out w6 (Ext.refl _))
  have heq := eq_first
  go_wp2_with fail
  go_region_held3 (fun w' => w'.cell? ⟨g2, 0, none⟩ = some (.int .i64 repFirst.j) ∧ w'.cell? ⟨g2, 1, none⟩ = some (.int .i64 repFirst.k) ∧ w'.cell? ⟨g2, 2, none⟩ = some (.int .i64 repFirst.p) ∧ w'.cell? ⟨g2, 3, none⟩ = some (.int .i64 repFirst.t) ∧ w'.cell? ⟨g2, 4, none⟩ = some (.int .i64 repFirst.x) ∧ w'.cell? ⟨g2, 5, none⟩ = some (.int .i64 repFirst.v) ∧ w'.cell? ⟨g2, 6, none⟩ = some (.int .i64 repFirst.s) ∧ w'.cell? ⟨g2, 7, none⟩ = some (.int .i64 repFirst.r))
    (first | (with_reducible exact HS.out _ (Ext.refl w6).drew) | (with_reducible exact HS.out _ hx7) | (exact S6.out))
    (first | (go_at_call 38; refine (first30_any _).mono ?_; rintro e w7 ⟨rfl, hx7a⟩; have hx7 : Ext w6 w7 := Ext.trans (Ext.refl w6).drew hx7a))
  all_goals
    go_wp2_with fail
    go_ret
    exact ⟨rfl, X6.trans hx7⟩
end Go.Proofs.YtokakpbpenndlaaGreatDoor

set_option linter.unusedVariables false
namespace Go.Proofs.YtokakpbpenndlaaGreatDoor
open Go.RowKit Go.Maps
end Go.Proofs.YtokakpbpenndlaaGreatDoor

set_option linter.unusedVariables false
namespace Go.Proofs.YtokakpbpenndlaaGreatDoor
open Go.RowKit Go.Maps
structure R8 (w w1 W : World) (b5 : Nat) (s : RS) (cs : Array Value) : Prop where
  rd : RdO W w1.heap.size s
  h2 : Blk W w.heap.size 23 zRep
  h5 : Blk W b5 23 cs
  ew : Ext w w1
  e1 : Ext w1 W
  lg : w.heap.size < w1.heap.size
  l5 : w1.heap.size < b5
theorem R8.ext {w w1 W : World} {b5 : Nat} {s : RS} {cs : Array Value} (h : R8 w w1 W b5 s cs) : Ext w W := h.ew.trans h.e1
theorem R8.call {w w1 W W' : World} {b5 : Nat} {s s' : RS} {cs : Array Value} (h : R8 w w1 W b5 s cs) (hR : RdO W' w1.heap.size s') (hG : W.grownBy W' (some w1.heap.size)) : R8 w w1 W' b5 s' cs := by
  have l := h.lg
  have l' := h.l5
  exact ⟨hR, h.h2.grown hG (by intro e; have := Option.some.inj e; omega), h.h5.grown hG (by intro e; have := Option.some.inj e; omega), h.ew, h.e1.grown hG (by intro k e; have := Option.some.inj e; omega), h.lg, h.l5⟩
theorem R8.to {w w1 W W' : World} {b5 : Nat} {s : RS} {cs : Array Value} (h : R8 w w1 W b5 s cs) (hx : Ext W W') : R8 w w1 W' b5 s cs :=
  ⟨h.rd.ext hx, h.h2.ext hx, h.h5.ext hx, h.ew, h.e1.trans hx, h.lg, h.l5⟩
theorem R8.set {w w1 W : World} {b5 : Nat} {s : RS} {cs : Array Value} (h : R8 w w1 W b5 s cs) (i : Nat) (v : Value) : R8 w w1 (W.setCell ⟨b5, i, none⟩ v) b5 s (cs.setIfInBounds i v) := by
  have l := h.lg
  have l' := h.l5
  exact ⟨h.rd.set (p := ⟨b5, i, none⟩) l' v, h.h2.far (p := ⟨b5, i, none⟩) (show w.heap.size ≠ b5 by omega) v, h.h5.set_ i v, h.ew, h.e1.set (p := ⟨b5, i, none⟩) (show w1.heap.size ≤ b5 by omega) v, l, l'⟩
end Go.Proofs.YtokakpbpenndlaaGreatDoor

set_option linter.unusedVariables false
namespace Go.Proofs.YtokakpbpenndlaaGreatDoor
open Go.RowKit Go.Maps
theorem neq_rep (x y : Rep) (r : Bool) (h : r = decide (x ≠ y)) (w : World) : (binOp .neq 23 x.V y.V).run Tryz.prog w = .ok (.bool r) w := by
  obtain ⟨a1, a2, a3, a4, a5, a6, a7, a8⟩ := x
  obtain ⟨b1, b2, b3, b4, b5, b6, b7, b8⟩ := y
  subst h
  by_cases h1 : a1 = b1
  case neg => simp [go_sem, h1]
  by_cases h2 : a2 = b2
  case neg => simp [go_sem, h1, h2]
  by_cases h3 : a3 = b3
  case neg => simp [go_sem, h1, h2, h3]
  by_cases h4 : a4 = b4
  case neg => simp [go_sem, h1, h2, h3, h4]
  by_cases h5 : a5 = b5
  case neg => simp [go_sem, h1, h2, h3, h4, h5]
  by_cases h6 : a6 = b6
  case neg => simp [go_sem, h1, h2, h3, h4, h5, h6]
  by_cases h7 : a7 = b7
  case neg => simp [go_sem, h1, h2, h3, h4, h5, h6, h7]
  by_cases h8 : a8 = b8
  case neg => simp [go_sem, h1, h2, h3, h4, h5, h6, h7, h8]
  subst h1 h2 h3 h4 h5 h6 h7 h8
  simp [go_sem]
end Go.Proofs.YtokakpbpenndlaaGreatDoor

set_option linter.unusedVariables false
namespace Go.Proofs.YtokakpbpenndlaaGreatDoor
open Go.RowKit Go.Maps Go.Sort Go.Shelf

theorem dueCl_at (l : List (Int × Int)) (k : Nat) (h : k < l.length) : (dueCl l)[k * 2]? = some (.int .i64 l[k].1) ∧ (dueCl l)[k * 2 + 1]? = some (.int .i64 l[k].2) :=
  ⟨flat_get (f := fun p : Int × Int => dueE p) (c := 2) (fun _ => rfl) l k 0 h (by decide), flat_get (f := fun p : Int × Int => dueE p) (c := 2) (fun _ => rfl) l k 1 h (by decide)⟩
theorem neq_due (x y : Int × Int) (r : Bool) (h : r = decide (x ≠ y)) (w : World) : (binOp .neq 62 (.agg #[.int .i64 x.1, .int .i64 x.2]) (.agg #[.int .i64 y.1, .int .i64 y.2])).run Tryz.prog w = .ok (.bool r) w := by
  subst h
  obtain ⟨a, b⟩ := x
  obtain ⟨a', b'⟩ := y
  by_cases h1 : a = a'
  · by_cases h2 : b = b' <;> simp [go_sem, h1, h2]
  · simp [go_sem, h1]
set_option maxHeartbeats 1000000 in
theorem sameDue_any (a b : List (Int × Int)) (A A' : Option Addr) (n n' c c' : Nat) (w : World) (hn : a.length = n) (hn' : b.length = n') (h1 : Reads w w.heap.size 2 A n (dueCl a)) (h2 : Reads w w.heap.size 2 A' n' (dueCl b)) (m1 : n ≤ maxLen) (m2 : n' ≤ maxLen) :
    Calls Tryz.prog 33 #[.slice A n c, .slice A' n' c'] w fun e w' => e = .returned (.bool (decide (a = b))) ∧ Ext w w' := by
  subst hn hn'
  unfold maxLen at m1 m2
  by_cases hl : a.length = b.length
  · have hb : ((a.length : Int) != (b.length : Int)) = false := by simp; omega
    have HL := Lib.hid hl
    clear hl
    go_enter Tryz.func33, Tryz.ntmps33
    go_wp2
    go_loopw [5] (fun i wr => SameRel w a.length (fun j => a[j]? = b[j]?) i wr) (fun i _ => a.length - (intOf i).toNat)
    case atStart => exact ⟨0, by omega, rfl, Ext.refl _, fun j hj => by omega⟩
    case round =>
      obtain ⟨k, hk, rfl, hx, hP⟩ := hrel
      have HP := Lib.hid hP
      clear hP
      by_cases hlt : k < a.length
      · have hlt2 : k < b.length := by have := HL.out; omega
        have hd : decide ((k : Int) < (a.length : Int)) = true := by simp; omega
        obtain ⟨g, off, rfl, hg, hc⟩ := (h1.extB (Nat.le_refl _) hx).cellAt hlt
        obtain ⟨g', off', rfl, hg', hc'⟩ := (h2.extB (Nat.le_refl _) hx).cellAt hlt2
        obtain ⟨e1, e2⟩ := dueCl_at a k hlt
        obtain ⟨f1, f2⟩ := dueCl_at b k hlt2
        have c1 := hc _ _ e1
        have c2 : wr.cell? ⟨g, off + k * 2 + 1, none⟩ = _ := hc _ _ e2
        have d1 := hc' _ _ f1
        have d2 : wr.cell? ⟨g', off' + k * 2 + 1, none⟩ = _ := hc' _ _ f2
        clear hc hc' e1 e2 f1 f2 h1 h2
        by_cases he : a[k] = b[k]
        · have hq := neq_due a[k] b[k] false (by simp [he])
          have HE := Lib.hid (show a[k]? = b[k]? by simp [hlt, hlt2, he])
          clear he
          go_wp2_with fail
          go_quiet (fail)
          go_wp2_with fail
          go_roundw
          case rel => exact SameRel.next hlt (hx.drewN _) HP.out HE.out rfl
          case measure => simp [intOf]; omega
        · have hq := neq_due a[k] b[k] true (by simp [he])
          have HE := Lib.hid (show decide (a = b) = false by simp; rintro rfl; exact he rfl)
          clear he
          go_wp2_with fail
          go_quiet (fail)
          go_wp2_with fail
          go_ret
          exact ⟨by rw [HE.out]; rfl, hx.drewN _⟩
      · have hd : decide ((k : Int) < (a.length : Int)) = false := by simp; omega
        have HE := Lib.hid (show decide (a = b) = true by simpa using SameRel.done (w := w) (wr := wr) (by omega) HL.out HP.out)
        go_wp2_with fail
        go_ret
        exact ⟨by rw [HE.out]; rfl, hx⟩
  · have hb : ((a.length : Int) != (b.length : Int)) = true := by rw [bne_iff_ne]; omega
    have HE := Lib.hid (show decide (a = b) = false by simp; rintro rfl; exact hl rfl)
    clear hl
    go_enter Tryz.func33, Tryz.ntmps33
    go_wp2
    go_ret
    exact ⟨by rw [HE.out]; rfl, Ext.refl _⟩
/-- All of a book in use. -/
theorem One.all {w W : World} {bb mb : Nat} {K : Bk} (h : One w W bb mb K) (hs : K.small) (h3 : K.b3) (hk : K.length ≤ 100000) (l : List JV) (A : Option Addr) (cap n : Nat) (hn : l.length = n) (hr : Reads W W.heap.size 5 A n (jvCells l)) (hm : n ≤ maxLen) :
    Calls Tryz.prog 31 #[.pointer (some ⟨bb, 0, none⟩), .slice A n cap] W fun r W' => ∃ v ss, r = .returned v ∧ DueAll (K.dues (jsOf l)) ss ∧ W'.ownsRow W.heap.size 62 2 v ss.length (dueCl (sortD ss)) ∧ One w W' bb mb K ∧ Ext W W' := by
  subst hn
  obtain ⟨v, M, hB, rfl, hx⟩ := h
  refine (rall_any hB (by rw [← BkM.len_b]; exact hk) hs h3 l A cap hr hm).mono ?_
  rintro r W' ⟨u, ss, rfl, hS, ho, hx2⟩
  exact ⟨u, ss, rfl, hS, ho, ⟨v, M, hB.ext hx2, rfl, hx.trans hx2⟩, hx2⟩
end Go.Proofs.YtokakpbpenndlaaGreatDoor
