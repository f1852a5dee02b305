/-
  The statements' helpers of remit: the sample, the chapter's first examples (awake).
-/
import Derived.Test.YtokakpbpenndlaaGreatDoorRm38
import Derived.Test.YtokakpbpenndlaaGreatDoorRm39
import Derived.Test.YtokakpbpenndlaaGreatDoorRm28
import Derived.Deep.RegionHeld3
set_option linter.unusedVariables false
namespace Go.Proofs.YtokakpbpenndlaaGreatDoor
open Go.RowKit Go.Maps

theorem One.add {w W : World} {bb mb : Nat} {K : Bk} (h : One w W bb mb K) (e : Ent) (Aa At : Option Addr) (ca ct : Nat) (he : EntR W e Aa At) (hs : K.small) (hk : K.length ≤ 100000) {K' : Bk} {l : List Tx} {f : Int} (hE : K.add e = (K', l, f)) {n m q : Nat} (hn : e.am.length = n) (hm : e.tax.length = m) (hq : l.length = q) :
    Calls Tryz.prog 26 #[.pointer (some ⟨bb, 0, none⟩), .agg #[.int .i64 e.k, .int .i64 e.id, .int .i64 e.of_, .int .i64 e.day, .slice Aa n ca, .slice At m ct]] W fun r W' => ∃ A c, r = .returned (.tuple #[.slice A q c, .int .i64 f]) ∧ One w W' bb mb K' := by
  subst hn hm
  obtain ⟨v, M, hB, rfl, hx⟩ := h
  refine (add_is hB hx e Aa At ca ct he (by rw [← BkM.len_b]; exact hk) hs hE (n := q) hq).mono ?_
  rintro r w3 ⟨A3, c3, v3, M3, b3, rfl, hA3, hb3, _, _⟩
  exact ⟨A3, c3, rfl, v3, M3, hA3.at_, hb3, Chg.to_ext hx hA3.chg (fun k hk => (hB.foot_ge k hk).1)⟩
theorem reads_c (W : World) (cs : Array Value) (e : TypeId) (m size : Nat) (xs : List Value) (h : cs.size = m * size) (hx : cs.toList = xs) : Reads (W.alloc (.cells cs e)) (W.alloc (.cells cs e)).heap.size size (some ⟨W.heap.size, 0, none⟩) m xs := by
  subst hx
  exact reads_new' W cs e m size rfl h
set_option maxRecDepth 100000 in
set_option maxHeartbeats 2000000 in
theorem sample30_any (w : World) : Calls Tryz.prog 36 #[] w fun r w' => ∃ bb mb, r = .returned (.pointer (some ⟨bb, 0, none⟩)) ∧ One w w' bb mb bk1 := by
  go_enter Tryz.func36, Tryz.ntmps36
  go_wp2_with fail
  refine (newBook_any _).mono ?_
  rintro r w1 ⟨rfl, hB1, hx1⟩
  have O1 : One w w1 (w.heap.size + 1) w.heap.size [] := ⟨_, _, hB1, rfl, hx1⟩
  clear hB1 hx1
  generalize w.heap.size + 1 = bb at *
  generalize w.heap.size = mb at *
  go_wp2_with fail
  have X2 := (Ext.refl w1).alloc (.cells #[.int .i64 100, .int .i64 50] 3)
  have R2 := reads_c w1 #[.int .i64 100, .int .i64 50] 3 2 1 (iV saleE.am) rfl rfl
  have hs2 : (w1.alloc (.cells #[.int .i64 100, .int .i64 50] 3)).heap.size = w1.heap.size + 1 := by simp
  generalize w1.alloc (.cells #[.int .i64 100, .int .i64 50] 3) = w2 at *
  have X3 := (Ext.refl w2).alloc (.cells #[.int .i64 0, .int .i64 7, .int .i64 100, .int .i64 0, .int .i64 72500, .int .i64 7, .int .i64 1, .int .i64 7, .int .i64 50, .int .i64 0, .int .i64 72500, .int .i64 4] 117)
  have R3 := reads_c w2 #[.int .i64 0, .int .i64 7, .int .i64 100, .int .i64 0, .int .i64 72500, .int .i64 7, .int .i64 1, .int .i64 7, .int .i64 50, .int .i64 0, .int .i64 72500, .int .i64 4] 117 2 6 (txCells saleE.tax) rfl rfl
  rw [hs2] at R3
  generalize w2.alloc (.cells #[.int .i64 0, .int .i64 7, .int .i64 100, .int .i64 0, .int .i64 72500, .int .i64 7, .int .i64 1, .int .i64 7, .int .i64 50, .int .i64 0, .int .i64 72500, .int .i64 4] 117) = w3 at *
  have HE := Lib.hid (show EntR w3 saleE (some ⟨w1.heap.size, 0, none⟩) (some ⟨w1.heap.size + 1, 0, none⟩) from ⟨R2.ext X3, R3, by simp [saleE, maxLen], by simp [saleE, maxLen]⟩)
  have O3 := Lib.hid (O1.to (X2.trans X3))
  clear R2 R3 O1 X2 X3 hs2
  refine (O3.out.add saleE _ _ 2 2 HE.out small0 (by simp) add_sale0 (n := 2) (m := 2) (q := 2) rfl rfl rfl).mono ?_
  rintro r w4 ⟨A4, c4, rfl, O4⟩
  clear HE O3
  go_wp2_with fail
  have X5 := (Ext.refl w4).alloc (.cells #[.int .i64 50, .int .i64 0] 3)
  have R5 := reads_c w4 #[.int .i64 50, .int .i64 0] 3 2 1 (iV [50, 0]) rfl rfl
  generalize w4.alloc (.cells #[.int .i64 50, .int .i64 0] 3) = w5 at *
  have HE := Lib.hid (show EntR w5 (refundE 2 1 [50, 0]) (some ⟨w4.heap.size, 0, none⟩) none from ⟨R5, Reads.none_, by simp [refundE, maxLen], by simp [refundE, maxLen]⟩)
  have O5 := Lib.hid (O4.to X5)
  clear R5 O4 X5
  refine (O5.out.add (refundE 2 1 [50, 0]) _ _ 2 0 HE.out small1 (by simp) k_ref2 (n := 2) (m := 0) (q := 1) rfl rfl rfl).mono ?_
  rintro r w6 ⟨A6, c6, rfl, O6⟩
  clear HE O5
  go_wp2_with fail
  go_ret
  exact ⟨bb, mb, rfl, O6⟩
def jSeven : JV := ⟨⟨7, 1, 0, 1⟩, none, 0, 0⟩
theorem seven30_any (w : World) : Calls Tryz.prog 37 #[] w fun r w' => ∃ A, r = .returned (.slice A 1 1) ∧ Reads w' w'.heap.size 5 A 1 (jvCells [jSeven]) ∧ Ext w w' := by
  go_enter Tryz.func37, Tryz.ntmps37
  go_wp2_with fail
  go_ret
  exact ⟨_, rfl, reads_c w #[.int .i64 7, .int .i64 1, .int .i64 0, .int .i64 1, .slice none 0 0] 83 1 5 (jvCells [jSeven]) rfl rfl, (Ext.refl w).alloc _⟩
def repFirst : Rep := ⟨7, 1, 0, 100, 0, 7, 2, 1⟩
theorem first30_any (w : World) : Calls Tryz.prog 38 #[] w fun r w' => r = .returned repFirst.V ∧ Ext w w' := by
  go_enter Tryz.func38, Tryz.ntmps38
  go_wp2_with fail
  exact bodyPost_ret (results_c rfl rfl (ld_rep (Blk.new w _ _))) rfl ⟨rfl, (Ext.refl w).alloc _⟩
theorem mon10 : monI 10 = 0 := by
  have h : DateIs 10 1 0 10 := ⟨by omega, by omega, by decide, by decide⟩
  rw [monI_of h]; rfl
theorem mon12 : monI 12 = 0 := by
  have h : DateIs 12 1 0 12 := ⟨by omega, by omega, by decide, by decide⟩
  rw [monI_of h]; rfl
theorem of10 : ofI 1 10 = 0 := by unfold ofI; rw [mon10]; rfl
theorem of12 : ofI 1 12 = 0 := by unfold ofI; rw [mon12]; rfl
theorem per_mv3 : perM 1 0 mv3 = mv3 := by
  unfold perM mv3 inP
  simp [of10, of12]
theorem file_first : Bk.file bk1 [⟨7, 1, 0, 1⟩] 7 0 = (repFirst, 0) := by
  unfold Bk.file
  rw [if_neg (by decide), show findJ [⟨7, 1, 0, 1⟩] 7 = some ⟨7, 1, 0, 1⟩ by decide]
  simp only
  rw [if_neg (by decide), k_mv]
  have : repOf 7 1 0 mv3 = repFirst := by unfold repOf; rw [per_mv3]; decide
  rw [this, if_pos (by decide)]
theorem dec_lo {u : Nat} (h : u < 10) : Lib.decDigits u = [UInt8.ofNat (48 + u)] := by rw [Lib.decDigits, dif_pos h]
theorem dec_hi {u : Nat} (h : ¬ u < 10) : Lib.decDigits u = Lib.decDigits (u / 10) ++ [UInt8.ofNat (48 + u % 10)] := by rw [Lib.decDigits, dif_neg h]
theorem first_check : repFirst.check = 0 := by decide
theorem first_text : repFirst.textO = [55, 32, 48, 48, 48, 49, 45, 77, 48, 49, 32, 49, 48, 48, 32, 48, 32, 55, 32, 50, 32, 49] := by
  unfold Rep.textO
  rw [if_pos first_check]
  have e7 : Lib.itoa 7 = [55] := by unfold Lib.itoa; rw [if_neg (by decide)]; exact dec_lo (by decide)
  have e0 : Lib.itoa 0 = [48] := by unfold Lib.itoa; rw [if_neg (by decide)]; exact dec_lo (by decide)
  have e2 : Lib.itoa 2 = [50] := by unfold Lib.itoa; rw [if_neg (by decide)]; exact dec_lo (by decide)
  have e1 : Lib.itoa 1 = [49] := by unfold Lib.itoa; rw [if_neg (by decide)]; exact dec_lo (by decide)
  have e100 : Lib.itoa 100 = [49, 48, 48] := by
    unfold Lib.itoa; rw [if_neg (by decide)]
    show Lib.decDigits 100 = _
    rw [dec_hi (by decide), dec_hi (by decide), dec_lo (by decide)]
    rfl
  have hp : perText 1 0 = [48, 48, 48, 49, 45, 77, 48, 49] := by decide
  have hT : repTexts repFirst 8 = [Lib.itoa 7, perText 1 0, Lib.itoa 100, Lib.itoa 0, Lib.itoa 7, Lib.itoa 2, Lib.itoa 1] := rfl
  unfold Rep.text
  rw [hT, e7, e0, e2, e1, e100, hp]
  rfl
theorem first_i64 : repFirst.i64s := by constructor <;> decide
theorem b3_bk1 : bk1.b3 := by
  have h1 : (Bk.add [kpSale] (refundE 2 1 [50, 0])).1.b3 := add_b3 (by
    have := add_b3 Bk.b3_nil saleE
    rwa [add_sale0] at this) _
  rwa [k_ref2] at h1
/-- A report of a book in use. -/
theorem One.file {w W : World} {bb mb : Nat} {K : Bk} (h : One w W bb mb K) (hs : K.small) (h3 : K.b3) (hk : K.length ≤ 100000) (l : List JV) (A : Option Addr) (cap n : Nat) (hn : l.length = n) (hr : Reads W W.heap.size 5 A n (jvCells l)) (hm : n ≤ maxLen) (id p : Int) {R : Rep} {E : Int} (hF : K.file (jsOf l) id p = (R, E)) :
    Calls Tryz.prog 29 #[.pointer (some ⟨bb, 0, none⟩), .slice A n cap, .int .i64 id, .int .i64 p] W fun r W' => r = .returned (.tuple #[R.V, .int .i64 E]) ∧ One w W' bb mb K ∧ Ext W W' := by
  subst hn
  obtain ⟨v, M, hB, rfl, hx⟩ := h
  refine (rfile_any hB (by rw [← BkM.len_b]; exact hk) hs h3 l A cap hr hm id p).mono ?_
  rintro r W' ⟨rfl, hx2⟩
  rw [hF]
  exact ⟨rfl, ⟨v, M, hB.ext hx2, rfl, hx.trans hx2⟩, hx2⟩
theorem eq_first (w : World) : (binOp .eql 23 repFirst.V repFirst.V).run Tryz.prog w = .ok (.bool true) w := by kernel_rfl
set_option maxRecDepth 100000 in
set_option maxHeartbeats 2000000 in
theorem awake30_any (w : World) (ht : Tab10 w) : Calls Tryz.prog 10 #[] w fun r w' => r = .returned (.bool true) ∧ Ext w w' := by
  have HT := Lib.hid (fun W (hx : Ext w W) => ht.ext hx)
  clear ht
  go_enter Tryz.func10, Tryz.ntmps10
  go_wp2_with fail
  refine (sample30_any _).mono ?_
  rintro r w1 ⟨bb, mb, rfl, O1⟩
  go_wp2_with fail
  refine (seven30_any _).mono ?_
  rintro r w2 ⟨A2, rfl, R2, hx2⟩
  have O2 := O1.to hx2
  go_wp2_with fail
  refine (O2.file small_b1 b3_bk1 (by simp [bk1]) [jSeven] A2 1 1 rfl R2 (by simp [maxLen]) 7 0 file_first).mono ?_
  rintro r w3 ⟨rfl, O3, hx3⟩
  clear O1 O2 R2 hx2 hx3
  have X3 := O3.x
  clear O3
  go_wp2_with fail
  have B2 := Blk.new w3 23 #[.int .i64 repFirst.j, .int .i64 repFirst.k, .int .i64 repFirst.p, .int .i64 repFirst.t, .int .i64 repFirst.x, .int .i64 repFirst.v, .int .i64 repFirst.s, .int .i64 repFirst.r]
  have X4 := X3.alloc (.cells #[.int .i64 repFirst.j, .int .i64 repFirst.k, .int .i64 repFirst.p, .int .i64 repFirst.t, .int .i64 repFirst.x, .int .i64 repFirst.v, .int .i64 repFirst.s, .int .i64 repFirst.r] 23)
  generalize w3.alloc (.cells #[.int .i64 repFirst.j, .int .i64 repFirst.k, .int .i64 repFirst.p, .int .i64 repFirst.t, .int .i64 repFirst.x, .int .i64 repFirst.v, .int .i64 repFirst.s, .int .i64 repFirst.r] 23) = w4 at *
  generalize w3.heap.size = g2 at *
  refine (first30_any _).mono ?_
  rintro r w5 ⟨rfl, hx5⟩
  have X5 := X4.trans hx5
  have B5 := B2.ext hx5
  clear X4 B2 hx5
  have HTx := Lib.hid (rtext_any repFirst first_i64 _ (HT.out _ X5))
  rw [first_check, first_text] at HTx
  go_wp2_with fail
  refine HTx.out.mono ?_
  rintro r w6 ⟨rfl, hx6⟩
  have X6 := X5.trans hx6
  have B6 := B5.ext hx6
  clear X5 B5 hx6 HTx
  have HS := Lib.hid (fun (w' : World) (hx : Ext w6 w') => (show w'.cell? ⟨g2, 0, none⟩ = some (.int .i64 repFirst.j) ∧ w'.cell? ⟨g2, 1, none⟩ = some (.int .i64 repFirst.k) ∧ w'.cell? ⟨g2, 2, none⟩ = some (.int .i64 repFirst.p) ∧ w'.cell? ⟨g2, 3, none⟩ = some (.int .i64 repFirst.t) ∧ w'.cell? ⟨g2, 4, none⟩ = some (.int .i64 repFirst.x) ∧ w'.cell? ⟨g2, 5, none⟩ = some (.int .i64 repFirst.v) ∧ w'.cell? ⟨g2, 6, none⟩ = some (.int .i64 repFirst.s) ∧ w'.cell? ⟨g2, 7, none⟩ = some (.int .i64 repFirst.r) from
    have B := B6.ext hx
    ⟨B.cell 0, B.cell 1, B.cell 2, B.cell 3, B.cell 4, B.cell 5, B.cell 6, B.cell 7⟩))
  have S6 := Lib.hid (HS.out w6 (Ext.refl _))
  have heq := eq_first
  go_wp2_with fail
  go_region_held3 (fun w' => w'.cell? ⟨g2, 0, none⟩ = some (.int .i64 repFirst.j) ∧ w'.cell? ⟨g2, 1, none⟩ = some (.int .i64 repFirst.k) ∧ w'.cell? ⟨g2, 2, none⟩ = some (.int .i64 repFirst.p) ∧ w'.cell? ⟨g2, 3, none⟩ = some (.int .i64 repFirst.t) ∧ w'.cell? ⟨g2, 4, none⟩ = some (.int .i64 repFirst.x) ∧ w'.cell? ⟨g2, 5, none⟩ = some (.int .i64 repFirst.v) ∧ w'.cell? ⟨g2, 6, none⟩ = some (.int .i64 repFirst.s) ∧ w'.cell? ⟨g2, 7, none⟩ = some (.int .i64 repFirst.r))
    (first | (with_reducible exact HS.out _ (Ext.refl w6).drew) | (with_reducible exact HS.out _ hx7) | (exact S6.out))
    (first | (go_at_call 38; refine (first30_any _).mono ?_; rintro e w7 ⟨rfl, hx7a⟩; have hx7 : Ext w6 w7 := Ext.trans (Ext.refl w6).drew hx7a))
  all_goals
    go_wp2_with fail
    go_ret
    exact ⟨rfl, X6.trans hx7⟩
end Go.Proofs.YtokakpbpenndlaaGreatDoor
