/-
  The statements' helpers of remit: the sample, the chapter's first examples (awake).
-/
import Derived.Test.YtokakpbpenndlaaDoorRp42
import Derived.Test.YtokakpbpenndlaaDoorRp43
import Derived.Test.YtokakpbpenndlaaDoorRp30
import Derived.Deep.RegionHeld3
set_option linter.unusedVariables false
namespace Go.Proofs.YtokakpbpenndlaaDoor
open Go.RowKit Go.Maps

theorem One.add {w W : World} {bb mb : Nat} {K : Bk} (h : One w W bb mb K) (e : Ent) (Aa At : Option Addr) (ca ct : Nat) (he : EntR W e Aa At) (hs : K.small) (hk : K.length ≤ 100000) {K' : Bk} {l : List Tx} {f : Int} (hE : K.add e = (K', l, f)) {n m q : Nat} (hn : e.am.length = n) (hm : e.tax.length = m) (hq : l.length = q) :
    Calls Tryd.prog 6 #[.pointer (some ⟨bb, 0, none⟩), .agg #[.int .i64 e.k, .int .i64 e.id, .int .i64 e.of_, .int .i64 e.day, .slice Aa n ca, .slice At m ct]] W fun r W' => ∃ A c, r = .returned (.tuple #[.slice A q c, .int .i64 f]) ∧ One w W' bb mb K' := by
  subst hn hm
  obtain ⟨v, M, hB, rfl, hx⟩ := h
  refine (add_is hB hx e Aa At ca ct he (by rw [← BkM.len_b]; exact hk) hs hE (n := q) hq).mono ?_
  rintro r w3 ⟨A3, c3, v3, M3, b3, rfl, hA3, hb3, _, _⟩
  exact ⟨A3, c3, rfl, v3, M3, hA3.at_, hb3, Chg.to_ext hx hA3.chg (fun k hk => (hB.foot_ge k hk).1)⟩
theorem reads_c (W : World) (cs : Array Value) (e : TypeId) (m size : Nat) (xs : List Value) (h : cs.size = m * size) (hx : cs.toList = xs) : Reads (W.alloc (.cells cs e)) (W.alloc (.cells cs e)).heap.size size (some ⟨W.heap.size, 0, none⟩) m xs := by
  subst hx
  exact reads_new' W cs e m size rfl h
set_option maxRecDepth 100000 in
set_option maxHeartbeats 2000000 in
theorem sample30_any (w : World) : Calls Tryd.prog 9 #[] w fun r w' => ∃ bb mb, r = .returned (.pointer (some ⟨bb, 0, none⟩)) ∧ One w w' bb mb bk1 := by
  go_enter Tryd.func9, Tryd.ntmps9
  go_wp2_with fail
  refine (newBook_any _).mono ?_
  rintro r w1 ⟨rfl, hB1, hx1⟩
  have O1 : One w w1 (w.heap.size + 1) w.heap.size [] := ⟨_, _, hB1, rfl, hx1⟩
  clear hB1 hx1
  generalize w.heap.size + 1 = bb at *
  generalize w.heap.size = mb at *
  go_wp2_with fail
  have X2 := (Ext.refl w1).alloc (.cells #[.int .i64 100, .int .i64 50] 3)
  have R2 := reads_c w1 #[.int .i64 100, .int .i64 50] 3 2 1 (iV saleE.am) rfl rfl
  have hs2 : (w1.alloc (.cells #[.int .i64 100, .int .i64 50] 3)).heap.size = w1.heap.size + 1 := by simp
  generalize w1.alloc (.cells #[.int .i64 100, .int .i64 50] 3) = w2 at *
  have X3 := (Ext.refl w2).alloc (.cells #[.int .i64 0, .int .i64 7, .int .i64 100, .int .i64 0, .int .i64 72500, .int .i64 7, .int .i64 1, .int .i64 7, .int .i64 50, .int .i64 0, .int .i64 72500, .int .i64 4] 27)
  have R3 := reads_c w2 #[.int .i64 0, .int .i64 7, .int .i64 100, .int .i64 0, .int .i64 72500, .int .i64 7, .int .i64 1, .int .i64 7, .int .i64 50, .int .i64 0, .int .i64 72500, .int .i64 4] 27 2 6 (txCells saleE.tax) rfl rfl
  rw [hs2] at R3
  generalize w2.alloc (.cells #[.int .i64 0, .int .i64 7, .int .i64 100, .int .i64 0, .int .i64 72500, .int .i64 7, .int .i64 1, .int .i64 7, .int .i64 50, .int .i64 0, .int .i64 72500, .int .i64 4] 27) = w3 at *
  have HE := Lib.hid (show EntR w3 saleE (some ⟨w1.heap.size, 0, none⟩) (some ⟨w1.heap.size + 1, 0, none⟩) from ⟨R2.ext X3, R3, by simp [saleE, maxLen], by simp [saleE, maxLen]⟩)
  have O3 := Lib.hid (O1.to (X2.trans X3))
  clear R2 R3 O1 X2 X3 hs2
  refine (O3.out.add saleE _ _ 2 2 HE.out small0 (by simp) add_sale0 (n := 2) (m := 2) (q := 2) rfl rfl rfl).mono ?_
  rintro r w4 ⟨A4, c4, rfl, O4⟩
  clear HE O3
  go_wp2_with fail
  have X5 := (Ext.refl w4).alloc (.cells #[.int .i64 50, .int .i64 0] 3)
  have R5 := reads_c w4 #[.int .i64 50, .int .i64 0] 3 2 1 (iV [50, 0]) rfl rfl
  generalize w4.alloc (.cells #[.int .i64 50, .int .i64 0] 3) = w5 at *
  have HE := Lib.hid (show EntR w5 (refundE 2 1 [50, 0]) (some ⟨w4.heap.size, 0, none⟩) none from ⟨R5, Reads.none_, by simp [refundE, maxLen], by simp [refundE, maxLen]⟩)
  have O5 := Lib.hid (O4.to X5)
  clear R5 O4 X5
  refine (O5.out.add (refundE 2 1 [50, 0]) _ _ 2 0 HE.out small1 (by simp) k_ref2 (n := 2) (m := 0) (q := 1) rfl rfl rfl).mono ?_
  rintro r w6 ⟨A6, c6, rfl, O6⟩
  clear HE O5
  go_wp2_with fail
  go_ret
  exact ⟨bb, mb, rfl, O6⟩
def jSeven : JV := ⟨⟨7, 1, 0, 1⟩, none, 0, 0⟩
theorem seven30_any (w : World) : Calls Tryd.prog 8 #[] w fun r w' => ∃ A, r = .returned (.slice A 1 1) ∧ Reads w' w'.heap.size 5 A 1 (jvCells [jSeven]) ∧ Ext w w' := by
  go_enter Tryd.func8, Tryd.ntmps8
  go_wp2_with fail
  go_ret
  exact ⟨_, rfl, reads_c w #[.int .i64 7, .int .i64 1, .int .i64 0, .int .i64 1, .slice none 0 0] 70 1 5 (jvCells [jSeven]) rfl rfl, (Ext.refl w).alloc _⟩
def repFirst : Rep := ⟨7, 1, 0, 100, 0, 7, 2, 1⟩
theorem first30_any (w : World) : Calls Tryd.prog 11 #[] w fun r w' => r = .returned repFirst.V ∧ Ext w w' := by
  go_enter Tryd.func11, Tryd.ntmps11
  go_wp2_with fail
  exact bodyPost_ret (results_c rfl rfl (ld_rep (Blk.new w _ _))) rfl ⟨rfl, (Ext.refl w).alloc _⟩
theorem mon10 : monI 10 = 0 := by
  have h : DateIs 10 1 0 10 := ⟨by omega, by omega, by decide, by decide⟩
  rw [monI_of h]; rfl
theorem mon12 : monI 12 = 0 := by
  have h : DateIs 12 1 0 12 := ⟨by omega, by omega, by decide, by decide⟩
  rw [monI_of h]; rfl
theorem of10 : ofI 1 10 = 0 := by unfold ofI; rw [mon10]; rfl
theorem of12 : ofI 1 12 = 0 := by unfold ofI; rw [mon12]; rfl
theorem per_mv3 : perM 1 0 mv3 = mv3 := by
  unfold perM mv3 inP
  simp [of10, of12]
theorem file_first : Bk.file bk1 [⟨7, 1, 0, 1⟩] 7 0 = (repFirst, 0) := by
  unfold Bk.file
  rw [if_neg (by decide), show findJ [⟨7, 1, 0, 1⟩] 7 = some ⟨7, 1, 0, 1⟩ by decide]
  simp only
  rw [if_neg (by decide), k_mv]
  have : repOf 7 1 0 mv3 = repFirst := by unfold repOf; rw [per_mv3]; decide
  rw [this, if_pos (by decide)]
theorem dec_lo {u : Nat} (h : u < 10) : Lib.decDigits u = [UInt8.ofNat (48 + u)] := by rw [Lib.decDigits, dif_pos h]
theorem dec_hi {u : Nat} (h : ¬ u < 10) : Lib.decDigits u = Lib.decDigits (u / 10) ++ [UInt8.ofNat (48 + u % 10)] := by rw [Lib.decDigits, dif_neg h]
theorem first_check : repFirst.check = 0 := by decide
theorem first_text : repFirst.textO = [55, 32, 48, 48, 48, 49, 45, 77, 48, 49, 32, 49, 48, 48, 32, 48, 32, 55, 32, 50, 32, 49] := by
  unfold Rep.textO
  rw [if_pos first_check]
  have e7 : Lib.itoa 7 = [55] := by unfold Lib.itoa; rw [if_neg (by decide)]; exact dec_lo (by decide)
  have e0 : Lib.itoa 0 = [48] := by unfold Lib.itoa; rw [if_neg (by decide)]; exact dec_lo (by decide)
  have e2 : Lib.itoa 2 = [50] := by unfold Lib.itoa; rw [if_neg (by decide)]; exact dec_lo (by decide)
  have e1 : Lib.itoa 1 = [49] := by unfold Lib.itoa; rw [if_neg (by decide)]; exact dec_lo (by decide)
  have e100 : Lib.itoa 100 = [49, 48, 48] := by
    unfold Lib.itoa; rw [if_neg (by decide)]
    show Lib.decDigits 100 = _
    rw [dec_hi (by decide), dec_hi (by decide), dec_lo (by decide)]
    rfl
  have hp : perText 1 0 = [48, 48, 48, 49, 45, 77, 48, 49] := by decide
  have hT : repTexts repFirst 8 = [Lib.itoa 7, perText 1 0, Lib.itoa 100, Lib.itoa 0, Lib.itoa 7, Lib.itoa 2, Lib.itoa 1] := rfl
  unfold Rep.text
  rw [hT, e7, e0, e2, e1, e100, hp]
  rfl
theorem first_i64 : repFirst.i64s := by constructor <;> decide
theorem b3_bk1 : bk1.b3 := by
  have h1 : (Bk.add [kpSale] (refundE 2 1 [50, 0])).1.b3 := add_b3 (by
    have := add_b3 Bk.b3_nil saleE
    rwa [add_sale0] at this) _
  rwa [k_ref2] at h1
/-- A report of a book in use. -/
theorem One.file {w W : World} {bb mb : Nat} {K : Bk} (h : One w W bb mb K) (hs : K.small) (h3 : K.b3) (hk : K.length ≤ 100000) (l : List JV) (A : Option Addr) (cap n : Nat) (hn : l.length = n) (hr : Reads W W.heap.size 5 A n (jvCells l)) (hm : n ≤ maxLen) (id p : Int) {R : Rep} {E : Int} (hF : K.file (jsOf l) id p = (R, E)) :
    Calls Tryd.prog 7 #[.pointer (some ⟨bb, 0, none⟩), .slice A n cap, .int .i64 id, .int .i64 p] W fun r W' => r = .returned (.tuple #[R.V, .int .i64 E]) ∧ One w W' bb mb K ∧ Ext W W' := by
  subst hn
  obtain ⟨v, M, hB, rfl, hx⟩ := h
  refine (rfile_any hB (by rw [← BkM.len_b]; exact hk) hs h3 l A cap hr hm id p).mono ?_
  rintro r W' ⟨rfl, hx2⟩
  rw [hF]
  exact ⟨rfl, ⟨v, M, hB.ext hx2, rfl, hx.trans hx2⟩, hx2⟩
theorem eq_first (w : World) : (binOp .eql 35 repFirst.V repFirst.V).run Tryd.prog w = .ok (.bool true) w := by kernel_rfl
set_option maxRecDepth 100000 in
set_option maxHeartbeats 2000000 in
theorem awake30_any (w : World) (ht : Tab10 w) : Calls Tryd.prog 4 #[] w fun r w' => r = .returned (.bool true) ∧ Ext w w' := by
  have HT := Lib.hid (fun W (hx : Ext w W) => ht.ext hx)
  clear ht
  go_enter Tryd.func4, Tryd.ntmps4
  go_wp2_with fail
  refine (sample30_any _).mono ?_
  rintro r w1 ⟨bb, mb, rfl, O1⟩
  go_wp2_with fail
  refine (seven30_any _).mono ?_
  rintro r w2 ⟨A2, rfl, R2, hx2⟩
  have O2 := O1.to hx2
  go_wp2_with fail
  refine (O2.file small_b1 b3_bk1 (by simp [bk1]) [jSeven] A2 1 1 rfl R2 (by simp [maxLen]) 7 0 file_first).mono ?_
  rintro r w3 ⟨rfl, O3, hx3⟩
  clear O1 O2 R2 hx2 hx3
  have X3 := O3.x
  clear O3
  go_wp2_with fail
  have B2 := Blk.new w3 35 #[.int .i64 repFirst.j, .int .i64 repFirst.k, .int .i64 repFirst.p, .int .i64 repFirst.t, .int .i64 repFirst.x, .int .i64 repFirst.v, .int .i64 repFirst.s, .int .i64 repFirst.r]
  have X4 := X3.alloc (.cells #[.int .i64 repFirst.j, .int .i64 repFirst.k, .int .i64 repFirst.p, .int .i64 repFirst.t, .int .i64 repFirst.x, .int .i64 repFirst.v, .int .i64 repFirst.s, .int .i64 repFirst.r] 35)
  generalize w3.alloc (.cells #[.int .i64 repFirst.j, .int .i64 repFirst.k, .int .i64 repFirst.p, .int .i64 repFirst.t, .int .i64 repFirst.x, .int .i64 repFirst.v, .int .i64 repFirst.s, .int .i64 repFirst.r] 35) = w4 at *
  generalize w3.heap.size = g2 at *
  refine (first30_any _).mono ?_
  rintro r w5 ⟨rfl, hx5⟩
  have X5 := X4.trans hx5
  have B5 := B2.ext hx5
  clear X4 B2 hx5
  have HTx := Lib.hid (rtext_any repFirst first_i64 _ (HT.out _ X5))
  rw [first_check, first_text] at HTx
  go_wp2_with fail
  refine HTx.out.mono ?_
  rintro r w6 ⟨rfl, hx6⟩
  have X6 := X5.trans hx6
  have B6 := B5.ext hx6
  clear X5 B5 hx6 HTx
  have HS := Lib.hid (fun (w' : World) (hx : Ext w6 w') => (show w'.cell? ⟨g2, 0, none⟩ = some (.int .i64 repFirst.j) ∧ w'.cell? ⟨g2, 1, none⟩ = some (.int .i64 repFirst.k) ∧ w'.cell? ⟨g2, 2, none⟩ = some (.int .i64 repFirst.p) ∧ w'.cell? ⟨g2, 3, none⟩ = some (.int .i64 repFirst.t) ∧ w'.cell? ⟨g2, 4, none⟩ = some (.int .i64 repFirst.x) ∧ w'.cell? ⟨g2, 5, none⟩ = some (.int .i64 repFirst.v) ∧ w'.cell? ⟨g2, 6, none⟩ = some (.int .i64 repFirst.s) ∧ w'.cell? ⟨g2, 7, none⟩ = some (.int .i64 repFirst.r) from
    have B := B6.ext hx
    ⟨B.cell 0, B.cell 1, B.cell 2, B.cell 3, B.cell 4, B.cell 5, B.cell 6, B.cell 7⟩))
  have S6 := Lib.hid (HS.out w6 (Ext.refl _))
  have heq := eq_first
  go_wp2_with fail
  go_region_held3 (fun w' => w'.cell? ⟨g2, 0, none⟩ = some (.int .i64 repFirst.j) ∧ w'.cell? ⟨g2, 1, none⟩ = some (.int .i64 repFirst.k) ∧ w'.cell? ⟨g2, 2, none⟩ = some (.int .i64 repFirst.p) ∧ w'.cell? ⟨g2, 3, none⟩ = some (.int .i64 repFirst.t) ∧ w'.cell? ⟨g2, 4, none⟩ = some (.int .i64 repFirst.x) ∧ w'.cell? ⟨g2, 5, none⟩ = some (.int .i64 repFirst.v) ∧ w'.cell? ⟨g2, 6, none⟩ = some (.int .i64 repFirst.s) ∧ w'.cell? ⟨g2, 7, none⟩ = some (.int .i64 repFirst.r))
    (first | (with_reducible exact HS.out _ (Ext.refl w6).drew) | (with_reducible exact HS.out _ hx7) | (exact S6.out))
    (first | (go_at_call 11; refine (first30_any _).mono ?_; rintro e w7 ⟨rfl, hx7a⟩; have hx7 : Ext w6 w7 := Ext.trans (Ext.refl w6).drew hx7a))
  all_goals
    go_wp2_with fail
    go_ret
    exact ⟨rfl, X6.trans hx7⟩
end Go.Proofs.YtokakpbpenndlaaDoor

set_option linter.unusedVariables false
namespace Go.Proofs.YtokakpbpenndlaaDoor

def bigS (i n : Int) : Ent := ⟨1, i, 0, 5, [n], [⟨0, 7, n, 0, 0, n⟩]⟩
def bigR (i s n : Int) : Ent := ⟨2, i, s, 6, [n], []⟩
def bigK (i n b : Int) : Kp := ⟨bigS i n, [⟨0, 7, n, 0, 0, n⟩], [b], false⟩
def bigQ (i s n : Int) : Kp := ⟨bigR i s n, [⟨0, 7, n, 0, 0, n⟩], [], false⟩
/-- An amount of these books. -/
def bigN (n : Int) : Prop := 1 ≤ n ∧ n ≤ 4611686018427387904
theorem win_true {n a b : Int} (h : a ≤ n ∧ n ≤ b) : win n a b = true := by simp [win]; omega
theorem big_ok {n : Int} (h : bigN n) : (⟨0, 7, n, 0, 0, n⟩ : Tx).ok = true := by
  unfold bigN at h
  show Tax1 0 7 n 0 0 n = true
  have h1 : win n 0 4611686018427387904 = true := win_mk (by omega) (by omega)
  unfold Tax1
  simp [h1]
  exact ⟨⟨⟨by decide, by decide⟩, win_mk (by omega) (by omega)⟩, by decide⟩
theorem bigS_check {i n : Int} (hi : 1 ≤ i ∧ i ≤ 100) (h : bigN n) : (bigS i n).check = 0 := by
  have hk := big_ok h
  unfold bigN at h
  have h1 : (bigS i n).head = true := by
    unfold Ent.head bigS
    simp only [win_mk (show (1 : Int) ≤ i by omega) (show i ≤ 1099511627775 by omega)]
    decide
  have h2 : (bigS i n).ams = true := by simp [Ent.ams, bigS, win]; omega
  have h3 : (bigS i n).fine = true := by
    simp [Ent.fine, bigS, Ent.saleFine, checkTax, ckTx, Tx.bad, hk, Tx.below, manyI, Tx.fits]
  unfold Ent.check
  rw [if_neg (by simp [h1, h2]), if_neg (by simp [h3])]
theorem bigR_check {i s n : Int} (hi : 1 ≤ i ∧ i ≤ 100) (hs : 1 ≤ s ∧ s ≤ 100) (h : bigN n) : (bigR i s n).check = 0 := by
  unfold bigN at h
  have h1 : (bigR i s n).head = true := by
    unfold Ent.head bigR
    simp only [win_mk (show (1 : Int) ≤ i by omega) (show i ≤ 1099511627775 by omega), win_mk (show (0 : Int) ≤ s by omega) (show s ≤ 1099511627775 by omega)]
    decide
  have h2 : (bigR i s n).ams = true := by simp [Ent.ams, bigR, win]; omega
  have h3 : (bigR i s n).fine = true := by
    simp [Ent.fine, bigR, Ent.refundFine, manyI]
    exact ⟨decide_eq_true (by omega), by omega⟩
  unfold Ent.check
  rw [if_neg (by simp [h1, h2]), if_neg (by simp [h3])]
theorem add_bigS {K : Bk} {i n : Int} (hi : 1 ≤ i ∧ i ≤ 100) (h : bigN n) (hf : K.find i = none) : K.add (bigS i n) = (K ++ [bigK i n 0], [⟨0, 7, n, 0, 0, n⟩], 0) := by
  have hm : K.may (bigS i n) = 0 := by
    unfold Bk.may
    rw [if_neg (by simp [bigS_check hi h]), if_neg (by rw [show (bigS i n).id = i from rfl, hf]; simp), if_neg (by simp [bigS]), if_neg (by simp [bigS])]
  unfold Bk.add
  rw [if_pos hm]
  rfl
theorem big_ret {n : Int} (h : bigN n) : ((⟨0, 7, n, 0, 0, n⟩ : Tx).ret 0 n).1 = ⟨0, 7, n, 0, 0, n⟩ := by
  have hk := big_ok h
  unfold bigN at h
  rw [Tx.ret_eq hk (by omega) (by omega) (by simp)]
  simp only [Int.add_zero]
  rw [shI_all (by omega) (by omega), shI_zero _ _ (by omega)]
  simp
theorem add_bigR {K : Bk} {i s n : Int} (hi : 1 ≤ i ∧ i ≤ 100) (hs : 1 ≤ s ∧ s ≤ 100) (h : bigN n) (hf : K.find i = none) (hS : K.sale s = some (bigK s n 0)) :
    K.add (bigR i s n) = (K.upd s (fun x => { x with back := addL x.back [n] }) ++ [bigQ i s n], [⟨0, 7, n, 0, 0, n⟩], 0) := by
  have hr := big_ret h
  have hl : (bigK s n 0).refLines [n] = [⟨0, 7, n, 0, 0, n⟩] := by
    unfold bigN at h
    simp [Kp.refLines, bigK, Kp.refLine, hr]
    omega
  have hm : K.may (bigR i s n) = 0 := by
    unfold bigN at h
    unfold Bk.may
    rw [if_neg (by simp [bigR_check hi hs h]), if_neg (by rw [show (bigR i s n).id = i from rfl, hf]; simp), if_pos (show (bigR i s n).k = 2 from rfl), show (bigR i s n).of_ = s from rfl, hS]
    simp [Kp.refMay, bigK, bigR, bigS, overB]
  unfold Bk.add
  rw [if_pos hm]
  unfold Bk.put
  rw [if_neg (by simp [bigR]), if_pos (show (bigR i s n).k = 2 from rfl), show (bigR i s n).of_ = s from rfl, hS]
  simp only
  rw [show (bigR i s n).am = [n] from rfl, hl]
  rfl
/-- The book behind i sales. -/
def bigB (a b : Int) (i : Nat) : Bk := [bigK 1 a 0, bigK 2 b 0, bigK 3 a 0, bigK 4 b 0].take i
def bigA (a b : Int) (i : Nat) : Int := [a, b, a, b].getD i 0
theorem bigB_add {a b : Int} (ha : bigN a) (hb : bigN b) {i : Nat} (hi : i < 4) : (bigB a b i).add (bigS (1 + (i : Int)) (bigA a b i)) = (bigB a b (i + 1), [⟨0, 7, bigA a b i, 0, 0, bigA a b i⟩], 0) := by
  match i, hi with
  | 0, _ => exact add_bigS (by decide) ha rfl
  | 1, _ => exact add_bigS (by decide) hb rfl
  | 2, _ => exact add_bigS (by decide) ha rfl
  | 3, _ => exact add_bigS (by decide) hb rfl
  | n + 4, h => omega
/-- The book behind i refunds. -/
def bigC (a b : Int) (i : Nat) : Bk := [bigK 1 a (if 0 < i then a else 0), bigK 2 b (if 1 < i then b else 0), bigK 3 a (if 2 < i then a else 0), bigK 4 b 0] ++ [bigQ 11 1 a, bigQ 12 2 b, bigQ 13 3 a].take i
theorem bigC_0 (a b : Int) : bigC a b 0 = bigB a b 4 := rfl
theorem bigC_add {a b : Int} (ha : bigN a) (hb : bigN b) {i : Nat} (hi : i < 3) : (bigC a b i).add (bigR (11 + (i : Int)) (1 + (i : Int)) (bigA a b i)) = (bigC a b (i + 1), [⟨0, 7, bigA a b i, 0, 0, bigA a b i⟩], 0) := by
  have z : ∀ n : Int, 0 + n = n := fun n => by omega
  match i, hi with
  | 0, _ =>
    refine (add_bigR (by decide) (by decide) ha rfl rfl).trans ?_
    show (([bigK 1 a (0 + a), bigK 2 b 0, bigK 3 a 0, bigK 4 b 0, bigQ 11 1 a] : Bk), _, _) = _
    rw [z]; rfl
  | 1, _ =>
    refine (add_bigR (by decide) (by decide) hb rfl rfl).trans ?_
    show (([bigK 1 a a, bigK 2 b (0 + b), bigK 3 a 0, bigK 4 b 0, bigQ 11 1 a, bigQ 12 2 b] : Bk), _, _) = _
    rw [z]; rfl
  | 2, _ =>
    refine (add_bigR (by decide) (by decide) ha rfl rfl).trans ?_
    show (([bigK 1 a a, bigK 2 b b, bigK 3 a (0 + a), bigK 4 b 0, bigQ 11 1 a, bigQ 12 2 b, bigQ 13 3 a] : Bk), _, _) = _
    rw [z]; rfl
  | n + 3, h => omega
theorem mon5 : monI 5 = 0 := by
  have h : DateIs 5 1 0 5 := ⟨by omega, by omega, by decide, by decide⟩
  rw [monI_of h]; rfl
theorem mon6 : monI 6 = 0 := by
  have h : DateIs 6 1 0 6 := ⟨by omega, by omega, by decide, by decide⟩
  rw [monI_of h]; rfl
theorem of5 : ofI 1 5 = 0 := by unfold ofI; rw [mon5]; rfl
theorem of6 : ofI 1 6 = 0 := by unfold ofI; rw [mon6]; rfl
def bigM (a b : Int) : List Mv := [⟨1, 5, false, a, 0, a⟩, ⟨2, 5, false, b, 0, b⟩, ⟨3, 5, false, a, 0, a⟩, ⟨4, 5, false, b, 0, b⟩]
def bigM' (a b : Int) : List Mv := bigM a b ++ [⟨11, 6, true, a, 0, a⟩, ⟨12, 6, true, b, 0, b⟩, ⟨13, 6, true, a, 0, a⟩]
theorem big_mv (a b : Int) : Bk.moves (bigB a b 4) 7 = bigM a b := by kernel_rfl
theorem big_mv' (a b : Int) : Bk.moves (bigC a b 3) 7 = bigM' a b := by kernel_rfl
theorem big_per (a b : Int) : perM 1 0 (bigM a b) = bigM a b := by
  unfold perM bigM inP
  simp [of5]
theorem big_per' (a b : Int) : perM 1 0 (bigM' a b) = bigM' a b := by
  unfold perM bigM' bigM inP
  simp [of5, of6]
theorem big_file {a b : Int} (ha : 2305843009213693952 < a) (hb : 2305843009213693952 < b) : Bk.file (bigB a b 4) [⟨7, 1, 0, 1⟩] 7 0 = (Rep.zero, 5) := by
  unfold Bk.file
  rw [if_neg (by decide), show findJ [⟨7, 1, 0, 1⟩] 7 = some ⟨7, 1, 0, 1⟩ by decide]
  simp only
  rw [if_neg (by decide), big_mv]
  rw [if_neg]
  unfold Rep.fits repOf
  rw [big_per]
  simp only [bigM, sgS, i64]
  intro h
  have := h.1
  simp at this
  omega
def bigRep (b : Int) : Rep := ⟨7, 1, 0, b, 0, b, 4, 3⟩
theorem big_file' {a b : Int} (hb : bigN b) : Bk.file (bigC a b 3) [⟨7, 1, 0, 1⟩] 7 0 = (bigRep b, 0) := by
  unfold Bk.file
  rw [if_neg (by decide), show findJ [⟨7, 1, 0, 1⟩] 7 = some ⟨7, 1, 0, 1⟩ by decide]
  simp only
  rw [if_neg (by decide), big_mv']
  have e : repOf 7 1 0 (bigM' a b) = bigRep b := by
    unfold repOf bigRep
    rw [big_per']
    have e1 : sgS Mv.t (bigM' a b) = b := by simp [bigM', bigM, sgS]; omega
    have e2 : sgS Mv.x (bigM' a b) = 0 := by simp [bigM', bigM, sgS]
    have e3 : sgS Mv.v (bigM' a b) = b := by simp [bigM', bigM, sgS]; omega
    rw [e1, e2, e3]
    rfl
  rw [e, if_pos]
  unfold bigN at hb
  unfold Rep.fits bigRep i64
  simp only
  omega
theorem bigK_small (i n b : Int) : (bigK i n b).lines.length ≤ 6400 := by simp [bigK]
theorem bigQ_small (i s n : Int) : (bigQ i s n).lines.length ≤ 6400 := by simp [bigQ]
theorem bigB_small (a b : Int) (i : Nat) : (bigB a b i).small := by
  intro x hx
  have := List.mem_of_mem_take hx
  simp only [List.mem_cons, List.not_mem_nil, or_false] at this
  rcases this with rfl | rfl | rfl | rfl <;> exact bigK_small _ _ _
theorem bigC_small (a b : Int) (i : Nat) : (bigC a b i).small := by
  intro x hx
  rcases List.mem_append.1 hx with h | h
  · simp only [List.mem_cons, List.not_mem_nil, or_false] at h
    rcases h with rfl | rfl | rfl | rfl <;> exact bigK_small _ _ _
  · have := List.mem_of_mem_take h
    simp only [List.mem_cons, List.not_mem_nil, or_false] at this
    rcases this with rfl | rfl | rfl <;> exact bigQ_small _ _ _
theorem bigB_len (a b : Int) (i : Nat) : (bigB a b i).length ≤ 100000 := by unfold bigB; rw [List.length_take]; simp; omega
theorem bigC_len (a b : Int) (i : Nat) : (bigC a b i).length ≤ 100000 := by unfold bigC; rw [List.length_append, List.length_take]; simp; omega
theorem big_b3T {n : Int} (h : bigN n) : b3T ⟨0, 7, n, 0, 0, n⟩ := b3T_ok (big_ok h)
theorem bigB_b3 {a b : Int} (ha : bigN a) (hb : bigN b) (i : Nat) : (bigB a b i).b3 := by
  intro x hx
  have := List.mem_of_mem_take hx
  simp only [List.mem_cons, List.not_mem_nil, or_false] at this
  intro l hl
  rcases this with rfl | rfl | rfl | rfl <;> (obtain rfl := List.mem_singleton.1 hl; first | exact big_b3T ha | exact big_b3T hb)
theorem bigC_b3 {a b : Int} (ha : bigN a) (hb : bigN b) (i : Nat) : (bigC a b i).b3 := by
  intro x hx l hl
  rcases List.mem_append.1 hx with h | h
  · simp only [List.mem_cons, List.not_mem_nil, or_false] at h
    rcases h with rfl | rfl | rfl | rfl <;> (obtain rfl := List.mem_singleton.1 hl; first | exact big_b3T ha | exact big_b3T hb)
  · have := List.mem_of_mem_take h
    simp only [List.mem_cons, List.not_mem_nil, or_false] at this
    rcases this with rfl | rfl | rfl <;> (obtain rfl := List.mem_singleton.1 hl; first | exact big_b3T ha | exact big_b3T hb)
end Go.Proofs.YtokakpbpenndlaaDoor
