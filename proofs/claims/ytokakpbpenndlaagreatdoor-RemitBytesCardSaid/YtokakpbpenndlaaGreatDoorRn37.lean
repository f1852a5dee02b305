/-
  The statements' helpers of remit: the sample, the chapter's first examples (awake).
-/
import Derived.Test.YtokakpbpenndlaaGreatDoorRn35
import Derived.Test.YtokakpbpenndlaaGreatDoorRn36
import Derived.Test.YtokakpbpenndlaaGreatDoorRn25
import Derived.Deep.RegionHeld3
import Derived.Test.YtokakpbpenndlaaGreatDoorRn04
import Derived.Test.YtokakpbpenndlaaGreatDoorRn03
import Derived.Test.YtokakpbpenndlaaGreatDoorRn08
set_option linter.unusedVariables false
namespace Go.Proofs.YtokakpbpenndlaaGreatDoor
open Go.RowKit Go.Maps

theorem One.add {w W : World} {bb mb : Nat} {K : Bk} (h : One w W bb mb K) (e : Ent) (Aa At : Option Addr) (ca ct : Nat) (he : EntR W e Aa At) (hs : K.small) (hk : K.length ≤ 100000) {K' : Bk} {l : List Tx} {f : Int} (hE : K.add e = (K', l, f)) {n m q : Nat} (hn : e.am.length = n) (hm : e.tax.length = m) (hq : l.length = q) :
    Calls Tryz.prog 26 #[.pointer (some ⟨bb, 0, none⟩), .agg #[.int .i64 e.k, .int .i64 e.id, .int .i64 e.of_, .int .i64 e.day, .slice Aa n ca, .slice At m ct]] W fun r W' => ∃ A c, r = .returned (.tuple #[.slice A q c, .int .i64 f]) ∧ One w W' bb mb K' := by
  subst hn hm
  obtain ⟨v, M, hB, rfl, hx⟩ := h
  refine (add_is hB hx e Aa At ca ct he (by rw [← BkM.len_b]; exact hk) hs hE (n := q) hq).mono ?_
  rintro r w3 ⟨A3, c3, v3, M3, b3, rfl, hA3, hb3, _, _⟩
  exact ⟨A3, c3, rfl, v3, M3, hA3.at_, hb3, Chg.to_ext hx hA3.chg (fun k hk => (hB.foot_ge k hk).1)⟩
theorem reads_c (W : World) (cs : Array Value) (e : TypeId) (m size : Nat) (xs : List Value) (h : cs.size = m * size) (hx : cs.toList = xs) : Reads (W.alloc (.cells cs e)) (W.alloc (.cells cs e)).heap.size size (some ⟨W.heap.size, 0, none⟩) m xs := by
  subst hx
  exact reads_new' W cs e m size rfl h
set_option maxRecDepth 100000 in
set_option maxHeartbeats 2000000 in
theorem sample30_any (w : World) : Calls Tryz.prog 36 #[] w fun r w' => ∃ bb mb, r = .returned (.pointer (some ⟨bb, 0, none⟩)) ∧ One w w' bb mb bk1 := by
  go_enter Tryz.func36, Tryz.ntmps36
  go_wp2_with fail
  refine (newBook_any _).mono ?_
  rintro r w1 ⟨rfl, hB1, hx1⟩
  have O1 : One w w1 (w.heap.size + 1) w.heap.size [] := ⟨_, _, hB1, rfl, hx1⟩
  clear hB1 hx1
  generalize w.heap.size + 1 = bb at *
  generalize w.heap.size = mb at *
  go_wp2_with fail
  have X2 := (Ext.refl w1).alloc (.cells #[.int .i64 100, .int .i64 50] 3)
  have R2 := reads_c w1 #[.int .i64 100, .int .i64 50] 3 2 1 (iV saleE.am) rfl rfl
  have hs2 : (w1.alloc (.cells #[.int .i64 100, .int .i64 50] 3)).heap.size = w1.heap.size + 1 := by simp
  generalize w1.alloc (.cells #[.int .i64 100, .int .i64 50] 3) = w2 at *
  have X3 := (Ext.refl w2).alloc (.cells #[.int .i64 0, .int .i64 7, .int .i64 100, .int .i64 0, .int .i64 72500, .int .i64 7, .int .i64 1, .int .i64 7, .int .i64 50, .int .i64 0, .int .i64 72500, .int .i64 4] 117)
  have R3 := reads_c w2 #[.int .i64 0, .int .i64 7, .int .i64 100, .int .i64 0, .int .i64 72500, .int .i64 7, .int .i64 1, .int .i64 7, .int .i64 50, .int .i64 0, .int .i64 72500, .int .i64 4] 117 2 6 (txCells saleE.tax) rfl rfl
  rw [hs2] at R3
  generalize w2.alloc (.cells #[.int .i64 0, .int .i64 7, .int .i64 100, .int .i64 0, .int .i64 72500, .int .i64 7, .int .i64 1, .int .i64 7, .int .i64 50, .int .i64 0, .int .i64 72500, .int .i64 4] 117) = w3 at *
  have HE := Lib.hid (show EntR w3 saleE (some ⟨w1.heap.size, 0, none⟩) (some ⟨w1.heap.size + 1, 0, none⟩) from ⟨R2.ext X3, R3, by simp [saleE, maxLen], by simp [saleE, maxLen]⟩)
  have O3 := Lib.hid (O1.to (X2.trans X3))
  clear R2 R3 O1 X2 X3 hs2
  refine (O3.out.add saleE _ _ 2 2 HE.out small0 (by simp) add_sale0 (n := 2) (m := 2) (q := 2) rfl rfl rfl).mono ?_
  rintro r w4 ⟨A4, c4, rfl, O4⟩
  clear HE O3
  go_wp2_with fail
  have X5 := (Ext.refl w4).alloc (.cells #[.int .i64 50, .int .i64 0] 3)
  have R5 := reads_c w4 #[.int .i64 50, .int .i64 0] 3 2 1 (iV [50, 0]) rfl rfl
  generalize w4.alloc (.cells #[.int .i64 50, .int .i64 0] 3) = w5 at *
  have HE := Lib.hid (show EntR w5 (refundE 2 1 [50, 0]) (some ⟨w4.heap.size, 0, none⟩) none from ⟨R5, Reads.none_, by simp [refundE, maxLen], by simp [refundE, maxLen]⟩)
  have O5 := Lib.hid (O4.to X5)
  clear R5 O4 X5
  refine (O5.out.add (refundE 2 1 [50, 0]) _ _ 2 0 HE.out small1 (by simp) k_ref2 (n := 2) (m := 0) (q := 1) rfl rfl rfl).mono ?_
  rintro r w6 ⟨A6, c6, rfl, O6⟩
  clear HE O5
  go_wp2_with fail
  go_ret
  exact ⟨bb, mb, rfl, O6⟩
def jSeven : JV := ⟨⟨7, 1, 0, 1⟩, none, 0, 0⟩
theorem seven30_any (w : World) : Calls Tryz.prog 37 #[] w fun r w' => ∃ A, r = .returned (.slice A 1 1) ∧ Reads w' w'.heap.size 5 A 1 (jvCells [jSeven]) ∧ Ext w w' := by
  go_enter Tryz.func37, Tryz.ntmps37
  go_wp2_with fail
  go_ret
  exact ⟨_, rfl, reads_c w #[.int .i64 7, .int .i64 1, .int .i64 0, .int .i64 1, .slice none 0 0] 83 1 5 (jvCells [jSeven]) rfl rfl, (Ext.refl w).alloc _⟩
def repFirst : Rep := ⟨7, 1, 0, 100, 0, 7, 2, 1⟩
theorem first30_any (w : World) : Calls Tryz.prog 38 #[] w fun r w' => r = .returned repFirst.V ∧ Ext w w' := by
  go_enter Tryz.func38, Tryz.ntmps38
  go_wp2_with fail
  exact bodyPost_ret (results_c rfl rfl (ld_rep (Blk.new w _ _))) rfl ⟨rfl, (Ext.refl w).alloc _⟩
theorem mon10 : monI 10 = 0 := by
  have h : DateIs 10 1 0 10 := ⟨by omega, by omega, by decide, by decide⟩
  rw [monI_of h]; rfl
theorem mon12 : monI 12 = 0 := by
  have h : DateIs 12 1 0 12 := ⟨by omega, by omega, by decide, by decide⟩
  rw [monI_of h]; rfl
theorem of10 : ofI 1 10 = 0 := by unfold ofI; rw [mon10]; rfl
theorem of12 : ofI 1 12 = 0 := by unfold ofI; rw [mon12]; rfl
theorem per_mv3 : perM 1 0 mv3 = mv3 := by
  unfold perM mv3 inP
  simp [of10, of12]
theorem file_first : Bk.file bk1 [⟨7, 1, 0, 1⟩] 7 0 = (repFirst, 0) := by
  unfold Bk.file
  rw [if_neg (by decide), show findJ [⟨7, 1, 0, 1⟩] 7 = some ⟨7, 1, 0, 1⟩ by decide]
  simp only
  rw [if_neg (by decide), k_mv]
  have : repOf 7 1 0 mv3 = repFirst := by unfold repOf; rw [per_mv3]; decide
  rw [this, if_pos (by decide)]
theorem dec_lo {u : Nat} (h : u < 10) : Lib.decDigits u = [UInt8.ofNat (48 + u)] := by rw [Lib.decDigits, dif_pos h]
theorem dec_hi {u : Nat} (h : ¬ u < 10) : Lib.decDigits u = Lib.decDigits (u / 10) ++ [UInt8.ofNat (48 + u % 10)] := by rw [Lib.decDigits, dif_neg h]
theorem first_check : repFirst.check = 0 := by decide
theorem first_text : repFirst.textO = [55, 32, 48, 48, 48, 49, 45, 77, 48, 49, 32, 49, 48, 48, 32, 48, 32, 55, 32, 50, 32, 49] := by
  unfold Rep.textO
  rw [if_pos first_check]
  have e7 : Lib.itoa 7 = [55] := by unfold Lib.itoa; rw [if_neg (by decide)]; exact dec_lo (by decide)
  have e0 : Lib.itoa 0 = [48] := by unfold Lib.itoa; rw [if_neg (by decide)]; exact dec_lo (by decide)
  have e2 : Lib.itoa 2 = [50] := by unfold Lib.itoa; rw [if_neg (by decide)]; exact dec_lo (by decide)
  have e1 : Lib.itoa 1 = [49] := by unfold Lib.itoa; rw [if_neg (by decide)]; exact dec_lo (by decide)
  have e100 : Lib.itoa 100 = [49, 48, 48] := by
    unfold Lib.itoa; rw [if_neg (by decide)]
    show Lib.decDigits 100 = _
    rw [dec_hi (by decide), dec_hi (by decide), dec_lo (by decide)]
    rfl
  have hp : perText 1 0 = [48, 48, 48, 49, 45, 77, 48, 49] := by decide
  have hT : repTexts repFirst 8 = [Lib.itoa 7, perText 1 0, Lib.itoa 100, Lib.itoa 0, Lib.itoa 7, Lib.itoa 2, Lib.itoa 1] := rfl
  unfold Rep.text
  rw [hT, e7, e0, e2, e1, e100, hp]
  rfl
theorem first_i64 : repFirst.i64s := by constructor <;> decide
theorem b3_bk1 : bk1.b3 := by
  have h1 : (Bk.add [kpSale] (refundE 2 1 [50, 0])).1.b3 := add_b3 (by
    have := add_b3 Bk.b3_nil saleE
    rwa [add_sale0] at this) _
  rwa [k_ref2] at h1
/-- A report of a book in use. -/
theorem One.file {w W : World} {bb mb : Nat} {K : Bk} (h : One w W bb mb K) (hs : K.small) (h3 : K.b3) (hk : K.length ≤ 100000) (l : List JV) (A : Option Addr) (cap n : Nat) (hn : l.length = n) (hr : Reads W W.heap.size 5 A n (jvCells l)) (hm : n ≤ maxLen) (id p : Int) {R : Rep} {E : Int} (hF : K.file (jsOf l) id p = (R, E)) :
    Calls Tryz.prog 29 #[.pointer (some ⟨bb, 0, none⟩), .slice A n cap, .int .i64 id, .int .i64 p] W fun r W' => r = .returned (.tuple #[R.V, .int .i64 E]) ∧ One w W' bb mb K ∧ Ext W W' := by
  subst hn
  obtain ⟨v, M, hB, rfl, hx⟩ := h
  refine (rfile_any hB (by rw [← BkM.len_b]; exact hk) hs h3 l A cap hr hm id p).mono ?_
  rintro r W' ⟨rfl, hx2⟩
  rw [hF]
  exact ⟨rfl, ⟨v, M, hB.ext hx2, rfl, hx.trans hx2⟩, hx2⟩
theorem eq_first (w : World) : (binOp .eql 23 repFirst.V repFirst.V).run Tryz.prog w = .ok (.bool true) w := by kernel_rfl
set_option maxRecDepth 100000 in
set_option maxHeartbeats 2000000 in
theorem awake30_any (w : World) (ht : Tab10 w) : Calls Tryz.prog 10 #[] w fun r w' => r = .returned (.bool true) ∧ Ext w w' := by
  have HT := Lib.hid (fun W (hx : Ext w W) => ht.ext hx)
  clear ht
  go_enter Tryz.func10, Tryz.ntmps10
  go_wp2_with fail
  refine (sample30_any _).mono ?_
  rintro r w1 ⟨bb, mb, rfl, O1⟩
  go_wp2_with fail
  refine (seven30_any _).mono ?_
  rintro r w2 ⟨A2, rfl, R2, hx2⟩
  have O2 := O1.to hx2
  go_wp2_with fail
  refine (O2.file small_b1 b3_bk1 (by simp [bk1]) [jSeven] A2 1 1 rfl R2 (by simp [maxLen]) 7 0 file_first).mono ?_
  rintro r w3 ⟨rfl, O3, hx3⟩
  clear O1 O2 R2 hx2 hx3
  have X3 := O3.x
  clear O3
  go_wp2_with fail
  have B2 := Blk.new w3 23 #[.int .i64 repFirst.j, .int .i64 repFirst.k, .int .i64 repFirst.p, .int .i64 repFirst.t, .int .i64 repFirst.x, .int .i64 repFirst.v, .int .i64 repFirst.s, .int .i64 repFirst.r]
  have X4 := X3.alloc (.cells #[.int .i64 repFirst.j, .int .i64 repFirst.k, .int .i64 repFirst.p, .int .i64 repFirst.t, .int .i64 repFirst.x, .int .i64 repFirst.v, .int .i64 repFirst.s, .int .i64 repFirst.r] 23)
  generalize w3.alloc (.cells #[.int .i64 repFirst.j, .int .i64 repFirst.k, .int .i64 repFirst.p, .int .i64 repFirst.t, .int .i64 repFirst.x, .int .i64 repFirst.v, .int .i64 repFirst.s, .int .i64 repFirst.r] 23) = w4 at *
  generalize w3.heap.size = g2 at *
  refine (first30_any _).mono ?_
  rintro r w5 ⟨rfl, hx5⟩
  have X5 := X4.trans hx5
  have B5 := B2.ext hx5
  clear X4 B2 hx5
  have HTx := Lib.hid (rtext_any repFirst first_i64 _ (HT.out _ X5))
  rw [first_check, first_text] at HTx
  go_wp2_with fail
  refine HTx.out.mono ?_
  rintro r w6 ⟨rfl, hx6⟩
  have X6 := X5.trans hx6
  have B6 := B5.ext hx6
  clear X5 B5 hx6 HTx
  have HS := Lib.hid (fun (w' : World) (hx : Ext w6 w') => (show w'.cell? ⟨g2, 0, none⟩ = some (.int .i64 repFirst.j) ∧ w'.cell? ⟨g2, 1, none⟩ = some (.int .i64 repFirst.k) ∧ w'.cell? ⟨g2, 2, none⟩ = some (.int .i64 repFirst.p) ∧ w'.cell? ⟨g2, 3, none⟩ = some (.int .i64 repFirst.t) ∧ w'.cell? ⟨g2, 4, none⟩ = some (.int .i64 repFirst.x) ∧ w'.cell? ⟨g2, 5, none⟩ = some (.int .i64 repFirst.v) ∧ w'.cell? ⟨g2, 6, none⟩ = some (.int .i64 repFirst.s) ∧ w'.cell? ⟨g2, 7, none⟩ = some (.int .i64 repFirst.r) from
    have B := B6.ext hx
    ⟨B.cell 0, B.cell 1, B.cell 2, B.cell 3, B.cell 4, B.cell 5, B.cell 6, B.cell 7⟩))
  have S6 := Lib.hid (HS.out w6 (Ext.refl _))
  have heq := eq_first
  go_wp2_with fail
  go_region_held3 (fun w' => w'.cell? ⟨g2, 0, none⟩ = some (.int .i64 repFirst.j) ∧ w'.cell? ⟨g2, 1, none⟩ = some (.int .i64 repFirst.k) ∧ w'.cell? ⟨g2, 2, none⟩ = some (.int .i64 repFirst.p) ∧ w'.cell? ⟨g2, 3, none⟩ = some (.int .i64 repFirst.t) ∧ w'.cell? ⟨g2, 4, none⟩ = some (.int .i64 repFirst.x) ∧ w'.cell? ⟨g2, 5, none⟩ = some (.int .i64 repFirst.v) ∧ w'.cell? ⟨g2, 6, none⟩ = some (.int .i64 repFirst.s) ∧ w'.cell? ⟨g2, 7, none⟩ = some (.int .i64 repFirst.r))
    (first | (with_reducible exact HS.out _ (Ext.refl w6).drew) | (with_reducible exact HS.out _ hx7) | (exact S6.out))
    (first | (go_at_call 38; refine (first30_any _).mono ?_; rintro e w7 ⟨rfl, hx7a⟩; have hx7 : Ext w6 w7 := Ext.trans (Ext.refl w6).drew hx7a))
  all_goals
    go_wp2_with fail
    go_ret
    exact ⟨rfl, X6.trans hx7⟩
end Go.Proofs.YtokakpbpenndlaaGreatDoor

set_option linter.unusedVariables false
namespace Go.Proofs.YtokakpbpenndlaaGreatDoor
open Go.RowKit Go.Maps

set_option maxRecDepth 100000 in
set_option maxHeartbeats 2000000 in
theorem rbytes30_any (r : Rep) (hi : r.i64s) (w : World) : Calls Tryz.prog 12 #[r.V] w fun e w' => ∃ v, e = .returned (.tuple #[v, .int .i64 r.check]) ∧ w'.ownsRow w.heap.size 5 1 v r.bytes.length (bV r.bytes) ∧ Ext w w' ∧ AllP w' v u8P := by
  have X0 := (Ext.refl w).alloc (.cells #[.int .i64 r.j, .int .i64 r.k, .int .i64 r.p, .int .i64 r.t, .int .i64 r.x, .int .i64 r.v, .int .i64 r.s, .int .i64 r.r] 23)
  have B0 := Blk.new w 23 #[.int .i64 r.j, .int .i64 r.k, .int .i64 r.p, .int .i64 r.t, .int .i64 r.x, .int .i64 r.v, .int .i64 r.s, .int .i64 r.r]
  have HI := Lib.hid hi
  have HC := Lib.hid (rrcheck_any r hi.k)
  clear hi
  obtain ⟨C, hC⟩ : ∃ C, r.check = C := ⟨_, rfl⟩
  by_cases h0 : C = 0
  case neg =>
    have hb : (C != 0) = true := by simpa using h0
    have HO := Lib.hid (show r.bytes = [] by unfold Rep.bytes; rw [hC, if_neg h0])
    rw [hC] at HC ⊢
    replace hC := Lib.hid hC
    clear h0
    go_enter Tryz.func12, Tryz.ntmps12
    go_wp2_with fail
    refine (HC.out _).mono ?_
    rintro e w1 ⟨rfl, hx⟩
    go_wp2_with fail
    go_ret2
    refine ⟨_, rfl, ?_, X0.trans hx, AllP.nil _ _ _ _⟩
    rw [HO.out]; exact World.ownsRow_nil _ _ _ _
  subst h0
  have HO := Lib.hid (show r.bytes = putsL r.ints by unfold Rep.bytes; rw [if_pos hC])
  rw [hC] at HC ⊢
  replace hC := Lib.hid hC
  go_enter Tryz.func12, Tryz.ntmps12
  go_wp2_with fail
  refine (HC.out _).mono ?_
  rintro e w1 ⟨rfl, hx⟩
  have X1 := X0.trans hx
  have B1 := B0.ext hx
  clear X0 B0 hx
  generalize hg0 : w.heap.size = g1 at *
  go_wp2_with fail
  refine (rfields_any g1 _).mono ?_
  rintro e w2 ⟨rfl, hx⟩
  have X2 := X1.trans hx
  have B2 := B1.ext hx
  clear X1 B1 hx
  have hL8 : r.ints.length = 8 := rfl
  have HCS := Lib.hid (fun k hk => r.cs_at k hk)
  go_wp2_with fail
  go_loopw [5, 14] (fun o i wr => PutsRel w2 r.ints o i wr) (fun _ i _ => 8 - (intOf i).toNat)
  case atStart => exact ⟨0, by omega, rfl, World.ownsRow_nil _ _ _ _, Ext.refl _, AllP.nil _ _ _ _⟩
  case round =>
    obtain ⟨k, hk, rfl, hown, hx, hall⟩ := hrel
    have hlen2 := putsL_len (r.ints.take k)
    have hlen3 : (r.ints.take k).length ≤ k := List.length_take_le _ _
    by_cases hlt : k < 8
    · have hd : decide ((k : Int) < 8) = true := by simp; omega
      have hk8 : k < r.ints.length := by omega
      have hix := flds_at g1 k hlt
      have hc := ((B2.ext hx).cell k).trans (HCS.out k hk8)
      have hn := HI.out.at_ k hk8
      have hlen := putL_len (r.ints[k]'hk8)
      have HN := Lib.hid (fun (W : World) (v : Value) (n : Nat) (xs : List Value) ho hn hxs hx ha => PutsRel.next (w := w2) (l := r.ints) (k := k) (m := k + 1) (v1 := v) (n := n) (xs := xs) (w1 := W) hk8 ho hn hxs hx ha rfl)
      have hnl : (putsL (r.ints.take k)).length ≤ 1000 := by omega
      generalize r.ints[k]'hk8 = n at *
      generalize putsL (r.ints.take k) = L at *
      clear hlen2 hlen3
      go_wp2_with (first
        | (go_at_call 43; refine (oput_any _ hn.1 hn.2 _).mono ?_; rintro e w3 ⟨v3, rfl, hown1, hx1, _⟩; obtain ⟨A1, c1, rfl, hc1, hm1, hr1⟩ := own_slice hown1)
        | (at_builtin; refine wpl_app row_u8 w2 w3 (.tmp 17) (.tmp 21) rfl rfl rfl (own_ext hown hx1) (hx.trans hx1) rfl hr1 (bV_one _) (by omega) (by unfold maxLen; omega) ?_; intro v4 w4 hg4))
      go_roundw
      case rel => exact HN.out _ _ _ _ hg4.own rfl rfl hg4.ext (hg4.all u8P u8z (u8bb _ _) (hall.ext hx1))
      case measure => simp [intOf]; omega
    · have hd : decide ((k : Int) < 8) = false := by simp; omega
      have HO2 := PutsRel.done (by omega) hown
      clear hown
      go_wp2_with fail
      go_ret2
      refine ⟨_, rfl, ?_, X2.trans hx, hall⟩
      rw [HO.out]
      exact own_base HO2 X2.size
end Go.Proofs.YtokakpbpenndlaaGreatDoor

set_option linter.unusedVariables false
namespace Go.Proofs.YtokakpbpenndlaaGreatDoor
open Go.RowKit

theorem ofault_any (e a : Int) (w : World) :
    Calls Tryz.prog 98 #[.int .i64 e, .int .i64 a] w fun r w' => r = .returned (.agg #[.int .i64 e, .int .i64 a]) ∧ Ext w w' := by
  go_enter Tryz.func98, Tryz.ntmps98
  go_wp2
  exact bodyPost_ret (v := .agg #[.int .i64 e, .int .i64 a]) (by simp [results, Tryz.results98, go_sem]) rfl ⟨rfl, (Ext.refl w).alloc _⟩

theorem ld_fault {w : World} {g : Nat} {a b : Value} (h : Blk w g 100 #[a, b]) : (loadVar 100 ⟨g, 0, none⟩).run Tryz.prog w = .ok (.agg #[a, b]) w := by
  have q := h.cell
  simp [go_sem, q]
theorem fault_set {w : World} {g : Nat} {a b : Value} (h : Blk w g 100 #[a, b]) (x y : Value) : Blk ((w.setCell ⟨g, 0, none⟩ x).setCell ⟨g, 1, none⟩ y) g 100 #[x, y] := (h.set_ 0 x).set_ 1 y
def GotV (g : Got) : Value := .tuple #[.int .i64 g.n, .int .i64 (g.next : Int), .agg #[.int .i64 g.fe, .int .i64 (g.fa : Int)]]
def GRel (w : World) (at_ : Nat) (l : List UInt8) (rank i : Value) (wr : World) : Prop :=
  ∃ k r : Nat, k ≤ l.length ∧ k ≤ 9 ∧ r < 128 ^ k ∧ rank = .int .u64 (r : Int) ∧ i = .int .i64 (k : Int) ∧ Ext w wr ∧ Blk wr w.heap.size 100 #[.int .i64 0, .int .i64 0] ∧ getGo at_ l 0 0 = getGo at_ (l.drop k) k r

set_option maxRecDepth 100000 in
set_option maxHeartbeats 4000000 in
theorem oget_any (b : List UInt8) (A : Option Addr) (cap at_ : Nat) (w : World) (hr : Reads w w.heap.size 1 A b.length (bV b)) (hc : b.length ≤ cap) (hm : cap ≤ maxLen) (ha : at_ < b.length) :
    Calls Tryz.prog 135 #[.slice A b.length cap, .int .i64 (at_ : Int)] w fun e w' => e = .returned (GotV (getN b at_)) ∧ Ext w w' := by
  unfold maxLen at hm
  obtain ⟨g, off, rfl, hg, hcl⟩ := hr.2 (by omega)
  have hcap : cap ≠ at_ := by omega
  replace hcl := Lib.hid hcl
  have d1 : decide ((at_ : Int) < 0) = false := by simp
  have d2 : decide (b.length < at_) = false := by simp; omega
  go_enter Tryz.func135, Tryz.ntmps135
  go_wp2_with fail
  go_loopw [7, 23] (fun rank i wr => GRel w at_ (b.drop at_) rank i wr) (fun _ i _ => b.length - at_ - (intOf i).toNat)
  case atStart => exact ⟨0, 0, by omega, by omega, by simp, rfl, rfl, (Ext.refl w).alloc _, Blk.new _ _ _, rfl⟩
  case round =>
    obtain ⟨k, r, hk, hk9, hr9, rfl, rfl, hx, hB, hgo⟩ := hrel
    have hlen : (b.drop at_).length = b.length - at_ := List.length_drop ..
    by_cases hlt : k < b.length - at_
    · have hd : decide ((k : Int) < ((b.length - at_ : Nat) : Int)) = true := by simp; omega
      have hkl : k < (b.drop at_).length := by omega
      obtain ⟨q1, q1'⟩ := hB.cells
      have c0 : w.cell? ⟨g, off + at_ + k, none⟩ = some (.int .u8 (((b.drop at_)[k]).toNat : Int)) := by
        have := hcl.out (at_ + k) (.int .u8 (((b.drop at_)[k]).toNat : Int)) (by simp [bV, List.getElem?_eq_getElem (show at_ + k < b.length by omega)])
        rwa [← Nat.add_assoc] at this
      have c1 := (hx.cell g (off + at_ + k) none hg).trans c0
      have hgo2 := hgo.trans (by rw [List.drop_eq_getElem_cons hkl] : getGo at_ ((b.drop at_).drop k) k r = getGo at_ ((b.drop at_)[k] :: (b.drop at_).drop (k + 1)) k r)
      generalize (b.drop at_)[k] = c at *
      have hc8 : (c.toNat : Int) ≤ 255 := by have := c.toNat_lt; omega
      have HR := Lib.hid hr9
      clear c0 hgo hr9 hlen
      rcases getGo_cons at_ c ((b.drop at_).drop (k + 1)) k r with ⟨⟨h1, h2⟩, e⟩ | ⟨h1, ⟨h2, h3⟩, e⟩ | ⟨h1, h2, h3, e⟩ | ⟨h1, h2, h3, e⟩
      · have HE := Lib.hid (hgo2.trans e)
        clear hgo2 e
        subst h1
        go_wp2_with (go_at_call 98; refine (ofault_any _ _ _).mono ?_; rintro e w1 ⟨rfl, hx1⟩; obtain ⟨p1, p1'⟩ := (hB.ext hx1).cells)
        refine bodyPost_ret (results_ttc rfl rfl (ld_fault (fault_set (hB.ext hx1) _ _))) rfl ⟨?_, ((hx.trans hx1).set (Nat.le_refl _) _).set (Nat.le_refl _) _⟩
        rw [show getN b at_ = _ from HE.out]; simp [GotV]
      · have HE := Lib.hid (hgo2.trans e)
        have hz : ((c.toNat : Int) == 0) = true := by simp [h3]
        have hz2 : decide ((1 : Int) < (c.toNat : Int)) = false := by simp; omega
        have hz3 : decide (0 < k) = true := by simpa using h2
        clear hgo2 e h1 h3
        go_wp2_with (go_at_call 98; refine (ofault_any _ _ _).mono ?_; rintro e w1 ⟨rfl, hx1⟩; obtain ⟨p1, p1'⟩ := (hB.ext hx1).cells)
        all_goals
          refine bodyPost_ret (results_ttc rfl rfl (ld_fault (fault_set (hB.ext hx1) _ _))) rfl ⟨?_, ((hx.trans hx1).set (Nat.le_refl _) _).set (Nat.le_refl _) _⟩
          rw [show getN b at_ = _ from HE.out]; simp [GotV, *]
      · have HE := Lib.hid (hgo2.trans e)
        clear hgo2 e
        by_cases hk : k = 9
        · have h4 : c.toNat ≤ 1 := by omega
          subst hk
          have hz : ((c.toNat : Int) == 0) = false := by rw [beq_eq_false_iff_ne]; omega
          clear h1 h2
          go_wp2_with (go_at_call 98; refine (ofault_any _ _ _).mono ?_; rintro e w1 ⟨rfl, hx1⟩; obtain ⟨p1, p1'⟩ := (hB.ext hx1).cells)
          refine bodyPost_ret (results_ttc rfl rfl (ld_fault (fault_set hB _ _))) rfl ⟨?_, (hx.set (Nat.le_refl _) _).set (Nat.le_refl _) _⟩
          rw [show getN b at_ = _ from HE.out]
          have hu := unz_o _ _ (rank_9 r c.toNat HR.out h4) (rank_lt9 r c.toNat HR.out h4)
          simp only [GotV]
          rw [← hu]
          simp
        · have hkb : ((k : Int) == 9) = false := by rw [beq_eq_false_iff_ne]; omega
          have hk8 : k ≤ 8 := by omega
          by_cases h0 : k = 0
          case' pos => have hz0 : decide (0 < k) = false := by simp [h0]
          case' neg =>
            have hz0 : decide (0 < k) = true := by simp; omega
            have hz : ((c.toNat : Int) == 0) = false := by rw [beq_eq_false_iff_ne]; omega
          all_goals
            clear h1 hk h2 h0
            go_wp2_with (go_at_call 98; refine (ofault_any _ _ _).mono ?_; rintro e w1 ⟨rfl, hx1⟩; obtain ⟨p1, p1'⟩ := (hB.ext hx1).cells)
            refine bodyPost_ret (results_ttc rfl rfl (ld_fault (fault_set hB _ _))) rfl ⟨?_, (hx.set (Nat.le_refl _) _).set (Nat.le_refl _) _⟩
            rw [show getN b at_ = _ from HE.out]
            have hu := unz_o _ _ (rank_o r c.toNat k HR.out (by have := c.toNat_lt; omega) hk8) (rank_lt8 r c.toNat k HR.out hk8)
            simp only [GotV]
            rw [← hu]
            simp
      · have HE := Lib.hid (hgo2.trans e)
        have hk8 : k ≤ 8 := by omega
        have hkb : ((k : Int) == 9) = false := by rw [beq_eq_false_iff_ne]; omega
        have hz : ((c.toNat : Int) == 0) = false := by rw [beq_eq_false_iff_ne]; omega
        by_cases h0 : k = 0
        case' pos => have hz0 : decide (0 < k) = false := by simp [h0]
        case' neg => have hz0 : decide (0 < k) = true := by simp; omega
        all_goals
          clear hgo2 e h1 h2 h0
          go_wp2_with (go_at_call 98; refine (ofault_any _ _ _).mono ?_; rintro e w1 ⟨rfl, hx1⟩; obtain ⟨p1, p1'⟩ := (hB.ext hx1).cells)
          go_roundw
          case rel => exact ⟨k + 1, _, by omega, by omega, rank_lt r c.toNat k HR.out hk8, by rw [rank_o r c.toNat k HR.out (by have := c.toNat_lt; omega) hk8], by go_num, hx, hB, HE.out⟩
          case measure => simp [intOf]; omega
    · have hd : decide ((k : Int) < ((b.length - at_ : Nat) : Int)) = false := by simp; omega
      have hke : k = b.length - at_ := by omega
      have HE := Lib.hid (hgo.trans (by rw [List.drop_eq_nil_of_le (by omega), getGo] : getGo at_ ((b.drop at_).drop k) k r = ⟨0, 0, 4, at_ + k⟩))
      have HR := Lib.hid hr9
      have HK := Lib.hid (show at_ + k = b.length by omega)
      clear hgo hr9 hke
      go_wp2_with (go_at_call 98; refine (ofault_any _ _ _).mono ?_; rintro e w1 ⟨rfl, hx1⟩; obtain ⟨p1, p1'⟩ := (hB.ext hx1).cells)
      refine bodyPost_ret (results_ttc rfl rfl (ld_fault (fault_set (hB.ext hx1) _ _))) rfl ⟨?_, ((hx.trans hx1).set (Nat.le_refl _) _).set (Nat.le_refl _) _⟩
      rw [show getN b at_ = _ from HE.out, HK.out]; simp [GotV]
end Go.Proofs.YtokakpbpenndlaaGreatDoor
