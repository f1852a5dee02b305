/-
  The statements' helpers of remit: the sample, the chapter's first examples (awake).
-/
import Derived.Test.YtokakpbpenndlaaGreatDoorRs43
import Derived.Test.YtokakpbpenndlaaGreatDoorRs37
import Derived.Test.YtokakpbpenndlaaGreatDoorRs20
import Derived.Deep.RegionHeld3
import Derived.Test.YtokakpbpenndlaaGreatDoorRs08
import Derived.Test.YtokakpbpenndlaaGreatDoorRs42
import Derived.Test.YtokakpbpenndlaaGreatDoorRs27
import Derived.Deep.DeepCutAuto
import Derived.LaidEql
set_option linter.unusedVariables false
namespace Go.Proofs.YtokakpbpenndlaaGreatDoor
open Go.RowKit Go.Maps

theorem One.add {w W : World} {bb mb : Nat} {K : Bk} (h : One w W bb mb K) (e : Ent) (Aa At : Option Addr) (ca ct : Nat) (he : EntR W e Aa At) (hs : K.small) (hk : K.length ≤ 100000) {K' : Bk} {l : List Tx} {f : Int} (hE : K.add e = (K', l, f)) {n m q : Nat} (hn : e.am.length = n) (hm : e.tax.length = m) (hq : l.length = q) :
    Calls Tryz.prog 26 #[.pointer (some ⟨bb, 0, none⟩), .agg #[.int .i64 e.k, .int .i64 e.id, .int .i64 e.of_, .int .i64 e.day, .slice Aa n ca, .slice At m ct]] W fun r W' => ∃ A c, r = .returned (.tuple #[.slice A q c, .int .i64 f]) ∧ One w W' bb mb K' := by
  subst hn hm
  obtain ⟨v, M, hB, rfl, hx⟩ := h
  refine (add_is hB hx e Aa At ca ct he (by rw [← BkM.len_b]; exact hk) hs hE (n := q) hq).mono ?_
  rintro r w3 ⟨A3, c3, v3, M3, b3, rfl, hA3, hb3, _, _⟩
  exact ⟨A3, c3, rfl, v3, M3, hA3.at_, hb3, Chg.to_ext hx hA3.chg (fun k hk => (hB.foot_ge k hk).1)⟩
theorem reads_c (W : World) (cs : Array Value) (e : TypeId) (m size : Nat) (xs : List Value) (h : cs.size = m * size) (hx : cs.toList = xs) : Reads (W.alloc (.cells cs e)) (W.alloc (.cells cs e)).heap.size size (some ⟨W.heap.size, 0, none⟩) m xs := by
  subst hx
  exact reads_new' W cs e m size rfl h
set_option maxRecDepth 100000 in
set_option maxHeartbeats 2000000 in
theorem sample30_any (w : World) : Calls Tryz.prog 36 #[] w fun r w' => ∃ bb mb, r = .returned (.pointer (some ⟨bb, 0, none⟩)) ∧ One w w' bb mb bk1 := by
  go_enter Tryz.func36, Tryz.ntmps36
  go_wp2_with fail
  refine (newBook_any _).mono ?_
  rintro r w1 ⟨rfl, hB1, hx1⟩
  have O1 : One w w1 (w.heap.size + 1) w.heap.size [] := ⟨_, _, hB1, rfl, hx1⟩
  clear hB1 hx1
  generalize w.heap.size + 1 = bb at *
  generalize w.heap.size = mb at *
  go_wp2_with fail
  have X2 := (Ext.refl w1).alloc (.cells #[.int .i64 100, .int .i64 50] 3)
  have R2 := reads_c w1 #[.int .i64 100, .int .i64 50] 3 2 1 (iV saleE.am) rfl rfl
  have hs2 : (w1.alloc (.cells #[.int .i64 100, .int .i64 50] 3)).heap.size = w1.heap.size + 1 := by simp
  generalize w1.alloc (.cells #[.int .i64 100, .int .i64 50] 3) = w2 at *
  have X3 := (Ext.refl w2).alloc (.cells #[.int .i64 0, .int .i64 7, .int .i64 100, .int .i64 0, .int .i64 72500, .int .i64 7, .int .i64 1, .int .i64 7, .int .i64 50, .int .i64 0, .int .i64 72500, .int .i64 4] 117)
  have R3 := reads_c w2 #[.int .i64 0, .int .i64 7, .int .i64 100, .int .i64 0, .int .i64 72500, .int .i64 7, .int .i64 1, .int .i64 7, .int .i64 50, .int .i64 0, .int .i64 72500, .int .i64 4] 117 2 6 (txCells saleE.tax) rfl rfl
  rw [hs2] at R3
  generalize w2.alloc (.cells #[.int .i64 0, .int .i64 7, .int .i64 100, .int .i64 0, .int .i64 72500, .int .i64 7, .int .i64 1, .int .i64 7, .int .i64 50, .int .i64 0, .int .i64 72500, .int .i64 4] 117) = w3 at *
  have HE := Lib.hid (show EntR w3 saleE (some ⟨w1.heap.size, 0, none⟩) (some ⟨w1.heap.size + 1, 0, none⟩) from ⟨R2.ext X3, R3, by simp [saleE, maxLen], by simp [saleE, maxLen]⟩)
  have O3 := Lib.hid (O1.to (X2.trans X3))
  clear R2 R3 O1 X2 X3 hs2
  refine (O3.out.add saleE _ _ 2 2 HE.out small0 (by simp) add_sale0 (n := 2) (m := 2) (q := 2) rfl rfl rfl).mono ?_
  rintro r w4 ⟨A4, c4, rfl, O4⟩
  clear HE O3
  go_wp2_with fail
  have X5 := (Ext.refl w4).alloc (.cells #[.int .i64 50, .int .i64 0] 3)
  have R5 := reads_c w4 #[.int .i64 50, .int .i64 0] 3 2 1 (iV [50, 0]) rfl rfl
  generalize w4.alloc (.cells #[.int .i64 50, .int .i64 0] 3) = w5 at *
  have HE := Lib.hid (show EntR w5 (refundE 2 1 [50, 0]) (some ⟨w4.heap.size, 0, none⟩) none from ⟨R5, Reads.none_, by simp [refundE, maxLen], by simp [refundE, maxLen]⟩)
  have O5 := Lib.hid (O4.to X5)
  clear R5 O4 X5
  refine (O5.out.add (refundE 2 1 [50, 0]) _ _ 2 0 HE.out small1 (by simp) k_ref2 (n := 2) (m := 0) (q := 1) rfl rfl rfl).mono ?_
  rintro r w6 ⟨A6, c6, rfl, O6⟩
  clear HE O5
  go_wp2_with fail
  go_ret
  exact ⟨bb, mb, rfl, O6⟩
def jSeven : JV := ⟨⟨7, 1, 0, 1⟩, none, 0, 0⟩
theorem seven30_any (w : World) : Calls Tryz.prog 37 #[] w fun r w' => ∃ A, r = .returned (.slice A 1 1) ∧ Reads w' w'.heap.size 5 A 1 (jvCells [jSeven]) ∧ Ext w w' := by
  go_enter Tryz.func37, Tryz.ntmps37
  go_wp2_with fail
  go_ret
  exact ⟨_, rfl, reads_c w #[.int .i64 7, .int .i64 1, .int .i64 0, .int .i64 1, .slice none 0 0] 83 1 5 (jvCells [jSeven]) rfl rfl, (Ext.refl w).alloc _⟩
def repFirst : Rep := ⟨7, 1, 0, 100, 0, 7, 2, 1⟩
theorem first30_any (w : World) : Calls Tryz.prog 38 #[] w fun r w' => r = .returned repFirst.V ∧ Ext w w' := by
  go_enter Tryz.func38, Tryz.ntmps38
  go_wp2_with fail
  exact bodyPost_ret (results_c rfl rfl (ld_rep (Blk.new w _ _))) rfl ⟨rfl, (Ext.refl w).alloc _⟩
theorem mon10 : monI 10 = 0 := by
  have h : DateIs 10 1 0 10 := ⟨by omega, by omega, by decide, by decide⟩
  rw [monI_of h]; rfl
theorem mon12 : monI 12 = 0 := by
  have h : DateIs 12 1 0 12 := ⟨by omega, by omega, by decide, by decide⟩
  rw [monI_of h]; rfl
theorem of10 : ofI 1 10 = 0 := by unfold ofI; rw [mon10]; rfl
theorem of12 : ofI 1 12 = 0 := by unfold ofI; rw [mon12]; rfl
theorem per_mv3 : perM 1 0 mv3 = mv3 := by
  unfold perM mv3 inP
  simp [of10, of12]
theorem file_first : Bk.file bk1 [⟨7, 1, 0, 1⟩] 7 0 = (repFirst, 0) := by
  unfold Bk.file
  rw [if_neg (by decide), show findJ [⟨7, 1, 0, 1⟩] 7 = some ⟨7, 1, 0, 1⟩ by decide]
  simp only
  rw [if_neg (by decide), k_mv]
  have : repOf 7 1 0 mv3 = repFirst := by unfold repOf; rw [per_mv3]; decide
  rw [this, if_pos (by decide)]
theorem dec_lo {u : Nat} (h : u < 10) : Lib.decDigits u = [UInt8.ofNat (48 + u)] := by rw [Lib.decDigits, dif_pos h]
theorem dec_hi {u : Nat} (h : ¬ u < 10) : Lib.decDigits u = Lib.decDigits (u / 10) ++ [UInt8.ofNat (48 + u % 10)] := by rw [Lib.decDigits, dif_neg h]
theorem first_check : repFirst.check = 0 := by decide
theorem first_text : repFirst.textO = [55, 32, 48, 48, 48, 49, 45, 77, 48, 49, 32, 49, 48, 48, 32, 48, 32, 55, 32, 50, 32, 49] := by
  unfold Rep.textO
  rw [if_pos first_check]
  have e7 : Lib.itoa 7 = [55] := by unfold Lib.itoa; rw [if_neg (by decide)]; exact dec_lo (by decide)
  have e0 : Lib.itoa 0 = [48] := by unfold Lib.itoa; rw [if_neg (by decide)]; exact dec_lo (by decide)
  have e2 : Lib.itoa 2 = [50] := by unfold Lib.itoa; rw [if_neg (by decide)]; exact dec_lo (by decide)
  have e1 : Lib.itoa 1 = [49] := by unfold Lib.itoa; rw [if_neg (by decide)]; exact dec_lo (by decide)
  have e100 : Lib.itoa 100 = [49, 48, 48] := by
    unfold Lib.itoa; rw [if_neg (by decide)]
    show Lib.decDigits 100 = _
    rw [dec_hi (by decide), dec_hi (by decide), dec_lo (by decide)]
    rfl
  have hp : perText 1 0 = [48, 48, 48, 49, 45, 77, 48, 49] := by decide
  have hT : repTexts repFirst 8 = [Lib.itoa 7, perText 1 0, Lib.itoa 100, Lib.itoa 0, Lib.itoa 7, Lib.itoa 2, Lib.itoa 1] := rfl
  unfold Rep.text
  rw [hT, e7, e0, e2, e1, e100, hp]
  rfl
theorem first_i64 : repFirst.i64s := by constructor <;> decide
theorem b3_bk1 : bk1.b3 := by
  have h1 : (Bk.add [kpSale] (refundE 2 1 [50, 0])).1.b3 := add_b3 (by
    have := add_b3 Bk.b3_nil saleE
    rwa [add_sale0] at this) _
  rwa [k_ref2] at h1
/-- A report of a book in use. -/
theorem One.file {w W : World} {bb mb : Nat} {K : Bk} (h : One w W bb mb K) (hs : K.small) (h3 : K.b3) (hk : K.length ≤ 100000) (l : List JV) (A : Option Addr) (cap n : Nat) (hn : l.length = n) (hr : Reads W W.heap.size 5 A n (jvCells l)) (hm : n ≤ maxLen) (id p : Int) {R : Rep} {E : Int} (hF : K.file (jsOf l) id p = (R, E)) :
    Calls Tryz.prog 29 #[.pointer (some ⟨bb, 0, none⟩), .slice A n cap, .int .i64 id, .int .i64 p] W fun r W' => r = .returned (.tuple #[R.V, .int .i64 E]) ∧ One w W' bb mb K ∧ Ext W W' := by
  subst hn
  obtain ⟨v, M, hB, rfl, hx⟩ := h
  refine (rfile_any hB (by rw [← BkM.len_b]; exact hk) hs h3 l A cap hr hm id p).mono ?_
  rintro r W' ⟨rfl, hx2⟩
  rw [hF]
  exact ⟨rfl, ⟨v, M, hB.ext hx2, rfl, hx.trans hx2⟩, hx2⟩
theorem eq_first (w : World) : (binOp .eql 23 repFirst.V repFirst.V).run Tryz.prog w = .ok (.bool true) w := by kernel_rfl
set_option maxRecDepth 100000 in
set_option maxHeartbeats 2000000 in
theorem awake30_any (w : World) (ht : Tab10 w) : Calls Tryz.prog 10 #[] w fun r w' => r = .returned (.bool true) ∧ Ext w w' := by
  have HT := Lib.hid (fun W (hx : Ext w W) => ht.ext hx)
  clear ht
  go_enter Tryz.func10, Tryz.ntmps10
  go_wp2_with fail
  refine (sample30_any _).mono ?_
  rintro r w1 ⟨bb, mb, rfl, O1⟩
  go_wp2_with fail
  refine (seven30_any _).mono ?_
  rintro r w2 ⟨A2, rfl, R2, hx2⟩
  have O2 := O1.to hx2
  go_wp2_with fail
  refine (O2.file small_b1 b3_bk1 (by simp [bk1]) [jSeven] A2 1 1 rfl R2 (by simp [maxLen]) 7 0 file_first).mono ?_
  rintro r w3 ⟨rfl, O3, hx3⟩
  clear O1 O2 R2 hx2 hx3
  have X3 := O3.x
  clear O3
  go_wp2_with fail
  have B2 := Blk.new w3 23 #[.int .i64 repFirst.j, .int .i64 repFirst.k, .int .i64 repFirst.p, .int .i64 repFirst.t, .int .i64 repFirst.x, .int .i64 repFirst.v, .int .i64 repFirst.s, .int .i64 repFirst.r]
  have X4 := X3.alloc (.cells #[.int .i64 repFirst.j, .int .i64 repFirst.k, .int .i64 repFirst.p, .int .i64 repFirst.t, .int .i64 repFirst.x, .int .i64 repFirst.v, .int .i64 repFirst.s, .int .i64 repFirst.r] 23)
  generalize w3.alloc (.cells #[.int .i64 repFirst.j, .int .i64 repFirst.k, .int .i64 repFirst.p, .int .i64 repFirst.t, .int .i64 repFirst.x, .int .i64 repFirst.v, .int .i64 repFirst.s, .int .i64 repFirst.r] 23) = w4 at *
  generalize w3.heap.size = g2 at *
  refine (first30_any _).mono ?_
  rintro r w5 ⟨rfl, hx5⟩
  have X5 := X4.trans hx5
  have B5 := B2.ext hx5
  clear X4 B2 hx5
  have HTx := Lib.hid (rtext_any repFirst first_i64 _ (HT.out _ X5))
  rw [first_check, first_text] at HTx
  go_wp2_with fail
  refine HTx.out.mono ?_
  rintro r w6 ⟨rfl, hx6⟩
  have X6 := X5.trans hx6
  have B6 := B5.ext hx6
  clear X5 B5 hx6 HTx
  have HS := Lib.hid (fun (w' : World) (hx : Ext w6 w') => (show w'.cell? ⟨g2, 0, none⟩ = some (.int .i64 repFirst.j) ∧ w'.cell? ⟨g2, 1, none⟩ = some (.int .i64 repFirst.k) ∧ w'.cell? ⟨g2, 2, none⟩ = some (.int .i64 repFirst.p) ∧ w'.cell? ⟨g2, 3, none⟩ = some (.int .i64 repFirst.t) ∧ w'.cell? ⟨g2, 4, none⟩ = some (.int .i64 repFirst.x) ∧ w'.cell? ⟨g2, 5, none⟩ = some (.int .i64 repFirst.v) ∧ w'.cell? ⟨g2, 6, none⟩ = some (.int .i64 repFirst.s) ∧ w'.cell? ⟨g2, 7, none⟩ = some (.int .i64 repFirst.r) from
    have B := B6.ext hx
    ⟨B.cell 0, B.cell 1, B.cell 2, B.cell 3, B.cell 4, B.cell 5, B.cell 6, B.cell 7⟩))
  have S6 := Lib.hid (HS.out w6 (Ext.refl _))
  have heq := eq_first
  go_wp2_with fail
  go_region_held3 (fun w' => w'.cell? ⟨g2, 0, none⟩ = some (.int .i64 repFirst.j) ∧ w'.cell? ⟨g2, 1, none⟩ = some (.int .i64 repFirst.k) ∧ w'.cell? ⟨g2, 2, none⟩ = some (.int .i64 repFirst.p) ∧ w'.cell? ⟨g2, 3, none⟩ = some (.int .i64 repFirst.t) ∧ w'.cell? ⟨g2, 4, none⟩ = some (.int .i64 repFirst.x) ∧ w'.cell? ⟨g2, 5, none⟩ = some (.int .i64 repFirst.v) ∧ w'.cell? ⟨g2, 6, none⟩ = some (.int .i64 repFirst.s) ∧ w'.cell? ⟨g2, 7, none⟩ = some (.int .i64 repFirst.r))
    (first | (with_reducible exact HS.out _ (Ext.refl w6).drew) | (with_reducible exact HS.out _ hx7) | (exact S6.out))
    (first | (go_at_call 38; refine (first30_any _).mono ?_; rintro e w7 ⟨rfl, hx7a⟩; have hx7 : Ext w6 w7 := Ext.trans (Ext.refl w6).drew hx7a))
  all_goals
    go_wp2_with fail
    go_ret
    exact ⟨rfl, X6.trans hx7⟩
end Go.Proofs.YtokakpbpenndlaaGreatDoor

set_option linter.unusedVariables false
namespace Go.Proofs.YtokakpbpenndlaaGreatDoor
open Go.RowKit Go.Maps

set_option maxRecDepth 100000 in
set_option maxHeartbeats 2000000 in
theorem rbytes30_any (r : Rep) (hi : r.i64s) (w : World) : Calls Tryz.prog 12 #[r.V] w fun e w' => ∃ v, e = .returned (.tuple #[v, .int .i64 r.check]) ∧ w'.ownsRow w.heap.size 5 1 v r.bytes.length (bV r.bytes) ∧ Ext w w' ∧ AllP w' v u8P := by
  have X0 := (Ext.refl w).alloc (.cells #[.int .i64 r.j, .int .i64 r.k, .int .i64 r.p, .int .i64 r.t, .int .i64 r.x, .int .i64 r.v, .int .i64 r.s, .int .i64 r.r] 23)
  have B0 := Blk.new w 23 #[.int .i64 r.j, .int .i64 r.k, .int .i64 r.p, .int .i64 r.t, .int .i64 r.x, .int .i64 r.v, .int .i64 r.s, .int .i64 r.r]
  have HI := Lib.hid hi
  have HC := Lib.hid (rrcheck_any r hi.k)
  clear hi
  obtain ⟨C, hC⟩ : ∃ C, r.check = C := ⟨_, rfl⟩
  by_cases h0 : C = 0
  case neg =>
    have hb : (C != 0) = true := by simpa using h0
    have HO := Lib.hid (show r.bytes = [] by unfold Rep.bytes; rw [hC, if_neg h0])
    rw [hC] at HC ⊢
    replace hC := Lib.hid hC
    clear h0
    go_enter Tryz.func12, Tryz.ntmps12
    go_wp2_with fail
    refine (HC.out _).mono ?_
    rintro e w1 ⟨rfl, hx⟩
    go_wp2_with fail
    go_ret2
    refine ⟨_, rfl, ?_, X0.trans hx, AllP.nil _ _ _ _⟩
    rw [HO.out]; exact World.ownsRow_nil _ _ _ _
  subst h0
  have HO := Lib.hid (show r.bytes = putsL r.ints by unfold Rep.bytes; rw [if_pos hC])
  rw [hC] at HC ⊢
  replace hC := Lib.hid hC
  go_enter Tryz.func12, Tryz.ntmps12
  go_wp2_with fail
  refine (HC.out _).mono ?_
  rintro e w1 ⟨rfl, hx⟩
  have X1 := X0.trans hx
  have B1 := B0.ext hx
  clear X0 B0 hx
  generalize hg0 : w.heap.size = g1 at *
  go_wp2_with fail
  refine (rfields_any g1 _).mono ?_
  rintro e w2 ⟨rfl, hx⟩
  have X2 := X1.trans hx
  have B2 := B1.ext hx
  clear X1 B1 hx
  have hL8 : r.ints.length = 8 := rfl
  have HCS := Lib.hid (fun k hk => r.cs_at k hk)
  go_wp2_with fail
  go_loopw [5, 14] (fun o i wr => PutsRel w2 r.ints o i wr) (fun _ i _ => 8 - (intOf i).toNat)
  case atStart => exact ⟨0, by omega, rfl, World.ownsRow_nil _ _ _ _, Ext.refl _, AllP.nil _ _ _ _⟩
  case round =>
    obtain ⟨k, hk, rfl, hown, hx, hall⟩ := hrel
    have hlen2 := putsL_len (r.ints.take k)
    have hlen3 : (r.ints.take k).length ≤ k := List.length_take_le _ _
    by_cases hlt : k < 8
    · have hd : decide ((k : Int) < 8) = true := by simp; omega
      have hk8 : k < r.ints.length := by omega
      have hix := flds_at g1 k hlt
      have hc := ((B2.ext hx).cell k).trans (HCS.out k hk8)
      have hn := HI.out.at_ k hk8
      have hlen := putL_len (r.ints[k]'hk8)
      have HN := Lib.hid (fun (W : World) (v : Value) (n : Nat) (xs : List Value) ho hn hxs hx ha => PutsRel.next (w := w2) (l := r.ints) (k := k) (m := k + 1) (v1 := v) (n := n) (xs := xs) (w1 := W) hk8 ho hn hxs hx ha rfl)
      have hnl : (putsL (r.ints.take k)).length ≤ 1000 := by omega
      generalize r.ints[k]'hk8 = n at *
      generalize putsL (r.ints.take k) = L at *
      clear hlen2 hlen3
      go_wp2_with (first
        | (go_at_call 43; refine (oput_any _ hn.1 hn.2 _).mono ?_; rintro e w3 ⟨v3, rfl, hown1, hx1, _⟩; obtain ⟨A1, c1, rfl, hc1, hm1, hr1⟩ := own_slice hown1)
        | (at_builtin; refine wpl_app row_u8 w2 w3 (.tmp 17) (.tmp 21) rfl rfl rfl (own_ext hown hx1) (hx.trans hx1) rfl hr1 (bV_one _) (by omega) (by unfold maxLen; omega) ?_; intro v4 w4 hg4))
      go_roundw
      case rel => exact HN.out _ _ _ _ hg4.own rfl rfl hg4.ext (hg4.all u8P u8z (u8bb _ _) (hall.ext hx1))
      case measure => simp [intOf]; omega
    · have hd : decide ((k : Int) < 8) = false := by simp; omega
      have HO2 := PutsRel.done (by omega) hown
      clear hown
      go_wp2_with fail
      go_ret2
      refine ⟨_, rfl, ?_, X2.trans hx, hall⟩
      rw [HO.out]
      exact own_base HO2 X2.size
end Go.Proofs.YtokakpbpenndlaaGreatDoor

set_option linter.unusedVariables false
namespace Go.Proofs.YtokakpbpenndlaaGreatDoor
open Go.RowKit Go.Maps

/-- The reading of a report, the first k numbers read. -/
def rstF (f : RS → Int × RS) (s : RS) : Nat → RS × Array Value
  | 0 => (s, zRep)
  | k + 1 => ((f (rstF f s k).1).2, (rstF f s k).2.setIfInBounds k (.int .i64 (f (rstF f s k).1).1))
def numF (s : RS) : Int × RS := s.num (-9223372036854775808) 9223372036854775807 5
def repF (f : RS → Int × RS) (s : RS) : Rep × RS :=
  (⟨(f s).1, (f (f s).2).1, (f (f (f s).2).2).1, (f (f (f (f s).2).2).2).1, (f (f (f (f (f s).2).2).2).2).1, (f (f (f (f (f (f s).2).2).2).2).2).1, (f (f (f (f (f (f (f s).2).2).2).2).2).2).1, (f (f (f (f (f (f (f (f s).2).2).2).2).2).2).2).1⟩, (f (f (f (f (f (f (f (f s).2).2).2).2).2).2).2).2)
theorem rstF_8 (f : RS → Int × RS) (s : RS) : rstF f s 8 = ((repF f s).2, (repF f s).1.cs) := rfl
theorem repP_F (b : List UInt8) : repP b = repF numF (RS.start b) := rfl
def rst (b : List UInt8) (k : Nat) : RS × Array Value := rstF numF (RS.start b) k
theorem rst_8 (b : List UInt8) : rst b 8 = ((repP b).2, (repP b).1.cs) := by
  rw [repP_F]
  exact rstF_8 numF (RS.start b)
structure R8 (w w1 W : World) (b5 : Nat) (s : RS) (cs : Array Value) : Prop where
  rd : RdO W w1.heap.size s
  h2 : Blk W w.heap.size 23 zRep
  h5 : Blk W b5 23 cs
  ew : Ext w w1
  e1 : Ext w1 W
  lg : w.heap.size < w1.heap.size
  l5 : w1.heap.size < b5
theorem R8.ext {w w1 W : World} {b5 : Nat} {s : RS} {cs : Array Value} (h : R8 w w1 W b5 s cs) : Ext w W := h.ew.trans h.e1
theorem R8.call {w w1 W W' : World} {b5 : Nat} {s s' : RS} {cs : Array Value} (h : R8 w w1 W b5 s cs) (hR : RdO W' w1.heap.size s') (hG : W.grownBy W' (some w1.heap.size)) : R8 w w1 W' b5 s' cs := by
  have l := h.lg
  have l' := h.l5
  exact ⟨hR, h.h2.grown hG (by intro e; have := Option.some.inj e; omega), h.h5.grown hG (by intro e; have := Option.some.inj e; omega), h.ew, h.e1.grown hG (by intro k e; have := Option.some.inj e; omega), h.lg, h.l5⟩
theorem R8.to {w w1 W W' : World} {b5 : Nat} {s : RS} {cs : Array Value} (h : R8 w w1 W b5 s cs) (hx : Ext W W') : R8 w w1 W' b5 s cs :=
  ⟨h.rd.ext hx, h.h2.ext hx, h.h5.ext hx, h.ew, h.e1.trans hx, h.lg, h.l5⟩
theorem R8.set {w w1 W : World} {b5 : Nat} {s : RS} {cs : Array Value} (h : R8 w w1 W b5 s cs) (i : Nat) (v : Value) : R8 w w1 (W.setCell ⟨b5, i, none⟩ v) b5 s (cs.setIfInBounds i v) := by
  have l := h.lg
  have l' := h.l5
  exact ⟨h.rd.set (p := ⟨b5, i, none⟩) l' v, h.h2.far (p := ⟨b5, i, none⟩) (show w.heap.size ≠ b5 by omega) v, h.h5.set_ i v, h.ew, h.e1.set (p := ⟨b5, i, none⟩) (show w1.heap.size ≤ b5 by omega) v, l, l'⟩
def RrRel (w w1 : World) (b5 : Nat) (b : List UInt8) (i : Value) (wr : World) : Prop := ∃ k : Nat, k ≤ 8 ∧ i = .int .i64 (k : Int) ∧ R8 w w1 wr b5 (rst b k).1 (rst b k).2
theorem rstF_at (f : RS → Int × RS) (s : RS) : ∀ k, k < 8 → (rstF f s k).2[k]? = some (.int .i64 0)
  | 0, _ => rfl
  | 1, _ => rfl
  | 2, _ => rfl
  | 3, _ => rfl
  | 4, _ => rfl
  | 5, _ => rfl
  | 6, _ => rfl
  | 7, _ => rfl
  | n + 8, h => absurd h (by omega)
theorem rst_at (b : List UInt8) (k : Nat) (h : k < 8) : (rst b k).2[k]? = some (.int .i64 0) := rstF_at _ _ k h
theorem num_i64 (s : RS) (above : Int) : i64 (s.num (-9223372036854775808) 9223372036854775807 above).1 := by
  unfold RS.num
  by_cases h0 : s.fe ≠ 0
  · rw [if_pos h0]; exact (by decide : i64 0)
  rw [if_neg h0]
  simp only
  by_cases h1 : (getN s.b s.at_).fe ≠ 0
  · rw [if_pos h1]; exact (by decide : i64 0)
  rw [if_neg h1]
  by_cases h2 : 9223372036854775807 < (getN s.b s.at_).n
  · rw [if_pos h2]; exact (by decide : i64 0)
  rw [if_neg h2]
  by_cases h3 : (getN s.b s.at_).n < -9223372036854775808
  · rw [if_pos h3]; exact (by decide : i64 0)
  rw [if_neg h3]
  unfold i64
  omega
theorem repP_i64 (b : List UInt8) : (repP b).1.i64s := by
  constructor <;> exact num_i64 _ _
end Go.Proofs.YtokakpbpenndlaaGreatDoor

set_option linter.unusedVariables false
namespace Go.Proofs.YtokakpbpenndlaaGreatDoor
open Go.RowKit Go.Maps

theorem eql_rep (x y : Rep) (r : Bool) (h : r = decide (x = y)) (w : World) : (binOp .eql 23 x.V y.V).run Tryz.prog w = .ok (.bool r) w := by
  obtain ⟨a1, a2, a3, a4, a5, a6, a7, a8⟩ := x
  obtain ⟨b1, b2, b3, b4, b5, b6, b7, b8⟩ := y
  subst h
  by_cases h1 : a1 = b1
  case neg => simp [go_sem, h1]
  by_cases h2 : a2 = b2
  case neg => simp [go_sem, h1, h2]
  by_cases h3 : a3 = b3
  case neg => simp [go_sem, h1, h2, h3]
  by_cases h4 : a4 = b4
  case neg => simp [go_sem, h1, h2, h3, h4]
  by_cases h5 : a5 = b5
  case neg => simp [go_sem, h1, h2, h3, h4, h5]
  by_cases h6 : a6 = b6
  case neg => simp [go_sem, h1, h2, h3, h4, h5, h6]
  by_cases h7 : a7 = b7
  case neg => simp [go_sem, h1, h2, h3, h4, h5, h6, h7]
  by_cases h8 : a8 = b8
  case neg => simp [go_sem, h1, h2, h3, h4, h5, h6, h7, h8]
  subst h1 h2 h3 h4 h5 h6 h7 h8
  simp [go_sem]
theorem neq_rep (x y : Rep) (r : Bool) (h : r = decide (x ≠ y)) (w : World) : (binOp .neq 23 x.V y.V).run Tryz.prog w = .ok (.bool r) w := by
  obtain ⟨a1, a2, a3, a4, a5, a6, a7, a8⟩ := x
  obtain ⟨b1, b2, b3, b4, b5, b6, b7, b8⟩ := y
  subst h
  by_cases h1 : a1 = b1
  case neg => simp [go_sem, h1]
  by_cases h2 : a2 = b2
  case neg => simp [go_sem, h1, h2]
  by_cases h3 : a3 = b3
  case neg => simp [go_sem, h1, h2, h3]
  by_cases h4 : a4 = b4
  case neg => simp [go_sem, h1, h2, h3, h4]
  by_cases h5 : a5 = b5
  case neg => simp [go_sem, h1, h2, h3, h4, h5]
  by_cases h6 : a6 = b6
  case neg => simp [go_sem, h1, h2, h3, h4, h5, h6]
  by_cases h7 : a7 = b7
  case neg => simp [go_sem, h1, h2, h3, h4, h5, h6, h7]
  by_cases h8 : a8 = b8
  case neg => simp [go_sem, h1, h2, h3, h4, h5, h6, h7, h8]
  subst h1 h2 h3 h4 h5 h6 h7 h8
  simp [go_sem]
theorem rep_len {r : Rep} : r.bytes.length ≤ 1000 := by
  unfold Rep.bytes
  split
  · have := putsL_len r.ints
    have h8 : r.ints.length = 8 := rfl
    omega
  · simp
theorem readRep_cases (b : List UInt8) : ((readRep b).2 = 0 ∧ (readRep b).1 = (repP b).1) ∨ readRep b = (Rep.zero, 4) := by
  unfold readRep
  by_cases h : (repP b).2.fin.1 ≠ 0 ∨ (repP b).1.check ≠ 0
  · rw [if_pos h]; exact .inr rfl
  · rw [if_neg h]; exact .inl ⟨rfl, rfl⟩
end Go.Proofs.YtokakpbpenndlaaGreatDoor
