/-
  The statement BookAgain: the walk.
-/
import Derived.Test.YtehkmngbknbbaaaEy
import Derived.Deep.RegionHeld3
set_option linter.unusedVariables false
namespace Go.Proofs.Ytehkmngbknbbaaa
open Go.RowKit Go.Maps

def AgRel (w : World) (bb mb ml : Nat) (l : List EV) (i : Value) (wr : World) : Prop :=
  ∃ (k : Nat) (v : Value) (M : BkM) (es : List (Int × Value)), k ≤ l.length ∧ i = .int .i64 (k : Int) ∧ BookAt w wr bb mb v M ∧ Ext w wr ∧ Told (foot bb mb v M) w wr ml M.b es ∧ M.length ≤ k ∧ M.b.small
def AgRel2 (w : World) (bb mb ml : Nat) (l : List EV) (B : Bk) (vi vm : Value) (mv : List Mv) (i : Value) (wr : World) : Prop :=
  ∃ (k : Nat) (v : Value) (M : BkM) (es : List (Int × Value)), k ≤ l.length ∧ i = .int .i64 (k : Int) ∧ BookAt w wr bb mb v M ∧ Ext w wr ∧ Told (foot bb mb v M) w wr ml M.b es ∧ M.b = B ∧ Beside (foot bb mb v M) wr w.heap.size 3 1 vi B.length (iV B.ids) ∧ Beside (foot bb mb v M) wr w.heap.size 78 6 vm mv.length (mvCells mv)
theorem evCells_six {w W : World} {A : Option Addr} {l : List EV} {k : Nat} (hr : Reads w w.heap.size 6 A l.length (evCells l)) (hk : k < l.length) : ∃ g off, A = some ⟨g, off, none⟩ ∧ g < w.heap.size ∧ ∀ W, Ext w W → W.cell? ⟨g, off + k * 6, none⟩ = some (.int .i64 l[k].e.k) ∧ W.cell? ⟨g, off + k * 6 + 1, none⟩ = some (.int .i64 l[k].e.id) ∧ W.cell? ⟨g, off + k * 6 + 2, none⟩ = some (.int .i64 l[k].e.of_) ∧
    W.cell? ⟨g, off + k * 6 + 3, none⟩ = some (.int .i64 l[k].e.day) ∧ W.cell? ⟨g, off + k * 6 + 4, none⟩ = some (.slice l[k].A l[k].e.am.length l[k].c) ∧ W.cell? ⟨g, off + k * 6 + 5, none⟩ = some (.slice l[k].A' l[k].e.tax.length l[k].c') := by
  obtain ⟨g, off, rfl, hg, hc⟩ := hr.cellAt hk
  obtain ⟨e1, e2, e3, e4, e5, e6⟩ := evCells_at l k hk
  refine ⟨g, off, rfl, hg, fun W hx => ?_⟩
  have hr' := hr.extB (Nat.le_refl _) hx
  obtain ⟨g', off', e, _, hc'⟩ := hr'.cellAt hk
  injection e with e
  injection e with ea eb _
  subst ea eb
  exact ⟨hc' _ _ e1, hc' _ _ e2, hc' _ _ e3, hc' _ _ e4, hc' _ _ e5, hc' _ _ e6⟩

set_option maxRecDepth 100000 in
set_option maxHeartbeats 6000000 in
theorem bookAgain_any (l : List EV) (A : Option Addr) (cap : Nat) (j : Int) (w : World) (hr : Reads w w.heap.size 6 A l.length (evCells l)) (hm : l.length ≤ maxLen) (hok : ∀ x ∈ l, x.ok w) :
    Calls Try.prog 10 #[.slice A l.length cap, .int .i64 j] w fun r w' => r = .returned (.bool true) ∧ Ext w w' := by
  have HOK := Lib.hid hok
  clear hok
  go_enter Try.func10, Try.ntmps10
  go_wp2_with fail
  refine (bookKnown_any _).mono ?_
  rintro r w1 ⟨rfl, hx1⟩
  go_wp2_with fail
  refine (big_any l A cap 25 _ (hr.ext hx1) hm (by omega)).mono ?_
  rintro r w2 ⟨b, rfl, hfit, rfl⟩
  cases b
  case true =>
    go_wp2_with fail
    go_ret
    exact ⟨rfl, hx1⟩
  obtain ⟨hl25, _⟩ := hfit rfl
  clear hfit
  have hmm := @run_makeMap Try.prog
  go_wp2_with fail
  refine (newBook_any _).mono ?_
  rintro r w3 ⟨rfl, hB3, hx3⟩
  have HB3 := Lib.hid (show BookAt w w3 (w1.heap.size + 1) w1.heap.size (.slice none 0 0) [] from BookAt.empty hB3.blk hB3.map (by have := hx1.size; omega) hx1.size)
  have X3 := hx1.trans hx3
  clear hB3 hx1 hx3
  generalize w1.heap.size + 1 = bb at *
  generalize w1.heap.size = mb at *
  go_wp2_with fail
  have HR : AgRel w bb mb w3.heap.size l (.int .i64 0) (w3.alloc (.map #[] 0)) := by
    have hlt := HB3.out.lts
    have hx := (Ext.refl w3).alloc (.map #[] 0)
    refine ⟨0, .slice none 0 0, [], [], by omega, rfl, HB3.out.ext hx, X3.trans hx, ⟨World.ownsMap_made _ _ _ _, rfl, fun i h => by simp at h, fun hm => ?_⟩, by simp, small0⟩
    simp only [foot, Value.ownBlock, List.mem_cons, Option.toList_none, List.flatMap_nil, List.append_nil, List.not_mem_nil, or_false] at hm
    omega
  replace HR := Lib.hid HR
  have hmlw : w.heap.size ≤ w3.heap.size := X3.size
  clear HB3 X3 hmm
  generalize w3.alloc (.map #[] 0) = W3 at *
  generalize w3.heap.size = ml at *
  go_loopw [8] (fun i wr => AgRel w bb mb ml l i wr) (fun i _ => l.length - (intOf i).toNat)
  case atStart => exact HR.out
  case round =>
    clear HR
    obtain ⟨k, v, M, es, hk, rfl, hB, hX, hT, hML, hsm⟩ := hrel
    by_cases hlt : k < l.length
    · have hd : decide ((k : Int) < (l.length : Int)) = true := by simp; omega
      obtain ⟨g, off, rfl, hg, hc⟩ := evCells_six (W := w) hr hlt
      have hxo := HOK.out l[k] (List.getElem_mem hlt)
      have hz0 : (0 : Int) ≤ (k : Int) := Int.natCast_nonneg k
      have HC := Lib.hid hc
      have HXO := Lib.hid hxo
      have HB := Lib.hid hB
      have HT := Lib.hid hT
      have HS := Lib.hid hsm
      have HX := Lib.hid hX
      have hmk : M.length ≤ 100000 := by omega
      clear hc hxo hB hT hsm hX
      generalize l[k] = x at *
      go_wp2_with fail
      refine (ids_any HB.out (by omega)).mono ?_
      rintro r w4 ⟨Ai, ci, rfl, hoi, hx4⟩
      have BI := Beside.new (F := foot bb mb v M) (base := w.heap.size) (fun g hg => (HB.out.foot_ge g hg).2) hoi HX.out.size
      have X4 := HX.out.trans hx4
      have HB4 := Lib.hid (HB.out.ext hx4)
      have HT4 := Lib.hid (HT.out.to hx4)
      clear hoi HB HT HX hx4
      obtain ⟨c1, c2, c3, c4, c5, c6⟩ := HC.out _ X4
      go_wp2_with fail
      refine (bmay_any HB4.out x.e x.A x.A' x.c x.c' (HXO.out.ext X4).r).mono ?_
      rintro r w5 ⟨rfl, hx5⟩
      have X5 := X4.trans hx5
      have HB5 := Lib.hid (HB4.out.ext hx5)
      have HT5 := Lib.hid (HT4.out.to hx5)
      have BI5 := BI.to hx5
      clear HB4 HT4 BI X4 hx5 c1 c2 c3 c4 c5 c6
      obtain ⟨c1, c2, c3, c4, c5, c6⟩ := HC.out _ X5
      go_wp2_with fail
      refine (add_step HB5.out X5 x.e x.A x.A' x.c x.c' (HXO.out.ext X5).r hmk HS.out).mono ?_
      rintro r w6 ⟨A6, c60, v6, M6, rfl, hB6, hM6, X6, hS6, hN6⟩
      have HB6 := Lib.hid hB6
      have HN6 := Lib.hid hN6
      have BI6 := Lib.hid (BI5.step hS6)
      have HS6 := Lib.hid hS6
      have hi := HXO.out.ik.2.1
      have hsm6 := Lib.hid (show M6.b.small by rw [hM6]; exact add_small HS.out x.e)
      clear hB6 hN6 BI5 hS6 c1 c2 c3 c4 c5 c6
      obtain ⟨c1, c2, c3, c4, c5, c6⟩ := HC.out _ X6
      by_cases hm0 : M.b.may x.e = 0
      · obtain ⟨_, hy1, hy2⟩ := add_yes hm0
        rw [← hM6] at hy1 hy2
        have hl6 : M6.length ≤ k + 1 := by rw [← BkM.len_b, hy2, BkM.len_b]; omega
        have HY := Lib.hid hy1
        have HT6 := Lib.hid (HT5.out.step (B' := M.b) HS6.out rfl)
        have hel : es.length = M.length := by rw [HT6.out.len, BkM.len_b]
        rw [hm0]
        clear hy1 hy2 hm0 HT5 HB5 BI6 HS6 X5
        replace hel := Lib.hid hel
        replace hM6 := Lib.hid hM6
        generalize (M.b.add x.e).2.1 = L at *
        go_wp2_with (at_mapUpdate; refine wpList_mapUpdate_own _ rfl _ _ _ 94 rfl 3 49 lawI Try.underlying94 sliceR ml es.length _ rfl HT6.out.map (by rw [hel.out]; unfold maxLen; omega) _ _ _ rfl rfl (keyI x.e.id hi) (sliceD (.slice A6 L.length c60)) [] (own_sliceR HN6.out.own) ?_; intro w7 hown7 hgrow7; have HO7 := Lib.hid hown7; have HG7 := Lib.hid hgrow7; clear hown7 hgrow7)
        have X7 : Ext w w7 := X6.grown HG7.out (fun k e => by rw [← Option.some.inj e]; exact hmlw)
        go_roundw
        case rel => exact ⟨k + 1, v6, M6, es ++ [(x.e.id, .slice A6 L.length c60)], by omega, rfl, HB6.out.othermap HT6.out.map HG7.out HT6.out.out, X7, HT6.out.snoc HY.out HN6.out HO7.out HG7.out, hl6, hsm6.out⟩
        case measure => simp [intOf]; omega
      · have hbm : (M.b.may x.e == 0) = false := by simpa using hm0
        have hM6' := hM6.trans (add_no hm0)
        have HT6 := Lib.hid (HT5.out.step (B' := M6.b) HS6.out (by rw [hM6']))
        have hl6 : M6.length = M.length := by rw [← BkM.len_b, hM6', BkM.len_b]
        replace hM6' := Lib.hid hM6'
        replace hm0 := Lib.hid hm0
        replace hM6 := Lib.hid hM6
        clear HT5 HB5 HS6 X5 HN6
        generalize (M.b.add x.e).2.1 = L at *
        generalize M.b.may x.e = f at *
        have HIDS := ids_any HB6.out (by omega)
        rw [hl6] at HIDS
        have hl6' : M6.length ≤ k + 1 := by omega
        have hle6 := Lib.hid (show M6.b.ids.length = M.length by rw [← hl6, ← BkM.len_b]; simp [Bk.ids])
        clear hl6
        replace HIDS := Lib.hid HIDS
        go_wp2_with fail
        refine HIDS.out.mono ?_
        rintro r w7 ⟨A7, c7, rfl, ho7, hx7⟩
        have BI7 := BI6.out.to hx7
        go_wp2_with fail
        refine (sameInts_any M6.b.ids M.b.ids A7 Ai M.length M.length c7 ci _ hle6.out (by rw [← BkM.len_b]; simp [Bk.ids]) (Reads.of_own ho7) (Reads.of_own BI7.own) (by unfold maxLen; omega) (by unfold maxLen; omega)).mono ?_
        rintro r w8 ⟨rfl, hx8⟩
        rw [hM6'.out]
        simp only [decide_true]
        have hx78 := Lib.hid (hx7.trans hx8)
        clear ho7 BI7 hx7 hx8
        go_wp2_with fail
        go_roundw
        case rel => exact ⟨k + 1, v6, M6, es, by omega, rfl, HB6.out.ext hx78.out, X6.trans hx78.out, HT6.out.to hx78.out, hl6', hsm6.out⟩
        case measure => simp [intOf]; omega
    · have hd : decide ((k : Int) < (l.length : Int)) = false := by simp; omega
      have HB := Lib.hid hB
      have HT := Lib.hid hT
      have HS := Lib.hid hsm
      clear hB hT hsm
      generalize wr = W4 at *
      go_wp2_with fail
      refine (ids_any HB.out (by omega)).mono ?_
      rintro r w5 ⟨Ai, ci, rfl, hoi, hx5⟩
      have BI := Beside.new (F := foot bb mb v M) (base := w.heap.size) (fun g hg => (HB.out.foot_ge g hg).2) hoi hX.size
      have X5 := hX.trans hx5
      have HB5 := Lib.hid (HB.out.ext hx5)
      have HT5 := Lib.hid (HT.out.to hx5)
      clear hoi HB HT hX hx5
      go_wp2_with fail
      refine (moves_any HB5.out j (by omega) HS.out).mono ?_
      rintro r w6 ⟨Am, cm, rfl, hom, hx6⟩
      have BM := Beside.new (F := foot bb mb v M) (base := w.heap.size) (fun g hg => (HB5.out.foot_ge g hg).2) hom X5.size
      have X6 := X5.trans hx6
      have HR2 := Lib.hid (show AgRel2 w bb mb ml l M.b (.slice Ai M.length ci) (.slice Am (M.b.moves j).length cm) (M.b.moves j) (.int .i64 0) w6 from
        ⟨0, v, M, es, by omega, rfl, HB5.out.ext hx6, X6, HT5.out.to hx6, rfl, by rw [BkM.len_b]; exact BI.to hx6, BM⟩)
      clear HB5 HT5 BI BM X5 X6 hx6 hom
      go_wp2_with fail
      go_loopw [15] (fun i wr => AgRel2 w bb mb ml l M.b (.slice Ai M.length ci) (.slice Am (M.b.moves j).length cm) (M.b.moves j) i wr) (fun i _ => l.length - (intOf i).toNat)
      case atStart => exact HR2.out
      case round =>
        clear HR2
        obtain ⟨k, v2, M2, es2, hk, rfl, hB, hX, hT, hMB, hBI, hBM⟩ := hrel
        have hn2 : M2.length = M.length := by rw [← BkM.len_b, hMB, BkM.len_b]
        have hmk : M2.length ≤ 100000 := by omega
        have hsm2 : M2.b.small := by rw [hMB]; exact HS.out
        replace hsm2 := Lib.hid hsm2
        replace hn2 := Lib.hid hn2
        replace hMB := Lib.hid hMB
        have HB := Lib.hid hB
        have HT := Lib.hid hT
        have HI := Lib.hid hBI
        have HMv := Lib.hid hBM
        have HX := Lib.hid hX
        clear hB hT hBI hBM hX
        by_cases hlt : k < l.length
        · have hd : decide ((k : Int) < (l.length : Int)) = true := by simp; omega
          obtain ⟨g, off, rfl, hg, hc⟩ := evCells_six (W := w) hr hlt
          have hxo := HOK.out l[k] (List.getElem_mem hlt)
          have hz0 : (0 : Int) ≤ (k : Int) := Int.natCast_nonneg k
          have hz1 : (k : Int) < (l.length : Int) := by omega
          have HC := Lib.hid hc
          have HXO := Lib.hid hxo
          clear hc hxo
          generalize l[k] = x at *
          have hi := HXO.out.ik.2.1
          have HNx := Lib.hid (fun (W' : World) (v3 : Value) (M3 : BkM) (es3 : List (Int × Value)) h1 h2 h3 h4 h5 h6 => (show AgRel2 w bb mb ml l M.b (.slice Ai M.length ci) (.slice Am (M.b.moves j).length cm) (M.b.moves j) (.int .i64 ((k + 1 : Nat) : Int)) W' from ⟨k + 1, v3, M3, es3, by omega, rfl, h1, h2, h3, h4, h5, h6⟩))
          obtain ⟨c1, c2, c3, c4, c5, c6⟩ := HC.out _ HX.out
          cases hf : M2.find x.e.id with
          | none =>
            replace hf := Lib.hid hf
            go_wp2_with fail
            refine (entry_none HB.out x.e.id hi hf.out).mono ?_
            rintro r w7 ⟨rfl, hx7⟩
            have hx8 := Lib.hid (hx7.alloc (.cells #[.int .i64 0, .int .i64 0, .int .i64 0, .int .i64 0, .slice none 0 0, .slice none 0 0] 66))
            clear hx7 c1 c2 c3 c4 c5 c6
            go_wp2_with fail
            go_roundw
            case rel => exact HNx.out _ v2 M2 es2 (HB.out.ext hx8.out) (HX.out.trans hx8.out) (HT.out.to hx8.out) hMB.out (HI.out.to hx8.out) (HMv.out.to hx8.out)
            case measure => simp [intOf]; omega
          | some p =>
            have hfb : M2.b.find x.e.id = some p.1 := by rw [BkM.find_b, hf]; rfl
            replace hf := Lib.hid hf
            go_wp2_with fail
            refine (entry_some HB.out x.e.id hi hf.out).mono ?_
            rintro r w7 ⟨E1, E2, f1, f2, rfl, hE⟩
            have hx7 := hE.ext
            have hg16 : ∀ g ∈ foot bb mb v2 M2, g < w7.heap.size := fun g hg => Nat.lt_of_lt_of_le (HB.out.foot_ge g hg).2 hx7.size
            clear hE c1 c2 c3 c4 c5 c6
            have B16 := Blk.new w7 66 #[.int .i64 p.1.e.k, .int .i64 p.1.e.id, .int .i64 p.1.e.of_, .int .i64 p.1.e.day, .slice E1 p.1.e.am.length f1, .slice E2 p.1.e.tax.length f2]
            have hx8 := hx7.alloc (.cells #[.int .i64 p.1.e.k, .int .i64 p.1.e.id, .int .i64 p.1.e.of_, .int .i64 p.1.e.day, .slice E1 p.1.e.am.length f1, .slice E2 p.1.e.tax.length f2] 66)
            have X8 := HX.out.trans hx8
            have HB8 := Lib.hid (HB.out.ext hx8)
            have HT8 := Lib.hid (HT.out.to hx8)
            have HI8 := Lib.hid (HI.out.to hx8)
            have HM8 := Lib.hid (HMv.out.to hx8)
            obtain ⟨c1, c2, c3, c4, c5, c6⟩ := HC.out _ X8
            clear hx7 hx8 HB HT HI HMv HX
            go_wp2_with fail
            generalize w7.alloc (.cells #[.int .i64 p.1.e.k, .int .i64 p.1.e.id, .int .i64 p.1.e.of_, .int .i64 p.1.e.day, .slice E1 p.1.e.am.length f1, .slice E2 p.1.e.tax.length f2] 66) = w8 at *
            generalize w7.heap.size = g16 at *
            refine (bcheck_any x.e x.A x.A' x.c x.c' _ (HXO.out.ext X8).r).mono ?_
            rintro r w9 ⟨rfl, hx9⟩
            have X9 := X8.trans hx9
            have HB9 := Lib.hid (HB8.out.ext hx9)
            have HT9 := Lib.hid (HT8.out.to hx9)
            have HI9 := Lib.hid (HI8.out.to hx9)
            have HM9 := Lib.hid (HM8.out.to hx9)
            have B9 := B16.ext hx9
            clear HB8 HT8 HI8 HM8 B16 X8 hx9 c1 c2 c3 c4 c5 c6
            by_cases hc0 : x.e.check = 0
            case neg =>
              have hcb : (x.e.check != 0) = true := by simpa using hc0
              clear hc0 B9
              go_wp2_with fail
              go_roundw
              case rel => exact HNx.out _ v2 M2 es2 HB9.out X9 HT9.out hMB.out HI9.out HM9.out
              case measure => simp [intOf]; omega
            obtain ⟨h7, h7k⟩ := may_there hc0 hfb
            rw [hc0]
            obtain ⟨c1, c2, c3, c4, c5, c6⟩ := HC.out _ X9
            replace hc0 := Lib.hid hc0
            replace h7k := Lib.hid h7k
            replace hfb := Lib.hid hfb
            have HB16 := Lib.hid B9
            clear B9
            go_wp2_with fail
            refine (add_step HB9.out X9 x.e x.A x.A' x.c x.c' (HXO.out.ext X9).r hmk hsm2.out).mono ?_
            rintro r w10 ⟨A10, c10, v10, M10, rfl, hB10, hM10, X10, hS10, hN10⟩
            have hM10' := hM10.trans (add_no (by rw [h7]; decide))
            rw [h7]
            replace h7 := Lib.hid h7
            have HB10 := Lib.hid hB10
            have hMB10 := Lib.hid (hM10'.trans hMB.out)
            have HT10 := HT9.out.step (B' := M10.b) hS10 (by rw [hM10'])
            have HI10 := Lib.hid (HI9.out.step hS10)
            have HM10 := Lib.hid (HM9.out.step hS10)
            have B10 := hS10.chg.blk HB16.out (fun hm => absurd (hg16 _ hm) (Nat.lt_irrefl _))
            obtain ⟨z, z'⟩ := B10.cells
            have lg16 := B10.lt
            obtain ⟨c1, c2, c3, c4, c5, c6⟩ := HC.out _ X10
            have HND := Lib.hid hB10.nodup
            replace hM10 := Lib.hid hM10
            clear HB9 HT9 HI9 HM9 X9 hS10 B10 HB16 hg16 hB10
            by_cases hkk : p.1.e.k = x.e.k
            · have hkb : (p.1.e.k == x.e.k) = true := by simpa using hkk
              have hadd := h7k.out hkk
              have hL : M10.b.lines x.e.id = (M2.b.add x.e).2.1 := by rw [hM10', hadd]
              obtain ⟨hrun, hb11⟩ := HT10.look HND.out x.e.id hi (by rw [hM10', hfb.out]; rfl)
              rw [hL] at hb11
              obtain ⟨A11, c11, ev11, _, _, hr11⟩ := own_slice hb11.own
              have hr10 := Reads.of_own hN10.own
              have hn10 : (M2.b.add x.e).2.1.length ≤ 6400 := by rw [← hL]; exact lines_small (by rw [hM10']; exact hsm2.out) _
              have hsome : (M10.b.find x.e.id).isSome = true := by rw [hM10', hfb.out]; rfl
              have HLK := Lib.hid (fun W2 (h : Ext w10 W2) => (show (Instr.lookup 94 (.map (some ml)) (.int .i64 x.e.id) false).run Try.prog W2 = .ok (.slice A11 (M2.b.add x.e).2.1.length c11) W2 from by rw [← ev11]; exact ((HT10.to h).look HND.out x.e.id hi hsome).1))
              have HZ := Lib.hid (fun W2 (h : Ext w10 W2) => (show W2.cell? ⟨g16, 0, none⟩ = some (.int .i64 p.1.e.k) from (h.cell _ _ _ lg16).trans (z 0)))
              replace hkk := Lib.hid hkk
              replace hadd := Lib.hid hadd
              replace hL := Lib.hid hL
              replace hM10' := Lib.hid hM10'
              replace ev11 := Lib.hid ev11
              replace hsome := Lib.hid hsome
              have HT10 := Lib.hid HT10
              have hr10 := Lib.hid hr10
              have hr11 := Lib.hid hr11
              clear hN10 hb11 hrun
              generalize (M2.b.add x.e).2.1 = L at *
              have HQ := Lib.hid (fun W2 (h : Ext w10 W2) => (show W2.cell? ⟨g16, 0, none⟩ = some (.int .i64 p.1.e.k) ∧ W2.cell? ⟨g, off + k * 6, none⟩ = some (.int .i64 x.e.k) ∧ W2.cell? ⟨g, off + k * 6 + 1, none⟩ = some (.int .i64 x.e.id) ∧ (Instr.lookup 94 (.map (some ml)) (.int .i64 x.e.id) false).run Try.prog W2 = .ok (.slice A11 L.length c11) W2 from ⟨HZ.out W2 h, (HC.out W2 (X10.trans h)).1, (HC.out W2 (X10.trans h)).2.1, HLK.out W2 h⟩))
              clear z z' c1 c2 c3 c4 c5 c6
              obtain ⟨s1, s2, s3, s4⟩ := HQ.out _ (Ext.refl w10)
              go_wp2_with fail
              go_region_held3 (fun w' => w'.cell? ⟨g16, 0, none⟩ = some (.int .i64 p.1.e.k) ∧ w'.cell? ⟨g, off + k * 6, none⟩ = some (.int .i64 x.e.k) ∧ w'.cell? ⟨g, off + k * 6 + 1, none⟩ = some (.int .i64 x.e.id) ∧ (Instr.lookup 94 (.map (some ml)) (.int .i64 x.e.id) false).run Try.prog w' = .ok (.slice A11 L.length c11) w')
                (first | (with_reducible exact HQ.out _ (Ext.refl w10).drew) | (with_reducible exact HQ.out _ hx13.out))
                (first
                | (go_at_call 45; refine (sameTax_any L L A10 A11 L.length L.length c10 c11 _ rfl rfl (hr10.out.ext (Ext.refl w10).drew) (hr11.out.ext (Ext.refl w10).drew) (by unfold maxLen; omega) (by unfold maxLen; omega)).mono ?_; rintro r w12 ⟨rfl, hx12⟩; simp only [decide_true]; have hx13 := Lib.hid (Ext.trans (Ext.refl w10).drew hx12); clear hx12))
              all_goals
                go_wp2_with fail
                go_roundw
                case rel => exact HNx.out _ v10 M10 es2 (HB10.out.ext hx13.out) (X10.trans hx13.out) (HT10.out.to hx13.out) hMB10.out (HI10.out.to hx13.out) (HM10.out.to hx13.out)
                case measure => simp [intOf]; omega
            · have hkb : (p.1.e.k == x.e.k) = false := by simpa using hkk
              replace hkk := Lib.hid hkk
              replace hM10' := Lib.hid hM10'
              have HT10 := Lib.hid HT10
              clear hN10
              generalize (M2.b.add x.e).2.1 = L at *
              go_wp2_with fail
              go_quiet (fail)
              go_wp2_with fail
              go_roundw
              case rel => exact HNx.out _ v10 M10 es2 (HB10.out.ext ((Ext.refl w10).drewN _)) (X10.drewN _) (HT10.out.to ((Ext.refl w10).drewN _)) hMB10.out (HI10.out.to ((Ext.refl w10).drewN _)) (HM10.out.to ((Ext.refl w10).drewN _))
              case measure => simp [intOf]; omega
        · have hd : decide ((k : Int) < (l.length : Int)) = false := by simp; omega
          generalize wr = w7 at *
          go_wp2_with fail
          refine (ids_any HB.out (by omega)).mono ?_
          rintro r w8 ⟨A8, c8, rfl, ho8, hx8⟩
          go_wp2_with fail
          refine (sameInts_any M2.b.ids M.b.ids A8 Ai M2.length M.length c8 ci _ (by rw [← BkM.len_b]; simp [Bk.ids]) (by rw [← BkM.len_b]; simp [Bk.ids]) (Reads.of_own ho8) (by have h := (HI.out.to hx8).own; rw [BkM.len_b] at h; exact Reads.of_own h) (by unfold maxLen; omega) (by unfold maxLen; omega)).mono ?_
          rintro r w9 ⟨rfl, hx9⟩
          rw [hMB.out]
          simp only [decide_true]
          have X9 := hx8.trans hx9
          clear ho8 hx8 hx9
          go_wp2_with fail
          refine (moves_any (HB.out.ext X9) j hmk hsm2.out).mono ?_
          rintro r w10 ⟨A10, c10, rfl, ho10, hx10⟩
          go_wp2_with fail
          rw [hMB.out] at ho10 ⊢
          have hlm : (M.b.moves j).length ≤ 1000000000 := by
            have h1 := allmoves_len HS.out j M.b (fun x hx => hx)
            have h2 : M.b.length ≤ 100000 := by rw [BkM.len_b]; omega
            have h3 : (M.b.moves j).length ≤ M.b.length * 6400 := h1
            omega
          refine (sameMoves_any (M.b.moves j) (M.b.moves j) A10 Am (M.b.moves j).length (M.b.moves j).length c10 cm _ rfl rfl (Reads.of_own ho10) (Reads.of_own (HMv.out.to (X9.trans hx10)).own) (by unfold maxLen; omega) (by unfold maxLen; omega)).mono ?_
          rintro r w11 ⟨rfl, hx11⟩
          simp only [decide_true]
          go_wp2_with fail
          go_ret
          exact ⟨rfl, HX.out.trans (X9.trans (hx10.trans hx11))⟩
end Go.Proofs.Ytehkmngbknbbaaa
