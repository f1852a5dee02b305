/-
  What a book tells: Voided, Left, IDs, Lines.
-/
import Derived.Test.YtehkmngbknbbaaaRk18
set_option linter.unusedVariables false
namespace Go.Proofs.Ytehkmngbknbbaaa
open Go.RowKit Go.Maps

/-- An entry's slices, opened. -/
structure KpOpen (W : World) (m : Slot) (x : Kp) (Aa At Al Ab : Option Addr) (ca ct cl cb : Nat) : Prop where
  va : m.va = .slice Aa x.e.am.length ca
  vt : m.vt = .slice At x.e.tax.length ct
  vl : m.vl = .slice Al x.lines.length cl
  vb : m.vb = .slice Ab x.back.length cb
  blk : Blk W m.g 134 #[.int .i64 x.e.k, .int .i64 x.e.id, .int .i64 x.e.of_, .int .i64 x.e.day, .slice Aa x.e.am.length ca, .slice At x.e.tax.length ct, .slice Al x.lines.length cl, .slice Ab x.back.length cb, .bool x.voided]
  ra : Reads W W.heap.size 1 Aa x.e.am.length (iV x.e.am)
  rt : Reads W W.heap.size 6 At x.e.tax.length (txCells x.e.tax)
  rl : Reads W W.heap.size 6 Al x.lines.length (txCells x.lines)
  rb : Reads W W.heap.size 1 Ab x.back.length (iV x.back)
  la : x.e.am.length ≤ ca ∧ ca ≤ maxLen
  lt : x.e.tax.length ≤ ct ∧ ct ≤ maxLen
  ll : x.lines.length ≤ cl ∧ cl ≤ maxLen
  lb : x.back.length ≤ cb ∧ cb ≤ maxLen
theorem KpAt.open_ {w0 W : World} {m : Slot} {x : Kp} (h : KpAt w0 W m x) : ∃ Aa At Al Ab ca ct cl cb, KpOpen W m x Aa At Al Ab ca ct cl cb := by
  obtain ⟨Aa, ca, ea, la1, la2, ra⟩ := own_slice h.oa
  obtain ⟨At, ct, et, lt1, lt2, rt⟩ := own_slice h.ot
  obtain ⟨Al, cl, el, ll1, ll2, rl⟩ := own_slice h.ol
  obtain ⟨Ab, cb, eb, lb1, lb2, rb⟩ := own_slice h.ob
  have hb := h.blk
  rw [ea, et, el, eb] at hb
  exact ⟨Aa, At, Al, Ab, ca, ct, cl, cb, ea, et, el, eb, hb, ra, rt, rl, rb, ⟨la1, la2⟩, ⟨lt1, lt2⟩, ⟨ll1, ll2⟩, ⟨lb1, lb2⟩⟩

set_option maxRecDepth 100000 in
set_option maxHeartbeats 1000000 in
theorem voided_any {w0 W : World} {bb mb : Nat} {vids : Value} {M : BkM} (h : BookAt w0 W bb mb vids M) (id : Int) (hi : i64 id) :
    Calls Try.prog 49 #[.pointer (some ⟨bb, 0, none⟩), .int .i64 id] W fun e w' => e = .returned (.bool (M.b.voided id)) ∧ W = w' := by
  have HB := Lib.hid h
  have hS := BkM.sale_b M id
  cases hf : M.saleM id with
  | none =>
    rw [hf] at hS
    have hR := Lib.hid (show M.b.voided id = false by unfold Bk.voided; rw [hS]; rfl)
    have hP := Lib.hid (show M.saleP id = .pointer none by unfold BkM.saleP; rw [hf])
    clear hS hf h
    go_enter Try.func49, Try.ntmps49
    go_wp2_with fail
    refine (sale_any HB.out id hi).mono ?_
    rintro e w' ⟨rfl, rfl⟩
    rw [hP.out]
    go_wp2_with fail
    go_ret
    exact ⟨by rw [hR.out]; rfl, rfl⟩
  | some p =>
    rw [hf] at hS
    have hR := Lib.hid (show M.b.voided id = p.1.voided by unfold Bk.voided; rw [hS]; rfl)
    have hP := Lib.hid (show M.saleP id = .pointer (some ⟨p.2.g, 0, none⟩) by unfold BkM.saleP; rw [hf])
    obtain ⟨k, k'⟩ := (h.all p (BkM.saleM_mem hf).1).blk.cells
    clear hS hf h
    go_enter Try.func49, Try.ntmps49
    go_wp2_with fail
    refine (sale_any HB.out id hi).mono ?_
    rintro e w' ⟨rfl, rfl⟩
    rw [hP.out]
    go_wp2_with fail
    go_ret
    exact ⟨by rw [hR.out]; rfl, rfl⟩

set_option maxRecDepth 100000 in
set_option maxHeartbeats 1000000 in
theorem ids_any {w0 W : World} {bb mb : Nat} {vids : Value} {M : BkM} (h : BookAt w0 W bb mb vids M) (hm : M.length ≤ 1000000) :
    Calls Try.prog 56 #[.pointer (some ⟨bb, 0, none⟩)] W fun e w' => ∃ A c, e = .returned (.slice A M.length c) ∧ w'.ownsRow W.heap.size 3 1 (.slice A M.length c) M.length (iV M.b.ids) ∧ Ext W w' := by
  have HB := Lib.hid h
  obtain ⟨A, c, rfl, l1, l2, hr⟩ := own_slice h.ids
  obtain ⟨q, q'⟩ := h.blk.cells
  clear h
  go_enter Try.func56, Try.ntmps56
  go_wp2_with fail
  refine (none_any HB.out).mono ?_
  rintro e w' ⟨rfl, rfl⟩
  go_wp2_with fail
  refine (cloneInts_any M.b.ids M.length A c _ (by simp [BkM.b, Bk.ids]) hr hm).mono ?_
  rintro e w' ⟨A', c', rfl, ho, hx⟩
  go_wp2_with fail
  go_ret
  exact ⟨A', c', rfl, ho, hx⟩

set_option maxRecDepth 100000 in
set_option maxHeartbeats 1000000 in
theorem lines_any {w0 W : World} {bb mb : Nat} {vids : Value} {M : BkM} (h : BookAt w0 W bb mb vids M) (id : Int) (hi : i64 id) (hm : (M.b.lines id).length ≤ 1000000) :
    Calls Try.prog 55 #[.pointer (some ⟨bb, 0, none⟩), .int .i64 id] W fun e w' => ∃ A c, e = .returned (.slice A (M.b.lines id).length c) ∧ w'.ownsRow W.heap.size 46 6 (.slice A (M.b.lines id).length c) (M.b.lines id).length (txCells (M.b.lines id)) ∧ Ext W w' := by
  have HB := Lib.hid h
  have hl := h.look id hi
  have hF := BkM.find_b M id
  obtain ⟨q, q'⟩ := h.blk.cells
  cases hf : M.find id with
  | none =>
    rw [hf] at hF
    have hR := Lib.hid (show M.b.lines id = [] by unfold Bk.lines; rw [hF]; rfl)
    have hp0 : M.ptr id = .pointer none := by unfold BkM.ptr; rw [hf]
    rw [hp0] at hl
    clear hF hf hp0 h
    go_enter Try.func55, Try.ntmps55
    go_wp2_with fail
    refine (none_any HB.out).mono ?_
    rintro e w' ⟨rfl, rfl⟩
    go_wp2_with fail
    go_ret
    exact ⟨none, 0, by rw [hR.out]; rfl, by rw [hR.out]; exact World.ownsRow_nil _ _ _ _, Ext.refl _⟩
  | some p =>
    rw [hf] at hF
    have hR := Lib.hid (show M.b.lines id = p.1.lines by unfold Bk.lines; rw [hF]; rfl)
    have hp0 : M.ptr id = .pointer (some ⟨p.2.g, 0, none⟩) := by unfold BkM.ptr; rw [hf]
    rw [hp0] at hl
    obtain ⟨Aa, At, Al, Ab, ca, ct, cl, cb, O⟩ := (h.all p (BkM.find_mem hf).1).open_
    obtain ⟨k, k'⟩ := O.blk.cells
    have hrl := Lib.hid O.rl
    have hlm : p.1.lines.length ≤ 1000000 := by rw [← hR.out]; exact hm
    clear hF hf hp0 h O hm
    go_enter Try.func55, Try.ntmps55
    go_wp2_with fail
    refine (none_any HB.out).mono ?_
    rintro e w' ⟨rfl, rfl⟩
    go_wp2_with fail
    refine (cloneTax_any p.1.lines p.1.lines.length Al cl _ rfl hrl.out hlm).mono ?_
    rintro e w' ⟨A', c', rfl, ho, hx⟩
    go_wp2_with fail
    go_ret
    exact ⟨A', c', by rw [hR.out]; rfl, by rw [hR.out]; exact ho, hx⟩

set_option maxRecDepth 100000 in
set_option maxHeartbeats 2000000 in
theorem left_any {w0 W : World} {bb mb : Nat} {vids : Value} {M : BkM} (h : BookAt w0 W bb mb vids M) (id line : Int) (hi : i64 id) :
    Calls Try.prog 44 #[.pointer (some ⟨bb, 0, none⟩), .int .i64 id, .int .i64 line] W fun e w' => e = .returned (.tuple #[.int .i64 (M.b.left id line).1, .bool (M.b.left id line).2]) ∧ Ext W w' := by
  have HB := Lib.hid h
  have hS := BkM.sale_b M id
  cases hf : M.saleM id with
  | none =>
    rw [hf] at hS
    have hR := Lib.hid (show M.b.left id line = (0, false) by unfold Bk.left; rw [hS]; rfl)
    have hP := Lib.hid (show M.saleP id = .pointer none by unfold BkM.saleP; rw [hf])
    clear hS hf h
    go_enter Try.func44, Try.ntmps44
    go_wp2_with fail
    refine (sale_any HB.out id hi).mono ?_
    rintro e w' ⟨rfl, rfl⟩
    rw [hP.out]
    go_wp2_with fail
    go_ret2
    exact ⟨by rw [hR.out]; rfl, Ext.refl _⟩
  | some p =>
    rw [hf] at hS
    have hR0 := Lib.hid (show M.b.left id line = (if line < 0 ∨ (p.1.e.am.length : Int) ≤ line then (0, false) else if p.1.voided then (0, true) else (p.1.e.am.getD line.toNat 0 - p.1.back.getD line.toNat 0, true)) by unfold Bk.left; rw [hS]; rfl)
    have hP := Lib.hid (show M.saleP id = .pointer (some ⟨p.2.g, 0, none⟩) by unfold BkM.saleP; rw [hf])
    obtain ⟨hmem, _, hk1⟩ := BkM.saleM_mem hf
    obtain ⟨Aa, At, Al, Ab, ca, ct, cl, cb, O⟩ := (h.all p hmem).open_
    have hok := h.ok p hmem
    have hbl := hok.bln hk1
    have hbd := hok.bbd hk1
    have hlm : p.1.e.am.length ≤ 9223372036854775807 := by have := O.la; unfold maxLen at this; omega
    obtain ⟨k, k'⟩ := O.blk.cells
    by_cases hb1 : line < 0 ∨ (p.1.e.am.length : Int) ≤ line
    · have hR := Lib.hid (hR0.out.trans (if_pos hb1))
      have hd : (decide (line < 0) = true) ∨ (decide (line < 0) = false ∧ decide ((p.1.e.am.length : Int) ≤ line) = true) := by
        by_cases h0 : line < 0
        · exact .inl (by simpa using h0)
        · exact .inr ⟨by simpa using h0, by simp; omega⟩
      clear hS hf h O hok hbl hbd hb1 hR0 hmem hk1
      rcases hd with hd | ⟨hd, hd2⟩
      all_goals
        go_enter Try.func44, Try.ntmps44
        go_wp2_with fail
        refine (sale_any HB.out id hi).mono ?_
        rintro e w' ⟨rfl, rfl⟩
        rw [hP.out]
        go_wp2_with fail
        go_ret2
        exact ⟨by rw [hR.out]; rfl, Ext.refl _⟩
    · have hR1 := Lib.hid (hR0.out.trans (if_neg hb1))
      obtain ⟨n, rfl⟩ := Int.eq_ofNat_of_zero_le (show 0 ≤ line by omega)
      have hn : n < p.1.e.am.length := by omega
      have hd : decide ((n : Int) < 0) = false := by simp
      have hd2 : decide ((p.1.e.am.length : Int) ≤ (n : Int)) = false := by simp; omega
      cases hv : p.1.voided
      · have hR := Lib.hid (hR1.out.trans (if_neg (by simp [hv])))
        obtain ⟨b1, o1, rfl, _, c1⟩ := reads_int O.ra hn rfl
        obtain ⟨b2, o2, rfl, _, c2⟩ := reads_int O.rb (show n < p.1.back.length by omega) rfl
        have hn2 : n < p.1.back.length := by omega
        have hz0 : (0 : Int) ≤ (n : Int) := Int.natCast_nonneg n
        have hz1 : (n : Int) < (p.1.e.am.length : Int) := by omega
        have hz2 : (n : Int) < (p.1.back.length : Int) := by omega
        have hb := hbd n hn
        have ha : p.1.e.am.getD n 0 = p.1.e.am[n] := by simp [List.getD, hn]
        have hbk : p.1.back.getD n 0 = p.1.back[n] := by simp [List.getD, show n < p.1.back.length by omega]
        rw [ha, hbk] at hb
        have hR2 := Lib.hid (show M.b.left id n = (p.1.e.am[n] - p.1.back[n], true) by rw [hR.out]; simp only [Int.toNat_natCast]; rw [ha, hbk])
        have hmax : p.1.e.am[n] ≤ 4611686018427387904 := by
          have := (Ent.check_ok hok.chk).2.1
          unfold Ent.ams at this
          exact (win_bd (List.all_eq_true.1 this _ (List.getElem_mem hn))).2
        rw [hv] at k
        generalize p.1.e.am[n] = x at *
        generalize p.1.back[n] = y at *
        clear hS hf h O hok hbl hbd hb1 hR0 hmem hk1 hR hR1 ha hbk hv
        go_enter Try.func44, Try.ntmps44
        go_wp2_with fail
        refine (sale_any HB.out id hi).mono ?_
        rintro e w' ⟨rfl, rfl⟩
        rw [hP.out]
        go_wp2_with fail
        go_quiet (fail)
        go_wp2_with fail
        go_ret2
        exact ⟨by rw [hR2.out]; rfl, (Ext.refl _).drewN _⟩
      · have hR := Lib.hid (hR1.out.trans (if_pos hv))
        rw [hv] at k
        clear hS hf h O hok hbl hbd hb1 hR0 hmem hk1 hR1 hv
        go_enter Try.func44, Try.ntmps44
        go_wp2_with fail
        refine (sale_any HB.out id hi).mono ?_
        rintro e w' ⟨rfl, rfl⟩
        rw [hP.out]
        go_wp2_with fail
        go_ret2
        exact ⟨by rw [hR.out]; rfl, Ext.refl _⟩
end Go.Proofs.Ytehkmngbknbbaaa
