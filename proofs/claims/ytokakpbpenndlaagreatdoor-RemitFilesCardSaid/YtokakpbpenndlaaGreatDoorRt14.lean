/-
  May a refund, or a void, be added?
-/
import Derived.Test.YtokakpbpenndlaaGreatDoorRt13
set_option linter.unusedVariables false
namespace Go.Proofs.YtokakpbpenndlaaGreatDoor
open Go.RowKit Go.Maps

set_option maxRecDepth 100000 in
theorem pos_any (n : Int) (w : World) : Calls Tryz.prog 142 #[.int .i64 n] w fun e w' => e = .returned (.bool (decide (0 < n))) ∧ w = w' := by
  go_enter Tryz.func142, Tryz.ntmps142
  go_wp2
  go_ret
  exact ⟨rfl, rfl⟩
/-- Where the search for something that came back stands. -/
def PosRel (w : World) (l : List Int) (i : Value) (wr : World) : Prop := ∃ k : Nat, k ≤ l.length ∧ i = .int .i64 (k : Int) ∧ (l.take k).any (fun n => decide (0 < n)) = false ∧ w = wr
theorem PosRel.next {w : World} {l : List Int} {k m : Nat} (hk : k < l.length) (h : (l.take k).any (fun n => decide (0 < n)) = false) (hn : decide (0 < l[k]) = false) (e : m = k + 1) : PosRel w l (.int .i64 (m : Int)) w := by
  subst e
  refine ⟨k + 1, by omega, rfl, ?_, rfl⟩
  rw [List.take_succ_eq_append_getElem hk, List.any_append, h]
  simpa using hn
set_option maxRecDepth 100000 in
set_option maxHeartbeats 1000000 in
theorem posIndex_any (l : List Int) (A : Option Addr) (cap : Nat) (w : World) (hr : Reads w w.heap.size 1 A l.length (iV l)) (hm : l.length ≤ maxLen) :
    Calls Tryz.prog 168 #[.slice A l.length cap, .func (.func 142) #[] #[]] w fun e w' => ∃ n : Int, e = .returned (.int .i64 n) ∧ decide (0 ≤ n) = l.any (fun n => decide (0 < n)) ∧ w = w' := by
  unfold maxLen at hm
  go_enter Tryz.func168, Tryz.ntmps168
  go_wp2_with fail
  go_loopw [8] (fun i wr => PosRel w l i wr) (fun i _ => l.length - (intOf i).toNat)
  case atStart => exact ⟨0, by omega, rfl, by simp, rfl⟩
  case round =>
    obtain ⟨k, hk, rfl, hP, rfl⟩ := hrel
    by_cases hlt : k < l.length
    · have hd : decide ((k : Int) < (l.length : Int)) = true := by simp; omega
      obtain ⟨g, off, rfl, hg, c1⟩ := reads_int hr hlt rfl
      have HK := Lib.hid (fun (hf : decide (0 < l[k]) = false) => PosRel.next (w := w) (m := k + 1) hlt hP hf rfl)
      have HN := Lib.hid (fun (hf : decide (0 < l[k]) = true) => (show l.any (fun n => decide (0 < n)) = true from by rw [List.any_eq_true]; exact ⟨_, List.getElem_mem hlt, hf⟩))
      clear hr hP
      generalize l[k] = x at *
      go_wp2_with fail
      refine (pos_any _ _).mono ?_
      rintro e w' ⟨rfl, rfl⟩
      by_cases hx : 0 < x
      · have HN2 := Lib.hid (HN.out (by simpa using hx))
        clear HK HN
        go_wp2_with fail
        go_ret
        exact ⟨(k : Int), rfl, by rw [HN2.out]; simp, rfl⟩
      · have HK2 := Lib.hid (HK.out (by simpa using hx))
        clear HK HN
        go_wp2_with fail
        go_roundw
        case rel => exact HK2.out
        case measure => simp [intOf]; omega
    · have hd : decide ((k : Int) < (l.length : Int)) = false := by simp; omega
      have HA := Lib.hid (show l.any (fun n => decide (0 < n)) = false by rw [List.take_of_length_le (by omega)] at hP; exact hP)
      clear hP hr
      go_wp2_with fail
      go_ret
      exact ⟨-1, rfl, by rw [HA.out]; rfl, rfl⟩
set_option maxRecDepth 100000 in
theorem posAny_any (l : List Int) (A : Option Addr) (cap : Nat) (w : World) (hr : Reads w w.heap.size 1 A l.length (iV l)) (hm : l.length ≤ maxLen) :
    Calls Tryz.prog 141 #[.slice A l.length cap, .func (.func 142) #[] #[]] w fun e w' => e = .returned (.bool (l.any (fun n => decide (0 < n)))) ∧ w = w' := by
  have HR := Lib.hid hr
  clear hr
  go_enter Tryz.func141, Tryz.ntmps141
  go_wp2_with fail
  refine (posIndex_any l A cap _ HR.out hm).mono ?_
  rintro e w' ⟨n, rfl, hd, rfl⟩
  replace hd := Lib.hid hd
  go_wp2_with fail
  go_ret
  exact ⟨ret_bool hd.out, rfl⟩

/-- May a refund, or a void, of a sale be added? -/
def Bk.refMay (B : Bk) (e : Ent) : Int := match B.sale e.of_ with | none => 6 | some s => s.refMay e
def Bk.voidMay (B : Bk) (e : Ent) : Int := match B.sale e.of_ with | none => 6 | some s => s.voidMay
set_option maxRecDepth 100000 in
set_option maxHeartbeats 2000000 in
theorem voidMay_any {w0 W : World} {bb mb : Nat} {vids : Value} {M : BkM} (h : BookAt w0 W bb mb vids M) (e : Ent) (Aa At : Option Addr) (ca ct : Nat) (hi : i64 e.of_) :
    Calls Tryz.prog 104 #[entV e Aa At ca ct, .pointer (some ⟨bb, 0, none⟩)] W fun r w' => r = .returned (.int .i64 (M.b.voidMay e)) ∧ Ext W w' := by
  have X0 := (Ext.refl W).alloc (.cells #[.int .i64 e.k, .int .i64 e.id, .int .i64 e.of_, .int .i64 e.day, .slice Aa e.am.length ca, .slice At e.tax.length ct] 126)
  replace h := h.ext X0
  have HB := Lib.hid h
  have hS := BkM.sale_b M e.of_
  have hR0 := Lib.hid (show M.b.voidMay e = match M.b.sale e.of_ with | none => 6 | some s => s.voidMay by rfl)
  cases hf : M.saleM e.of_ with
  | none =>
    rw [hf] at hS
    have hR := Lib.hid (show M.b.voidMay e = 6 by rw [hR0.out, hS]; rfl)
    have hP := Lib.hid (show M.saleP e.of_ = .pointer none by unfold BkM.saleP; rw [hf])
    clear hS hf h hR0
    go_enter Tryz.func104, Tryz.ntmps104
    go_wp2_with fail
    refine (sale_any HB.out _ hi).mono ?_
    rintro r w' ⟨rfl, rfl⟩
    rw [hP.out]
    go_wp2_with fail
    go_ret
    exact ⟨by rw [hR.out]; rfl, X0⟩
  | some p =>
    rw [hf] at hS
    have hR1 := Lib.hid (show M.b.voidMay e = if p.1.voided || p.1.back.any (fun n => decide (0 < n)) then 9 else 0 by rw [hR0.out, hS]; rfl)
    have hP := Lib.hid (show M.saleP e.of_ = .pointer (some ⟨p.2.g, 0, none⟩) by unfold BkM.saleP; rw [hf])
    obtain ⟨Aa', At', Al, Ab, ca', ct', cl, cb, O⟩ := (h.all p (BkM.saleM_mem hf).1).open_
    obtain ⟨q, q'⟩ := O.blk.cells
    have hrb := Lib.hid O.rb
    have hlb := Lib.hid (Nat.le_trans O.lb.1 O.lb.2)
    clear hS hf h hR0 O
    cases hv : p.1.voided
    · rw [hv] at hR1 q
      have hb := Lib.hid (posAny_any p.1.back Ab cb _ hrb.out hlb.out)
      cases ha : p.1.back.any (fun n => decide (0 < n))
      all_goals
        have hR := Lib.hid hR1.out
        rw [ha] at hR hb
        replace hR := Lib.hid hR.out
        clear hR1
        replace ha := Lib.hid ha
        go_enter Tryz.func104, Tryz.ntmps104
        go_wp2_with fail
        refine (sale_any HB.out _ hi).mono ?_
        rintro r w' ⟨rfl, rfl⟩
        rw [hP.out]
        go_wp2_with fail
        refine hb.out.mono ?_
        rintro r w' ⟨rfl, rfl⟩
        go_wp2_with fail
        go_ret
        exact ⟨by rw [hR.out]; rfl, X0⟩
    · rw [hv] at hR1 q
      go_enter Tryz.func104, Tryz.ntmps104
      go_wp2_with fail
      refine (sale_any HB.out _ hi).mono ?_
      rintro r w' ⟨rfl, rfl⟩
      rw [hP.out]
      go_wp2_with fail
      go_ret
      exact ⟨by rw [hR1.out]; rfl, X0⟩

/-- Where the search for more than is left stands. -/
theorem overB_next {n a b : List Int} {k : Nat} (h1 : k < n.length) (h2 : k < a.length) (h3 : k < b.length) : overB (n.drop k) (a.drop k) (b.drop k) = (decide (a[k] - b[k] < n[k]) || overB (n.drop (k + 1)) (a.drop (k + 1)) (b.drop (k + 1))) := by
  rw [List.drop_eq_getElem_cons h1, List.drop_eq_getElem_cons h2, List.drop_eq_getElem_cons h3, overB]
def OverRel (w : World) (n a b : List Int) (i : Value) (wr : World) : Prop := ∃ k : Nat, k ≤ n.length ∧ i = .int .i64 (k : Int) ∧ overB n a b = overB (n.drop k) (a.drop k) (b.drop k) ∧ Ext w wr
theorem OverRel.next {w wr : World} {n a b : List Int} {k m : Nat} (h1 : k < n.length) (h2 : k < a.length) (h3 : k < b.length) (h : overB n a b = overB (n.drop k) (a.drop k) (b.drop k)) (hd : decide (a[k] - b[k] < n[k]) = false) (hx : Ext w wr) (e : m = k + 1) : OverRel w n a b (.int .i64 (m : Int)) wr := by
  subst e
  exact ⟨k + 1, by omega, rfl, by rw [h, overB_next h1 h2 h3, hd]; simp, hx⟩
set_option maxRecDepth 100000 in
set_option maxHeartbeats 4000000 in
theorem refMay_any {w0 W : World} {bb mb : Nat} {vids : Value} {M : BkM} (h : BookAt w0 W bb mb vids M) (e : Ent) (Aa At : Option Addr) (ca ct : Nat) (hi : i64 e.of_) (he : EntR W e Aa At) :
    Calls Tryz.prog 103 #[entV e Aa At ca ct, .pointer (some ⟨bb, 0, none⟩)] W fun r w' => r = .returned (.int .i64 (M.b.refMay e)) ∧ Ext W w' := by
  have X0 := (Ext.refl W).alloc (.cells #[.int .i64 e.k, .int .i64 e.id, .int .i64 e.of_, .int .i64 e.day, .slice Aa e.am.length ca, .slice At e.tax.length ct] 123)
  have B := Blk.new W 123 #[.int .i64 e.k, .int .i64 e.id, .int .i64 e.of_, .int .i64 e.day, .slice Aa e.am.length ca, .slice At e.tax.length ct]
  replace h := h.ext X0
  replace he := he.ext X0
  have hre := he.ra
  have hle := he.la
  unfold maxLen at hle
  clear he
  have HB := Lib.hid h
  have hS := BkM.sale_b M e.of_
  have hR0 := Lib.hid (show M.b.refMay e = match M.b.sale e.of_ with | none => 6 | some s => s.refMay e by rfl)
  cases hf : M.saleM e.of_ with
  | none =>
    rw [hf] at hS
    have hR := Lib.hid (show M.b.refMay e = 6 by rw [hR0.out, hS]; rfl)
    have hP := Lib.hid (show M.saleP e.of_ = .pointer none by unfold BkM.saleP; rw [hf])
    clear hS hf h hR0 hre B
    go_enter Tryz.func103, Tryz.ntmps103
    go_wp2_with fail
    refine (sale_any HB.out _ hi).mono ?_
    rintro r w' ⟨rfl, rfl⟩
    rw [hP.out]
    go_wp2_with fail
    go_ret
    exact ⟨by rw [hR.out]; rfl, X0⟩
  | some p =>
    rw [hf] at hS
    have hR1 := Lib.hid (show M.b.refMay e = if p.1.voided then 9 else if e.am.length ≠ p.1.e.am.length ∨ e.day < p.1.e.day then 2 else if overB e.am p.1.e.am p.1.back then 5 else 0 by rw [hR0.out, hS]; rfl)
    have hP := Lib.hid (show M.saleP e.of_ = .pointer (some ⟨p.2.g, 0, none⟩) by unfold BkM.saleP; rw [hf])
    obtain ⟨hmem, _, hk1⟩ := BkM.saleM_mem hf
    have hok := h.ok p hmem
    have hbl := hok.bln hk1
    have hbd := Lib.hid (hok.bbd hk1)
    have ham := Lib.hid ((Ent.check_ok hok.chk).2.1)
    obtain ⟨Aa', At', Al, Ab, ca', ct', cl, cb, O⟩ := (h.all p hmem).open_
    have hra := O.ra
    have hrb := O.rb
    have hla := Nat.le_trans O.la.1 O.la.2
    unfold maxLen at hla
    have OB := O.blk
    obtain ⟨q, q'⟩ := OB.cells
    cases hv : p.1.voided
    case true =>
      rw [hv] at hR1 q
      clear hS hf h hR0 O hok hbl hra hrb hre B OB
      go_enter Tryz.func103, Tryz.ntmps103
      go_wp2_with fail
      refine (sale_any HB.out _ hi).mono ?_
      rintro r w' ⟨rfl, rfl⟩
      rw [hP.out]
      go_wp2_with fail
      go_ret
      exact ⟨by rw [hR1.out]; rfl, X0⟩
    rw [hv] at hR1 q OB
    replace hR1 := Lib.hid (hR1.out.trans (if_neg (by simp)))
    clear hS hf h hR0 O hok hv
    by_cases hl : e.am.length = p.1.e.am.length
    case neg =>
      have hn : ((e.am.length : Int) != (p.1.e.am.length : Int)) = true := by rw [bne_iff_ne]; omega
      have hR := Lib.hid (hR1.out.trans (if_pos (.inl hl)))
      clear hR1 hra hrb hre hl OB B hbl
      go_enter Tryz.func103, Tryz.ntmps103
      go_wp2_with fail
      refine (sale_any HB.out _ hi).mono ?_
      rintro r w' ⟨rfl, rfl⟩
      rw [hP.out]
      go_wp2_with fail
      go_quiet (fail)
      go_wp2_with fail
      go_ret
      exact ⟨by rw [hR.out]; rfl, X0.drewN _⟩
    have hn : ((e.am.length : Int) != (p.1.e.am.length : Int)) = false := by simp; omega
    by_cases hdy : e.day < p.1.e.day
    case pos =>
      have hR := Lib.hid (hR1.out.trans (if_pos (.inr hdy)))
      have hdd : decide (e.day < p.1.e.day) = true := by simpa using hdy
      clear hR1 hra hrb hre hl OB B hbl hdy
      go_enter Tryz.func103, Tryz.ntmps103
      go_wp2_with fail
      refine (sale_any HB.out _ hi).mono ?_
      rintro r w' ⟨rfl, rfl⟩
      rw [hP.out]
      go_wp2_with fail
      go_quiet (fail)
      go_wp2_with fail
      go_ret
      exact ⟨by rw [hR.out]; rfl, X0.drewN _⟩
    have hdd : decide (e.day < p.1.e.day) = false := by simpa using hdy
    have hR2 := Lib.hid (hR1.out.trans (if_neg (by rintro (h1 | h1); exact h1 hl; exact hdy h1)))
    replace hl := Lib.hid hl
    replace hbl := Lib.hid hbl
    clear hR1 hdy
    go_enter Tryz.func103, Tryz.ntmps103
    go_wp2_with fail
    refine (sale_any HB.out _ hi).mono ?_
    rintro r w' ⟨rfl, rfl⟩
    rw [hP.out]
    go_wp2_with fail
    go_quiet (fail)
    go_wp2_with fail
    clear hn hdd q q' HB hP
    generalize W.alloc (.cells #[.int .i64 e.k, .int .i64 e.id, .int .i64 e.of_, .int .i64 e.day, .slice Aa e.am.length ca, .slice At e.tax.length ct] 123) = W0 at *
    have hx0 : Ext W0 (W0.drewN nq) := (Ext.refl W0).drewN nq
    replace hre := hre.ext hx0
    replace hra := hra.ext hx0
    replace hrb := hrb.ext hx0
    replace OB := OB.ext hx0
    replace X0 := X0.trans hx0
    clear B hx0
    generalize W0.drewN nq = W1 at *
    have HO := Lib.hid (fun W2 (h : Ext W1 W2) => (OB.ext h).cells)
    clear OB
    go_loopw [48] (fun i wr => OverRel W1 e.am p.1.e.am p.1.back i wr) (fun i _ => e.am.length - (intOf i).toNat)
    case atStart => exact ⟨0, by omega, rfl, by simp, Ext.refl _⟩
    case round =>
      obtain ⟨k, hk, rfl, hP, hx⟩ := hrel
      by_cases hlt : k < e.am.length
      · have hlt2 : k < p.1.e.am.length := by have := hl.out; omega
        have hlt3 : k < p.1.back.length := by have := hbl.out; omega
        have hd : decide ((k : Int) < (e.am.length : Int)) = true := by simp; omega
        have hz0 : (0 : Int) ≤ (k : Int) := Int.natCast_nonneg k
        have hz1 : (k : Int) < (p.1.e.am.length : Int) := by omega
        have hz2 : (k : Int) < (p.1.back.length : Int) := by omega
        obtain ⟨g, off, rfl, _, c1⟩ := reads_int (hre.extB (Nat.le_refl _) hx) hlt rfl
        obtain ⟨g2, off2, rfl, _, c2⟩ := reads_int (hra.extB (Nat.le_refl _) hx) hlt2 rfl
        obtain ⟨g3, off3, rfl, _, c3⟩ := reads_int (hrb.extB (Nat.le_refl _) hx) hlt3 rfl
        obtain ⟨q, q'⟩ := HO.out _ hx
        have hb := hbd.out k hlt2
        have ha1 : p.1.e.am.getD k 0 = p.1.e.am[k] := by simp [List.getD, hlt2]
        have hb1 : p.1.back.getD k 0 = p.1.back[k] := by simp [List.getD, hlt3]
        rw [ha1, hb1] at hb
        have hmax : p.1.e.am[k] ≤ 4611686018427387904 := by
          have := ham.out
          unfold Ent.ams at this
          exact (win_bd (List.all_eq_true.1 this _ (List.getElem_mem hlt2))).2
        have HK := Lib.hid (fun n (hf : decide (p.1.e.am[k] - p.1.back[k] < e.am[k]) = false) => OverRel.next (m := k + 1) hlt hlt2 hlt3 hP hf (hx.drewN n) rfl)
        have HN := Lib.hid (fun (hf : decide (p.1.e.am[k] - p.1.back[k] < e.am[k]) = true) => (show M.b.refMay e = 5 from by rw [hR2.out, hP, overB_next hlt hlt2 hlt3, hf]; rfl))
        clear hre hra hrb HO hP ha1 hb1
        generalize e.am[k] = n at *
        generalize p.1.e.am[k] = a at *
        generalize p.1.back[k] = b at *
        by_cases ho : a - b < n
        · have HN2 := Lib.hid (HN.out (by simpa using ho))
          clear HK HN
          go_wp2_with fail
          go_quiet (fail)
          go_wp2_with fail
          go_ret
          exact ⟨by rw [HN2.out]; rfl, X0.trans (hx.drewN _)⟩
        · have HK2 := Lib.hid (fun n => HK.out n (by simpa using ho))
          clear HK HN
          go_wp2_with fail
          go_quiet (fail)
          go_wp2_with fail
          go_roundw
          case rel => exact HK2.out _
          case measure => simp [intOf]; omega
      · have hd : decide ((k : Int) < (e.am.length : Int)) = false := by simp; omega
        have HA := Lib.hid (show M.b.refMay e = 0 by
          rw [hR2.out, hP, List.drop_eq_nil_of_le (show e.am.length ≤ k by omega)]
          unfold overB
          rfl)
        clear hP hre hra hrb HO
        go_wp2_with fail
        go_ret
        exact ⟨by rw [HA.out]; rfl, X0.trans hx⟩
end Go.Proofs.YtokakpbpenndlaaGreatDoor

set_option linter.unusedVariables false
namespace Go.Proofs.YtokakpbpenndlaaGreatDoor
open Go.RowKit Go.Maps

theorem Ent.i64s {e : Ent} (h : e.check = 0) : i64 e.id ∧ i64 e.of_ := by
  have h1 := (Ent.check_ok h).1
  unfold Ent.head at h1
  simp only [Bool.and_eq_true] at h1
  have a := win_bd h1.1.1
  have b := win_bd h1.1.2
  unfold i64
  omega
theorem Ent.kinds {e : Ent} (h : e.check = 0) : e.k = 1 ∨ e.k = 2 ∨ e.k = 3 := by
  have h1 := (Ent.check_ok h).2.2
  unfold Ent.fine at h1
  by_cases h2 : e.k = 1
  · exact .inl h2
  by_cases h3 : e.k = 2
  · exact .inr (.inl h3)
  by_cases h4 : e.k = 3
  · exact .inr (.inr h4)
  rw [if_neg h2, if_neg h3, if_neg h4] at h1
  cases h1
theorem BookAt.look_n {w0 W : World} {bb mb : Nat} {vids : Value} {M : BkM} (h : BookAt w0 W bb mb vids M) (id : Int) (hi : i64 id) (n : Nat) :
    (Instr.lookup 64 (.map (some mb)) (.int .i64 id) true).run Tryz.prog (W.drewN n) = .ok (.tuple #[M.ptr id, .bool (M.find id).isSome]) (W.drewN n) := (h.ext ((Ext.refl W).drewN n)).look_ok id hi

/-- Whether an entry is of a kind. -/
abbrev zeroEnt : Value := .agg #[.int .i64 0, .int .i64 0, .int .i64 0, .int .i64 0, .slice none 0 0, .slice none 0 0]
theorem asSS (cs : Array Value) (W : World) : (Instr.typeAssert (.iface 122 (.agg cs)) 119 122 true).run Tryz.prog W = .ok (.tuple #[.agg cs, .bool true]) W := by kernel_rfl
theorem asSR (cs : Array Value) (W : World) : (Instr.typeAssert (.iface 122 (.agg cs)) 119 123 true).run Tryz.prog W = .ok (.tuple #[zeroEnt, .bool false]) W := by kernel_rfl
theorem asSV (cs : Array Value) (W : World) : (Instr.typeAssert (.iface 122 (.agg cs)) 119 126 true).run Tryz.prog W = .ok (.tuple #[zeroEnt, .bool false]) W := by kernel_rfl
theorem asRS (cs : Array Value) (W : World) : (Instr.typeAssert (.iface 123 (.agg cs)) 119 122 true).run Tryz.prog W = .ok (.tuple #[zeroEnt, .bool false]) W := by kernel_rfl
theorem asRR (cs : Array Value) (W : World) : (Instr.typeAssert (.iface 123 (.agg cs)) 119 123 true).run Tryz.prog W = .ok (.tuple #[.agg cs, .bool true]) W := by kernel_rfl
theorem asVS (cs : Array Value) (W : World) : (Instr.typeAssert (.iface 126 (.agg cs)) 119 122 true).run Tryz.prog W = .ok (.tuple #[zeroEnt, .bool false]) W := by kernel_rfl
theorem asVR (cs : Array Value) (W : World) : (Instr.typeAssert (.iface 126 (.agg cs)) 119 123 true).run Tryz.prog W = .ok (.tuple #[zeroEnt, .bool false]) W := by kernel_rfl
theorem asVV (cs : Array Value) (W : World) : (Instr.typeAssert (.iface 126 (.agg cs)) 119 126 true).run Tryz.prog W = .ok (.tuple #[.agg cs, .bool true]) W := by kernel_rfl

set_option maxRecDepth 100000 in
set_option maxHeartbeats 4000000 in
theorem bmay_any {w0 W : World} {bb mb : Nat} {vids : Value} {M : BkM} (h : BookAt w0 W bb mb vids M) (e : Ent) (Aa At : Option Addr) (ca ct : Nat) (he : EntR W e Aa At) :
    Calls Tryz.prog 57 #[.pointer (some ⟨bb, 0, none⟩), entV e Aa At ca ct] W fun r w' => r = .returned (.int .i64 (M.b.may e)) ∧ Ext W w' := by
  have X0 := (Ext.refl W).alloc (.cells #[.int .i64 e.k, .int .i64 e.id, .int .i64 e.of_, .int .i64 e.day, .slice Aa e.am.length ca, .slice At e.tax.length ct] 52)
  have B := Blk.new W 52 #[.int .i64 e.k, .int .i64 e.id, .int .i64 e.of_, .int .i64 e.day, .slice Aa e.am.length ca, .slice At e.tax.length ct]
  have HB := Lib.hid (h.ext X0)
  have HE := Lib.hid (he.ext X0)
  clear h he
  by_cases hc : e.check = 0
  case neg =>
    have hR := Lib.hid (show M.b.may e = e.check by unfold Bk.may; rw [if_pos hc])
    have hb : (e.check != 0) = true := by simpa using hc
    clear hc
    go_enter Tryz.func57, Tryz.ntmps57
    go_wp2_with fail
    refine (none_any HB.out).mono ?_
    rintro r w' ⟨rfl, rfl⟩
    go_wp2_with fail
    refine (bcheck_any e Aa At ca ct _ HE.out).mono ?_
    rintro r w1 ⟨rfl, hx1⟩
    go_wp2_with fail
    go_ret
    exact ⟨by rw [hR.out]; rfl, X0.trans hx1⟩
  have hR0 := Lib.hid (show M.b.may e = if (M.b.find e.id).isSome then 7 else if e.k = 2 then M.b.refMay e else if e.k = 3 then M.b.voidMay e else 0 by unfold Bk.may; rw [if_neg (by simpa using hc)]; rfl)
  obtain ⟨hi, ho⟩ := Ent.i64s hc
  have hk := Ent.kinds hc
  replace hc := Lib.hid hc
  go_enter Tryz.func57, Tryz.ntmps57
  go_wp2_with fail
  refine (none_any HB.out).mono ?_
  rintro r w' ⟨rfl, rfl⟩
  go_wp2_with fail
  refine (bcheck_any e Aa At ca ct _ HE.out).mono ?_
  rintro r w1 ⟨rfl, hx1⟩
  rw [hc.out]
  replace HB := Lib.hid (HB.out.ext hx1)
  replace HE := Lib.hid (HE.out.ext hx1)
  replace B := B.ext hx1
  replace X0 := X0.trans hx1
  clear hx1 hc
  generalize W.heap.size = g0 at B ⊢
  obtain ⟨q, q'⟩ := B.cells
  obtain ⟨m, m'⟩ := HB.out.blk.cells
  have hl := fun n => HB.out.look_n e.id hi n
  have hl0 := HB.out.look_ok e.id hi
  have hF := BkM.find_b M e.id
  cases hf : M.find e.id with
  | some p =>
    have hR := Lib.hid (show M.b.may e = 7 by rw [hR0.out, hF, hf]; rfl)
    have hp0 : M.ptr e.id = .pointer (some ⟨p.2.g, 0, none⟩) := by unfold BkM.ptr; rw [hf]
    rw [hf, hp0] at hl0
    simp only [hf, hp0, Option.isSome_some] at hl hl0
    clear hF hR0 hf hp0 hk
    go_wp2_with fail
    go_quiet (fail)
    go_wp2_with fail
    go_ret
    exact ⟨by rw [hR.out]; rfl, X0.drewN _⟩
  | none =>
    have hR := Lib.hid (show M.b.may e = if e.k = 2 then M.b.refMay e else if e.k = 3 then M.b.voidMay e else 0 by rw [hR0.out, hF, hf]; rfl)
    have hp0 : M.ptr e.id = .pointer none := by unfold BkM.ptr; rw [hf]
    rw [hf, hp0] at hl0
    simp only [hf, hp0, Option.isSome_none] at hl hl0
    clear hF hR0 hf hp0
    go_wp2_with fail
    go_quiet (fail)
    go_wp2_with fail
    clear hl hl0 m m'
    refine (of_any e Aa At ca ct _).mono ?_
    rintro r w2 ⟨rfl, hx2⟩
    have hx2' := Ext.trans ((Ext.refl w1).drewN _) hx2
    replace HB := Lib.hid (HB.out.ext hx2')
    replace HE := Lib.hid (HE.out.ext hx2')
    replace X0 := X0.trans hx2'
    clear hx2 hx2' q q' B
    rcases hk with h1 | h1 | h1
    · have hv : ofV e.k (entV e Aa At ca ct) = .iface 122 (entV e Aa At ca ct) := by unfold ofV; rw [if_pos h1]
      rw [hv]
      have hR3 := Lib.hid (hR.out.trans (by rw [if_neg (by omega), if_neg (by omega)]))
      clear hv h1 hR
      have a1 := asSR
      have a2 := asSV
      go_wp2_with fail
      go_ret
      exact ⟨by rw [hR3.out]; rfl, X0⟩
    · have hv : ofV e.k (entV e Aa At ca ct) = .iface 123 (entV e Aa At ca ct) := by unfold ofV; rw [if_neg (by omega), if_pos h1]
      rw [hv]
      have hR3 := Lib.hid (hR.out.trans (if_pos h1))
      clear hv h1 hR
      have a1 := asRR
      have hx3 := (Ext.refl w2).alloc (.cells #[.int .i64 e.k, .int .i64 e.id, .int .i64 e.of_, .int .i64 e.day, .slice Aa e.am.length ca, .slice At e.tax.length ct] 123)
      go_wp2_with fail
      refine (refMay_any (HB.out.ext hx3) e Aa At ca ct ho (HE.out.ext hx3)).mono ?_
      rintro r w3 ⟨rfl, hx4⟩
      go_wp2_with fail
      go_ret
      exact ⟨by rw [hR3.out]; rfl, X0.trans (hx3.trans hx4)⟩
    · have hv : ofV e.k (entV e Aa At ca ct) = .iface 126 (entV e Aa At ca ct) := by unfold ofV; rw [if_neg (by omega), if_neg (by omega), if_pos h1]
      rw [hv]
      have hR3 := Lib.hid (hR.out.trans (by rw [if_neg (by omega), if_pos h1]))
      clear hv h1 hR
      have a1 := asVR
      have a2 := asVV
      have hx3 := (Ext.refl w2).alloc (.cells #[.int .i64 e.k, .int .i64 e.id, .int .i64 e.of_, .int .i64 e.day, .slice Aa e.am.length ca, .slice At e.tax.length ct] 126)
      go_wp2_with fail
      refine (voidMay_any (HB.out.ext hx3) e Aa At ca ct ho).mono ?_
      rintro r w3 ⟨rfl, hx4⟩
      go_wp2_with fail
      go_ret
      exact ⟨by rw [hR3.out]; rfl, X0.trans (hx3.trans hx4)⟩
end Go.Proofs.YtokakpbpenndlaaGreatDoor
