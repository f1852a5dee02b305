/-
  street: place, first, of; the first part that may not be.
-/
import Derived.Test.YtjaponmpfdpemaaGreatDoorKb26
import Derived.LaidEql
set_option linter.unusedVariables false
namespace Go.Proofs.YtjaponmpfdpemaaGreatDoor
open Go.RowKit

set_option maxRecDepth 100000 in
theorem srplace_any (l : List Sr) (hN : ∀ s ∈ l, s.Num) (p n : Int) (hm : SrMono l p n) (A : Option Addr) (cap : Nat) (w : World) (hr : Reads w w.heap.size 13 A l.length (srCells l)) (hl : l.length ≤ 1000) :
    Calls Tryz.prog 42 #[.slice A l.length cap, .int .i64 n, .int .i64 p] w fun e w' => e = .returned (.tuple #[.int .i64 (plK l p n : Int), .bool (plF l p n)]) ∧ Ext w w' := by
  have X := (Ext.refl w).alloc (.cells #[.int .i64 p] 3)
  have HB := Blk.new w 3 #[.int .i64 p]
  have HS := Lib.hid (srsearch_any l hN p n hm w.heap.size A cap _ (hr.ext X) hl (HB.cell 0) HB.lt)
  generalize plK l p n = k at *
  generalize plF l p n = f at *
  clear hr hN hm hl HB
  go_enter Tryz.func42, Tryz.ntmps42
  go_wp2_with fail
  refine HS.out.mono ?_
  rintro e w' ⟨rfl, hx⟩
  go_wp2_with fail
  exact bodyPost_ret (results_tmp2 rfl _ _ _) rfl ⟨rfl, X.trans hx⟩
set_option maxRecDepth 100000 in
theorem sror_any (g cc : Nat) (a b : Int) (ha : a ≠ 0) (w : World) (h0 : w.cell? ⟨g, 0, none⟩ = some (.int .i64 a)) :
    Calls Tryz.prog 73 #[.slice (some ⟨g, 0, none⟩) 2 cc] w fun e w' => e = .returned (.int .i64 a) ∧ w' = w := by
  have v2 : IntKind.i64.wrap 2 = 2 := by decide
  have hd : (a != 0) = true := by simp [ha]
  replace ha := Lib.hid ha
  go_enter Tryz.func73, Tryz.ntmps73
  go_wp2
  go_loopw [8] (fun i wr => i = .int .i64 0 ∧ wr = w) (fun i _ => 2 - (intOf i).toNat)
  case atStart => exact ⟨rfl, rfl⟩
  case round =>
    obtain ⟨rfl, rfl⟩ := hrel
    go_wp2
    go_ret
    exact ⟨rfl, rfl⟩
set_option maxRecDepth 100000 in
theorem srfirst_any (s : Sr) (hN : s.Num) (p : Int) (hp : p = 0 ∨ p = 1) (W : World) : Calls Tryz.prog 43 #[srV s, .int .i64 p] W fun e w' => e = .returned (.int .i64 (s.low p)) ∧ Ext W w' := by
  have HN := Lib.hid (fun w => srnum_any s hN p w)
  have h0 : s.low p ≠ 0 := by have := (s.low_eq hN p hp).1; have := hN.f1; omega
  have X0 := (Ext.refl W).alloc (.cells (srC s) 25)
  have HB := Lib.hid (fun w (hx : Ext (W.alloc (.cells (srC s) 25)) w) => (show w.cell? ⟨W.heap.size, 6, none⟩ = some (.int .i64 s.fr) ∧ W.heap.size < w.heap.size from have B := (Blk.new W 25 (srC s)).ext hx; ⟨B.cell 6, B.lt⟩))
  generalize s.low p = lo at *
  generalize s.high p = hi at *
  generalize s.isQ p = q at *
  clear hN
  unfold srC at X0 HB
  simp only [srV_eq] at HN ⊢
  replace X0 := Lib.hid X0
  replace h0 := Lib.hid h0
  go_enter Tryz.func43, Tryz.ntmps43
  go_wp2_with fail
  refine (HN.out _).mono ?_
  rintro e w1 ⟨rfl, hx⟩
  obtain ⟨c6, lb⟩ := HB.out _ hx
  go_upto_region 2 with (fail)
  go_wp2_with fail
  refine (sror_any w1.heap.size 2 lo s.fr h0.out _ ((Blk.new w1 3 #[.int .i64 lo, .int .i64 s.fr]).cell 0)).mono ?_
  rintro e w2 ⟨rfl, rfl⟩
  go_wp2_with fail
  go_ret
  exact ⟨rfl, (X0.out.trans hx).alloc _⟩
def set6 (w : World) (g : Nat) (a0 a1 a2 a3 a4 a5 : Value) : World := (((((w.setCell ⟨g, 0, none⟩ a0).setCell ⟨g, 1, none⟩ a1).setCell ⟨g, 2, none⟩ a2).setCell ⟨g, 3, none⟩ a3).setCell ⟨g, 4, none⟩ a4).setCell ⟨g, 5, none⟩ a5
theorem set6_blk {w : World} {g : Nat} {t : TypeId} {b0 b1 b2 b3 b4 b5 : Value} (h : Blk w g t #[b0, b1, b2, b3, b4, b5]) (a0 a1 a2 a3 a4 a5 : Value) : Blk (set6 w g a0 a1 a2 a3 a4 a5) g t #[a0, a1, a2, a3, a4, a5] :=
  (((((h.set_ 0 a0).set_ 1 a1).set_ 2 a2).set_ 3 a3).set_ 4 a4).set_ 5 a5
theorem set6_ext {W w : World} {g : Nat} (h : Ext W w) (hg : W.heap.size ≤ g) (a0 a1 a2 a3 a4 a5 : Value) : Ext W (set6 w g a0 a1 a2 a3 a4 a5) :=
  (((((h.set (p := ⟨g, 0, none⟩) hg a0).set (p := ⟨g, 1, none⟩) hg a1).set (p := ⟨g, 2, none⟩) hg a2).set (p := ⟨g, 3, none⟩) hg a3).set (p := ⟨g, 4, none⟩) hg a4).set (p := ⟨g, 5, none⟩) hg a5
theorem ld_key {w : World} {g : Nat} {a0 a1 a2 a3 a4 a5 : Bs} (h : Blk w g 74 #[.string ⟨a0.toArray⟩, .string ⟨a1.toArray⟩, .string ⟨a2.toArray⟩, .string ⟨a3.toArray⟩, .string ⟨a4.toArray⟩, .string ⟨a5.toArray⟩]) : (loadVar 74 ⟨g, 0, none⟩).run Tryz.prog w = .ok (.agg #[.string ⟨a0.toArray⟩, .string ⟨a1.toArray⟩, .string ⟨a2.toArray⟩, .string ⟨a3.toArray⟩, .string ⟨a4.toArray⟩, .string ⟨a5.toArray⟩]) w := by
  have q := h.cell
  simp [go_sem, q]
set_option maxRecDepth 100000 in
set_option maxHeartbeats 1000000 in
theorem srof_any (s : Sr) (W : World) : Calls Tryz.prog 41 #[srV s] W fun e w' => e = .returned (.agg #[.string ⟨s.state.toArray⟩, .string ⟨s.city.toArray⟩, .string ⟨s.pre.toArray⟩, .string ⟨s.name.toArray⟩, .string ⟨s.suf.toArray⟩, .string ⟨s.post.toArray⟩]) ∧ Ext W w' := by
  have B0 := (Blk.new W 25 (srC s)).alloc (.cells #[.string ⟨#[]⟩, .string ⟨#[]⟩, .string ⟨#[]⟩, .string ⟨#[]⟩, .string ⟨#[]⟩, .string ⟨#[]⟩] 74)
  have B1 := Blk.new (W.alloc (.cells (srC s) 25)) 74 #[.string ⟨#[]⟩, .string ⟨#[]⟩, .string ⟨#[]⟩, .string ⟨#[]⟩, .string ⟨#[]⟩, .string ⟨#[]⟩]
  have X1 := ((Ext.refl W).alloc (.cells (srC s) 25)).alloc (.cells #[.string ⟨#[]⟩, .string ⟨#[]⟩, .string ⟨#[]⟩, .string ⟨#[]⟩, .string ⟨#[]⟩, .string ⟨#[]⟩] 74)
  rw [show (W.alloc (.cells (srC s) 25)).heap.size = W.heap.size + 1 by simp] at B1
  unfold srC at B0 B1 X1
  rw [srV_eq]
  go_enter Tryz.func41, Tryz.ntmps41
  go_upto_region 1 with (fail)
  generalize (W.alloc (.cells #[.string ⟨s.state.toArray⟩, .string ⟨s.city.toArray⟩, .string ⟨s.pre.toArray⟩, .string ⟨s.name.toArray⟩, .string ⟨s.suf.toArray⟩, .string ⟨s.post.toArray⟩, .int .i64 s.fr, .int .i64 s.to_, .int .i64 s.side, .int .i64 s.ax, .int .i64 s.ay, .int .i64 s.bx, .int .i64 s.by_] 25)).alloc (.cells #[.string ⟨#[]⟩, .string ⟨#[]⟩, .string ⟨#[]⟩, .string ⟨#[]⟩, .string ⟨#[]⟩, .string ⟨#[]⟩] 74) = w1 at *
  generalize hg1 : W.heap.size + 1 = g1 at *
  have hle : W.heap.size ≤ g1 := by omega
  have hne : W.heap.size ≠ g1 := by omega
  generalize W.heap.size = g0 at hg1 B0 hne ⊢
  clear hg1
  have A1 := Lib.hid (set6_blk B1 (.string ⟨s.state.toArray⟩) (.string ⟨s.city.toArray⟩) (.string ⟨s.pre.toArray⟩) (.string ⟨s.name.toArray⟩) (.string ⟨s.suf.toArray⟩) (.string ⟨s.post.toArray⟩))
  have E1 := Lib.hid (set6_ext X1 hle (.string ⟨s.state.toArray⟩) (.string ⟨s.city.toArray⟩) (.string ⟨s.pre.toArray⟩) (.string ⟨s.name.toArray⟩) (.string ⟨s.suf.toArray⟩) (.string ⟨s.post.toArray⟩))
  obtain ⟨q, _⟩ := B0.cells
  obtain ⟨p, p'⟩ := B1.cells
  have l0 := B0.lt
  have l1 := B1.lt
  clear B0 B1 X1 hle
  go_wp2_with fail
  change bodyPost _ _ _ _ _ (set6 w1 g1 (.string ⟨s.state.toArray⟩) (.string ⟨s.city.toArray⟩) (.string ⟨s.pre.toArray⟩) (.string ⟨s.name.toArray⟩) (.string ⟨s.suf.toArray⟩) (.string ⟨s.post.toArray⟩))
  generalize set6 w1 g1 (.string ⟨s.state.toArray⟩) (.string ⟨s.city.toArray⟩) (.string ⟨s.pre.toArray⟩) (.string ⟨s.name.toArray⟩) (.string ⟨s.suf.toArray⟩) (.string ⟨s.post.toArray⟩) = w2 at *
  exact bodyPost_ret (results_c rfl rfl (ld_key A1.out)) rfl ⟨rfl, E1.out⟩
end Go.Proofs.YtjaponmpfdpemaaGreatDoor

set_option linter.unusedVariables false
namespace Go.Proofs.YtjaponmpfdpemaaGreatDoor
open Go.RowKit

set_option maxRecDepth 100000 in
theorem srbad_any (s : Sr) (h : SrS s 1000) (W : World) (hS : Std W) : Calls Tryz.prog 40 #[srV s] W fun e w' => e = .returned (.bool (decide (s.check ≠ 0))) ∧ Ext W w' := by
  have HC := Lib.hid (fun w (hx : Ext W w) => srcheck_any s h w (hS.ext hx))
  have X0 := (Ext.refl W).alloc (.cells (srC s) 25)
  obtain ⟨b, hb⟩ : ∃ b, decide (s.check ≠ 0) = b := ⟨_, rfl⟩
  have hb1 : (s.check != 0) = b := by rw [← hb]; by_cases h : s.check = 0 <;> simp [h]
  rw [hb]
  generalize s.check = q at *
  unfold srC at X0
  simp only [srV_eq] at HC ⊢
  clear h hS hb
  replace X0 := Lib.hid X0
  go_enter Tryz.func40, Tryz.ntmps40
  go_wp2_with fail
  refine (HC.out _ X0.out).mono ?_
  rintro e w1 ⟨rfl, hx⟩
  go_wp2_with fail
  go_ret
  exact ⟨rfl, X0.out.trans hx⟩
/-- The first part that may not be: -1 if all may. -/
def srBad (l : List Sr) : Int := match l.findIdx? (fun s => decide (s.check ≠ 0)) with
  | some k => (k : Int)
  | none => -1
theorem srBad_at {l : List Sr} {k : Nat} (hk : k < l.length) (h1 : ∀ i (h : i < l.length), i < k → (l[i]).check = 0) (h2 : (l[k]).check ≠ 0) : srBad l = (k : Int) := by
  have e : l.findIdx? (fun s => decide (s.check ≠ 0)) = some k := by
    rw [List.findIdx?_eq_some_iff_getElem]
    exact ⟨hk, by simpa using h2, fun j hj => by simpa using h1 j (by omega) hj⟩
  unfold srBad
  rw [e]
theorem srBad_none {l : List Sr} (h1 : ∀ i (h : i < l.length), (l[i]).check = 0) : srBad l = -1 := by
  have e : l.findIdx? (fun s => decide (s.check ≠ 0)) = none := by
    rw [List.findIdx?_eq_none_iff]
    intro x hx
    obtain ⟨i, hi, rfl⟩ := List.mem_iff_getElem.1 hx
    simpa using h1 i hi
  unfold srBad
  rw [e]
def SiRel (w : World) (l : List Sr) (i : Value) (wr : World) : Prop := ∃ k : Nat, k ≤ l.length ∧ i = .int .i64 (k : Int) ∧ (∀ i (h : i < l.length), i < k → (l[i]).check = 0) ∧ Ext w wr
set_option maxRecDepth 100000 in
set_option maxHeartbeats 1000000 in
theorem srindex_any (l : List Sr) (hs : ∀ s ∈ l, SrS s 1000) (A : Option Addr) (cap : Nat) (w : World) (hr : Reads w w.heap.size 13 A l.length (srCells l)) (hl : l.length ≤ 1000) (hS : Std w) :
    Calls Tryz.prog 39 #[.slice A l.length cap, .func (.func 40) #[] #[]] w fun e w' => e = .returned (.int .i64 (srBad l)) ∧ Ext w w' := by
  have HC := Lib.hid (fun (k : Nat) (hk : k < l.length) W (hx : Ext w W) => srbad_any l[k] (hs _ (List.getElem_mem hk)) W (hS.ext hx))
  have HR := Lib.hid (fun W (hx : Ext w W) => hr.ext hx)
  have H0 := Lib.hid (show SiRel w l (.int .i64 ((0 : Nat) : Int)) w from ⟨0, by omega, rfl, fun i _ hi => absurd hi (by omega), Ext.refl _⟩)
  clear hr hs hS
  go_enter Tryz.func39, Tryz.ntmps39
  go_wp2_with fail
  go_loopw [8] (fun i wr => SiRel w l i wr) (fun i _ => l.length - (intOf i).toNat)
  case atStart => exact H0.out
  case round =>
    clear H0
    obtain ⟨k, hk, rfl, hP, hx⟩ := hrel
    by_cases hlt : k < l.length
    · have hd : decide ((k : Int) < (l.length : Int)) = true := decide_eq_true (by omega)
      have kl : (k : Int) < (l.length : Int) := by omega
      have kz : (0 : Int) ≤ (k : Int) := by omega
      obtain ⟨g, off, rfl, hg, c0, c1, c2, c3, c4, c5, c6, c7, c8, c9, c10, c11, c12⟩ := sr_at (HR.out _ hx) hlt
      have HCk := Lib.hid (HC.out k hlt wr hx)
      have HI := Lib.hid (fun h => srBad_at (k := k) hlt hP h)
      have HK := Lib.hid (fun (h : (l[k]).check = 0) (W : World) (hx2 : Ext wr W) => (show SiRel w l (.int .i64 ((k + 1 : Nat) : Int)) W from ⟨k + 1, by omega, rfl, fun i hi hik => by
        by_cases e : i = k
        · subst e; exact h
        · exact hP i hi (by omega), hx.trans hx2⟩))
      replace hx := Lib.hid hx
      clear hP HC HR
      simp only [srV_eq] at HCk
      generalize l[k] = x at *
      generalize x.check = q at *
      go_wp2_with fail
      refine HCk.out.mono ?_
      rintro e w' ⟨rfl, hx2⟩
      by_cases hq : q = 0
      · have HE := Lib.hid (HK.out hq _ hx2)
        have hb : decide (q ≠ 0) = false := by simp [hq]
        rw [hb]
        clear HI HK hq
        go_wp2_with fail
        go_roundw
        case rel => exact HE.out
        case measure => simp [intOf]; omega
      · have HE := Lib.hid (HI.out hq)
        have hb : decide (q ≠ 0) = true := by simp [hq]
        rw [hb]
        clear HI HK hq
        go_wp2_with fail
        go_ret
        exact ⟨by rw [HE.out]; rfl, hx.out.trans hx2⟩
    · obtain rfl : k = l.length := by omega
      have hd : decide ((l.length : Int) < (l.length : Int)) = false := by simp
      have HA := Lib.hid (srBad_none (l := l) (fun i hi => hP i hi hi))
      replace hx := Lib.hid hx
      clear hP HC HR
      go_wp2_with fail
      go_ret
      exact ⟨by rw [HA.out]; rfl, hx.out⟩
def srZ : Value := .agg #[.string ByteArray.empty, .string ByteArray.empty, .string ByteArray.empty, .string ByteArray.empty, .string ByteArray.empty, .string ByteArray.empty, .int .i64 0, .int .i64 0, .int .i64 0, .int .i64 0, .int .i64 0, .int .i64 0, .int .i64 0]
theorem row_sr : RowT Tryz.prog 27 25 13 152 srZ := rowT_mk Tryz.underlying27 (by kernel_rfl) rfl (by decide)
theorem sr_one (l : List Sr) : ∀ u ∈ srCells l, u.oneCell' = true := by
  intro u hu
  unfold srCells at hu
  rw [List.mem_flatMap] at hu
  obtain ⟨s, _, hs⟩ := hu
  simp only [srL, List.mem_cons, List.not_mem_nil, or_false] at hs
  rcases hs with rfl | rfl | rfl | rfl | rfl | rfl | rfl | rfl | rfl | rfl | rfl | rfl | rfl <;> rfl
theorem srclone_any (l : List Sr) (n : Nat) (A : Option Addr) (cap : Nat) (w : World) (hn : l.length = n) (hr : Reads w w.heap.size 13 A n (srCells l)) (hm : n ≤ 1000) :
    Calls Tryz.prog 45 #[.slice A n cap] w fun e w' => ∃ A' c', e = .returned (.slice A' n c') ∧ w'.ownsRow w.heap.size 25 13 (.slice A' n c') n (srCells l) ∧ Ext w w' := by
  have hk := fun W : World => Lib.run_eql_slice_nil (P := Tryz.prog) W 27 25 A n cap 0 0 Tryz.underlying27
  rcases A with _ | a
  · have h0 : n = 0 := by
      rcases Nat.eq_zero_or_pos n with h0 | h0
      · exact h0
      · obtain ⟨b, off, e, _⟩ := hr.2 h0; cases e
    subst h0
    have hl : l = [] := List.eq_nil_of_length_eq_zero hn
    subst hl
    simp only [Option.isNone_none] at hk
    clear hr hn
    go_enter Tryz.func45, Tryz.ntmps45
    go_wp2
    go_ret
    exact ⟨none, 0, rfl, World.ownsRow_nil _ _ _ _, Ext.refl _⟩
  · simp only [Option.isNone_some] at hk
    have RR := Lib.hid (fun o1 : Obj => hr.ext ((Ext.refl w).alloc o1))
    clear hr
    replace hn := Lib.hid hn
    go_enter Tryz.func45, Tryz.ntmps45
    go_wp2_with (at_builtin; refine wpl_app row_sr w _ (.tmp 5) (.tmp 6) rfl rfl rfl (own_lit (Ext.refl w) #[] _ 0 13 rfl (by simp [maxLen]) rfl) ((Ext.refl w).alloc _) rfl (RR.out _) (sr_one _) (by omega) (by unfold maxLen; omega) ?_; intro v1 w1 hg; obtain ⟨A1, c1, rfl, _, _, _⟩ := own_slice hg.own)
    go_ret
    refine ⟨A1, c1, by simp, ?_, hg.ext⟩
    have := hg.own
    simpa using this
end Go.Proofs.YtjaponmpfdpemaaGreatDoor
