/-
  street: place, first, of; the first part that may not be.
-/
import Derived.Test.YtjaponmpfdpemaaGreatDoorBb20
import Derived.Test.YtjaponmpfdpemaaGreatDoorBb02
import Derived.LaidEql
import Derived.Test.YtjaponmpfdpemaaGreatDoorBb01
import Derived.Laws.CopyOwn
import Derived.Lib.Overlaps
import Derived.Lib.AppendZerosOnto
set_option linter.unusedSimpArgs false
set_option linter.unusedVariables false
namespace Go.Proofs.YtjaponmpfdpemaaGreatDoor
open Go.RowKit
set_option maxRecDepth 100000 in
theorem srplace_any (l : List Sr) (hN : ∀ s ∈ l, s.Num) (p n : Int) (hm : SrMono l p n) (A : Option Addr) (cap : Nat) (w : World) (hr : Reads w w.heap.size 13 A l.length (srCells l)) (hl : l.length ≤ 1000) :
  Calls Tryz.prog 42 #[.slice A l.length cap, .int .i64 n, .int .i64 p] w fun e w' => e = .returned (.tuple #[.int .i64 (plK l p n : Int), .bool (plF l p n)]) ∧ Ext w w' := by
 have X := (Ext.refl w).alloc (.cells #[.int .i64 p] 3)
 have HB := Blk.new w 3 #[.int .i64 p]
 have HS := Lib.hid (srsearch_any l hN p n hm w.heap.size A cap _ (hr.ext X) hl (HB.cell 0) HB.lt)
 generalize plK l p n = k at *
 generalize plF l p n = f at *
 clear hr hN hm hl HB
 go_enter Tryz.func42, Tryz.ntmps42
 go_wp2_with fail
 refine HS.out.mono ?_
 rintro e w' ⟨rfl, hx⟩
 go_wp2_with fail
 exact bodyPost_ret (results_tmp2 rfl _ _ _) rfl ⟨rfl, X.trans hx⟩
set_option maxRecDepth 100000 in
theorem sror_any (g cc : Nat) (a b : Int) (ha : a ≠ 0) (w : World) (h0 : w.cell? ⟨g, 0, none⟩ = some (.int .i64 a)) :
  Calls Tryz.prog 73 #[.slice (some ⟨g, 0, none⟩) 2 cc] w fun e w' => e = .returned (.int .i64 a) ∧ w' = w := by
 have v2 : IntKind.i64.wrap 2 = 2 := by decide
 have hd : (a != 0) = true := by simp [ha]
 replace ha := Lib.hid ha
 go_enter Tryz.func73, Tryz.ntmps73
 go_wp2
 go_loopw [8] (fun i wr => i = .int .i64 0 ∧ wr = w) (fun i _ => 2 - (intOf i).toNat)
 case atStart => exact ⟨rfl, rfl⟩
 case round =>
  obtain ⟨rfl, rfl⟩ := hrel
  go_wp2
  go_ret
  exact ⟨rfl, rfl⟩
set_option maxRecDepth 100000 in
theorem srfirst_any (s : Sr) (hN : s.Num) (p : Int) (hp : p = 0 ∨ p = 1) (W : World) : Calls Tryz.prog 43 #[srV s, .int .i64 p] W fun e w' => e = .returned (.int .i64 (s.low p)) ∧ Ext W w' := by
 have HN := Lib.hid (fun w => srnum_any s hN p w)
 have h0 : s.low p ≠ 0 := by have := (s.low_eq hN p hp).1; have := hN.f1; omega
 have X0 := (Ext.refl W).alloc (.cells (srC s) 25)
 have HB := Lib.hid (fun w (hx : Ext (W.alloc (.cells (srC s) 25)) w) => (show w.cell? ⟨W.heap.size, 6, none⟩ = some (.int .i64 s.fr) ∧ W.heap.size < w.heap.size from have B := (Blk.new W 25 (srC s)).ext hx; ⟨B.cell 6, B.lt⟩))
 generalize s.low p = lo at *
 generalize s.high p = hi at *
 generalize s.isQ p = q at *
 clear hN
 unfold srC at X0 HB
 simp only [srV_eq] at HN ⊢
 replace X0 := Lib.hid X0
 replace h0 := Lib.hid h0
 go_enter Tryz.func43, Tryz.ntmps43
 go_wp2_with fail
 refine (HN.out _).mono ?_
 rintro e w1 ⟨rfl, hx⟩
 obtain ⟨c6, lb⟩ := HB.out _ hx
 go_upto_region 2 with (fail)
 go_wp2_with fail
 refine (sror_any w1.heap.size 2 lo s.fr h0.out _ ((Blk.new w1 3 #[.int .i64 lo, .int .i64 s.fr]).cell 0)).mono ?_
 rintro e w2 ⟨rfl, rfl⟩
 go_wp2_with fail
 go_ret
 exact ⟨rfl, (X0.out.trans hx).alloc _⟩
def set6 (w : World) (g : Nat) (a0 a1 a2 a3 a4 a5 : Value) : World := (((((w.setCell ⟨g, 0, none⟩ a0).setCell ⟨g, 1, none⟩ a1).setCell ⟨g, 2, none⟩ a2).setCell ⟨g, 3, none⟩ a3).setCell ⟨g, 4, none⟩ a4).setCell ⟨g, 5, none⟩ a5
theorem set6_blk {w : World} {g : Nat} {t : TypeId} {b0 b1 b2 b3 b4 b5 : Value} (h : Blk w g t #[b0, b1, b2, b3, b4, b5]) (a0 a1 a2 a3 a4 a5 : Value) : Blk (set6 w g a0 a1 a2 a3 a4 a5) g t #[a0, a1, a2, a3, a4, a5] :=
 (((((h.set_ 0 a0).set_ 1 a1).set_ 2 a2).set_ 3 a3).set_ 4 a4).set_ 5 a5
theorem set6_ext {W w : World} {g : Nat} (h : Ext W w) (hg : W.heap.size ≤ g) (a0 a1 a2 a3 a4 a5 : Value) : Ext W (set6 w g a0 a1 a2 a3 a4 a5) :=
 (((((h.set (p := ⟨g, 0, none⟩) hg a0).set (p := ⟨g, 1, none⟩) hg a1).set (p := ⟨g, 2, none⟩) hg a2).set (p := ⟨g, 3, none⟩) hg a3).set (p := ⟨g, 4, none⟩) hg a4).set (p := ⟨g, 5, none⟩) hg a5
theorem ld_key {w : World} {g : Nat} {a0 a1 a2 a3 a4 a5 : Bs} (h : Blk w g 74 #[.string ⟨a0.toArray⟩, .string ⟨a1.toArray⟩, .string ⟨a2.toArray⟩, .string ⟨a3.toArray⟩, .string ⟨a4.toArray⟩, .string ⟨a5.toArray⟩]) : (loadVar 74 ⟨g, 0, none⟩).run Tryz.prog w = .ok (.agg #[.string ⟨a0.toArray⟩, .string ⟨a1.toArray⟩, .string ⟨a2.toArray⟩, .string ⟨a3.toArray⟩, .string ⟨a4.toArray⟩, .string ⟨a5.toArray⟩]) w := by
 have q := h.cell
 simp [go_sem, q]
set_option maxRecDepth 100000 in
set_option maxHeartbeats 1000000 in
theorem srof_any (s : Sr) (W : World) : Calls Tryz.prog 41 #[srV s] W fun e w' => e = .returned (.agg #[.string ⟨s.state.toArray⟩, .string ⟨s.city.toArray⟩, .string ⟨s.pre.toArray⟩, .string ⟨s.name.toArray⟩, .string ⟨s.suf.toArray⟩, .string ⟨s.post.toArray⟩]) ∧ Ext W w' := by
 have B0 := (Blk.new W 25 (srC s)).alloc (.cells #[.string ⟨#[]⟩, .string ⟨#[]⟩, .string ⟨#[]⟩, .string ⟨#[]⟩, .string ⟨#[]⟩, .string ⟨#[]⟩] 74)
 have B1 := Blk.new (W.alloc (.cells (srC s) 25)) 74 #[.string ⟨#[]⟩, .string ⟨#[]⟩, .string ⟨#[]⟩, .string ⟨#[]⟩, .string ⟨#[]⟩, .string ⟨#[]⟩]
 have X1 := ((Ext.refl W).alloc (.cells (srC s) 25)).alloc (.cells #[.string ⟨#[]⟩, .string ⟨#[]⟩, .string ⟨#[]⟩, .string ⟨#[]⟩, .string ⟨#[]⟩, .string ⟨#[]⟩] 74)
 rw [show (W.alloc (.cells (srC s) 25)).heap.size = W.heap.size + 1 by simp] at B1
 unfold srC at B0 B1 X1
 rw [srV_eq]
 go_enter Tryz.func41, Tryz.ntmps41
 go_upto_region 1 with (fail)
 generalize (W.alloc (.cells #[.string ⟨s.state.toArray⟩, .string ⟨s.city.toArray⟩, .string ⟨s.pre.toArray⟩, .string ⟨s.name.toArray⟩, .string ⟨s.suf.toArray⟩, .string ⟨s.post.toArray⟩, .int .i64 s.fr, .int .i64 s.to_, .int .i64 s.side, .int .i64 s.ax, .int .i64 s.ay, .int .i64 s.bx, .int .i64 s.by_] 25)).alloc (.cells #[.string ⟨#[]⟩, .string ⟨#[]⟩, .string ⟨#[]⟩, .string ⟨#[]⟩, .string ⟨#[]⟩, .string ⟨#[]⟩] 74) = w1 at *
 generalize hg1 : W.heap.size + 1 = g1 at *
 have hle : W.heap.size ≤ g1 := by omega
 have hne : W.heap.size ≠ g1 := by omega
 generalize W.heap.size = g0 at hg1 B0 hne ⊢
 clear hg1
 have A1 := Lib.hid (set6_blk B1 (.string ⟨s.state.toArray⟩) (.string ⟨s.city.toArray⟩) (.string ⟨s.pre.toArray⟩) (.string ⟨s.name.toArray⟩) (.string ⟨s.suf.toArray⟩) (.string ⟨s.post.toArray⟩))
 have E1 := Lib.hid (set6_ext X1 hle (.string ⟨s.state.toArray⟩) (.string ⟨s.city.toArray⟩) (.string ⟨s.pre.toArray⟩) (.string ⟨s.name.toArray⟩) (.string ⟨s.suf.toArray⟩) (.string ⟨s.post.toArray⟩))
 obtain ⟨q, _⟩ := B0.cells
 obtain ⟨p, p'⟩ := B1.cells
 have l0 := B0.lt
 have l1 := B1.lt
 clear B0 B1 X1 hle
 go_wp2_with fail
 change bodyPost _ _ _ _ _ (set6 w1 g1 (.string ⟨s.state.toArray⟩) (.string ⟨s.city.toArray⟩) (.string ⟨s.pre.toArray⟩) (.string ⟨s.name.toArray⟩) (.string ⟨s.suf.toArray⟩) (.string ⟨s.post.toArray⟩))
 generalize set6 w1 g1 (.string ⟨s.state.toArray⟩) (.string ⟨s.city.toArray⟩) (.string ⟨s.pre.toArray⟩) (.string ⟨s.name.toArray⟩) (.string ⟨s.suf.toArray⟩) (.string ⟨s.post.toArray⟩) = w2 at *
 exact bodyPost_ret (results_c rfl rfl (ld_key A1.out)) rfl ⟨rfl, E1.out⟩
end Go.Proofs.YtjaponmpfdpemaaGreatDoor
set_option linter.unusedSimpArgs false
set_option linter.unusedVariables false
namespace Go.Proofs.YtjaponmpfdpemaaGreatDoor
open Go.RowKit
set_option maxRecDepth 100000 in
theorem srbad_any (s : Sr) (h : SrS s 1000) (W : World) (hS : Std W) : Calls Tryz.prog 40 #[srV s] W fun e w' => e = .returned (.bool (decide (s.check ≠ 0))) ∧ Ext W w' := by
 have HC := Lib.hid (fun w (hx : Ext W w) => srcheck_any s h w (hS.ext hx))
 have X0 := (Ext.refl W).alloc (.cells (srC s) 25)
 obtain ⟨b, hb⟩ : ∃ b, decide (s.check ≠ 0) = b := ⟨_, rfl⟩
 have hb1 : (s.check != 0) = b := by rw [← hb]; by_cases h : s.check = 0 <;> simp [h]
 rw [hb]
 generalize s.check = q at *
 unfold srC at X0
 simp only [srV_eq] at HC ⊢
 clear h hS hb
 replace X0 := Lib.hid X0
 go_enter Tryz.func40, Tryz.ntmps40
 go_wp2_with fail
 refine (HC.out _ X0.out).mono ?_
 rintro e w1 ⟨rfl, hx⟩
 go_wp2_with fail
 go_ret
 exact ⟨rfl, X0.out.trans hx⟩
def SiRel (w : World) (l : List Sr) (i : Value) (wr : World) : Prop := ∃ k : Nat, k ≤ l.length ∧ i = .int .i64 (k : Int) ∧ (∀ i (h : i < l.length), i < k → (l[i]).check = 0) ∧ Ext w wr
set_option maxRecDepth 100000 in
set_option maxHeartbeats 1000000 in
theorem srindex_any (l : List Sr) (hs : ∀ s ∈ l, SrS s 1000) (A : Option Addr) (cap : Nat) (w : World) (hr : Reads w w.heap.size 13 A l.length (srCells l)) (hl : l.length ≤ 1000) (hS : Std w) :
  Calls Tryz.prog 39 #[.slice A l.length cap, .func (.func 40) #[] #[]] w fun e w' => e = .returned (.int .i64 (srBad l)) ∧ Ext w w' := by
 have HC := Lib.hid (fun (k : Nat) (hk : k < l.length) W (hx : Ext w W) => srbad_any l[k] (hs _ (List.getElem_mem hk)) W (hS.ext hx))
 have HR := Lib.hid (fun W (hx : Ext w W) => hr.ext hx)
 have H0 := Lib.hid (show SiRel w l (.int .i64 ((0 : Nat) : Int)) w from ⟨0, by omega, rfl, fun i _ hi => absurd hi (by omega), Ext.refl _⟩)
 clear hr hs hS
 go_enter Tryz.func39, Tryz.ntmps39
 go_wp2_with fail
 go_loopw [8] (fun i wr => SiRel w l i wr) (fun i _ => l.length - (intOf i).toNat)
 case atStart => exact H0.out
 case round =>
  clear H0
  obtain ⟨k, hk, rfl, hP, hx⟩ := hrel
  by_cases hlt : k < l.length
  ·have hd : decide ((k : Int) < (l.length : Int)) = true := decide_eq_true (by omega)
   have kl : (k : Int) < (l.length : Int) := by omega
   have kz : (0 : Int) ≤ (k : Int) := by omega
   obtain ⟨g, off, rfl, hg, c0, c1, c2, c3, c4, c5, c6, c7, c8, c9, c10, c11, c12⟩ := sr_at (HR.out _ hx) hlt
   have HCk := Lib.hid (HC.out k hlt wr hx)
   have HI := Lib.hid (fun h => srBad_at (k := k) hlt hP h)
   have HK := Lib.hid (fun (h : (l[k]).check = 0) (W : World) (hx2 : Ext wr W) => (show SiRel w l (.int .i64 ((k + 1 : Nat) : Int)) W from ⟨k + 1, by omega, rfl, fun i hi hik => by
    by_cases e : i = k
    ·subst e; exact h
    ·exact hP i hi (by omega), hx.trans hx2⟩))
   replace hx := Lib.hid hx
   clear hP HC HR
   simp only [srV_eq] at HCk
   generalize l[k] = x at *
   generalize x.check = q at *
   go_wp2_with fail
   refine HCk.out.mono ?_
   rintro e w' ⟨rfl, hx2⟩
   by_cases hq : q = 0
   ·have HE := Lib.hid (HK.out hq _ hx2)
    have hb : decide (q ≠ 0) = false := by simp [hq]
    rw [hb]
    clear HI HK hq
    go_wp2_with fail
    go_roundw
    case rel => exact HE.out
    case measure => simp [intOf]; omega
   ·have HE := Lib.hid (HI.out hq)
    have hb : decide (q ≠ 0) = true := by simp [hq]
    rw [hb]
    clear HI HK hq
    go_wp2_with fail
    go_ret
    exact ⟨by rw [HE.out]; rfl, hx.out.trans hx2⟩
  ·obtain rfl : k = l.length := by omega
   have hd : decide ((l.length : Int) < (l.length : Int)) = false := by simp
   have HA := Lib.hid (srBad_none (l := l) (fun i hi => hP i hi hi))
   replace hx := Lib.hid hx
   clear hP HC HR
   go_wp2_with fail
   go_ret
   exact ⟨by rw [HA.out]; rfl, hx.out⟩
def srZ : Value := .agg #[.string ByteArray.empty, .string ByteArray.empty, .string ByteArray.empty, .string ByteArray.empty, .string ByteArray.empty, .string ByteArray.empty, .int .i64 0, .int .i64 0, .int .i64 0, .int .i64 0, .int .i64 0, .int .i64 0, .int .i64 0]
theorem row_sr : RowT Tryz.prog 27 25 13 152 srZ := rowT_mk Tryz.underlying27 (by kernel_rfl) rfl (by decide)
theorem sr_one (l : List Sr) : ∀ u ∈ srCells l, u.oneCell' = true := by
 intro u hu
 unfold srCells at hu
 rw [List.mem_flatMap] at hu
 obtain ⟨s, _, hs⟩ := hu
 simp only [srL, List.mem_cons, List.not_mem_nil, or_false] at hs
 rcases hs with rfl | rfl | rfl | rfl | rfl | rfl | rfl | rfl | rfl | rfl | rfl | rfl | rfl <;> rfl
theorem srclone_any (l : List Sr) (n : Nat) (A : Option Addr) (cap : Nat) (w : World) (hn : l.length = n) (hr : Reads w w.heap.size 13 A n (srCells l)) (hm : n ≤ 1000) :
  Calls Tryz.prog 45 #[.slice A n cap] w fun e w' => ∃ A' c', e = .returned (.slice A' n c') ∧ w'.ownsRow w.heap.size 25 13 (.slice A' n c') n (srCells l) ∧ Ext w w' := by
 have hk := fun W : World => Lib.run_eql_slice_nil (P := Tryz.prog) W 27 25 A n cap 0 0 Tryz.underlying27
 rcases A with _ | a
 ·have h0 : n = 0 := by
   rcases Nat.eq_zero_or_pos n with h0 | h0
   ·exact h0
   ·obtain ⟨b, off, e, _⟩ := hr.2 h0; cases e
  subst h0
  have hl : l = [] := List.eq_nil_of_length_eq_zero hn
  subst hl
  simp only [Option.isNone_none] at hk
  clear hr hn
  go_enter Tryz.func45, Tryz.ntmps45
  go_wp2
  go_ret
  exact ⟨none, 0, rfl, World.ownsRow_nil _ _ _ _, Ext.refl _⟩
 ·simp only [Option.isNone_some] at hk
  have RR := Lib.hid (fun o1 : Obj => hr.ext ((Ext.refl w).alloc o1))
  clear hr
  replace hn := Lib.hid hn
  go_enter Tryz.func45, Tryz.ntmps45
  go_wp2_with (at_builtin; refine wpl_app row_sr w _ (.tmp 5) (.tmp 6) rfl rfl rfl (own_lit (Ext.refl w) #[] _ 0 13 rfl (by simp [maxLen]) rfl) ((Ext.refl w).alloc _) rfl (RR.out _) (sr_one _) (by omega) (by unfold maxLen; omega) ?_; intro v1 w1 hg; obtain ⟨A1, c1, rfl, _, _, _⟩ := own_slice hg.own)
  go_ret
  refine ⟨A1, c1, by simp, ?_, hg.ext⟩
  have := hg.own
  simpa using this
end Go.Proofs.YtjaponmpfdpemaaGreatDoor
set_option linter.unusedSimpArgs false
set_option linter.unusedVariables false
namespace Go.Proofs.YtjaponmpfdpemaaGreatDoor
open Go.RowKit
theorem run_copyK0 {P : Program} (w : World) (dT sT ty elem : TypeId) (d a : Option Addr) (dLen dCap sLen sCap size : Nat) (hu : P.underlying dT = some (.slice elem)) (hs : (P.info? elem).map (·.size) = some size) (hn : Nat.min sLen dLen = 0) :
  (Builtin.copy_ #[dT, sT] ty #[.slice d dLen dCap, .slice a sLen sCap]).run P w = .ok (goInt 0) w := by
 cases hq : P.info? elem with
 | none => simp [hq] at hs
 | some i =>
  have hl : ∀ (x : Addr), (loadCells x 0).run P w = .ok #[] w := fun x => by simpa using run_loadCells_list (P := P) w x [] (by simp)
  cases d <;> cases a <;> simp [Builtin.copy_, run_underlying hu, Builtin.lenOf, Builtin.firstCells, sizeOf, typeInfo, hq, hn, storeCells, hl]
theorem run_copyK {P : Program} (w : World) (dT sT ty elem : TypeId) (g o dLen dCap : Nat) (a : Addr) (sLen sCap size m : Nat) (cur : Array Value) (t : TypeId) (cs : List Value)
  (hu : P.underlying dT = some (.slice elem)) (hs : (P.info? elem).map (·.size) = some size)
  (hg : w.heap[g]? = some (.cells cur t (0, 0))) (hm : Nat.min sLen dLen = m) (hn : cs.length = m * size)
  (hsrc : ∀ j v, cs[j]? = some v → w.cell? (a.add j) = some v) (hfit : o + cs.length ≤ cur.size) (h1 : ∀ v ∈ cs, v.oneCell' = true) :
  (Builtin.copy_ #[dT, sT] ty #[.slice (some ⟨g, o, none⟩) dLen dCap, .slice (some a) sLen sCap]).run P w =
   .ok (goInt m) (w.setRow g (cur.toList.take o ++ cs ++ cur.toList.drop (o + cs.length)).toArray) := by
 have hl := run_loadCells_list (P := P) w a cs hsrc
 have hst := run_storeCells_at P g o t cs 0 cur w hg (by simpa using hfit) h1
 cases hq : P.info? elem with
 | none => simp [hq] at hs
 | some i =>
  have hi : i.size = size := by simpa [hq] using hs
  simp [Builtin.copy_, run_underlying hu, Builtin.lenOf, Builtin.firstCells, sizeOf, typeInfo, hq, hi, hm, ← hn, hl, hst]
theorem grown_setRow (w : World) (g : Nat) (cs : Array Value) : w.grownBy (w.setRow g cs) (some g) := ⟨rfl, rfl, rfl, by simp [World.setRow], fun k _ hk => setRow_other w g k _ (fun e => hk (by simp [e]))⟩
theorem op_copyK {P : Program} {o : Oper} {a : Act} {w : World} {K : Act → World → Prop} {Q : Exit → Act → World → Prop} (d s : Operand) (dT sT : TypeId)
  (ho : o.op = .call { callee := .builtin .copy, args := #[d, s], argTypes := #[dT, sT] }) (elem : TypeId) (size : Nat) (hu : P.underlying dT = some (.slice elem)) (hsz : (P.info? elem).map (·.size) = some size)
  {dp sp : Option Addr} {dLen dCap sLen sCap : Nat} (hd : a.eval d = .slice dp dLen dCap) (hs : a.eval s = .slice sp sLen sCap)
  (g off m : Nat) (cur : List Value) (t : TypeId) (hg : w.heap[g]? = some (.cells cur.toArray t (0, 0))) (cs : List Value) (hm : Nat.min sLen dLen = m) (hn : cs.length = m * size)
  (hpos : 0 < m → dp = some ⟨g, off, none⟩ ∧ ∃ ad, sp = some ad ∧ ∀ j v, cs[j]? = some v → w.cell? (ad.add j) = some v)
  (hfit : off + cs.length ≤ cur.length) (h1 : ∀ v ∈ cs, v.oneCell' = true)
  (h : ∀ w', Hid (w'.heap[g]? = some (.cells (splice cur off cs).toArray t (0, 0))) → w.grownBy w' (some g) → K (a.put o.dst (goInt m)) w') : o.wp P a w K Q := by
 by_cases h0 : m = 0
 ·subst h0
  obtain rfl : cs = [] := List.eq_nil_of_length_eq_zero (by simpa using hn)
  have hrun := run_copyK0 (P := P) w dT sT o.type elem dp sp dLen dCap sLen sCap size hu hsz hm
  unfold Oper.wp
  simp [execOp, ho, resolve, invoke, builtin, hd, hs, hrun, Result.andThen]
  exact h w (show _ = _ by simpa [splice] using hg) ⟨rfl, rfl, rfl, Nat.le_refl _, fun _ _ _ => rfl⟩
 ·obtain ⟨rfl, ad, rfl, hsrc⟩ := hpos (by omega)
  have hrun := run_copyK (P := P) w dT sT o.type elem g off dLen dCap ad sLen sCap size m cur.toArray t cs hu hsz hg hm hn hsrc (by simpa using hfit) h1
  unfold Oper.wp
  simp [execOp, ho, resolve, invoke, builtin, hd, hs, hrun, Result.andThen]
  exact h _ (show _ = _ by simpa [splice] using setRow_heap w g _ _ t _ hg) (grown_setRow w g _)
theorem wpl_copyK {P : Program} {w : World} {ops : Array Oper} {rest : List Oper} {o : Oper} {a : Act} {Q : Exit → Act → World → Prop} (hgd : o.guard = none) (d s : Operand) (dT sT : TypeId)
  (ho : o.op = .call { callee := .builtin .copy, args := #[d, s], argTypes := #[dT, sT] }) (elem : TypeId) (size : Nat) (hu : P.underlying dT = some (.slice elem)) (hsz : (P.info? elem).map (·.size) = some size)
  {dp sp : Option Addr} {dLen dCap sLen sCap : Nat} (hd : a.eval d = .slice dp dLen dCap) (hs : a.eval s = .slice sp sLen sCap)
  (g off m : Nat) (cur : List Value) (t : TypeId) (hg : w.heap[g]? = some (.cells cur.toArray t (0, 0))) (cs : List Value) (hm : Nat.min sLen dLen = m) (hn : cs.length = m * size)
  (hpos : 0 < m → dp = some ⟨g, off, none⟩ ∧ ∃ ad, sp = some ad ∧ ∀ j v, cs[j]? = some v → w.cell? (ad.add j) = some v)
  (hfit : off + cs.length ≤ cur.length) (h1 : ∀ v ∈ cs, v.oneCell' = true)
  (h : ∀ w', Hid (w'.heap[g]? = some (.cells (splice cur off cs).toArray t (0, 0))) → w.grownBy w' (some g) → wpList P ops Q rest (a.put o.dst (goInt m)) w') : wpList P ops Q (o :: rest) a w :=
 wpList_plain hgd fun _ hK => op_copyK d s dT sT ho elem size hu hsz hd hs g off m cur t hg cs hm hn hpos hfit h1 fun w' a1 a2 => hK _ _ (h w' a1 a2)
theorem step_copyK {P : Program} {ops : Array Oper} {o : Oper} {a : Act} {w : World} {K : Act → World → Prop} {Q : Exit → Act → World → Prop} {E : Prop} (hgd : o.guard = none) (d s : Operand) (dT sT : TypeId)
  (ho : o.op = .call { callee := .builtin .copy, args := #[d, s], argTypes := #[dT, sT] }) (elem : TypeId) (size : Nat) (hu : P.underlying dT = some (.slice elem)) (hsz : (P.info? elem).map (·.size) = some size)
  {dp sp : Option Addr} {dLen dCap sLen sCap : Nat} (hd : a.eval d = .slice dp dLen dCap) (hs : a.eval s = .slice sp sLen sCap)
  (g off m : Nat) (cur : List Value) (t : TypeId) (hg : w.heap[g]? = some (.cells cur.toArray t (0, 0))) (cs : List Value) (hm : Nat.min sLen dLen = m) (hn : cs.length = m * size)
  (hpos : 0 < m → dp = some ⟨g, off, none⟩ ∧ ∃ ad, sp = some ad ∧ ∀ j v, cs[j]? = some v → w.cell? (ad.add j) = some v)
  (hfit : off + cs.length ≤ cur.length) (h1 : ∀ v ∈ cs, v.oneCell' = true)
  (h : ∀ w', Hid (w'.heap[g]? = some (.cells (splice cur off cs).toArray t (0, 0))) → w.grownBy w' (some g) → K (a.put o.dst (goInt m)) w') :
  if Region.wanted o (yielded ops a.tmps) = true then Oper.wp P o a w K Q else E := by
 have hw : Region.wanted o (yielded ops a.tmps) = true := by simp [Region.wanted, hgd]
 rw [if_pos hw]
 exact op_copyK d s dT sT ho elem size hu hsz hd hs g off m cur t hg cs hm hn hpos hfit h1 h
theorem splice_get {α : Type} (L : List α) (off : Nat) (cs : List α) (h : off + cs.length ≤ L.length) (j : Nat) : (splice L off cs)[j]? = if off ≤ j ∧ j < off + cs.length then cs[j - off]? else L[j]? := by
 unfold splice
 rw [List.getElem?_append, List.getElem?_append, List.length_take, Nat.min_eq_left (by omega)]
 by_cases h1 : j < off
 ·rw [if_pos h1, if_neg (by omega), List.getElem?_take, if_pos h1]
 ·rw [if_neg h1]
  by_cases h2 : j - off < cs.length
  ·rw [if_pos h2, if_pos (by omega)]
  ·rw [if_neg h2, if_neg (by omega), List.getElem?_drop]
   congr 1; omega
theorem ins_room {α : Type} (cur X L : List α) (p c N : Nat) (hp : p ≤ N) (hX : X.length = c) (hL : cur.take N = L) (hN : N + c ≤ cur.length) :
  (splice (splice cur (p + c) (L.drop p)) p X).take (N + c) = L.take p ++ X ++ L.drop p := by
 have hLl : L.length = N := by rw [← hL, List.length_take]; omega
 have e1 : (splice cur (p + c) (L.drop p)).length = cur.length := length_splice _ _ _ (by rw [List.length_drop]; omega)
 apply List.ext_getElem?
 intro j
 rw [List.getElem?_take, splice_get _ _ _ (by omega), splice_get _ _ _ (by rw [List.length_drop]; omega)]
 rw [List.getElem?_append, List.getElem?_append, List.length_append, List.length_take, hX, List.length_drop, hLl, Nat.min_eq_left hp]
 have hc : ∀ i, i < N → cur[i]? = L[i]? := fun i hi => by rw [← hL, List.getElem?_take, if_pos hi]
 by_cases h1 : j < p
 ·rw [if_pos (by omega), if_neg (by omega), if_neg (by omega), if_pos (by omega), if_pos h1, List.getElem?_take, if_pos h1, hc j (by omega)]
 ·by_cases h2 : j < p + c
  ·rw [if_pos (by omega), if_pos (by omega), if_pos (by omega), if_neg h1]
  ·by_cases h3 : j < N + c
   ·rw [if_pos h3, if_neg (by omega), if_pos (by omega), if_neg (by omega)]
   ·rw [if_neg h3, if_neg (by omega), List.getElem?_eq_none (by rw [List.length_drop]; omega)]
theorem ins_grow {α : Type} (Z X L : List α) (p c N : Nat) (hp : p ≤ N) (hX : X.length = c) (hL : L.length = N) (hZ : N + c ≤ p + Z.length) :
  (splice (splice (L.take p ++ Z) p X) (p + c) (L.drop p)).take (N + c) = L.take p ++ X ++ L.drop p := by
 have e0 : (L.take p ++ Z).length = p + Z.length := by rw [List.length_append, List.length_take]; omega
 have e1 : (splice (L.take p ++ Z) p X).length = p + Z.length := by rw [length_splice _ _ _ (by omega), e0]
 apply List.ext_getElem?
 intro j
 have er : (L.take p ++ X ++ L.drop p)[j]? = if j < p + c then (if j < p then (L.take p)[j]? else X[j - p]?) else (L.drop p)[j - (p + c)]? := by
  rw [List.getElem?_append, List.getElem?_append, List.length_append, List.length_take, hX, hL, Nat.min_eq_left hp]
 have ez : j < p → (L.take p ++ Z)[j]? = (L.take p)[j]? := fun h => by rw [List.getElem?_append, List.length_take, Nat.min_eq_left (by omega), if_pos h]
 rw [er, List.getElem?_take, splice_get _ _ _ (by rw [List.length_drop]; omega), splice_get _ _ _ (by omega)]
 rw [hX, List.length_drop, hL]
 by_cases h1 : j < p
 ·rw [if_pos (by omega), if_neg (by omega), if_neg (by omega), if_pos (by omega), if_pos h1, ez h1]
 ·by_cases h2 : j < p + c
  ·rw [if_pos (by omega), if_neg (by omega), if_pos (by omega), if_pos (by omega), if_neg h1]
  ·by_cases h3 : j < N + c
   ·rw [if_pos h3, if_pos (by omega), if_neg (by omega)]
   ·rw [if_neg h3, if_neg (by omega), List.getElem?_eq_none (by rw [List.length_drop]; omega)]
end Go.Proofs.YtjaponmpfdpemaaGreatDoor
set_option linter.unusedSimpArgs false
set_option linter.unusedVariables false
namespace Go.Proofs.YtjaponmpfdpemaaGreatDoor
open Go.RowKit
theorem sr_size : (Tryz.prog.info? 25).map (·.size) = some 13 := by kernel_rfl
theorem sr_sizeOf : ∀ w, (Go.sizeOf 25).run Tryz.prog w = .ok 13 w := fun w => by
 have h := sr_size
 cases hq : Tryz.prog.info? 25 with
 | none => simp [hq] at h
 | some i =>
  have hi : i.size = 13 := by simpa [hq] using h
  simp [Go.sizeOf, typeInfo, hq, hi]
theorem srover_any (w : World) (vb g : Nat) (offb : Nat) (lb cb : Nat) (X cur : Array Value) (hne : vb ≠ g) (hv : w.heap[vb]? = some (.cells X 25 (0, 0))) (hg : w.heap[g]? = some (.cells cur 25 (0, 0))) (hc : cur.size ≠ 0) :
  (callFunc 74 #[.slice (some ⟨vb, 0, none⟩) 1 1, .slice (some ⟨g, offb, none⟩) lb cb]).run Tryz.prog w = .ok (.value (.bool false)) w := by
 rw [run_callFunc_extern Tryz.func74 (by kernel_rfl) (by kernel_rfl) (by kernel_rfl) (e := Extern.SlicesOverlaps.overlaps #[27, 27] #[4]) (by kernel_rfl),
  Lib.run_overlaps_apart w 27 4 25 Tryz.underlying27 13 sr_sizeOf ⟨vb, 0, none⟩ ⟨g, offb, none⟩ 1 1 lb cb hne 25 25 X.size cur.size (by simp [World.shape?, hv]) (by simp [World.shape?, hg]) hc (by simp [World.frozen?, hv]) (by simp [World.frozen?, hv])]
 rfl
set_option maxRecDepth 100000 in
set_option maxHeartbeats 4000000 in
theorem srins_room (n k cap g vb : Nat) (cur X L : List Value) (w : World) (hk : k < n) (hroom : n + 1 ≤ cap) (hcm : cap ≤ maxLen) (hne : vb ≠ g)
  (hg : w.heap[g]? = some (.cells cur.toArray 25 (0, 0))) (hcur : cur.length = cap * 13) (hL : cur.take (n * 13) = L) (hv : w.heap[vb]? = some (.cells X.toArray 25 (0, 0))) (hX : X.length = 13)
  (h1 : ∀ u ∈ X, u.oneCell' = true) (h1L : ∀ u ∈ L, u.oneCell' = true) :
  Calls Tryz.prog 44 #[.slice (some ⟨g, 0, none⟩) n cap, .int .i64 (k : Int), .slice (some ⟨vb, 0, none⟩) 1 1] w fun e w' =>
   e = .returned (.slice (some ⟨g, 0, none⟩) (n + 1) cap) ∧ (∃ cur', w'.heap[g]? = some (.cells (List.toArray cur') 25 (0, 0)) ∧ cur'.length = cap * 13 ∧ cur'.take ((n + 1) * 13) = L.take (k * 13) ++ X ++ L.drop (k * 13)) ∧ w.grownBy w' (some g) := by
 have hLl : L.length = n * 13 := by rw [← hL, List.length_take]; omega
 have hov := fun ob lb cb => srover_any w vb g ob lb cb X.toArray cur.toArray hne hv hg (by rw [List.size_toArray]; omega)
 have hz2 : ¬ ((k : Int) = (n : Int)) := by omega
 have hw1 : IntKind.i64.wrap ((k : Int) + 1) = (k : Int) + 1 := by rw [IntKind.wrap_i64]; unfold maxLen at hcm; omega
 have hw2 : IntKind.i64.wrap ((n : Int) + 1) = (n : Int) + 1 := by rw [IntKind.wrap_i64]; unfold maxLen at hcm; omega
 have hb1 : (0 : Int) ≤ (k : Int) + 1 := by omega
 have hkn : (k : Int) ≤ (n : Int) := by omega
 have hin : k ≤ n := by omega
 have htn : ((k : Int) + 1).toNat = k + 1 := by omega
 have htm : ((n : Int) + 1).toNat = n + 1 := by omega
 have hb2 : ¬ (cap = k + 1) := by omega
 have hb4 : ¬ (cap = k) := by omega
 have hb3 : (k : Int) + 1 ≤ (n : Int) + 1 := by omega
 have hb5 : (k : Int) ≤ (n : Int) + 1 := by omega
 have hb6 : (n : Int) + 1 ≤ (cap : Int) := by omega
 have hb7 : ¬ ((cap : Int) < (n : Int) + 1) := by omega
 have hb8 : (0 : Int) ≤ (n : Int) + 1 := by omega
 have F1 := Lib.hid hg
 have F2 := Lib.hid hv
 have F3 := Lib.hid hcur
 have F4 := Lib.hid hL
 have F5 := Lib.hid h1
 have F6 := Lib.hid h1L
 have F7 := Lib.hid hX
 have F8 := Lib.hid hLl
 have F9 := Lib.hid hroom
 obtain ⟨D, hD⟩ : ∃ D, L.drop (k * 13) = D := ⟨_, rfl⟩
 have hDl : D.length = (n - k) * 13 := by rw [← hD, List.length_drop, hLl]; omega
 have hD1 : ∀ u ∈ D, u.oneCell' = true := fun u hu => h1L u (by rw [← hD] at hu; exact List.mem_of_mem_drop hu)
 have HS := Lib.hid (show ∀ j v, D[j]? = some v → w.cell? ⟨g, k * 13 + j, none⟩ = some v from fun j v hj => by
  rw [← hD, List.getElem?_drop] at hj
  have : cur[k * 13 + j]? = some v := by
   rw [← hL, List.getElem?_take] at hj
   split at hj
   ·exact hj
   ·cases hj
  rw [cell_of_row w g _ cur.toArray _ (0, 0) hg]
  simpa using this)
 have HS2 : Hid (∀ j v, D[j]? = some v → w.drew.cell? ((⟨g, k * 13, none⟩ : Addr).add j) = some v) := Lib.hid (fun j v hj => by rw [Addr.add_lit]; exact HS.out j v hj)
 have G1 := Lib.hid hD
 have G2 := Lib.hid hDl
 have G3 := Lib.hid hD1
 have hfit : (k + 1) * 13 + D.length ≤ cur.length := by rw [hDl, hcur]; omega
 replace hfit := Lib.hid hfit
 have hmin : Nat.min (n + 1 - k) (n + 1 - (k + 1)) = n - k := by simp only [Nat.min_def]; split <;> omega
 replace hmin := Lib.hid hmin
 clear hg hv hcur hL h1 h1L hX hLl hD hDl hD1
 go_enter Tryz.func44, Tryz.ntmps44
 go_wp2_with (simp only [hov])
 go_region_law (refine step_copyK rfl (.tmp 73) (.tmp 76) 27 27 rfl 25 13 Tryz.underlying27 sr_size (dp := some ⟨g, (k + 1) * 13, none⟩) (sp := some ⟨g, k * 13, none⟩) (dLen := n + 1 - (k + 1)) (dCap := cap - (k + 1)) (sLen := n + 1 - k) (sCap := cap - k) (by simp [Act.eval, Act.put]) (by simp [Act.eval, Act.put]) g ((k + 1) * 13) (n - k) cur 25 F1.out D hmin.out G2.out (fun _ => ⟨rfl, _, rfl, HS2.out⟩) hfit.out G3.out ?_; intro w4 hg4 gr4)
 have F2' : w4.heap[vb]? = some (.cells X.toArray 25 (0, 0)) := (gr4.block vb (by exact (Array.getElem?_eq_some_iff.1 F2.out).1) (by simp; omega)).trans F2.out
 have HX := Lib.hid (show ∀ j v, X[j]? = some v → w4.cell? ((⟨vb, 0, none⟩ : Addr).add j) = some v from fun j v hj => by
  rw [Addr.add_lit, cell_of_row w4 vb _ X.toArray _ (0, 0) F2']
  simpa using hj)
 have hm2 := Lib.hid (show Nat.min 1 (n + 1 - k) = 1 by simp only [Nat.min_def]; split <;> omega)
 have e1 := length_splice cur ((k + 1) * 13) D hfit.out
 have hfit2 := Lib.hid (show k * 13 + X.length ≤ (splice cur ((k + 1) * 13) D).length by rw [e1, F7.out, F3.out]; omega)
 have GR := Lib.hid gr4
 obtain ⟨C2, hC2⟩ : ∃ C2, splice cur ((k + 1) * 13) D = C2 := ⟨_, rfl⟩
 rw [hC2] at hg4 hfit2 e1
 replace hC2 := Lib.hid hC2
 replace e1 := Lib.hid e1
 clear F2' gr4
 go_wp2_with (refine wpl_copyK rfl (.tmp 80) (.tmp 81) 27 27 rfl 25 13 Tryz.underlying27 sr_size (dp := some ⟨g, k * 13, none⟩) (sp := some ⟨vb, 0, none⟩) (dLen := n + 1 - k) (dCap := cap - k) (sLen := 1) (sCap := 1) rfl rfl g (k * 13) 1 C2 25 hg4.out X hm2.out F7.out (fun _ => ⟨rfl, _, rfl, HX.out⟩) hfit2.out F5.out ?_; intro w5 hg5 gr5)
 go_ret
 refine ⟨by simp, ⟨_, hg5.out, ?_, ?_⟩, ?_⟩
 ·rw [length_splice _ _ _ hfit2.out, e1.out, F3.out]
 ·have h := ins_room cur X L (k * 13) 13 (n * 13) (by omega) F7.out F4.out (by rw [F3.out]; omega)
  rw [G1.out, show k * 13 + 13 = (k + 1) * 13 by omega, hC2.out, show n * 13 + 13 = (n + 1) * 13 by omega] at h
  rw [h, G1.out]
 ·exact ⟨gr5.os.trans GR.out.os, gr5.tape.trans GR.out.tape, gr5.output.trans GR.out.output, Nat.le_trans GR.out.size gr5.size, fun j hj hne => (gr5.block j (Nat.lt_of_lt_of_le hj GR.out.size) hne).trans (GR.out.block j hj hne)⟩
end Go.Proofs.YtjaponmpfdpemaaGreatDoor
