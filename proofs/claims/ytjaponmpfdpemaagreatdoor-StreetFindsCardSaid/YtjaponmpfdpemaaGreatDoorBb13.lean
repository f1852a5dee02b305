/-
  addr: unit; the cursor's back and front.
-/
import Derived.Test.YtjaponmpfdpemaaGreatDoorBb12
set_option linter.unusedSimpArgs false
set_option linter.unusedVariables false
namespace Go.Proofs.YtjaponmpfdpemaaGreatDoor
open Go.RowKit
theorem bs_app (a b : Bs) : (⟨a.toArray⟩ ++ ⟨b.toArray⟩ : ByteArray) = ⟨(a ++ b).toArray⟩ := by
 apply ByteArray.ext
 apply Array.ext'
 simp
theorem unitP_len {l : List Tok} (h : l.length ≠ 2) : unitP l = ([], false) := by
 match l, h with
 | [], _ => rfl
 | [_], _ => rfl
 | [_, _], h => exact absurd rfl h
 | _ :: _ :: _ :: _, _ => rfl
set_option maxRecDepth 100000 in
theorem unit_any (l : List Tok) (A : Option Addr) (n cap : Nat) (W : World) (h : TokS W A n cap l) (hS : Std W) :
  Calls Tryz.prog 79 #[.slice A n cap] W fun e w' => e = .returned (.tuple #[.string ⟨(unitP l).1.toArray⟩, .bool (unitP l).2]) ∧ Ext W w' := by
 obtain rfl := h.len
 have hl := h.l40
 by_cases h2 : l.length = 2
 ·match l, h2 with
  | [a, b], _ =>
   obtain ⟨g, o, rfl, hg, a0, a1⟩ := h.at_ (k := 0) (by simp)
   obtain ⟨g', o', e, _, b0, b1⟩ := h.at_ (k := 1) (by simp)
   injection e with e
   injection e with e1 e2 _
   subst e1 e2
   simp only [List.getElem_cons_zero, List.getElem_cons_succ, Nat.zero_mul, Nat.add_zero, Nat.one_mul] at a0 a1 b0 b1
   have sa := h.sm a (by simp)
   have sb := h.sm b (by simp)
   have hlen : [a, b].length = 2 := rfl
   rw [hlen] at *
   have hP : unitP [a, b] = if b.k = 5 ∨ b.k = 4 then ([], false) else if a.k = 5 then (35 :: b.t, true) else (shortT a 4 ++ 32 :: b.t, shortT a 4 != []) := rfl
   have HS := Lib.hid (fun w (hx : Ext W w) => shortTok_any a 4 (.inr (.inr (.inr rfl))) (by omega) w (hS.ext hx))
   have lsh : (shortT a 4).length ≤ 4 := (shortP_ok words_fine.2.2.2 short0.2.2.2 a.t).len
   generalize shortT a 4 = sh at *
   generalize a.k = ak at *
   generalize a.t = at_ at *
   generalize b.k = bk at *
   generalize b.t = bt at *
   clear h hS
   by_cases h5 : bk = 5
   ·have hR := Lib.hid (show unitP [a, b] = ([], false) by rw [hP, if_pos (.inl h5)])
    subst h5
    clear hP
    go_enter Tryz.func79, Tryz.ntmps79
    go_wp2_with fail
    go_ret2
    exact ⟨by rw [hR.out]; rfl, Ext.refl _⟩
   have d5 : (bk == 5) = false := by rw [beq_eq_false_iff_ne]; exact h5
   by_cases h4 : bk = 4
   ·have hR := Lib.hid (show unitP [a, b] = ([], false) by rw [hP, if_pos (.inr h4)])
    subst h4
    clear hP
    go_enter Tryz.func79, Tryz.ntmps79
    go_wp2_with fail
    go_ret2
    exact ⟨by rw [hR.out]; rfl, Ext.refl _⟩
   have d4 : (bk == 4) = false := by rw [beq_eq_false_iff_ne]; exact h4
   by_cases ha : ak = 5
   ·have hR := Lib.hid (show unitP [a, b] = (35 :: bt, true) by rw [hP, if_neg (fun e => e.elim h5 h4), if_pos ha])
    subst ha
    clear hP
    go_enter Tryz.func79, Tryz.ntmps79
    go_wp2_with fail
    go_ret2
    exact ⟨by rw [hR.out]; exact congrArg (fun x => Ending.returned (.tuple #[.string x, .bool true])) (bs_app [35] bt), Ext.refl _⟩
   have da : (ak == 5) = false := by rw [beq_eq_false_iff_ne]; exact ha
   have hR := Lib.hid (show unitP [a, b] = (sh ++ 32 :: bt, sh != []) by rw [hP, if_neg (fun e => e.elim h5 h4), if_neg ha])
   clear hP
   go_enter Tryz.func79, Tryz.ntmps79
   go_wp2_with fail
   refine (HS.out _ (Ext.refl _)).mono ?_
   rintro e w1 ⟨rfl, hx⟩
   have c0 := (hx.cell g _ none hg).trans b0
   have c1 := (hx.cell g _ none hg).trans b1
   clear HS a0 a1 b0 b1
   by_cases hs0 : sh = []
   ·have hse : sh.isEmpty = true := by rw [hs0]; rfl
    have hsn : (sh != []) = false := by rw [hs0]; rfl
    replace hsn := Lib.hid hsn
    clear hs0
    go_wp2_with fail
    go_ret2
    exact ⟨by rw [hR.out, hsn.out]; exact congrArg (fun x => Ending.returned (.tuple #[.string x, .bool false])) ((congrArg (fun y => y ++ _) (bs_app sh [32])).trans ((bs_app (sh ++ [32]) bt).trans (by simp))), hx⟩
   ·have hse : sh.isEmpty = false := by cases sh with | nil => exact absurd rfl hs0 | cons _ _ => rfl
    have hsn : (sh != []) = true := by simpa using hs0
    replace hsn := Lib.hid hsn
    clear hs0
    go_wp2_with fail
    go_ret2
    exact ⟨by rw [hR.out, hsn.out]; exact congrArg (fun x => Ending.returned (.tuple #[.string x, .bool true])) ((congrArg (fun y => y ++ _) (bs_app sh [32])).trans ((bs_app (sh ++ [32]) bt).trans (by simp))), hx⟩
 ·have hd : ((l.length : Int) != 2) = true := by simp; omega
  have hR := Lib.hid (unitP_len h2)
  go_enter Tryz.func79, Tryz.ntmps79
  go_wp2_with fail
  go_ret2
  exact ⟨by rw [hR.out]; rfl, Ext.refl _⟩
end Go.Proofs.YtjaponmpfdpemaaGreatDoor
set_option linter.unusedSimpArgs false
set_option linter.unusedVariables false
namespace Go.Proofs.YtjaponmpfdpemaaGreatDoor
open Go.RowKit
theorem tokCells_len : ∀ l : List Tok, (tokCells l).length = l.length * 2
 | [] => rfl
 | t :: l => by
  have := tokCells_len l
  unfold tokCells at this ⊢
  rw [List.flatMap_cons, List.length_append, this, List.length_cons]
  simp [tokC]
  omega
theorem TokS.ne {w : World} {A : Option Addr} {n cap : Nat} {l : List Tok} (h : TokS w A n cap l) {g : Nat} {t : TypeId} {x y : Value} {m c : Nat} {B : Option Addr} (hB : Blk w g t #[.slice B m c]) (h0 : 0 < l.length) : ∃ b o, A = some ⟨b, o, none⟩ ∧ b ≠ g := by
 obtain ⟨b, o, e, _, c0, _⟩ := h.at_ h0
 refine ⟨b, o, e, ?_⟩
 rintro rfl
 have := hB.cell (o + 0 * 2)
 rw [c0] at this
 rcases Nat.eq_zero_or_pos o with rfl | ho
 ·simp at this
 ·obtain ⟨o', rfl⟩ : ∃ o', o = o' + 1 := ⟨o - 1, by omega⟩
  simp at this
theorem TokS.grown {w w' : World} {A : Option Addr} {n cap : Nat} {l : List Tok} (h : TokS w A n cap l) {g : Nat} {t : TypeId} {m c : Nat} {B : Option Addr} (hB : Blk w g t #[.slice B m c]) (hg : w.grownBy w' (some g)) : TokS w' A n cap l := by
 refine ⟨h.len, ?_, h.le, h.max, h.l40, h.sm⟩
 refine ⟨h.rd.1, fun h0 => ?_⟩
 obtain ⟨b, o, e, hb, hc⟩ := h.rd.2 h0
 obtain ⟨b', o', e', hne⟩ := h.ne (x := .nilIface) (y := .nilIface) hB (by rw [h.len]; exact h0)
 rw [e] at e'
 injection e' with e'
 injection e' with e1 e2 _
 subst e1 e2
 refine ⟨b, o, e, Nat.lt_of_lt_of_le hb hg.size, fun j u hu => ?_⟩
 exact hg.cell (hc j u hu) (fun e => hne (Option.some.inj e))
theorem TokS.init {w : World} {A : Option Addr} {n N cap : Nat} {l : List Tok} (h : TokS w A N cap l) (hN : N = n + 1) : TokS w A n cap l.dropLast := by
 have hl := h.len
 refine ⟨by rw [List.length_dropLast]; omega, ?_, by have := h.le; omega, h.max, by have := h.l40; omega, fun t ht => h.sm t (List.dropLast_subset l ht)⟩
 have := h.rd.take (k := n) (by omega)
 have e : (tokCells l).take (n * 2) = tokCells l.dropLast := by
  rw [List.dropLast_eq_take, hl, hN]
  exact (flat_take (f := tokC) (c := 2) (fun _ => rfl) l n).symm
 rw [e] at this
 exact this
theorem TokS.tail {w : World} {b o n N cap : Nat} {l : List Tok} (h : TokS w (some ⟨b, o, none⟩) N cap l) (hN : N = n + 1) : TokS w (some ⟨b, o + 2, none⟩) n (cap - 1) l.tail := by
 have hl := h.len
 have hle := h.le
 have hmax := h.max
 have h40 := h.l40
 refine ⟨by rw [List.length_tail]; omega, ⟨?_, fun h0 => ?_⟩, by omega, by omega, by omega, fun t ht => h.sm t (List.mem_of_mem_tail ht)⟩
 ·rw [tokCells_len, List.length_tail]; omega
 ·obtain ⟨b', o', e, hb, hc⟩ := h.rd.2 (by omega)
  injection e with e
  injection e with e1 e2 _
  subst e1 e2
  refine ⟨b, o + 2, rfl, hb, fun j u hu => ?_⟩
  have := hc (j + 2) u (by
   cases l with
   | nil => simp at hl; omega
   | cons t l => simpa [tokCells, tokC] using hu)
  rw [show o + (j + 2) = o + 2 + j by omega] at this
  exact this
def CurAt (w : World) (g B : Nat) (l : List Tok) : Prop := ∃ A n cap, Blk w g 113 #[.slice A n cap] ∧ TokS w A n cap l ∧ (0 < l.length → ∀ b o, A = some ⟨b, o, none⟩ → b < B)
theorem CurAt.ext {w w' : World} {g B : Nat} {l : List Tok} (h : CurAt w g B l) (hx : Ext w w') : CurAt w' g B l := by
 obtain ⟨A, n, cap, b, T, hb⟩ := h
 exact ⟨A, n, cap, b.ext hx, T.ext hx, hb⟩
theorem CurAt.set {w : World} {g B : Nat} {l : List Tok} (h : CurAt w g B l) {p : Addr} (hp : B ≤ p.block) (hg : g ≠ p.block) (u : Value) : CurAt (w.setCell p u) g B l := by
 obtain ⟨A, n, cap, b, T, hb⟩ := h
 refine ⟨A, n, cap, b.far hg _, ⟨T.len, ⟨T.rd.1, fun h0 => ?_⟩, T.le, T.max, T.l40, T.sm⟩, hb⟩
 obtain ⟨c, o, e, hc, hk⟩ := T.rd.2 h0
 have hlt := hb (by rw [T.len]; exact h0) c o e
 refine ⟨c, o, e, by simpa using hc, fun j v hv => ?_⟩
 exact (World.cell?_setCell_far w p ⟨c, o + j, none⟩ u (by show p.block ≠ c; omega)).trans (hk j v hv)
set_option maxRecDepth 100000 in
theorem cback_any (l : List Tok) (kind : Int) (hk : kindOk kind) (g B : Nat) (W0 W : World) (h : CurAt W g B l) (hS : Std W0) (hX0 : Ext W0 W) (hg0 : W0.heap.size ≤ g) :
  Calls Tryz.prog 87 #[.pointer (some ⟨g, 0, none⟩), .int .i64 kind] W fun e w' => e = .returned (.string ⟨(backP l kind).2.toArray⟩) ∧ CurAt w' g B (backP l kind).1 ∧ W.grownBy w' (some g) := by
 obtain ⟨A, n, cap, hB, hT, hlt⟩ := h
 have c0 : W.cell? ⟨g, 0, none⟩ = some (.slice A n cap) := hB.cell 0
 have lg := hB.lt
 have hn := hT.len
 have h40 := hT.l40
 by_cases h2 : n < 2
 ·have hd : decide ((n : Int) < 2) = true := by simp; omega
  have hR := Lib.hid (show backP l kind = (l, []) by unfold backP; rw [if_neg (by omega)])
  have HC := Lib.hid (show CurAt W g B l from ⟨A, n, cap, hB, hT, hlt⟩)
  clear hB hT
  go_enter Tryz.func87, Tryz.ntmps87
  go_wp2_with fail
  go_ret
  exact ⟨by rw [hR.out]; rfl, by rw [hR.out]; exact HC.out, World.grownBy.refl _ _⟩
 ·have hd : decide ((n : Int) < 2) = false := by simp; omega
  obtain ⟨m, hm⟩ : ∃ m, n = m + 1 := ⟨n - 1, by omega⟩
  have hml : m < l.length := by omega
  have hlast : l.getLastD ⟨0, []⟩ = l[m] := by
   rw [List.getLastD_eq_getLast?, List.getLast?_eq_getElem?, show l.length - 1 = m by omega, List.getElem?_eq_getElem hml]
   rfl
  have hP : backP l kind = if shortT l[m] kind ≠ [] then (l.dropLast, shortT l[m] kind) else (l, []) := by
   unfold backP
   rw [hlast]
   by_cases hs : shortT l[m] kind ≠ []
   ·rw [if_pos ⟨by omega, hs⟩, if_pos hs]
   ·rw [if_neg (fun e => hs e.2), if_neg hs]
  have HL := Lib.hid (fun w (hx : Ext W w) => last_any l A m n cap g w hm hn.symm (hB.ext hx) (by have := (hT.rd.ext hx); rw [← hn] at this; exact this) (by omega))
  have HSh := Lib.hid (fun w (hx : Ext W0 w) => shortTok_any l[m] kind hk (by have := hT.sm l[m] (List.getElem_mem hml); omega) w (hS.ext hx))
  have hB' := Lib.hid hB
  have hT' := Lib.hid hT
  clear hB hT hlast
  unfold tokV at HL
  generalize shortT l[m] kind = sh at *
  generalize l[m].k = tk at *
  generalize l[m].t = tt at *
  have ew : IntKind.i64.wrap ((n : Int) - 1) = (m : Int) := by rw [IntKind.wrap_i64]; omega
  replace hm := Lib.hid hm
  go_enter Tryz.func87, Tryz.ntmps87
  go_wp2_with fail
  refine (HL.out _ (Ext.refl _)).mono ?_
  rintro e w1 ⟨rfl, hx1⟩
  go_wp2_with fail
  refine (HSh.out _ (hX0.trans hx1)).mono ?_
  rintro e w2 ⟨rfl, hx2⟩
  have X2 := hx1.trans hx2
  by_cases hs0 : sh = []
  ·have hse : sh.isEmpty = true := by rw [hs0]; rfl
   have hR := Lib.hid (show backP l kind = (l, []) by rw [hP, if_neg (fun e => e hs0)])
   clear hP hs0 hx1 hx2 HL HSh
   go_wp2_with fail
   go_ret
   exact ⟨by rw [hR.out]; rfl, by rw [hR.out]; exact ⟨A, n, cap, hB'.out.ext X2, hT'.out.ext X2, hlt⟩, only_ext (World.grownBy.refl _ _) X2⟩
  ·have hse : sh.isEmpty = false := by cases sh with | nil => exact absurd rfl hs0 | cons _ _ => rfl
   have hR := Lib.hid (show backP l kind = (l.dropLast, sh) by rw [hP, if_pos hs0])
   clear hP hs0 hx1 hx2
   go_wp2_with fail
   refine (HL.out _ X2).mono ?_
   rintro e w3 ⟨rfl, hx3⟩
   have X3 := X2.trans hx3
   have X4 := X3.alloc (.cells #[.int .i64 tk, .string ⟨tt.toArray⟩] 105)
   have B4 := Blk.new w3 105 #[.int .i64 tk, .string ⟨tt.toArray⟩]
   clear hx3 X2 HL
   go_upto_region 4 with (fail)
   generalize w3.alloc (.cells #[.int .i64 tk, .string ⟨tt.toArray⟩] 105) = w4 at *
   generalize w3.heap.size = g5 at *
   have d0 := (X4.cell g 0 none lg).trans c0
   have B5 := hB'.out.ext X4
   have T5 := hT'.out.ext X4
   have f0 := B5.frozen 0
   have lg4 := B5.lt
   have lmax := T5.le
   have lz : (m : Int) ≤ (cap : Int) := by have := hm.out; omega
   have mz : (0 : Int) ≤ (m : Int) := by omega
   have hg5 : g5 ≠ g := (B4.ne_ B5 (by decide))
   have G4 : w4.grownBy (w4.setCell ⟨g, 0, none⟩ (.slice A m cap)).drew (some g) := only_ext (only_set (World.grownBy.refl _ _) (p := ⟨g, 0, none⟩) (.inl rfl) _) (Ext.refl _).drew
   have h5 : CurAt (w4.setCell ⟨g, 0, none⟩ (.slice A m cap)).drew g B l.dropLast := ⟨A, m, cap, (B5.set_ 0 _).ext (Ext.refl _).drew, (T5.init hm.out).grown B5 G4, fun _ => hlt (by omega)⟩
   have HG : W.grownBy (w4.setCell ⟨g, 0, none⟩ (.slice A m cap)).drew (some g) := (only_ext (World.grownBy.refl W (some g)) X4).trans G4
   have X5 : Ext W0 (w4.setCell ⟨g, 0, none⟩ (.slice A m cap)).drew := hX0.grown HG (fun k hk => by cases hk; exact hg0)
   have B6 := B4.grown G4 (fun e => hg5 (Option.some.inj e))
   clear B5 T5 G4 B4
   go_region
   generalize (w4.setCell ⟨g, 0, none⟩ (.slice A m cap)).drew = w5 at *
   obtain ⟨b0, b1⟩ := B6.cells
   have lb := B6.lt
   go_wp2_with fail
   refine (HSh.out _ X5).mono ?_
   rintro e w6 ⟨rfl, hx6⟩
   have h6 := h5.ext hx6
   have HG6 := only_ext HG hx6
   go_wp2_with fail
   go_ret
   exact ⟨by rw [hR.out]; rfl, by rw [hR.out]; exact h6, HG6⟩
end Go.Proofs.YtjaponmpfdpemaaGreatDoor
set_option linter.unusedSimpArgs false
set_option linter.unusedVariables false
namespace Go.Proofs.YtjaponmpfdpemaaGreatDoor
open Go.RowKit
set_option maxRecDepth 100000 in
theorem cfront_any (l : List Tok) (kind : Int) (hk : kindOk kind) (g B : Nat) (W0 W : World) (h : CurAt W g B l) (hS : Std W0) (hX0 : Ext W0 W) (hg0 : W0.heap.size ≤ g) :
  Calls Tryz.prog 88 #[.pointer (some ⟨g, 0, none⟩), .int .i64 kind] W fun e w' => e = .returned (.string ⟨(frontP l kind).2.toArray⟩) ∧ CurAt w' g B (frontP l kind).1 ∧ W.grownBy w' (some g) := by
 obtain ⟨A, n, cap, hB, hT, hlt⟩ := h
 have c0 : W.cell? ⟨g, 0, none⟩ = some (.slice A n cap) := hB.cell 0
 have lg := hB.lt
 have hn := hT.len
 have h40 := hT.l40
 by_cases h2 : n < 2
 ·have hd : decide ((n : Int) < 2) = true := by simp; omega
  have hR := Lib.hid (show frontP l kind = (l, []) by unfold frontP; rw [if_neg (by omega)])
  have HC := Lib.hid (show CurAt W g B l from ⟨A, n, cap, hB, hT, hlt⟩)
  clear hB hT
  go_enter Tryz.func88, Tryz.ntmps88
  go_wp2_with fail
  go_ret
  exact ⟨by rw [hR.out]; rfl, by rw [hR.out]; exact HC.out, World.grownBy.refl _ _⟩
 ·have hd : decide ((n : Int) < 2) = false := by simp; omega
  obtain ⟨m, hm⟩ : ∃ m, n = m + 1 := ⟨n - 1, by omega⟩
  have h0l : 0 < l.length := by omega
  have hhead : l.headD ⟨0, []⟩ = l[0] := by
   cases l with
   | nil => simp at h0l
   | cons t l => rfl
  have hP : frontP l kind = if shortT l[0] kind ≠ [] then (l.tail, shortT l[0] kind) else (l, []) := by
   unfold frontP
   rw [hhead]
   by_cases hs : shortT l[0] kind ≠ []
   ·rw [if_pos ⟨by omega, hs⟩, if_pos hs]
   ·rw [if_neg (fun e => hs e.2), if_neg hs]
  have HL := Lib.hid (fun w (hx : Ext W w) => first_any l A cap g w (by rw [hn]; exact hB.ext hx) (by have := (hT.rd.ext hx); rw [← hn] at this; exact this) h0l (by omega))
  have HSh := Lib.hid (fun w (hx : Ext W0 w) => shortTok_any l[0] kind hk (by have := hT.sm l[0] (List.getElem_mem h0l); omega) w (hS.ext hx))
  obtain ⟨b, o, rfl, hbg⟩ := hT.ne (x := .nilIface) (y := .nilIface) hB h0l
  have hB' := Lib.hid hB
  have hT' := Lib.hid hT
  have lmax := hT.le
  clear hB hT hhead
  unfold tokV at HL
  generalize shortT l[0] kind = sh at *
  generalize l[0].k = tk at *
  generalize l[0].t = tt at *
  have l1 : (1 : Int) ≤ (n : Int) := by omega
  replace hm := Lib.hid hm
  go_enter Tryz.func88, Tryz.ntmps88
  go_wp2_with fail
  refine (HL.out _ (Ext.refl _)).mono ?_
  rintro e w1 ⟨rfl, hx1⟩
  go_wp2_with fail
  refine (HSh.out _ (hX0.trans hx1)).mono ?_
  rintro e w2 ⟨rfl, hx2⟩
  have X2 := hx1.trans hx2
  by_cases hs0 : sh = []
  ·have hse : sh.isEmpty = true := by rw [hs0]; rfl
   have hR := Lib.hid (show frontP l kind = (l, []) by rw [hP, if_neg (fun e => e hs0)])
   clear hP hs0 hx1 hx2 HL HSh
   go_wp2_with fail
   go_ret
   exact ⟨by rw [hR.out]; rfl, by rw [hR.out]; exact ⟨_, n, cap, hB'.out.ext X2, hT'.out.ext X2, hlt⟩, only_ext (World.grownBy.refl _ _) X2⟩
  ·have hse : sh.isEmpty = false := by cases sh with | nil => exact absurd rfl hs0 | cons _ _ => rfl
   have hR := Lib.hid (show frontP l kind = (l.tail, sh) by rw [hP, if_pos hs0])
   clear hP hs0 hx1 hx2
   go_wp2_with fail
   refine (HL.out _ X2).mono ?_
   rintro e w3 ⟨rfl, hx3⟩
   have X3 := X2.trans hx3
   have X4 := X3.alloc (.cells #[.int .i64 tk, .string ⟨tt.toArray⟩] 105)
   have B4 := Blk.new w3 105 #[.int .i64 tk, .string ⟨tt.toArray⟩]
   clear hx3 X2 HL
   go_upto_region 4 with (fail)
   generalize w3.alloc (.cells #[.int .i64 tk, .string ⟨tt.toArray⟩] 105) = w4 at *
   generalize w3.heap.size = g5 at *
   have d0 := (X4.cell g 0 none lg).trans c0
   have B5 := hB'.out.ext X4
   have T5 := hT'.out.ext X4
   have f0 := B5.frozen 0
   have lg4 := B5.lt
   have hg5 : g5 ≠ g := (B4.ne_ B5 (by decide))
   have G4 : w4.grownBy (w4.setCell ⟨g, 0, none⟩ (.slice (some ⟨b, o + 2, none⟩) (n - 1) (cap - 1))) (some g) := only_set (World.grownBy.refl _ _) (p := ⟨g, 0, none⟩) (.inl rfl) _
   have h5 : CurAt (w4.setCell ⟨g, 0, none⟩ (.slice (some ⟨b, o + 2, none⟩) (n - 1) (cap - 1))) g B l.tail := ⟨_, n - 1, cap - 1, B5.set_ 0 _, (T5.tail (by have := hm.out; omega)).grown B5 G4, fun _ b' o' e => by cases e; exact hlt h0l b o rfl⟩
   have HG : W.grownBy (w4.setCell ⟨g, 0, none⟩ (.slice (some ⟨b, o + 2, none⟩) (n - 1) (cap - 1))) (some g) := only_trans (only_ext (World.grownBy.refl W (some g)) X4) G4
   have X5 : Ext W0 (w4.setCell ⟨g, 0, none⟩ (.slice (some ⟨b, o + 2, none⟩) (n - 1) (cap - 1))) := hX0.grown HG (fun k hk => by cases hk; exact hg0)
   have B6 := B4.grown G4 (fun e => hg5 (Option.some.inj e))
   clear B5 T5 G4 B4
   go_upto_region 5 with (fail)
   generalize w4.setCell ⟨g, 0, none⟩ (.slice (some ⟨b, o + 2, none⟩) (n - 1) (cap - 1)) = w5 at *
   obtain ⟨b0, b1⟩ := B6.cells
   have lb := B6.lt
   go_wp2_with fail
   refine (HSh.out _ X5).mono ?_
   rintro e w6 ⟨rfl, hx6⟩
   have h6 := h5.ext hx6
   have HG6 := only_ext HG hx6
   go_wp2_with fail
   go_ret
   exact ⟨by rw [hR.out]; rfl, by rw [hR.out]; exact h6, HG6⟩
end Go.Proofs.YtjaponmpfdpemaaGreatDoor
