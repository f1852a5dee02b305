/-
  apportionlaw18: StreetFinds (printed by tools/genMj.py).
-/
import Derived.Deep.CutRange
import Derived.Test.YtjaponmpfdpemaaGreatDoorBb41
import Derived.Test.YtjaponmpfdpemaaGreatDoorBb43
import Derived.Test.YtjaponmpfdpemaaGreatDoorBb44
import Derived.Test.YtjaponmpfdpemaaGreatDoorBb45
import Derived.Test.YtjaponmpfdpemaaGreatDoorBb30
import Derived.Test.YtjaponmpfdpemaaGreatDoorBb40
import Derived.Test.YtjaponmpfdpemaaGreatDoorRows
import Derived.Test.YtjaponmpfdpemaaGreatDoorTie
import Derived.Test.YtjaponmpfdpemaaGreatDoorCards
import Derived.SevenTiedAt
import Derived.OpenShut
set_option linter.unusedSimpArgs false
set_option linter.unusedVariables false
namespace Go.Proofs.YtjaponmpfdpemaaGreatDoor
open Go.RowKit
noncomputable def fndAt2 (n : Nat) : Code × Code × Code := cut2 (Tryz.f9.body.bind (tailIn n))
theorem ft_ne (x y : Int) (w : World) : (binOp .neq 36 (.agg #[.int .i64 x, .int .i64 y]) (.agg #[.int .i64 x, .int .i64 y])).run Tryz.prog w = .ok (.bool false) w := by simp [go_sem]
theorem sr_ne (x : Sr) (w : World) : (binOp .neq 25 (.agg #[.string ⟨x.state.toArray⟩, .string ⟨x.city.toArray⟩, .string ⟨x.pre.toArray⟩, .string ⟨x.name.toArray⟩, .string ⟨x.suf.toArray⟩, .string ⟨x.post.toArray⟩, .int .i64 x.fr, .int .i64 x.to_, .int .i64 x.side, .int .i64 x.ax, .int .i64 x.ay, .int .i64 x.bx, .int .i64 x.by_]) (.agg #[.string ⟨x.state.toArray⟩, .string ⟨x.city.toArray⟩, .string ⟨x.pre.toArray⟩, .string ⟨x.name.toArray⟩, .string ⟨x.suf.toArray⟩, .string ⟨x.post.toArray⟩, .int .i64 x.fr, .int .i64 x.to_, .int .i64 x.side, .int .i64 x.ax, .int .i64 x.ay, .int .i64 x.bx, .int .i64 x.by_])).run Tryz.prog w = .ok (.bool false) w := by simp [go_sem]
def zs13 (cs : Array Value) (o : Nat) : Array Value := (((((((((((((cs.setIfInBounds (o) (.string ByteArray.empty)).setIfInBounds (o + 1) (.string ByteArray.empty)).setIfInBounds (o + 2) (.string ByteArray.empty)).setIfInBounds (o + 3) (.string ByteArray.empty)).setIfInBounds (o + 4) (.string ByteArray.empty)).setIfInBounds (o + 5) (.string ByteArray.empty)).setIfInBounds (o + 6) (.int .i64 0)).setIfInBounds (o + 7) (.int .i64 0)).setIfInBounds (o + 8) (.int .i64 0)).setIfInBounds (o + 9) (.int .i64 0)).setIfInBounds (o + 10) (.int .i64 0)).setIfInBounds (o + 11) (.int .i64 0)).setIfInBounds (o + 12) (.int .i64 0))
def zw13 (w : World) (g o : Nat) : World := (((((((((((((w.setCell ⟨g, o, none⟩ (.string ByteArray.empty)).setCell ⟨g, o + 1, none⟩ (.string ByteArray.empty)).setCell ⟨g, o + 2, none⟩ (.string ByteArray.empty)).setCell ⟨g, o + 3, none⟩ (.string ByteArray.empty)).setCell ⟨g, o + 4, none⟩ (.string ByteArray.empty)).setCell ⟨g, o + 5, none⟩ (.string ByteArray.empty)).setCell ⟨g, o + 6, none⟩ (.int .i64 0)).setCell ⟨g, o + 7, none⟩ (.int .i64 0)).setCell ⟨g, o + 8, none⟩ (.int .i64 0)).setCell ⟨g, o + 9, none⟩ (.int .i64 0)).setCell ⟨g, o + 10, none⟩ (.int .i64 0)).setCell ⟨g, o + 11, none⟩ (.int .i64 0)).setCell ⟨g, o + 12, none⟩ (.int .i64 0))
theorem zs13_size (cs : Array Value) (o : Nat) : (zs13 cs o).size = cs.size := by simp [zs13]
theorem zs13_get (cs : Array Value) (o j : Nat) (h : o + 13 ≤ j) : (zs13 cs o)[j]? = cs[j]? := by
 unfold zs13
 repeat rw [Array.getElem?_setIfInBounds_ne (by omega)]
theorem Blk.zw {w : World} {g : Nat} {t : TypeId} {cs : Array Value} (h : Blk w g t cs) (o : Nat) : Blk (zw13 w g o) g t (zs13 cs o) :=
 (((((((((((((h.set_ (o) _).set_ (o + 1) _).set_ (o + 2) _).set_ (o + 3) _).set_ (o + 4) _).set_ (o + 5) _).set_ (o + 6) _).set_ (o + 7) _).set_ (o + 8) _).set_ (o + 9) _).set_ (o + 10) _).set_ (o + 11) _).set_ (o + 12) _)
theorem Ext.zw {W w : World} {g : Nat} (h : Ext W w) (hg : W.heap.size ≤ g) (o : Nat) : Ext W (zw13 w g o) :=
 (((((((((((((h.set (p := ⟨g, o, none⟩) hg _).set (p := ⟨g, o + 1, none⟩) hg _).set (p := ⟨g, o + 2, none⟩) hg _).set (p := ⟨g, o + 3, none⟩) hg _).set (p := ⟨g, o + 4, none⟩) hg _).set (p := ⟨g, o + 5, none⟩) hg _).set (p := ⟨g, o + 6, none⟩) hg _).set (p := ⟨g, o + 7, none⟩) hg _).set (p := ⟨g, o + 8, none⟩) hg _).set (p := ⟨g, o + 9, none⟩) hg _).set (p := ⟨g, o + 10, none⟩) hg _).set (p := ⟨g, o + 11, none⟩) hg _).set (p := ⟨g, o + 12, none⟩) hg _)
theorem StrAt.zw {w0 W : World} {tb n g : Nat} {T : STab} (h : StrAt w0 W tb n T) (hg : g < w0.heap.size) (o : Nat) : StrAt w0 (zw13 W g o) tb n T :=
 (((((((((((((h.far (p := ⟨g, o, none⟩) hg _).far (p := ⟨g, o + 1, none⟩) hg _).far (p := ⟨g, o + 2, none⟩) hg _).far (p := ⟨g, o + 3, none⟩) hg _).far (p := ⟨g, o + 4, none⟩) hg _).far (p := ⟨g, o + 5, none⟩) hg _).far (p := ⟨g, o + 6, none⟩) hg _).far (p := ⟨g, o + 7, none⟩) hg _).far (p := ⟨g, o + 8, none⟩) hg _).far (p := ⟨g, o + 9, none⟩) hg _).far (p := ⟨g, o + 10, none⟩) hg _).far (p := ⟨g, o + 11, none⟩) hg _).far (p := ⟨g, o + 12, none⟩) hg _)
def TbAt (w0 w : World) (v : Value) (l : List Sr) : Prop := ((newR l).1 = 0 ∧ ∃ tb T, v = .pointer (some ⟨tb, 0, none⟩) ∧ StrAt w0 w tb l.length T ∧ SrTab T l.length ∧ ∀ a, findP T a = findR l a) ∨ ((newR l).1 ≠ 0 ∧ v = .pointer none)
theorem TbAt.ext {w0 w w' : World} {v : Value} {l : List Sr} (h : TbAt w0 w v l) (hx : Ext w w') : TbAt w0 w' v l := by
 rcases h with ⟨h0, tb, T, e, hA, hR, hF⟩ | h
 ·exact .inl ⟨h0, tb, T, e, hA.ext hx, hR, hF⟩
 ·exact .inr h
theorem TbAt.zw {w0 w : World} {v : Value} {l : List Sr} {g : Nat} (h : TbAt w0 w v l) (hg : g < w0.heap.size) (o : Nat) : TbAt w0 (zw13 w g o) v l := by
 rcases h with ⟨h0, tb, T, e, hA, hR, hF⟩ | h
 ·exact .inl ⟨h0, tb, T, e, hA.zw hg o, hR, hF⟩
 ·exact .inr h
def FaAt (w0 : World) (n : Nat) (i : Value) (wr : World) : Prop := ∃ k : Nat, k ≤ n ∧ i = .int .i64 (k : Int) ∧ Ext w0 wr
set_option maxRecDepth 100000 in
set_option maxHeartbeats 4000000 in
theorem fnd13 (l : List Sr) (hs : ∀ s ∈ l, SrS s 1000) (cn : Nat) (hcn : l.length = cn) (hl : cn ≤ 100) (A A1 : Option Addr) (cap cap1 : Nat) (all : List Ad) (an : Nat) (han : all.length = an) (hal : an ≤ 50) (W w w0 : World) (hS : Std w) (X : Ext W w) (v6 : Value) (hT : TbAt w0 w v6 l)
  (hr : Reads w w.heap.size 13 A cn (srCells l)) (hra : Reads w w.heap.size 11 A1 an (adCells all)) ⦃u2 u3 u4 u5 u7 u8 u14 u15 u16 u17 u18 u19 u20 u21 u22 u23 u24 u25 u26 u27 u28 u29 u30 u31 u32 u33 u34 u35 u36 u37 u38 u39 u40 u41 u42 u43 u44 u45 u46 u47 u48 u49 u50 u51 u52 u53 u54 u55 u56 u57 u58 u59 : Value⦄ : KF2 Tryz.prog (bodyPost Tryz.prog Tryz.f9 (fun e w' => e = .returned (.bool true) ∧ Ext W w')) ⟨#[.slice A cn cap, .slice A1 an cap1, u2, u3, u4, u5, v6, u7, u8, undef, undef, undef, undef, undef, u14, u15, u16, u17, u18, u19, u20, u21, u22, u23, u24, u25, u26, u27, u28, u29, u30, u31, u32, u33, u34, u35, u36, u37, u38, u39, u40, u41, u42, u43, u44, u45, u46, u47, u48, u49, u50, u51, u52, u53, u54, u55, u56, u57, u58, u59, undef, undef, undef, undef, undef, undef, undef, undef, undef, undef, undef, undef, undef, undef, undef, undef, undef, undef, undef, undef, undef, undef, undef, undef, undef, undef, undef, undef, undef, undef, undef, undef, undef, undef, undef, undef, undef, undef, undef, undef, undef, undef, undef, undef, undef, undef, undef, undef], []⟩ w (fndAt2 13) := by
 subst hcn han
 have HW := Lib.hid (fun w' (hx : Ext w w') => l18awake_any w' (hS.ext hx))
 have HFR := Lib.hid (fun a (ha : AdS a 1000) w' (hx : Ext w w') => rsrfind_any l hs A cap a ha w' (hr.ext hx) (by omega))
 have HRA := Lib.hid (fun w' (hx : Ext w w') => hra.ext hx)
 have HSt := Lib.hid (fun w' (hx : Ext w w') => hS.ext hx)
 replace X := Lib.hid X
 conv => arg 5; whnf
 conv => arg 5; arg 1; whnf
 conv => arg 5; arg 2; whnf
 conv => arg 5; arg 2; arg 1; whnf
 conv => arg 5; arg 2; arg 2; whnf
 unfold KF2
 dsimp only
 intro K1 hK1 K2 hK2
 rcases hT with ⟨_, tb, T, rfl, hA, hR, hF⟩ | ⟨_, rfl⟩
 rotate_left
 ·clear hs hr hra hS HFR HRA HSt
  go_wp2_with fail
  refine (HW.out _ (Ext.refl _)).mono ?_
  rintro e w1 ⟨rfl, hx⟩
  have XW := Lib.hid (X.out.trans hx)
  clear hx
  go_wp2_with fail
  go_ret
  exact ⟨rfl, XW.out⟩
 ·have hFd := Lib.hid (srfind_table hA hR hF)
  obtain ⟨ml, c, _, hB, _⟩ := hA.ex
  have HLn := Lib.hid (fun w' (hx : Ext w w') => srlen_at w' tb _ _ true (hB.ext hx))
  simp only [if_true] at HLn
  clear hs hr hra hS hA hR hF hB
  have R0 := Lib.hid (show FaAt w all.length (.int .i64 ((0 : Nat) : Int)) w from ⟨0, Nat.zero_le _, rfl, Ext.refl _⟩)
  go_wp2_with fail
  go_loopw [9] (fun i wr => FaAt w all.length i wr) (fun i _ => all.length - (intOf i).toNat)
  case atStart => exact R0.out
  case round =>
   clear R0
   obtain ⟨k, hk, rfl, hx⟩ := hrel
   by_cases hlt : k < all.length
   ·have hd1 : decide ((k : Int) < (all.length : Int)) = true := decide_eq_true (by omega)
    have kl : (k : Int) < (all.length : Int) := by omega
    have kz : (0 : Int) ≤ (k : Int) := by omega
    obtain ⟨g, off, hAe, hg, hc⟩ := ad_at (HRA.out _ hx) hlt
    have HE := Lib.hid (fun W' (h2 : Ext wr W') => (show FaAt w all.length (.int .i64 ((k + 1 : Nat) : Int)) W' from ⟨k + 1, by omega, rfl, hx.trans h2⟩))
    have HG := Lib.hid (fun w' => l18large_any all[k] w')
    have HF1 := Lib.hid (fun (h : longA all[k] = false) w' (hy : Ext wr w') => hFd.out all[k] (longA_no h) w' (hx.trans hy) (HSt.out _ (hx.trans hy)))
    have HF2 := Lib.hid (fun (h : longA all[k] = false) w' (hy : Ext wr w') => HFR.out all[k] (longA_no h) w' (hx.trans hy))
    have XW := Lib.hid (X.out.trans hx)
    clear HFR hFd HSt HRA hx
    obtain ⟨r, hr⟩ : ∃ r, findR l all[k] = r := ⟨_, rfl⟩
    rw [hr] at HF1 HF2
    obtain ⟨⟨px, py⟩, er⟩ := r
    unfold ptV at HF1 HF2
    dsimp only at HF1 HF2
    clear hr
    obtain ⟨lg, hlg⟩ : ∃ b, longA all[k] = b := ⟨_, rfl⟩
    rw [hlg] at HG HF1 HF2
    clear hlg
    rw [adV_eq] at HG HF1 HF2
    subst hAe
    obtain ⟨o1, ho1⟩ : ∃ o, off + k * 11 = o := ⟨_, rfl⟩
    simp only [ho1] at hc
    have hc0 := hc 0 (by decide)
    have hc1 := hc 1 (by decide)
    have hc2 := hc 2 (by decide)
    have hc3 := hc 3 (by decide)
    have hc4 := hc 4 (by decide)
    have hc5 := hc 5 (by decide)
    have hc6 := hc 6 (by decide)
    have hc7 := hc 7 (by decide)
    have hc8 := hc 8 (by decide)
    have hc9 := hc 9 (by decide)
    have hc10 := hc 10 (by decide)
    clear hc
    generalize all[k] = a at *
    obtain ⟨zn, zh, zpre, zname, zsuf, zpost, zunit, zcity, zstate, zzip, zmore⟩ := a
    dsimp only at HG HF1 HF2
    have HQ := Lib.hid (fun w' (hx : Ext wr w') => (show w'.cell? ⟨g, o1, none⟩ = some (.int .i64 zn) ∧ w'.cell? ⟨g, o1 + 1, none⟩ = some (.bool zh) ∧ w'.cell? ⟨g, o1 + 2, none⟩ = some (.string ⟨zpre.toArray⟩) ∧ w'.cell? ⟨g, o1 + 3, none⟩ = some (.string ⟨zname.toArray⟩) ∧ w'.cell? ⟨g, o1 + 4, none⟩ = some (.string ⟨zsuf.toArray⟩) ∧ w'.cell? ⟨g, o1 + 5, none⟩ = some (.string ⟨zpost.toArray⟩) ∧ w'.cell? ⟨g, o1 + 6, none⟩ = some (.string ⟨zunit.toArray⟩) ∧ w'.cell? ⟨g, o1 + 7, none⟩ = some (.string ⟨zcity.toArray⟩) ∧ w'.cell? ⟨g, o1 + 8, none⟩ = some (.string ⟨zstate.toArray⟩) ∧ w'.cell? ⟨g, o1 + 9, none⟩ = some (.string ⟨zzip.toArray⟩) ∧ w'.cell? ⟨g, o1 + 10, none⟩ = some (.string ⟨zmore.toArray⟩) from
     ⟨(hx.cell _ _ none hg).trans hc0, (hx.cell _ _ none hg).trans hc1, (hx.cell _ _ none hg).trans hc2, (hx.cell _ _ none hg).trans hc3, (hx.cell _ _ none hg).trans hc4, (hx.cell _ _ none hg).trans hc5, (hx.cell _ _ none hg).trans hc6, (hx.cell _ _ none hg).trans hc7, (hx.cell _ _ none hg).trans hc8, (hx.cell _ _ none hg).trans hc9, (hx.cell _ _ none hg).trans hc10⟩))
    clear hc0 hc1 hc2 hc3 hc4 hc5 hc6 hc7 hc8 hc9 hc10
    obtain ⟨d0, d1, d2, d3, d4, d5, d6, d7, d8, d9, d10⟩ := HQ.out _ (Ext.refl wr)
    have lg' : g < wr.heap.size := hg
    cases lg with
    | true =>
     clear HF1 HF2 HE
     go_wp2_with fail
     refine (HG.out _).mono ?_
     rintro e w1 ⟨rfl, hx⟩
     have X1 := Lib.hid (XW.out.trans hx)
     clear hx
     go_wp2_with fail
     go_ret
     exact ⟨rfl, X1.out⟩
    | false =>
     replace HF1 := Lib.hid (HF1.out rfl)
     replace HF2 := Lib.hid (HF2.out rfl)
     have hne := fun w => pt_ne px py px py w
     simp only [ne_eq, not_true_eq_false, decide_false] at hne
     go_wp2_with fail
     refine (HG.out _).mono ?_
     rintro e w1 ⟨rfl, hx⟩
     have Y1 := Lib.hid hx
     clear hx HG d0 d1 d2 d3 d4 d5 d6 d7 d8 d9 d10 lg'
     obtain ⟨d0, d1, d2, d3, d4, d5, d6, d7, d8, d9, d10⟩ := HQ.out _ Y1.out
     have lg' : g < w1.heap.size := Nat.lt_of_lt_of_le hg Y1.out.size
     go_wp2_with fail
     refine (HF1.out _ Y1.out).mono ?_
     rintro e w2 ⟨rfl, hx⟩
     have Y3 := Lib.hid (Y1.out.trans (hx.alloc (.cells #[.int .i64 px, .int .i64 py] 23)))
     have B10 := Lib.hid (Blk.new w2 23 #[.int .i64 px, .int .i64 py])
     clear hx HF1 Y1 d0 d1 d2 d3 d4 d5 d6 d7 d8 d9 d10 lg'
     go_upto_region 21 with (fail)
     generalize w2.alloc (.cells #[.int .i64 px, .int .i64 py] 23) = w3 at *
     generalize w2.heap.size = g10 at *
     obtain ⟨d0, d1, d2, d3, d4, d5, d6, d7, d8, d9, d10⟩ := HQ.out _ Y3.out
     have lg' : g < w3.heap.size := Nat.lt_of_lt_of_le hg Y3.out.size
     go_wp2_with fail
     refine (HF2.out _ Y3.out).mono ?_
     rintro e w4 ⟨rfl, hx⟩
     have Y5 := Lib.hid (Y3.out.trans (hx.alloc (.cells #[.int .i64 px, .int .i64 py] 23)))
     replace B10 := Lib.hid (B10.out.ext (hx.alloc (.cells #[.int .i64 px, .int .i64 py] 23)))
     have B12 := Lib.hid (Blk.new w4 23 #[.int .i64 px, .int .i64 py])
     clear hx HF2 Y3 d0 d1 d2 d3 d4 d5 d6 d7 d8 d9 d10 lg' HQ
     go_upto_region 22 with (fail)
     generalize w4.alloc (.cells #[.int .i64 px, .int .i64 py] 23) = w5 at *
     generalize w4.heap.size = g12 at *
     obtain ⟨qp, _⟩ := B10.out.cells
     have lp := B10.out.lt
     obtain ⟨qq, _⟩ := B12.out.cells
     have lq := B12.out.lt
     have hE := Lib.hid (HE.out _ Y5.out)
     clear B10 B12 Y5 HE
     go_wp2_with fail
     go_roundw
     case rel => first | exact hE.out | (repeat (with_reducible apply Exists.intro); exact ⟨hE.out, rfl⟩)
     case measure => simp [intOf]; omega
   ·obtain rfl : k = all.length := by omega
    have hd1 : decide ((all.length : Int) < (all.length : Int)) = false := by simp
    have XW := Lib.hid (X.out.trans hx)
    replace HLn := Lib.hid (HLn.out _ hx)
    replace HW := Lib.hid (fun w' (hy : Ext wr w') => HW.out w' (hx.trans hy))
    clear hx HFR hFd HRA HSt
    go_wp2_with fail
    refine HLn.out.mono ?_
    rintro e w1 ⟨rfl, rfl⟩
    go_wp2_with fail
    refine (HW.out _ (Ext.refl _)).mono ?_
    rintro e w2 ⟨rfl, hx⟩
    have X1 := Lib.hid (XW.out.trans hx)
    clear hx
    go_wp2_with fail
    go_ret
    exact ⟨rfl, X1.out⟩
def FzAt (W w0 : World) (l : List Sr) (n : Nat) (A5 : Option Addr) (g5 c5 : Nat) (v6 i : Value) (wr : World) : Prop := ∃ k : Nat, k ≤ n ∧ i = .int .i64 (k : Int) ∧ (n = 0 ∨ ∃ cs, A5 = some ⟨g5, 0, none⟩ ∧ Blk wr g5 25 cs ∧ cs.size = c5 * 13 ∧ ∀ j, 13 * k ≤ j → j < n * 13 → cs[j]? = (srCells l)[j]?) ∧ TbAt w0 wr v6 l ∧ Ext W wr
set_option maxRecDepth 100000 in
set_option maxHeartbeats 4000000 in
theorem fnd7 (l : List Sr) (hs : ∀ s ∈ l, SrS s 1000) (cn : Nat) (hcn : l.length = cn) (hl : cn ≤ 100) (A A1 A5 : Option Addr) (cap cap1 c5 g5 : Nat) (hc5 : cn ≤ c5) (all : List Ad) (an : Nat) (han : all.length = an) (hal : an ≤ 50) (W w w0 : World) (hS : Std W) (hg5 : W.heap.size ≤ g5 ∧ g5 < w0.heap.size) (v6 : Value) (hZ : FzAt W w0 l cn A5 g5 c5 v6 (.int .i64 ((0 : Nat) : Int)) w)
  (hr : Reads W W.heap.size 13 A cn (srCells l)) (hra : Reads W W.heap.size 11 A1 an (adCells all)) ⦃u2 u3 u7 u14 u15 u16 u17 u18 u19 u20 u21 u22 u23 u24 u25 u26 u27 u28 u29 u30 u31 u32 u33 u34 u35 u36 u37 u38 u39 u40 : Value⦄ : KF2 Tryz.prog (bodyPost Tryz.prog Tryz.f9 (fun e w' => e = .returned (.bool true) ∧ Ext W w')) ⟨#[.slice A cn cap, .slice A1 an cap1, u2, u3, .bool false, .slice A5 cn c5, v6, u7, undef, undef, undef, undef, undef, undef, u14, u15, u16, u17, u18, u19, u20, u21, u22, u23, u24, u25, u26, u27, u28, u29, u30, u31, u32, u33, u34, u35, u36, u37, u38, u39, u40, undef, undef, undef, undef, undef, undef, undef, undef, undef, undef, undef, undef, undef, undef, undef, undef, undef, undef, undef, undef, undef, undef, undef, undef, undef, undef, undef, undef, undef, undef, undef, undef, undef, undef, undef, undef, undef, undef, undef, undef, undef, undef, undef, undef, undef, undef, undef, undef, undef, undef, undef, undef, undef, undef, undef, undef, undef, undef, undef, undef, undef, undef, undef, undef, undef, undef, undef], []⟩ w (fndAt2 7) := by
 have HR := Lib.hid (fun w' (hx : Ext W w') => hr.ext hx)
 have HS2 := Lib.hid (fun w' (hx : Ext W w') => hS.ext hx)
 have HRA := Lib.hid (fun w' (hx : Ext W w') => hra.ext hx)
 replace hZ := Lib.hid hZ
 replace hs := Lib.hid hs
 subst hcn
 clear hr hS hra
 conv => arg 5; whnf
 conv => arg 5; arg 1; whnf
 conv => arg 5; arg 2; whnf
 conv => arg 5; arg 2; arg 1; whnf
 conv => arg 5; arg 2; arg 2; whnf
 unfold KF2
 dsimp only
 intro K1 hK1 K2 hK2
 go_wp2_with fail
 go_loopw [8] (fun i wr => FzAt W w0 l l.length A5 g5 c5 v6 i wr) (fun i _ => l.length - (intOf i).toNat)
 case atStart => exact hZ.out
 case round =>
  clear hZ
  obtain ⟨k, hk, rfl, hB, hT, hx⟩ := hrel
  by_cases hlt : k < l.length
  ·have hd1 : decide ((k : Int) < (l.length : Int)) = true := decide_eq_true (by omega)
   have kl : (k : Int) < (l.length : Int) := by omega
   have kz : (0 : Int) ≤ (k : Int) := by omega
   obtain ⟨cs, rfl, hB, hcs, hget⟩ := hB.resolve_left (by omega)
   obtain ⟨g, off, rfl, hg, cc0, cc1, cc2, cc3, cc4, cc5, cc6, cc7, cc8, cc9, cc10, cc11, cc12⟩ := sr_at (HR.out _ hx) hlt
   have hin : ∀ j, j < 13 → wr.cell? ⟨g5, k * 13 + j, none⟩ = (srL l[k])[j]? := fun j hj => by
    rw [hB.cell, hget _ (by omega) (by omega)]
    exact flat_get (f := srL) (c := 13) (fun _ => rfl) l k j hlt hj
   obtain ⟨o1, ho1⟩ : ∃ o, off + k * 13 = o := ⟨_, rfl⟩
   simp only [ho1] at cc0 cc1 cc2 cc3 cc4 cc5 cc6 cc7 cc8 cc9 cc10 cc11 cc12
   have z0 := hin 0 (by decide)
   have z1 := hin 1 (by decide)
   have z2 := hin 2 (by decide)
   have z3 := hin 3 (by decide)
   have z4 := hin 4 (by decide)
   have z5 := hin 5 (by decide)
   have z6 := hin 6 (by decide)
   have z7 := hin 7 (by decide)
   have z8 := hin 8 (by decide)
   have z9 := hin 9 (by decide)
   have z10 := hin 10 (by decide)
   have z11 := hin 11 (by decide)
   have z12 := hin 12 (by decide)
   have lg5 := hB.lt
   have hfr := hB.frozen
   have HE := Lib.hid (fun W' (hy : Ext wr W') => (show FzAt W w0 l l.length (some ⟨g5, 0, none⟩) g5 c5 v6 (.int .i64 ((k + 1 : Nat) : Int)) (zw13 W' g5 (k * 13)) from ⟨k + 1, by omega, rfl, .inr ⟨_, rfl, (hB.ext hy).zw (k * 13), by rw [zs13_size]; exact hcs, fun j h1 h2 => by rw [zs13_get _ _ _ (by omega)]; exact hget j (by omega) h2⟩, (hT.ext hy).zw hg5.2 (k * 13), (hx.trans hy).zw hg5.1 (k * 13)⟩))
   have kc : (k : Int) < (c5 : Int) := by omega
   have hin2 := Lib.hid hin
   have hBh := Lib.hid hB
   clear hin hget hB hT hx hcs HR HRA HS2 hs
   generalize l[k] = x at *
   have hne := fun w => sr_ne x w
   have hlg : g < wr.heap.size := hg
   have HQ := Lib.hid (fun w' (hx : Ext wr w') => (show (w'.cell? ⟨g, o1, none⟩ = some (.string ⟨x.state.toArray⟩) ∧ w'.cell? ⟨g, o1 + 1, none⟩ = some (.string ⟨x.city.toArray⟩) ∧ w'.cell? ⟨g, o1 + 2, none⟩ = some (.string ⟨x.pre.toArray⟩) ∧ w'.cell? ⟨g, o1 + 3, none⟩ = some (.string ⟨x.name.toArray⟩) ∧ w'.cell? ⟨g, o1 + 4, none⟩ = some (.string ⟨x.suf.toArray⟩) ∧ w'.cell? ⟨g, o1 + 5, none⟩ = some (.string ⟨x.post.toArray⟩) ∧ w'.cell? ⟨g, o1 + 6, none⟩ = some (.int .i64 x.fr) ∧ w'.cell? ⟨g, o1 + 7, none⟩ = some (.int .i64 x.to_) ∧ w'.cell? ⟨g, o1 + 8, none⟩ = some (.int .i64 x.side) ∧ w'.cell? ⟨g, o1 + 9, none⟩ = some (.int .i64 x.ax) ∧ w'.cell? ⟨g, o1 + 10, none⟩ = some (.int .i64 x.ay) ∧ w'.cell? ⟨g, o1 + 11, none⟩ = some (.int .i64 x.bx) ∧ w'.cell? ⟨g, o1 + 12, none⟩ = some (.int .i64 x.by_)) ∧ (w'.cell? ⟨g5, k * 13, none⟩ = some (.string ⟨x.state.toArray⟩) ∧ w'.cell? ⟨g5, k * 13 + 1, none⟩ = some (.string ⟨x.city.toArray⟩) ∧ w'.cell? ⟨g5, k * 13 + 2, none⟩ = some (.string ⟨x.pre.toArray⟩) ∧ w'.cell? ⟨g5, k * 13 + 3, none⟩ = some (.string ⟨x.name.toArray⟩) ∧ w'.cell? ⟨g5, k * 13 + 4, none⟩ = some (.string ⟨x.suf.toArray⟩) ∧ w'.cell? ⟨g5, k * 13 + 5, none⟩ = some (.string ⟨x.post.toArray⟩) ∧ w'.cell? ⟨g5, k * 13 + 6, none⟩ = some (.int .i64 x.fr) ∧ w'.cell? ⟨g5, k * 13 + 7, none⟩ = some (.int .i64 x.to_) ∧ w'.cell? ⟨g5, k * 13 + 8, none⟩ = some (.int .i64 x.side) ∧ w'.cell? ⟨g5, k * 13 + 9, none⟩ = some (.int .i64 x.ax) ∧ w'.cell? ⟨g5, k * 13 + 10, none⟩ = some (.int .i64 x.ay) ∧ w'.cell? ⟨g5, k * 13 + 11, none⟩ = some (.int .i64 x.bx) ∧ w'.cell? ⟨g5, k * 13 + 12, none⟩ = some (.int .i64 x.by_)) from
     ⟨⟨(hx.cell _ _ none hlg).trans cc0, (hx.cell _ _ none hlg).trans cc1, (hx.cell _ _ none hlg).trans cc2, (hx.cell _ _ none hlg).trans cc3, (hx.cell _ _ none hlg).trans cc4, (hx.cell _ _ none hlg).trans cc5, (hx.cell _ _ none hlg).trans cc6, (hx.cell _ _ none hlg).trans cc7, (hx.cell _ _ none hlg).trans cc8, (hx.cell _ _ none hlg).trans cc9, (hx.cell _ _ none hlg).trans cc10, (hx.cell _ _ none hlg).trans cc11, (hx.cell _ _ none hlg).trans cc12⟩, ⟨(hx.cell _ _ none lg5).trans z0, (hx.cell _ _ none lg5).trans z1, (hx.cell _ _ none lg5).trans z2, (hx.cell _ _ none lg5).trans z3, (hx.cell _ _ none lg5).trans z4, (hx.cell _ _ none lg5).trans z5, (hx.cell _ _ none lg5).trans z6, (hx.cell _ _ none lg5).trans z7, (hx.cell _ _ none lg5).trans z8, (hx.cell _ _ none lg5).trans z9, (hx.cell _ _ none lg5).trans z10, (hx.cell _ _ none lg5).trans z11, (hx.cell _ _ none lg5).trans z12⟩⟩))
   clear cc0 cc1 cc2 cc3 cc4 cc5 cc6 cc7 cc8 cc9 cc10 cc11 cc12 z0 z1 z2 z3 z4 z5 z6 z7 z8 z9 z10 z11 z12 hin2 hfr
   go_upto_region 10 with (fail)
   refine region_lex (fun w' => (w'.cell? ⟨g, o1, none⟩ = some (.string ⟨x.state.toArray⟩) ∧ w'.cell? ⟨g, o1 + 1, none⟩ = some (.string ⟨x.city.toArray⟩) ∧ w'.cell? ⟨g, o1 + 2, none⟩ = some (.string ⟨x.pre.toArray⟩) ∧ w'.cell? ⟨g, o1 + 3, none⟩ = some (.string ⟨x.name.toArray⟩) ∧ w'.cell? ⟨g, o1 + 4, none⟩ = some (.string ⟨x.suf.toArray⟩) ∧ w'.cell? ⟨g, o1 + 5, none⟩ = some (.string ⟨x.post.toArray⟩) ∧ w'.cell? ⟨g, o1 + 6, none⟩ = some (.int .i64 x.fr) ∧ w'.cell? ⟨g, o1 + 7, none⟩ = some (.int .i64 x.to_) ∧ w'.cell? ⟨g, o1 + 8, none⟩ = some (.int .i64 x.side) ∧ w'.cell? ⟨g, o1 + 9, none⟩ = some (.int .i64 x.ax) ∧ w'.cell? ⟨g, o1 + 10, none⟩ = some (.int .i64 x.ay) ∧ w'.cell? ⟨g, o1 + 11, none⟩ = some (.int .i64 x.bx) ∧ w'.cell? ⟨g, o1 + 12, none⟩ = some (.int .i64 x.by_)) ∧ (w'.cell? ⟨g5, k * 13, none⟩ = some (.string ⟨x.state.toArray⟩) ∧ w'.cell? ⟨g5, k * 13 + 1, none⟩ = some (.string ⟨x.city.toArray⟩) ∧ w'.cell? ⟨g5, k * 13 + 2, none⟩ = some (.string ⟨x.pre.toArray⟩) ∧ w'.cell? ⟨g5, k * 13 + 3, none⟩ = some (.string ⟨x.name.toArray⟩) ∧ w'.cell? ⟨g5, k * 13 + 4, none⟩ = some (.string ⟨x.suf.toArray⟩) ∧ w'.cell? ⟨g5, k * 13 + 5, none⟩ = some (.string ⟨x.post.toArray⟩) ∧ w'.cell? ⟨g5, k * 13 + 6, none⟩ = some (.int .i64 x.fr) ∧ w'.cell? ⟨g5, k * 13 + 7, none⟩ = some (.int .i64 x.to_) ∧ w'.cell? ⟨g5, k * 13 + 8, none⟩ = some (.int .i64 x.side) ∧ w'.cell? ⟨g5, k * 13 + 9, none⟩ = some (.int .i64 x.ax) ∧ w'.cell? ⟨g5, k * 13 + 10, none⟩ = some (.int .i64 x.ay) ∧ w'.cell? ⟨g5, k * 13 + 11, none⟩ = some (.int .i64 x.bx) ∧ w'.cell? ⟨g5, k * 13 + 12, none⟩ = some (.int .i64 x.by_)) ∧ Ext wr w') (by kernel_rfl) (by kernel_rfl) (⟨(HQ.out _ (Ext.refl wr).drew).1, (HQ.out _ (Ext.refl wr).drew).2, (Ext.refl wr).drew⟩) ?_
   refine StL.y (some 47) ?cv1_0 (fun wo hSw => ?ch1_0) ?cr1_0
   case ch1_0 => (try dsimp only at hSw); go_simp; try with_reducible rfl
   try simp only [Act.put, nrm]
   refine StL.y (some 48) ?cv1_1 (fun wo hSw => ?ch1_1) ?cr1_1
   case ch1_1 => (try dsimp only at hSw); go_simp; try with_reducible rfl
   try simp only [Act.put, nrm]
   refine StL.y (some 49) ?cv1_2 (fun wo hSw => ?ch1_2) ?cr1_2
   case ch1_2 => (try dsimp only at hSw); go_simp; try with_reducible rfl
   try simp only [Act.put, nrm]
   refine StL.y (some 50) ?cv1_3 (fun wo hSw => ?ch1_3) ?cr1_3
   case ch1_3 => (try dsimp only at hSw); go_simp; try with_reducible rfl
   try simp only [Act.put, nrm]
   refine StL.y (some 51) ?cv1_4 (fun wo hSw => ?ch1_4) ?cr1_4
   case ch1_4 => (try dsimp only at hSw); go_simp; try with_reducible rfl
   try simp only [Act.put, nrm]
   refine StL.y (some 52) ?cv1_5 (fun wo hSw => ?ch1_5) ?cr1_5
   case ch1_5 => (try dsimp only at hSw); go_simp; try with_reducible rfl
   try simp only [Act.put, nrm]
   refine StL.y (some 53) ?cv1_6 (fun wo hSw => ?ch1_6) ?cr1_6
   case ch1_6 => (try dsimp only at hSw); go_simp; try with_reducible rfl
   try simp only [Act.put, nrm]
   refine StL.y (some 54) ?cv1_7 (fun wo hSw => ?ch1_7) ?cr1_7
   case ch1_7 => (try dsimp only at hSw); go_simp; try with_reducible rfl
   try simp only [Act.put, nrm]
   refine StL.y (some 55) ?cv1_8 (fun wo hSw => ?ch1_8) ?cr1_8
   case ch1_8 => (try dsimp only at hSw); go_simp; try with_reducible rfl
   try simp only [Act.put, nrm]
   refine StL.done (fun wz hSw => ?_)
   obtain ⟨_, ⟨z0, z1, z2, z3, z4, z5, z6, z7, z8, z9, z10, z11, z12⟩, hxz⟩ := hSw
   have hB2 := hBh.out.ext hxz
   have hfr := hB2.frozen
   have lgz := hB2.lt
   have hE := Lib.hid (HE.out _ hxz)
   clear HE HQ hBh hB2 hxz lg5 hlg
   go_wp2_with fail
   go_roundw
   case rel => first | exact hE.out | (repeat (with_reducible apply Exists.intro); exact ⟨hE.out, rfl⟩)
   case measure => simp [intOf]; omega
  ·obtain rfl : k = l.length := by omega
   have hd1 : decide ((l.length : Int) < (l.length : Int)) = false := by simp
   clear hB
   go_upto_region 13 with (fail)
   exact fnd13 l hs.out l.length rfl hl A A1 cap cap1 all an han hal W wr w0 (HS2.out _ hx) hx v6 hT (HR.out _ hx) (HRA.out _ hx) _ (by assumption) _ (by assumption)
set_option maxRecDepth 100000 in
set_option maxHeartbeats 4000000 in
theorem streetFinds_1 (l : List Sr) (A : Option Addr) (cap : Nat) (all : List Ad) (A1 : Option Addr) (cap1 : Nat) (hb : longS l = true ∨ 50 < all.length) (W : World) (hr : Reads W W.heap.size 13 A l.length (srCells l)) : Calls Tryz.prog 9 #[.slice A l.length cap, .slice A1 all.length cap1] W fun e w' => e = .returned (.bool true) ∧ Ext W w' := by
 have HL := Lib.hid (fun w (hx : Ext W w) => l18long_any l A cap w (hr.ext hx))
 obtain ⟨b1, hb1⟩ : ∃ b, longS l = b := ⟨_, rfl⟩
 rw [hb1] at HL hb
 clear hb1 hr
 cases b1 with
 | true =>
  clear hb
  go_enter Tryz.func9, Tryz.ntmps9
  go_wp2_with fail
  refine (HL.out _ (Ext.refl _)).mono ?_
  rintro e w2 ⟨rfl, hx⟩
  have X2 := Lib.hid hx
  clear hx
  go_wp2_with fail
  go_ret
  exact ⟨rfl, X2.out⟩
 | false =>
  have h5 : 50 < all.length := hb.resolve_left (by simp)
  have d1 : decide ((50 : Int) < (all.length : Int)) = true := decide_eq_true (by omega)
  clear hb h5
  go_enter Tryz.func9, Tryz.ntmps9
  go_wp2_with fail
  refine (HL.out _ (Ext.refl _)).mono ?_
  rintro e w2 ⟨rfl, hx⟩
  have X2 := Lib.hid hx
  clear hx
  go_wp2_with fail
  go_ret
  exact ⟨rfl, X2.out⟩
set_option maxRecDepth 100000 in
set_option maxHeartbeats 4000000 in
theorem streetFinds_2 (l : List Sr) (A : Option Addr) (cap : Nat) (all : List Ad) (A1 : Option Addr) (cap1 : Nat) (hb1 : longS l = false) (h50 : ¬ 50 < all.length) (W : World) (hr : Reads W W.heap.size 13 A l.length (srCells l)) (hra : Reads W W.heap.size 11 A1 all.length (adCells all)) (hS : Std W) : Calls Tryz.prog 9 #[.slice A l.length cap, .slice A1 all.length cap1] W fun e w' => e = .returned (.bool true) ∧ Ext W w' := by
 have hl := (longS_no hb1).1
 have hs := Lib.hid (longS_no hb1).2
 have HL := Lib.hid (fun w (hx : Ext W w) => l18long_any l A cap w (hr.ext hx))
 rw [hb1] at HL
 have HN := Lib.hid (fun A' c' w (hx : Ext W w) (hr' : Reads w w.heap.size 13 A' l.length (srCells l)) => srnew_table l hs.out A' c' w hr' (by omega) (hS.ext hx))
 have HNr := Lib.hid (fun w (hx : Ext W w) => rsrnew_any l hs.out A cap w (hr.ext hx) (by omega))
 have HR := Lib.hid (fun w (hx : Ext W w) => hr.ext hx)
 have HRA := Lib.hid (fun w (hx : Ext W w) => hra.ext hx)
 have HS2 := Lib.hid (fun w (hx : Ext W w) => hS.ext hx)
 obtain ⟨F1, hF1⟩ : ∃ F1, newR l = F1 := ⟨_, rfl⟩
 have hTb := Lib.hid (fun w0 w v (h : TbAt w0 w v l) => h)
 unfold TbAt at hTb
 rw [hF1] at HN HNr hTb
 obtain ⟨f1, f2⟩ := F1
 have hf1 := Lib.hid (show (newR l).1 = f1 by rw [hF1])
 dsimp only at HN HNr hTb
 have d1 : decide ((50 : Int) < (all.length : Int)) = false := decide_eq_false (by omega)
 obtain ⟨n, hn⟩ : ∃ n, l.length = n := ⟨_, rfl⟩
 rw [hn] at HL HN HNr HR hl ⊢
 replace hn := Lib.hid hn
 clear hF1 hb1 hr hra hS hTb
 go_enter Tryz.func9, Tryz.ntmps9
 go_wp2_with fail
 refine (HL.out _ (Ext.refl _)).mono ?_
 rintro e w1 ⟨rfl, hx⟩
 have X1 := Lib.hid hx
 have RR := Lib.hid (fun o1 : Obj => HR.out _ (hx.alloc o1))
 clear hx HL
 go_wp2_with (at_builtin; refine wpl_app row_sr w1 _ (.tmp 21) (.tmp 22) rfl rfl rfl (own_lit (Ext.refl w1) #[] _ 0 13 rfl (by simp [maxLen]) rfl) ((Ext.refl w1).alloc _) rfl (RR.out _) (sr_one _) (by omega) (by unfold maxLen; omega) ?_; intro v1 w2 hg; obtain ⟨A5, c5, rfl, hc5, _, hrd⟩ := own_slice hg.own; have HG := Lib.hid hg; replace hrd := Lib.hid hrd; clear hg)
 have hown := HG.out.own
 simp only [Nat.zero_add, List.nil_append] at hown hrd hc5
 have X2 := Lib.hid (X1.out.trans HG.out.ext)
 have hsz := Lib.hid X1.out.size
 have hsz2 := Lib.hid (show w1.heap.size + 1 ≤ w2.heap.size by have := HG.out.size; simpa using this)
 clear HG RR X1
 try simp only [Nat.zero_add]
 replace hown := Lib.hid hown
 go_wp2_with fail
 refine (HN.out _ _ _ X2.out hrd.out).mono ?_
 rintro e w3 ⟨v6, rfl, hx, hT⟩
 have Y5 := Lib.hid (hx.alloc (.cells #[.int .i64 f1, .int .i64 f2] 36))
 have Z5 := Lib.hid ((Ext.refl w3).alloc (.cells #[.int .i64 f1, .int .i64 f2] 36))
 have B7 := Lib.hid (Blk.new w3 36 #[.int .i64 f1, .int .i64 f2])
 have hT2 := Lib.hid (show TbAt w2 w3 v6 l by unfold TbAt; rw [hf1.out, hn.out]; exact hT)
 have hv : (f1 = 0 ∧ ∃ tb, v6 = .pointer (some ⟨tb, 0, none⟩)) ∨ (f1 ≠ 0 ∧ v6 = .pointer none) := by
  rcases hT with ⟨h0, tb, _, e, _⟩ | ⟨h0, e⟩
  ·exact .inl ⟨h0, tb, e⟩
  ·exact .inr ⟨h0, e⟩
 clear hx HN hT hrd
 go_upto_region 5 with (fail)
 generalize w3.alloc (.cells #[.int .i64 f1, .int .i64 f2] 36) = w5 at *
 generalize w3.heap.size = g7 at *
 have X5 := Lib.hid (X2.out.trans Y5.out)
 replace HNr := Lib.hid (fun w (hx : Ext w5 w) => HNr.out w (X5.out.trans hx))
 have HQ := Lib.hid (fun w' (hx : Ext w5 w') => (show w'.cell? ⟨g7, 0, none⟩ = some (.int .i64 f1) ∧ w'.cell? ⟨g7, 1, none⟩ = some (.int .i64 f2) from ⟨(B7.out.ext hx).cell 0, (B7.out.ext hx).cell 1⟩))
 have hne := fun w => ft_ne f1 f2 w
 have hfin := Lib.hid (fun wz (hy : Ext w5 wz) => (show ∃ g5, (W.heap.size ≤ g5 ∧ g5 < w2.heap.size) ∧ FzAt W w2 l n A5 g5 c5 v6 (.int .i64 ((0 : Nat) : Int)) wz by
  have hz := Y5.out.trans hy
  have ht := hT2.out.ext (Z5.out.trans hy)
  rcases hown.out.2 with ⟨_, h0⟩ | ⟨g5, cap5, cur, e5, hge, hh, hnc, hcm, hcs, htk⟩
  ·exact ⟨W.heap.size, ⟨Nat.le_refl _, by have := hsz.out; have := hsz2.out; omega⟩, 0, Nat.zero_le _, rfl, .inl h0, ht, X5.out.trans hy⟩
  ·injection e5 with ea _ ec
   subst ea ec
   have hB : Blk w2 g5 25 cur := hh
   refine ⟨g5, ⟨by have := hsz.out; omega, hB.lt⟩, 0, Nat.zero_le _, rfl, .inr ⟨cur, rfl, hB.ext hz, hcs, fun j _ hj => ?_⟩, ht, X5.out.trans hy⟩
   rw [← htk, List.getElem?_take_of_lt hj, Array.getElem?_toList]))
 clear hown Y5 Z5 B7 hsz hsz2
 rcases hv with ⟨hf, tb, rfl⟩ | ⟨hf, rfl⟩
 ·have b1 : (f1 != 0) = false := by simp [hf]
  clear hT2 hf1 hf
  refine region_lex (fun w' => (w'.cell? ⟨g7, 0, none⟩ = some (.int .i64 f1) ∧ w'.cell? ⟨g7, 1, none⟩ = some (.int .i64 f2)) ∧ Ext w5 w') (by kernel_rfl) (by kernel_rfl) (⟨HQ.out _ (Ext.refl w5).drew, (Ext.refl w5).drew⟩) ?_
  refine StL.y (some 29) ?cv2_0 (fun wo hSw => ?ch2_0) ?cr2_0
  case ch2_0 => (try dsimp only at hSw); go_simp; try with_reducible rfl
  try simp only [Act.put, nrm]
  refine StL.y (some 30) ?cv2_1 (fun wo hSw => ?ch2_1) ?cr2_1
  case ch2_1 => (try dsimp only at hSw); go_simp; try with_reducible rfl
  try simp only [Act.put, nrm]
  refine StL.cons (dst := (some 31)) (v := .agg #[.int .i64 f1, .int .i64 f2]) rfl (Steady.of_wpD (dst := (some 31)) (by rfl) (by rfl) (by rfl) (fun wo hSw K hK => ?ch2_2)) ?cr2_2
  case ch2_2 =>
   (try dsimp only at hSw)
   go_simp
   refine (HNr.out _ hSw.2).mono ?_
   rintro e w8 ⟨rfl, hx8⟩
   exact hK _ ⟨HQ.out _ (hSw.2.trans hx8), hSw.2.trans hx8⟩
  try simp only [Act.put, nrm]
  refine StL.y (some 32) ?cv2_3 (fun wo hSw => ?ch2_3) ?cr2_3
  case ch2_3 => (try dsimp only at hSw); go_simp; try with_reducible rfl
  try simp only [Act.put, nrm]
  refine StL.y (some 33) ?cv2_4 (fun wo hSw => ?ch2_4) ?cr2_4
  case ch2_4 => (try dsimp only at hSw); go_simp; try with_reducible rfl
  try simp only [Act.put, nrm]
  refine StL.y (some 34) ?cv2_5 (fun wo hSw => ?ch2_5) ?cr2_5
  case ch2_5 => (try dsimp only at hSw); go_simp; try with_reducible rfl
  try simp only [Act.put, nrm]
  refine StL.y (some 35) ?cv2_6 (fun wo hSw => ?ch2_6) ?cr2_6
  case ch2_6 => (try dsimp only at hSw); go_simp; try with_reducible rfl
  try simp only [Act.put, nrm]
  refine StL.y (some 36) ?cv2_7 (fun wo hSw => ?ch2_7) ?cr2_7
  case ch2_7 => (try dsimp only at hSw); go_simp; try with_reducible rfl
  try simp only [Act.put, nrm]
  refine StL.y (some 37) ?cv2_8 (fun wo hSw => ?ch2_8) ?cr2_8
  case ch2_8 => (try dsimp only at hSw); go_simp; try with_reducible rfl
  try simp only [Act.put, nrm]
  refine StL.y (some 38) ?cv2_9 (fun wo hSw => ?ch2_9) ?cr2_9
  case ch2_9 => (try dsimp only at hSw); go_simp; try with_reducible rfl
  try simp only [Act.put, nrm]
  refine StL.y (some 39) ?cv2_10 (fun wo hSw => ?ch2_10) ?cr2_10
  case ch2_10 => (try dsimp only at hSw); go_simp; try with_reducible rfl
  try simp only [Act.put, nrm]
  refine StL.y (some 40) ?cv2_11 (fun wo hSw => ?ch2_11) ?cr2_11
  case ch2_11 => (try dsimp only at hSw); go_simp; try with_reducible rfl
  try simp only [Act.put, nrm]
  refine StL.done (fun wz hSw => ?_)
  obtain ⟨g5, hg5, hz⟩ := hfin.out _ hSw.2
  have XZ := Lib.hid (X5.out.trans hSw.2)
  replace hz := Lib.hid hz
  clear hSw hfin HQ HNr X5 X2
  go_upto_region 7 with (fail)
  exact fnd7 l hs.out n hn.out hl A A1 A5 cap cap1 c5 g5 hc5 all all.length rfl (by omega) W _ w2 (HS2.out _ (Ext.refl W)) hg5 _ hz.out (by have := HR.out _ (Ext.refl W); exact this) (HRA.out _ (Ext.refl W)) _ (by assumption) _ (by assumption)
 ·have b1 : (f1 != 0) = true := by simpa using hf
  clear hT2 hf1 hf
  refine region_lex (fun w' => (w'.cell? ⟨g7, 0, none⟩ = some (.int .i64 f1) ∧ w'.cell? ⟨g7, 1, none⟩ = some (.int .i64 f2)) ∧ Ext w5 w') (by kernel_rfl) (by kernel_rfl) (⟨HQ.out _ (Ext.refl w5).drew, (Ext.refl w5).drew⟩) ?_
  refine StL.y (some 29) ?cv3_0 (fun wo hSw => ?ch3_0) ?cr3_0
  case ch3_0 => (try dsimp only at hSw); go_simp; try with_reducible rfl
  try simp only [Act.put, nrm]
  refine StL.y (some 30) ?cv3_1 (fun wo hSw => ?ch3_1) ?cr3_1
  case ch3_1 => (try dsimp only at hSw); go_simp; try with_reducible rfl
  try simp only [Act.put, nrm]
  refine StL.cons (dst := (some 31)) (v := .agg #[.int .i64 f1, .int .i64 f2]) rfl (Steady.of_wpD (dst := (some 31)) (by rfl) (by rfl) (by rfl) (fun wo hSw K hK => ?ch3_2)) ?cr3_2
  case ch3_2 =>
   (try dsimp only at hSw)
   go_simp
   refine (HNr.out _ hSw.2).mono ?_
   rintro e w8 ⟨rfl, hx8⟩
   exact hK _ ⟨HQ.out _ (hSw.2.trans hx8), hSw.2.trans hx8⟩
  try simp only [Act.put, nrm]
  refine StL.y (some 32) ?cv3_3 (fun wo hSw => ?ch3_3) ?cr3_3
  case ch3_3 => (try dsimp only at hSw); go_simp; try with_reducible rfl
  try simp only [Act.put, nrm]
  refine StL.y (some 33) ?cv3_4 (fun wo hSw => ?ch3_4) ?cr3_4
  case ch3_4 => (try dsimp only at hSw); go_simp; try with_reducible rfl
  try simp only [Act.put, nrm]
  refine StL.y (some 34) ?cv3_5 (fun wo hSw => ?ch3_5) ?cr3_5
  case ch3_5 => (try dsimp only at hSw); go_simp; try with_reducible rfl
  try simp only [Act.put, nrm]
  refine StL.y (some 35) ?cv3_6 (fun wo hSw => ?ch3_6) ?cr3_6
  case ch3_6 => (try dsimp only at hSw); go_simp; try with_reducible rfl
  try simp only [Act.put, nrm]
  refine StL.y (some 36) ?cv3_7 (fun wo hSw => ?ch3_7) ?cr3_7
  case ch3_7 => (try dsimp only at hSw); go_simp; try with_reducible rfl
  try simp only [Act.put, nrm]
  refine StL.y (some 37) ?cv3_8 (fun wo hSw => ?ch3_8) ?cr3_8
  case ch3_8 => (try dsimp only at hSw); go_simp; try with_reducible rfl
  try simp only [Act.put, nrm]
  refine StL.y (some 38) ?cv3_9 (fun wo hSw => ?ch3_9) ?cr3_9
  case ch3_9 => (try dsimp only at hSw); go_simp; try with_reducible rfl
  try simp only [Act.put, nrm]
  refine StL.y (some 39) ?cv3_10 (fun wo hSw => ?ch3_10) ?cr3_10
  case ch3_10 => (try dsimp only at hSw); go_simp; try with_reducible rfl
  try simp only [Act.put, nrm]
  refine StL.y (some 40) ?cv3_11 (fun wo hSw => ?ch3_11) ?cr3_11
  case ch3_11 => (try dsimp only at hSw); go_simp; try with_reducible rfl
  try simp only [Act.put, nrm]
  refine StL.done (fun wz hSw => ?_)
  obtain ⟨g5, hg5, hz⟩ := hfin.out _ hSw.2
  have XZ := Lib.hid (X5.out.trans hSw.2)
  replace hz := Lib.hid hz
  clear hSw hfin HQ HNr X5 X2
  go_upto_region 7 with (fail)
  exact fnd7 l hs.out n hn.out hl A A1 A5 cap cap1 c5 g5 hc5 all all.length rfl (by omega) W _ w2 (HS2.out _ (Ext.refl W)) hg5 _ hz.out (by have := HR.out _ (Ext.refl W); exact this) (HRA.out _ (Ext.refl W)) _ (by assumption) _ (by assumption)
theorem streetFinds_any (l : List Sr) (A : Option Addr) (cap : Nat) (all : List Ad) (A1 : Option Addr) (cap1 : Nat) (W : World) (hr : Reads W W.heap.size 13 A l.length (srCells l)) (hra : Reads W W.heap.size 11 A1 all.length (adCells all)) (hS : Std W) : Calls Tryz.prog 9 #[.slice A l.length cap, .slice A1 all.length cap1] W fun e w' => e = .returned (.bool true) ∧ Ext W w' := by
 by_cases h : longS l = true ∨ 50 < all.length
 ·exact streetFinds_1 l A cap all A1 cap1 h W hr
 ·refine streetFinds_2 l A cap all A1 cap1 ?_ (fun e => h (.inr e)) W hr hra hS
  cases e : longS l with
  | true => exact absurd (.inl e) h
  | false => rfl
end Go.Proofs.YtjaponmpfdpemaaGreatDoor
set_option linter.unusedSimpArgs false
set_option linter.unusedVariables false
namespace Go.Proofs.YtjaponmpfdpemaaGreatDoor
open Go.ChangeShapes Go.WideShapes Go.ChangeAt Go.RowKit
set_option maxRecDepth 100000 in
theorem streetFinds_lifted (os : Os) (started : os.Started) (H : Type) (enc : TypeId × Value → H) :
  ReturnsInHanded {} Tryz.checked os 9 .any (fun w args => (Rows.streetFindsSpec.pre enc Tryz.prog Tryz.f9 [] false w args ∧ laidMetH Tryz.prog laid9 w) ∧ sizedMet enc Tryz.prog Tryz.f9 (OpenSpec.ofChange Rows.streetFindsSpec) false w args)
   (Rows.streetFindsSpec.post enc Tryz.prog Tryz.f9 false true false false) := by
 refine returnsShaped (C := Tryz.checked) (X := fun w _ => laidMetH Tryz.prog laid9 w) (fun _ _ _ hh h => h.of_heap hh) Tryz.own started (by kernel_rfl) Tryz.func9
  (ChangeSpec.witness_shaped (enc := enc) (C := Tryz.checked) (os := os) (X := fun w _ => laidMetH Tryz.prog laid9 w) false (World.laidAll Tryz.prog os laid9) #[.slice none 0 0, .slice none 0 0] 8 (World.laidAll_os _ _ _) (shaped9 os) (by kernel_rfl) (by kernel_rfl) (by kernel_rfl) (all_met9 os _)) ?_
 intro W base args ds gs before hval0 hW _ _ hL hsh _
 have hStd := std_of_laid hL hsh
 have hval : ∀ (j : Nat) t v, Tryz.f9.params[j]? = some t → args[j]? = some v → Value.okWide Tryz.prog W .any base t v := hval0
 have hW' := hW
 obtain ⟨p, q, hA0, hV, rfl, hfz, hnd⟩ := hW
 have hA : DataW.TrodAll enc Tryz.prog W 0 (fun _ => true) true Tryz.f9.params.toList args.toList ds p := hA0
 rw [Tryz.params9] at hA hval
 obtain ⟨v0, vs0, d0, ds0, p0, q0, hargs, rfl, rfl, h0, r0⟩ := trodAll_cons hA
 obtain ⟨v1, vs1, d1, ds1, p1, q1, rfl, rfl, rfl, h1, r1⟩ := trodAll_cons r0
 obtain ⟨rfl, rfl, rfl⟩ := trodAll_nil r1
 obtain rfl : args = #[v0, v1] := by cases args; simp_all
 obtain ⟨rfl, rfl⟩ := trodVars_none hV
 obtain ⟨A0, len0, cap0, rfl⟩ := okWide_slice Tryz.underlying27 (hval 0 27 v0 rfl rfl)
 obtain ⟨B0, cb0, l0, e0, hl0, hm0, hp0, hr0⟩ := opens_srs.arg h0
 simp only [Value.cells] at e0
 injection e0 with e0 _
 injection e0 with ea0 eb0 ec0
 subst ea0 eb0 ec0
 obtain ⟨A1, len1, cap1, rfl⟩ := okWide_slice Tryz.underlying55 (hval 1 55 v1 rfl rfl)
 obtain ⟨B1, cb1, l1, e1, hl1, hm1, hp1, hr1⟩ := opens_ads.arg h1
 simp only [Value.cells] at e1
 injection e1 with e1 _
 injection e1 with ea1 eb1 ec1
 subst ea1 eb1 ec1
 refine (streetFinds_any l0 A0 cap0 l1 A1 cap1 W hr0 hr1 hStd).mono fun e W' ⟨he, bel⟩ => ?_
 subst he
 exact ⟨_, rfl, _, _, _, [], _, [], hW', trodAll_mk1 (shut_bool Tryz.underlying4 _), (trodAll_cons_mk (Below.trod laidStr (by kernel_rfl) (of_decide_eq_true (by kernel_rfl)) h0 bel (trod_below h0)) (trodAll_cons_mk (Below.trod laidStr (by kernel_rfl) (of_decide_eq_true (by kernel_rfl)) h1 bel (trod_below h1)) trodAll_mk0)), rfl, Below.frame bel _, fun h => by cases h⟩
set_option maxHeartbeats 4000000 in
theorem streetFinds_joined : joinedFacts Tryz.pinned.checked.prog 9 Tryz.f9 Rows.streetFindsSpec Rows.streetFindsRow = true := by
 unfold joinedFacts
 repeat' (with_reducible refine Bool.and_eq_true_iff.mpr ⟨?_, ?_⟩)
 all_goals decide +kernel
theorem streetFinds_row_holds : Rows.StreetFindsSaid :=
 OpenClaim.holds_of_wide 9 Tryz.f9 rfl rfl rfl rfl rfl rfl rfl ⟨rfl, rfl, rfl, rfl, rfl⟩ rfl rfl rfl rfl rfl (by kernel_rfl) Tryz.func9 streetFinds_joined
  (of_decide_eq_true (by kernel_rfl)) (by unfold Func.isWrapper; first | (rw [if_pos (by decide +kernel)]; kernel_rfl) | (rw [if_neg (by decide +kernel)]; exact ⟨rfl, rfl⟩))
  (fun os started H enc _ => streetFinds_lifted os started H enc)
theorem streetFinds_holds : Rows.StreetFindsCardSaid :=
 Claim7.holds_tied_plain_at .later [] [.data, .data, .data, .data, .sentinel, .sentinel, .listed, .data, .pinned] true Rows.streetFindsCard.stood.harness Rows.streetFindsCard.stood.looks
  streetFinds_row_holds (fun _ h => by cases h) (by kernel_rfl) (fun _ h => by cases h) streetFinds_row_tie rfl ⟨rfl, rfl⟩ (by kernel_rfl) rfl
  (fun f fn hf hfn => by
   obtain rfl : f = 9 := Option.some.inj ((show Tryz.prog.funcNamed Rows.streetFindsRow.func = some 9 by kernel_rfl).symm.trans hf) |>.symm
   obtain rfl : fn = Tryz.f9 := (Option.some.inj (Tryz.func9.symm.trans hfn)).symm
   exact ⟨by kernel_rfl, fun j t ht => by
    rw [Tryz.params9] at ht
    have hm : t ∈ [27, 55] := by simpa using Array.mem_of_getElem? ht
    have hall : ([27, 55].all fun u => !Tryz.prog.wantsStandIn u) = true := by kernel_rfl
    exact (show Tryz.prog.wantsStandIn t = false by simpa using List.all_eq_true.1 hall t hm)⟩)
  (by kernel_rfl)
#print axioms streetFinds_holds
end Go.Proofs.YtjaponmpfdpemaaGreatDoor
