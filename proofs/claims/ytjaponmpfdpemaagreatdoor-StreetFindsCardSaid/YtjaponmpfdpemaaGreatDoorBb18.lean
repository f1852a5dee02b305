/-
  point.Valid, apportionref07.Valid; apportionref18: has, address.
-/
import Derived.Test.YtjaponmpfdpemaaGreatDoorBb15
import Derived.Test.YtjaponmpfdpemaaGreatDoorBb17
import Derived.Deep.Cut
import Derived.Shelf.Strings.BuilderK
import Derived.Deep.CutRange
set_option linter.unusedSimpArgs false
set_option linter.unusedVariables false
namespace Go.Proofs.YtjaponmpfdpemaaGreatDoor
open Go.RowKit
set_option maxRecDepth 100000 in
theorem fits_any (n : Int) (W : World) : Calls Tryz.prog 60 #[.int .i64 n] W fun e w' => e = .returned (.bool (fitP n)) ∧ Ext W w' := by
 unfold fitP
 obtain ⟨x, hx⟩ : ∃ t, decide (-1099511627775 ≤ n) = t := ⟨_, rfl⟩
 obtain ⟨y, hy⟩ : ∃ t, decide (n ≤ 1099511627775) = t := ⟨_, rfl⟩
 rw [hx, hy]
 cases x
 all_goals
  go_enter Tryz.func60, Tryz.ntmps60
  go_wp2_with fail
  go_ret
  exact ⟨rfl, Ext.refl _⟩
set_option maxRecDepth 100000 in
theorem ptvalid_any (x y : Int) (W : World) : Calls Tryz.prog 34 #[.agg #[.int .i64 x, .int .i64 y]] W fun e w' => e = .returned (.bool (ptP x y)) ∧ Ext W w' := by
 have HX := Lib.hid (fun w => fits_any x w)
 have HY := Lib.hid (fun w => fits_any y w)
 unfold ptP
 have B := Blk.new W 23 #[.int .i64 x, .int .i64 y]
 have HB := Lib.hid (fun w (hx : Ext (W.alloc (.cells #[.int .i64 x, .int .i64 y] 23)) w) => B.ext hx)
 have X0 := Lib.hid ((Ext.refl W).alloc (.cells #[.int .i64 x, .int .i64 y] 23))
 generalize fitP x = a at *
 generalize fitP y = b at *
 clear B
 go_enter Tryz.func34, Tryz.ntmps34
 go_wp2_with fail
 refine (HX.out _).mono ?_
 rintro e w1 ⟨rfl, hx1⟩
 have B1 := HB.out _ hx1
 obtain ⟨q, _⟩ := B1.cells
 have lb := B1.lt
 clear B1 HB
 cases a with
 | false =>
  go_wp2_with fail
  go_ret
  exact ⟨rfl, X0.out.trans hx1⟩
 | true =>
  go_wp2_with fail
  refine (HY.out _).mono ?_
  rintro e w2 ⟨rfl, hx2⟩
  go_wp2_with fail
  go_ret
  exact ⟨rfl, (X0.out.trans hx1).trans hx2⟩
set_option maxRecDepth 100000 in
theorem rfits_any (n : Int) (W : World) : Calls Tryz.prog 70 #[.int .i64 n] W fun e w' => e = .returned (.bool (fitP n)) ∧ Ext W w' := by
 unfold fitP
 obtain ⟨x, hx⟩ : ∃ t, decide (-1099511627775 ≤ n) = t := ⟨_, rfl⟩
 obtain ⟨y, hy⟩ : ∃ t, decide (n ≤ 1099511627775) = t := ⟨_, rfl⟩
 rw [hx, hy]
 cases x
 all_goals
  go_enter Tryz.func70, Tryz.ntmps70
  go_wp2_with fail
  go_ret
  exact ⟨rfl, Ext.refl _⟩
set_option maxRecDepth 100000 in
theorem rptvalid_any (x y : Int) (W : World) : Calls Tryz.prog 38 #[.agg #[.int .i64 x, .int .i64 y]] W fun e w' => e = .returned (.bool (ptP x y)) ∧ Ext W w' := by
 have HX := Lib.hid (fun w => rfits_any x w)
 have HY := Lib.hid (fun w => rfits_any y w)
 unfold ptP
 have B := Blk.new W 23 #[.int .i64 x, .int .i64 y]
 have HB := Lib.hid (fun w (hx : Ext (W.alloc (.cells #[.int .i64 x, .int .i64 y] 23)) w) => B.ext hx)
 have X0 := Lib.hid ((Ext.refl W).alloc (.cells #[.int .i64 x, .int .i64 y] 23))
 generalize fitP x = a at *
 generalize fitP y = b at *
 clear B
 go_enter Tryz.func38, Tryz.ntmps38
 go_wp2_with fail
 refine (HX.out _).mono ?_
 rintro e w1 ⟨rfl, hx1⟩
 have B1 := HB.out _ hx1
 obtain ⟨q, _⟩ := B1.cells
 have lb := B1.lt
 clear B1 HB
 cases a with
 | false =>
  go_wp2_with fail
  go_ret
  exact ⟨rfl, X0.out.trans hx1⟩
 | true =>
  go_wp2_with fail
  refine (HY.out _).mono ?_
  rintro e w2 ⟨rfl, hx2⟩
  go_wp2_with fail
  go_ret
  exact ⟨rfl, (X0.out.trans hx1).trans hx2⟩
set_option maxRecDepth 100000 in
set_option maxHeartbeats 2000000 in
theorem rsrhas_any (s : Sr) (n : Int) (W : World) : Calls Tryz.prog 32 #[srV s, .int .i64 n] W fun e w' => e = .returned (.bool (s.hasR n)) ∧ Ext W w' := by
 obtain ⟨R, hR⟩ : ∃ R, s.hasR n = R := ⟨_, rfl⟩
 have hH : R = (!(decide (n < s.fr) || decide (s.to_ < n)) && ((s.side == 3 || (s.side == 1 && n.tmod 2 == 1)) || (s.side == 2 && n.tmod 2 == 0))) := by rw [← hR]; rfl
 rw [hR]
 clear hR
 rw [srV_eq]
 generalize s.side = sd at *
 generalize s.fr = fr at *
 generalize s.to_ = to_ at *
 obtain ⟨a, ha⟩ : ∃ t, decide (n < fr) = t := ⟨_, rfl⟩
 obtain ⟨b, hb⟩ : ∃ t, decide (to_ < n) = t := ⟨_, rfl⟩
 obtain ⟨x, hx⟩ : ∃ t, (sd == 3) = t := ⟨_, rfl⟩
 obtain ⟨y, hy⟩ : ∃ t, (sd == 1) = t := ⟨_, rfl⟩
 obtain ⟨z, hz⟩ : ∃ t, (sd == 2) = t := ⟨_, rfl⟩
 obtain ⟨o, ho⟩ : ∃ t, (n.tmod 2 == 1) = t := ⟨_, rfl⟩
 obtain ⟨e0, he⟩ : ∃ t, (n.tmod 2 == 0) = t := ⟨_, rfl⟩
 rw [ha, hb, hx, hy, hz, ho, he] at hH
 replace hH := Lib.hid hH
 have X0 := Lib.hid ((Ext.refl W).alloc (.cells #[.string ⟨s.state.toArray⟩, .string ⟨s.city.toArray⟩, .string ⟨s.pre.toArray⟩, .string ⟨s.name.toArray⟩, .string ⟨s.suf.toArray⟩, .string ⟨s.post.toArray⟩, .int .i64 fr, .int .i64 to_, .int .i64 sd, .int .i64 s.ax, .int .i64 s.ay, .int .i64 s.bx, .int .i64 s.by_] 25))
 cases a with
 | true =>
  go_enter Tryz.func32, Tryz.ntmps32
  go_wp2_with fail
  go_ret
  exact ⟨by rw [hH.out]; rfl, X0.out⟩
 | false =>
  cases b with
  | true =>
   go_enter Tryz.func32, Tryz.ntmps32
   go_wp2_with fail
   go_ret
   exact ⟨by rw [hH.out]; rfl, X0.out⟩
  | false =>
   cases x with
   | true =>
    go_enter Tryz.func32, Tryz.ntmps32
    go_wp2_with fail
    go_ret
    exact ⟨by rw [hH.out]; rfl, X0.out⟩
   | false =>
    cases y <;> cases z <;> cases o <;> cases e0
    all_goals
     go_enter Tryz.func32, Tryz.ntmps32
     go_wp2_with fail
     go_ret
     exact ⟨by rw [hH.out]; rfl, X0.out⟩
set_option maxRecDepth 100000 in
set_option maxHeartbeats 1000000 in
theorem raddress_any (s : Sr) (W : World) : Calls Tryz.prog 37 #[srV s] W fun e w' => e = .returned (adV s.ad) ∧ Ext W w' := by
 have B0 := (Blk.new W 25 (srC s)).alloc (.cells (adC Ad.zero) 45)
 have B1 := Blk.new (W.alloc (.cells (srC s) 25)) 45 (adC Ad.zero)
 have X1 := ((Ext.refl W).alloc (.cells (srC s) 25)).alloc (.cells (adC Ad.zero) 45)
 rw [show (W.alloc (.cells (srC s) 25)).heap.size = W.heap.size + 1 by simp] at B1
 unfold srC at B0 B1 X1
 unfold adC Ad.zero at B0 B1 X1
 dsimp only at *
 rw [srV_eq]
 go_enter Tryz.func37, Tryz.ntmps37
 go_upto_region 1 with (fail)
 generalize (W.alloc (.cells #[.string ⟨s.state.toArray⟩, .string ⟨s.city.toArray⟩, .string ⟨s.pre.toArray⟩, .string ⟨s.name.toArray⟩, .string ⟨s.suf.toArray⟩, .string ⟨s.post.toArray⟩, .int .i64 s.fr, .int .i64 s.to_, .int .i64 s.side, .int .i64 s.ax, .int .i64 s.ay, .int .i64 s.bx, .int .i64 s.by_] 25)).alloc (.cells #[.int .i64 0, .bool false, .string ⟨#[]⟩, .string ⟨#[]⟩, .string ⟨#[]⟩, .string ⟨#[]⟩, .string ⟨#[]⟩, .string ⟨#[]⟩, .string ⟨#[]⟩, .string ⟨#[]⟩, .string ⟨#[]⟩] 45) = w1 at *
 generalize hg1 : W.heap.size + 1 = g1 at *
 have hle : W.heap.size ≤ g1 := by omega
 have hne : W.heap.size ≠ g1 := by omega
 generalize W.heap.size = g0 at hg1 B0 hne ⊢
 clear hg1
 have A1 := Lib.hid (setAd_blk (a := Ad.zero) s.ad B1)
 have E1 := Lib.hid (setAd_ext s.ad X1 hle)
 obtain ⟨q, _⟩ := B0.cells
 obtain ⟨p, p'⟩ := B1.cells
 have l0 := B0.lt
 have l1 := B1.lt
 clear B0 B1 X1 hle
 go_wp2_with fail
 change bodyPost _ _ _ _ _ (setAd w1 g1 s.ad)
 generalize setAd w1 g1 s.ad = w2 at *
 exact bodyPost_ret (results_c rfl rfl (ld_ad A1.out)) rfl ⟨rfl, E1.out⟩
end Go.Proofs.YtjaponmpfdpemaaGreatDoor
set_option linter.unusedSimpArgs false
set_option linter.unusedVariables false
namespace Go.Proofs.YtjaponmpfdpemaaGreatDoor
open Go.RowKit
theorem bs_eq (a b : Bs) (w : World) : (binOp .eql 9 (.string ⟨a.toArray⟩) (.string ⟨b.toArray⟩)).run Tryz.prog w = .ok (.bool (a == b)) w := by
 by_cases h : a = b
 ·subst h
  simp [go_sem]
 ·have e : (a == b) = false := by rw [beq_eq_false_iff_ne]; exact h
  rw [e]
  simp [go_sem, h]
set_option maxRecDepth 100000 in
theorem own_any (kind : Int) (hk : kindOk kind) (s : Bs) (hs : s.length ≤ 100000) (W : World) (hS : Std W) :
  Calls Tryz.prog 50 #[.int .i64 kind, .string ⟨s.toArray⟩] W fun e w' => e = .returned (.bool (ownP kind s)) ∧ Ext W w' := by
 have HS := Lib.hid (short_any kind hk s hs W hS)
 have he := fun w => bs_eq (shortP kind s).1 s w
 unfold ownP
 generalize shortP kind s = sh at *
 obtain ⟨x, y⟩ := sh
 dsimp only at *
 clear hk
 go_enter Tryz.func50, Tryz.ntmps50
 go_wp2_with fail
 refine HS.out.mono ?_
 rintro e w1 ⟨rfl, hx⟩
 go_wp2_with fail
 go_ret
 exact ⟨rfl, hx⟩
def BuilAt (W w : World) (g : Nat) (l : Bs) : Prop := Lib.IsBuilderF 131 5 W.heap.size g (Lib.byteCells l) w ∧ Ext W w
theorem BuilAt.alloc {W w : World} {g : Nat} {l : Bs} (h : BuilAt W w g l) (o : Obj) : BuilAt W (w.alloc o) g l := ⟨h.1.alloc o, h.2.alloc o⟩
theorem buil_new (w : World) : BuilAt w (w.alloc (.cells #[.pointer none, .slice none 0 0] 131)) w.heap.size [] :=
 ⟨Lib.IsBuilderF.of (Lib.fresh_isBuilder 131 5 w), (Ext.refl w).alloc _⟩
theorem wr_any {W w : World} {g : Nat} {l : Bs} (s : Bs) (h : BuilAt W w g l) (hl : l.length + s.length ≤ 1000000) :
  Calls Tryz.prog 84 #[.pointer (some ⟨g, 0, none⟩), .string ⟨s.toArray⟩] w fun e w' => (∃ n, e = .returned (.tuple #[.int .i64 n, .nilIface])) ∧ BuilAt W w' g (l ++ s) ∧ Lib.OthersKept 5 (some g) w w' := by
 have hz : (⟨s.toArray⟩ : ByteArray).size = s.length := by show s.toArray.size = _; simp
 refine (Any.Builder_WriteString_k Tryz.lays166 Tryz.Builder_Extra_166 W.heap.size g (Lib.byteCells l) ⟨s.toArray⟩ w h.1 (by rw [Lib.byteCells_length, hz]; omega) h.2.size).mono ?_
 rintro e w' ⟨rfl, hb, hbl, ho⟩
 rw [Lib.strCells_eq, ← Lib.byteCells_append] at hb
 exact ⟨⟨_, rfl⟩, ⟨.inr hb, Below.trans h.2 hbl⟩, ho⟩
theorem bstr_any {W w : World} {g : Nat} {l : Bs} (h : BuilAt W w g l) :
  Calls Tryz.prog 85 #[.pointer (some ⟨g, 0, none⟩)] w fun e w' => e = .returned (.string ⟨l.toArray⟩) ∧ Ext W w' := by
 refine (Any.Builder_String_any_f Tryz.lays169 Tryz.Builder_Extra_169 W.heap.size g l w h.1 h.2.size).mono ?_
 rintro e w' ⟨rfl, _, hb⟩
 exact ⟨rfl, Below.trans h.2 hb⟩
theorem Blk.others {w w' : World} {k g : Nat} {t : TypeId} {cs : Array Value} (h : Blk w k t cs) (ho : Lib.OthersKept 5 (some g) w w') (hk : k ≠ g) (ht : t ≠ 5) : Blk w' k t cs :=
 ho k _ h (fun e => hk (Option.some.inj e)) (fun c fz e => ht (by injection e))
def lineF (a : Ad) : List Bs := [a.pre, a.name, a.suf, a.post]
def lineK (a : Ad) (k : Nat) : Bs := halfS a.half ++ ((lineF a).take k).flatMap aheadP
theorem lineK_4 (a : Ad) : lineK a 4 = lineP a := by
 rw [lineP_eq]
 simp [lineK, lineF]
def LnAt (W : World) (g q : Nat) (a : Ad) (cs : Array Value) (i : Value) (wr : World) : Prop := ∃ k : Nat, k ≤ 4 ∧ i = .int .i64 (k : Int) ∧ BuilAt W wr g (lineK a k) ∧ Blk wr q 9 cs
structure AdS (a : Ad) (b : Nat) : Prop where
 pre : a.pre.length ≤ b
 name : a.name.length ≤ b
 suf : a.suf.length ≤ b
 post : a.post.length ≤ b
 unit : a.unit.length ≤ b
 city : a.city.length ≤ b
 state : a.state.length ≤ b
 zip : a.zip.length ≤ b
 more : a.more.length ≤ b
theorem lineK_len {a : Ad} (h : AdS a 1000) (k : Nat) (hk : k ≤ 4) : (lineK a k).length ≤ 5000 := by
 have h1 := h.pre
 have h2 := h.name
 have h3 := h.suf
 have h4 := h.post
 have e0 : (halfS a.half).length ≤ 4 := by unfold halfS; split <;> simp
 have al : ∀ s : Bs, (aheadP s).length ≤ s.length + 1 := fun s => by unfold aheadP; split <;> simp
 have a1 := al a.pre
 have a2 := al a.name
 have a3 := al a.suf
 have a4 := al a.post
 unfold lineK lineF
 rcases (show k = 0 ∨ k = 1 ∨ k = 2 ∨ k = 3 ∨ k = 4 by omega) with rfl | rfl | rfl | rfl | rfl <;> simp <;> omega
theorem lineK_succ {a : Ad} {k : Nat} {s : Bs} (hk : (lineF a)[k]? = some s) : lineK a (k + 1) = lineK a k ++ aheadP s := by
 unfold lineK
 rw [List.take_add_one, hk]
 simp
set_option maxRecDepth 100000 in
set_option maxHeartbeats 1000000 in
theorem line_any (a : Ad) (h : AdS a 1000) (W : World) :
  Calls Tryz.prog 54 #[adV a] W fun e w' => e = .returned (.string ⟨(lineP a).toArray⟩) ∧ Ext W w' := by
 have HL := Lib.hid (lineK_len h)
 have HF := Lib.hid (show (lineF a)[0]? = some a.pre ∧ (lineF a)[1]? = some a.name ∧ (lineF a)[2]? = some a.suf ∧ (lineF a)[3]? = some a.post from ⟨rfl, rfl, rfl, rfl⟩)
 have HN := Lib.hid (fun k s (hk : (lineF a)[k]? = some s) => lineK_succ hk)
 have H0 := Lib.hid (show lineK a 0 = halfS a.half by simp [lineK])
 have H4 := Lib.hid (lineK_4 a)
 have hl1 := h.pre
 have hl2 := h.name
 have hl3 := h.suf
 have hl4 := h.post
 obtain ⟨zn, zh, zpre, zname, zsuf, zpost, zunit, zcity, zstate, zzip, zmore⟩ := a
 dsimp only at HF H0 hl1 hl2 hl3 hl4
 generalize hA : (⟨zn, zh, zpre, zname, zsuf, zpost, zunit, zcity, zstate, zzip, zmore⟩ : Ad) = a at HL HF HN H0 H4 ⊢
 replace hA := Lib.hid hA
 rw [show adV a = .agg #[.int .i64 zn, .bool zh, .string ⟨zpre.toArray⟩, .string ⟨zname.toArray⟩, .string ⟨zsuf.toArray⟩, .string ⟨zpost.toArray⟩, .string ⟨zunit.toArray⟩, .string ⟨zcity.toArray⟩, .string ⟨zstate.toArray⟩, .string ⟨zzip.toArray⟩, .string ⟨zmore.toArray⟩] by rw [← hA.out]; rfl]
 clear h
 go_enter Tryz.func54, Tryz.ntmps54
 go_upto_if 7 with (fail)
 generalize hw0 : W.alloc (.cells #[.int .i64 zn, .bool zh, .string ⟨zpre.toArray⟩, .string ⟨zname.toArray⟩, .string ⟨zsuf.toArray⟩, .string ⟨zpost.toArray⟩, .string ⟨zunit.toArray⟩, .string ⟨zcity.toArray⟩, .string ⟨zstate.toArray⟩, .string ⟨zzip.toArray⟩, .string ⟨zmore.toArray⟩] 45) = w0
 have X0 := Lib.hid (show Ext W w0 by rw [← hw0]; exact (Ext.refl W).alloc _)
 have BA := Lib.hid (show Blk w0 W.heap.size 45 #[.int .i64 zn, .bool zh, .string ⟨zpre.toArray⟩, .string ⟨zname.toArray⟩, .string ⟨zsuf.toArray⟩, .string ⟨zpost.toArray⟩, .string ⟨zunit.toArray⟩, .string ⟨zcity.toArray⟩, .string ⟨zstate.toArray⟩, .string ⟨zzip.toArray⟩, .string ⟨zmore.toArray⟩] by rw [← hw0]; exact Blk.new W _ _)
 have hg : w0.heap.size = W.heap.size + 1 := by rw [← hw0]; simp
 have B0 := buil_new w0
 rw [hg] at B0
 clear hw0 hg
 generalize w0.alloc (.cells #[.pointer none, .slice none 0 0] 131) = w1 at *
 generalize W.heap.size + 1 = g at *
 generalize W.heap.size = ga at *
 replace B0 := Lib.hid B0
 go_cut [] (fun wx => BuilAt w0 wx g (halfS zh))
 case first =>
  cases zh with
  | false =>
   go_wp2_with fail
   go_meet
   case rel => exact B0.out
  | true =>
   go_wp2_with fail
   refine (wr_any [32, 49, 47, 50] B0.out (by decide)).mono ?_
   rintro e w2 ⟨⟨n, rfl⟩, B2, _⟩
   replace B2 := Lib.hid B2
   go_wp2_with fail
   go_meet
   case rel => exact B2.out
 case rest =>
  rw [← H0.out] at hcut
  have BA1 := BA.out.ext hcut.2
  have la := BA1.lt
  obtain ⟨q2, q3⟩ := BA1.cells
  have BN := Blk.new wc 9 #[.string ⟨zpre.toArray⟩, .string ⟨zname.toArray⟩, .string ⟨zsuf.toArray⟩, .string ⟨zpost.toArray⟩]
  have HN1 := hcut.alloc (.cells #[.string ⟨zpre.toArray⟩, .string ⟨zname.toArray⟩, .string ⟨zsuf.toArray⟩, .string ⟨zpost.toArray⟩] 9)
  have hgq : wc.heap.size ≠ g := by
   rcases hcut.1 with ⟨_, v, hb, _⟩ | ⟨_, v, hb, _⟩
   ·intro e; rw [← e, Array.getElem?_eq_none (Nat.le_refl _)] at hb; cases hb
   ·intro e; rw [← e, Array.getElem?_eq_none (Nat.le_refl _)] at hb; cases hb
  replace hcut := Lib.hid hcut
  clear BA1
  go_upto_block 0 with (fail)
  clear q2 q3 la
  generalize wc.alloc (.cells #[.string ⟨zpre.toArray⟩, .string ⟨zname.toArray⟩, .string ⟨zsuf.toArray⟩, .string ⟨zpost.toArray⟩] 9) = w2 at *
  generalize wc.heap.size = gq at *
  have HS0 := Lib.hid (show LnAt w0 g gq a #[.string ⟨zpre.toArray⟩, .string ⟨zname.toArray⟩, .string ⟨zsuf.toArray⟩, .string ⟨zpost.toArray⟩] (.int .i64 ((0 : Nat) : Int)) w2 from ⟨0, by omega, rfl, HN1, BN⟩)
  clear HN1 BN
  go_wp2_with fail
  go_loopw [19] (fun i wr => LnAt w0 g gq a #[.string ⟨zpre.toArray⟩, .string ⟨zname.toArray⟩, .string ⟨zsuf.toArray⟩, .string ⟨zpost.toArray⟩] i wr) (fun i _ => 4 - (intOf i).toNat)
  case atStart => exact HS0.out
  case round =>
   clear HS0
   obtain ⟨k, hk, rfl, HB, BQ⟩ := hrel
   have lq := BQ.lt
   have HLk := HL.out k hk
   replace BQ' := Lib.hid BQ
   rcases (show k = 4 ∨ k = 0 ∨ k = 1 ∨ k = 2 ∨ k = 3 by omega) with rfl | rfl | rfl | rfl | rfl
   ·clear BQ BQ'
    go_wp2_with fail
    refine (bstr_any HB).mono ?_
    rintro e w3 ⟨rfl, hx3⟩
    go_wp2_with fail
    go_ret
    exact ⟨by rw [← H4.out]; rfl, X0.out.trans hx3⟩
   ·have hd : decide (((0 : Nat) : Int) < 4) = true := by decide
    have e0 := HF.out.1
    by_cases hz : zpre = []
    ·have hse : zpre.isEmpty = true := by rw [hz]; rfl
     have hse' : decide (zpre = []) = true := decide_eq_true hz
     have HE := Lib.hid (show LnAt w0 g gq a #[.string ⟨zpre.toArray⟩, .string ⟨zname.toArray⟩, .string ⟨zsuf.toArray⟩, .string ⟨zpost.toArray⟩] (.int .i64 ((1 : Nat) : Int)) wr from ⟨1, by omega, rfl, by rw [HN.out 0 _ e0, hz]; show BuilAt _ _ _ (_ ++ []); rw [List.append_nil]; exact HB, BQ'.out⟩)
     obtain ⟨b0, b1⟩ := BQ.cells
     clear HB BQ hz e0 HLk
     go_wp2_with fail
     go_roundw
     case rel => exact HE.out
     case measure => simp [intOf]
    ·have hse : zpre.isEmpty = false := by cases zpre with | nil => exact absurd rfl hz | cons _ _ => rfl
     have hse' : decide (zpre = []) = false := decide_eq_false hz
     have ha : aheadP zpre = 32 :: zpre := by unfold aheadP; rw [if_neg hz]
     have HW := Lib.hid (wr_any (32 :: zpre) HB (by simp only [List.length_cons]; omega))
     have HE := Lib.hid (fun (w' : World) (h : BuilAt w0 w' g (lineK a 0 ++ 32 :: zpre)) (ho : Lib.OthersKept 5 (some g) wr w') => (show LnAt w0 g gq a #[.string ⟨zpre.toArray⟩, .string ⟨zname.toArray⟩, .string ⟨zsuf.toArray⟩, .string ⟨zpost.toArray⟩] (.int .i64 ((1 : Nat) : Int)) w' from ⟨1, by omega, rfl, by rw [HN.out 0 _ e0, ha]; exact h, BQ'.out.others ho hgq (by decide)⟩))
     have hap : (⟨#[32]⟩ ++ ⟨zpre.toArray⟩ : ByteArray) = ⟨(32 :: zpre).toArray⟩ := bs_app [32] zpre
     obtain ⟨b0, b1⟩ := BQ.cells
     clear HB BQ hz e0 HLk ha
     go_wp2_with fail
     refine HW.out.mono ?_
     rintro e w3 ⟨⟨n, rfl⟩, B3, ho3⟩
     replace HE := Lib.hid (HE.out _ B3 ho3)
     clear B3 ho3 HW
     go_wp2_with fail
     go_roundw
     case rel => exact HE.out
     case measure => simp [intOf]
   ·have hd : decide (((1 : Nat) : Int) < 4) = true := by decide
    have e1 := HF.out.2.1
    by_cases hz : zname = []
    ·have hse : zname.isEmpty = true := by rw [hz]; rfl
     have hse' : decide (zname = []) = true := decide_eq_true hz
     have HE := Lib.hid (show LnAt w0 g gq a #[.string ⟨zpre.toArray⟩, .string ⟨zname.toArray⟩, .string ⟨zsuf.toArray⟩, .string ⟨zpost.toArray⟩] (.int .i64 ((2 : Nat) : Int)) wr from ⟨2, by omega, rfl, by rw [HN.out 1 _ e1, hz]; show BuilAt _ _ _ (_ ++ []); rw [List.append_nil]; exact HB, BQ'.out⟩)
     obtain ⟨b0, b1⟩ := BQ.cells
     clear HB BQ hz e1 HLk
     go_wp2_with fail
     go_roundw
     case rel => exact HE.out
     case measure => simp [intOf]
    ·have hse : zname.isEmpty = false := by cases zname with | nil => exact absurd rfl hz | cons _ _ => rfl
     have hse' : decide (zname = []) = false := decide_eq_false hz
     have ha : aheadP zname = 32 :: zname := by unfold aheadP; rw [if_neg hz]
     have HW := Lib.hid (wr_any (32 :: zname) HB (by simp only [List.length_cons]; omega))
     have HE := Lib.hid (fun (w' : World) (h : BuilAt w0 w' g (lineK a 1 ++ 32 :: zname)) (ho : Lib.OthersKept 5 (some g) wr w') => (show LnAt w0 g gq a #[.string ⟨zpre.toArray⟩, .string ⟨zname.toArray⟩, .string ⟨zsuf.toArray⟩, .string ⟨zpost.toArray⟩] (.int .i64 ((2 : Nat) : Int)) w' from ⟨2, by omega, rfl, by rw [HN.out 1 _ e1, ha]; exact h, BQ'.out.others ho hgq (by decide)⟩))
     have hap : (⟨#[32]⟩ ++ ⟨zname.toArray⟩ : ByteArray) = ⟨(32 :: zname).toArray⟩ := bs_app [32] zname
     obtain ⟨b0, b1⟩ := BQ.cells
     clear HB BQ hz e1 HLk ha
     go_wp2_with fail
     refine HW.out.mono ?_
     rintro e w3 ⟨⟨n, rfl⟩, B3, ho3⟩
     replace HE := Lib.hid (HE.out _ B3 ho3)
     clear B3 ho3 HW
     go_wp2_with fail
     go_roundw
     case rel => exact HE.out
     case measure => simp [intOf]
   ·have hd : decide (((2 : Nat) : Int) < 4) = true := by decide
    have e2 := HF.out.2.2.1
    by_cases hz : zsuf = []
    ·have hse : zsuf.isEmpty = true := by rw [hz]; rfl
     have hse' : decide (zsuf = []) = true := decide_eq_true hz
     have HE := Lib.hid (show LnAt w0 g gq a #[.string ⟨zpre.toArray⟩, .string ⟨zname.toArray⟩, .string ⟨zsuf.toArray⟩, .string ⟨zpost.toArray⟩] (.int .i64 ((3 : Nat) : Int)) wr from ⟨3, by omega, rfl, by rw [HN.out 2 _ e2, hz]; show BuilAt _ _ _ (_ ++ []); rw [List.append_nil]; exact HB, BQ'.out⟩)
     obtain ⟨b0, b1⟩ := BQ.cells
     clear HB BQ hz e2 HLk
     go_wp2_with fail
     go_roundw
     case rel => exact HE.out
     case measure => simp [intOf]
    ·have hse : zsuf.isEmpty = false := by cases zsuf with | nil => exact absurd rfl hz | cons _ _ => rfl
     have hse' : decide (zsuf = []) = false := decide_eq_false hz
     have ha : aheadP zsuf = 32 :: zsuf := by unfold aheadP; rw [if_neg hz]
     have HW := Lib.hid (wr_any (32 :: zsuf) HB (by simp only [List.length_cons]; omega))
     have HE := Lib.hid (fun (w' : World) (h : BuilAt w0 w' g (lineK a 2 ++ 32 :: zsuf)) (ho : Lib.OthersKept 5 (some g) wr w') => (show LnAt w0 g gq a #[.string ⟨zpre.toArray⟩, .string ⟨zname.toArray⟩, .string ⟨zsuf.toArray⟩, .string ⟨zpost.toArray⟩] (.int .i64 ((3 : Nat) : Int)) w' from ⟨3, by omega, rfl, by rw [HN.out 2 _ e2, ha]; exact h, BQ'.out.others ho hgq (by decide)⟩))
     have hap : (⟨#[32]⟩ ++ ⟨zsuf.toArray⟩ : ByteArray) = ⟨(32 :: zsuf).toArray⟩ := bs_app [32] zsuf
     obtain ⟨b0, b1⟩ := BQ.cells
     clear HB BQ hz e2 HLk ha
     go_wp2_with fail
     refine HW.out.mono ?_
     rintro e w3 ⟨⟨n, rfl⟩, B3, ho3⟩
     replace HE := Lib.hid (HE.out _ B3 ho3)
     clear B3 ho3 HW
     go_wp2_with fail
     go_roundw
     case rel => exact HE.out
     case measure => simp [intOf]
   ·have hd : decide (((3 : Nat) : Int) < 4) = true := by decide
    have e3 := HF.out.2.2.2
    by_cases hz : zpost = []
    ·have hse : zpost.isEmpty = true := by rw [hz]; rfl
     have hse' : decide (zpost = []) = true := decide_eq_true hz
     have HE := Lib.hid (show LnAt w0 g gq a #[.string ⟨zpre.toArray⟩, .string ⟨zname.toArray⟩, .string ⟨zsuf.toArray⟩, .string ⟨zpost.toArray⟩] (.int .i64 ((4 : Nat) : Int)) wr from ⟨4, by omega, rfl, by rw [HN.out 3 _ e3, hz]; show BuilAt _ _ _ (_ ++ []); rw [List.append_nil]; exact HB, BQ'.out⟩)
     obtain ⟨b0, b1⟩ := BQ.cells
     clear HB BQ hz e3 HLk
     go_wp2_with fail
     go_roundw
     case rel => exact HE.out
     case measure => simp [intOf]
    ·have hse : zpost.isEmpty = false := by cases zpost with | nil => exact absurd rfl hz | cons _ _ => rfl
     have hse' : decide (zpost = []) = false := decide_eq_false hz
     have ha : aheadP zpost = 32 :: zpost := by unfold aheadP; rw [if_neg hz]
     have HW := Lib.hid (wr_any (32 :: zpost) HB (by simp only [List.length_cons]; omega))
     have HE := Lib.hid (fun (w' : World) (h : BuilAt w0 w' g (lineK a 3 ++ 32 :: zpost)) (ho : Lib.OthersKept 5 (some g) wr w') => (show LnAt w0 g gq a #[.string ⟨zpre.toArray⟩, .string ⟨zname.toArray⟩, .string ⟨zsuf.toArray⟩, .string ⟨zpost.toArray⟩] (.int .i64 ((4 : Nat) : Int)) w' from ⟨4, by omega, rfl, by rw [HN.out 3 _ e3, ha]; exact h, BQ'.out.others ho hgq (by decide)⟩))
     have hap : (⟨#[32]⟩ ++ ⟨zpost.toArray⟩ : ByteArray) = ⟨(32 :: zpost).toArray⟩ := bs_app [32] zpost
     obtain ⟨b0, b1⟩ := BQ.cells
     clear HB BQ hz e3 HLk ha
     go_wp2_with fail
     refine HW.out.mono ?_
     rintro e w3 ⟨⟨n, rfl⟩, B3, ho3⟩
     replace HE := Lib.hid (HE.out _ B3 ho3)
     clear B3 ho3 HW
     go_wp2_with fail
     go_roundw
     case rel => exact HE.out
     case measure => simp [intOf]
end Go.Proofs.YtjaponmpfdpemaaGreatDoor
