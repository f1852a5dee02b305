/-
  apportionlaw17: AddrBack (printed by tools/genZs.py).
-/
import Derived.Test.YtjneghncmgjkeaaGreatDoorRw45
set_option linter.unusedVariables false
namespace Go.Proofs.YtjneghncmgjkeaaGreatDoor
open Go.RowKit

theorem textA_two (a : Ad) : (textA a).2 = checkP a := by
  unfold textA
  by_cases h : checkP a = 0
  · rw [if_neg (by simp [h]), h]
  · rw [if_pos h]
theorem textA_len (a : Ad) : (textA a).1.length ≤ 100000 := by
  by_cases h : checkP a = 0
  · have := (text_facts h).2.1; omega
  · unfold textA
    rw [if_pos h]
    exact Nat.zero_le _
/-- What AddrBack's walk needs. -/
structure BackK (W : World) (a b : Ad) (s tt u : Bs) (q fe fa : Int) : Prop where
  tx : longA a = false → ∀ w, Ext W w → Calls Tryz.prog 16 #[adV a] w fun e w' => e = .returned (.tuple #[.string ⟨tt.toArray⟩, .int .i64 q]) ∧ Ext w w'
  ck : longA a = false → ∀ w, Ext W w → Calls Tryz.prog 18 #[adV a] w fun e w' => e = .returned (.int .i64 q) ∧ Ext w w'
  pt : q = 0 → ∀ w, Ext W w → Calls Tryz.prog 10 #[.string ⟨tt.toArray⟩] w fun e w' => e = .returned (.tuple #[adV a, .agg #[.int .i64 0, .int .i64 0]]) ∧ Ext w w'
  nt : q = 0 → ∀ w, Ext W w → Calls Tryz.prog 20 #[.string ⟨tt.toArray⟩, .string ⟨tt.toArray⟩] w fun e w' => e = .returned (.bool true) ∧ Ext w w'
  ps : s.length ≤ 1000 → ∀ w, Ext W w → Calls Tryz.prog 10 #[.string ⟨s.toArray⟩] w fun e w' => e = .returned (.tuple #[adV b, .agg #[.int .i64 fe, .int .i64 fa]]) ∧ Ext w w'
  bz : fe ≠ 0 → b = Ad.zero
  tb : fe = 0 → ∀ w, Ext W w → Calls Tryz.prog 16 #[adV b] w fun e w' => e = .returned (.tuple #[.string ⟨u.toArray⟩, .int .i64 0]) ∧ Ext w w'
  pu : fe = 0 → ∀ w, Ext W w → Calls Tryz.prog 10 #[.string ⟨u.toArray⟩] w fun e w' => e = .returned (.tuple #[adV b, .agg #[.int .i64 0, .int .i64 0]]) ∧ Ext w w'
  ns : fe = 0 → s.length ≤ 1000 → ∀ w, Ext W w → Calls Tryz.prog 20 #[.string ⟨s.toArray⟩, .string ⟨u.toArray⟩] w fun e w' => e = .returned (.bool true) ∧ Ext w w'
  nu : fe = 0 → ∀ w, Ext W w → Calls Tryz.prog 20 #[.string ⟨u.toArray⟩, .string ⟨u.toArray⟩] w fun e w' => e = .returned (.bool true) ∧ Ext w w'
theorem back_k (a : Ad) (hn : i64 a.n) (s : Bs) (W : World) (hS : Std W) : ∃ b tt u q fe fa, BackK W a b s tt u q fe fa := by
  refine ⟨(parseP s).1, (textA a).1, (textA (parseP s).1).1, (textA a).2, (parseP s).2.1, (parseP s).2.2, ?_⟩
  refine ⟨fun hl w hx => addText_any a (longA_no hl) hn w (hS.ext hx), fun hl w hx => by rw [textA_two]; exact adcheck_any a (longA_no hl) w (hS.ext hx), ?_, ?_, fun hs w hx => parse_any s (by omega) w (hS.ext hx), fun h => parse_err h, ?_, ?_, ?_, ?_⟩
  · intro h w hx
    rw [textA_two] at h
    have := parse_any (textA a).1 (textA_len a) w (hS.ext hx)
    rw [(text_law h).1] at this
    exact this
  · intro h w hx
    rw [textA_two] at h
    exact l17normal_any _ _ (textA_len a) (text_law h).2 w (hS.ext hx)
  · intro h w hx
    obtain ⟨p1, p2⟩ := parsed_AdS h
    have := addText_any (parseP s).1 p1 p2 w (hS.ext hx)
    rw [(back_law h).1] at this
    exact this
  · intro h w hx
    have := parse_any (textA (parseP s).1).1 (textA_len _) w (hS.ext hx)
    rw [(back_law h).2.1] at this
    exact this
  · intro h hs w hx
    exact l17normal_any _ _ (by omega) (back_law h).2.2.1 w (hS.ext hx)
  · intro h w hx
    exact l17normal_any _ _ (textA_len _) (back_law h).2.2.2 w (hS.ext hx)
set_option maxRecDepth 100000 in
set_option maxHeartbeats 4000000 in
theorem addrBack_1 (a : Ad) (hn : i64 a.n) (s : Bs) (hl : longA a = true ∨ 1000 < s.length) (W : World) (hS : Std W) : Calls Tryz.prog 5 #[adV a, .string ⟨s.toArray⟩] W fun e w' => e = .returned (.bool true) ∧ Ext W w' := by
  obtain ⟨b, tt, u, q, fe, fa, HK0⟩ := back_k a hn s W hS
  have HK := Lib.hid HK0
  have HA := Lib.hid (fun w (hx : Ext W w) => l17awake_any w (hS.ext hx))
  have HLg := Lib.hid (fun w => l17long_any a w)
  clear hS hn HK0
  clear HK
  have d1 := Lib.hid (show longA a = false → decide ((1000 : Int) < (s.length : Int)) = true ∧ decide (1000 < s.length) = true from fun h => ⟨decide_eq_true (by rcases hl with e | e; rw [h] at e; cases e; omega), decide_eq_true (by rcases hl with e | e; rw [h] at e; cases e; omega)⟩)
  clear hl
  generalize longA a = lg at *
  obtain ⟨zn, zh, zpre, zname, zsuf, zpost, zunit, zcity, zstate, zzip, zmore⟩ := a
  rw [adV_eq] at HLg ⊢
  dsimp only at *
  go_enter Tryz.func5, Tryz.ntmps5
  go_upto_region 1 with (fail)
  have BA := Lib.hid (Blk.new W 23 #[.int .i64 zn, .bool zh, .string ⟨zpre.toArray⟩, .string ⟨zname.toArray⟩, .string ⟨zsuf.toArray⟩, .string ⟨zpost.toArray⟩, .string ⟨zunit.toArray⟩, .string ⟨zcity.toArray⟩, .string ⟨zstate.toArray⟩, .string ⟨zzip.toArray⟩, .string ⟨zmore.toArray⟩])
  have X0 := Lib.hid ((Ext.refl W).alloc (.cells #[.int .i64 zn, .bool zh, .string ⟨zpre.toArray⟩, .string ⟨zname.toArray⟩, .string ⟨zsuf.toArray⟩, .string ⟨zpost.toArray⟩, .string ⟨zunit.toArray⟩, .string ⟨zcity.toArray⟩, .string ⟨zstate.toArray⟩, .string ⟨zzip.toArray⟩, .string ⟨zmore.toArray⟩] 23))
  generalize W.alloc (.cells #[.int .i64 zn, .bool zh, .string ⟨zpre.toArray⟩, .string ⟨zname.toArray⟩, .string ⟨zsuf.toArray⟩, .string ⟨zpost.toArray⟩, .string ⟨zunit.toArray⟩, .string ⟨zcity.toArray⟩, .string ⟨zstate.toArray⟩, .string ⟨zzip.toArray⟩, .string ⟨zmore.toArray⟩] 23) = w0 at *
  generalize W.heap.size = ga at *
  have BC := Lib.hid (fun w (hx : Ext w0 w) => (show (∀ i, w.cell? ⟨ga, i, none⟩ = (#[.int .i64 zn, .bool zh, .string ⟨zpre.toArray⟩, .string ⟨zname.toArray⟩, .string ⟨zsuf.toArray⟩, .string ⟨zpost.toArray⟩, .string ⟨zunit.toArray⟩, .string ⟨zcity.toArray⟩, .string ⟨zstate.toArray⟩, .string ⟨zzip.toArray⟩, .string ⟨zmore.toArray⟩] : Array Value)[i]?) ∧ ga < w.heap.size from ⟨(BA.out.ext hx).cell, (BA.out.ext hx).lt⟩))
  clear BA
  obtain ⟨qa, la⟩ := BC.out _ (Ext.refl w0)
  go_wp2_with fail
  refine (HA.out _ X0.out).mono ?_
  rintro e w1 ⟨rfl, hx⟩
  have X1 := Lib.hid (((Ext.refl w0)).trans hx)
  clear hx
  clear qa la
  obtain ⟨qa, la⟩ := BC.out _ X1.out
  go_wp2_with fail
  refine (HLg.out _).mono ?_
  rintro e w2 ⟨rfl, hx⟩
  have X2 := Lib.hid ((X1.out).trans hx)
  clear hx
  cases lg with
  | true =>
    go_wp2_with fail
    go_ret
    exact ⟨rfl, X0.out.trans X2.out⟩
  | false =>
    obtain ⟨d2, d3⟩ := d1.out rfl
    go_wp2_with fail
    go_ret
    exact ⟨rfl, X0.out.trans X2.out⟩
set_option maxRecDepth 100000 in
set_option maxHeartbeats 4000000 in
theorem addrBack_qf (a b : Ad) (s tt u : Bs) (q fe fa : Int) (hlg : longA a = false) (hs : s.length ≤ 1000) (hq : q = 0) (hf : fe = 0) (W : World) (hS : Std W) (K : BackK W a b s tt u q fe fa) : Calls Tryz.prog 5 #[adV a, .string ⟨s.toArray⟩] W fun e w' => e = .returned (.bool true) ∧ Ext W w' := by
  have d1 : decide ((1000 : Int) < (s.length : Int)) = false := decide_eq_false (by omega)
  have d2 : decide (1000 < s.length) = false := decide_eq_false (by omega)
  have HTx := Lib.hid (K.tx hlg)
  have HCk := Lib.hid (K.ck hlg)
  have HPs := Lib.hid (K.ps hs)
  have HPt := Lib.hid (K.pt hq)
  have HNt := Lib.hid (K.nt hq)
  subst hq
  have HTb := Lib.hid (K.tb hf)
  have HPu := Lib.hid (K.pu hf)
  have HNs := Lib.hid (K.ns hf hs)
  have HNu := Lib.hid (K.nu hf)
  subst hf
  have HA := Lib.hid (fun w (hx : Ext W w) => l17awake_any w (hS.ext hx))
  have HLg := Lib.hid (fun w => l17long_any a w)
  rw [hlg] at HLg
  clear hS hs hlg K
  obtain ⟨zn, zh, zpre, zname, zsuf, zpost, zunit, zcity, zstate, zzip, zmore⟩ := a
  obtain ⟨yn, yh, ypre, yname, ysuf, ypost, yunit, ycity, ystate, yzip, ymore⟩ := b
  rw [adV_eq] at HPs HTb HPu
  rw [adV_eq] at HLg HTx HCk HPt ⊢
  dsimp only [Ad.zero] at *
  go_enter Tryz.func5, Tryz.ntmps5
  go_upto_region 1 with (fail)
  have BA := Lib.hid (Blk.new W 23 #[.int .i64 zn, .bool zh, .string ⟨zpre.toArray⟩, .string ⟨zname.toArray⟩, .string ⟨zsuf.toArray⟩, .string ⟨zpost.toArray⟩, .string ⟨zunit.toArray⟩, .string ⟨zcity.toArray⟩, .string ⟨zstate.toArray⟩, .string ⟨zzip.toArray⟩, .string ⟨zmore.toArray⟩])
  have X0 := Lib.hid ((Ext.refl W).alloc (.cells #[.int .i64 zn, .bool zh, .string ⟨zpre.toArray⟩, .string ⟨zname.toArray⟩, .string ⟨zsuf.toArray⟩, .string ⟨zpost.toArray⟩, .string ⟨zunit.toArray⟩, .string ⟨zcity.toArray⟩, .string ⟨zstate.toArray⟩, .string ⟨zzip.toArray⟩, .string ⟨zmore.toArray⟩] 23))
  generalize W.alloc (.cells #[.int .i64 zn, .bool zh, .string ⟨zpre.toArray⟩, .string ⟨zname.toArray⟩, .string ⟨zsuf.toArray⟩, .string ⟨zpost.toArray⟩, .string ⟨zunit.toArray⟩, .string ⟨zcity.toArray⟩, .string ⟨zstate.toArray⟩, .string ⟨zzip.toArray⟩, .string ⟨zmore.toArray⟩] 23) = w0 at *
  generalize W.heap.size = ga at *
  have BC := Lib.hid (fun w (hx : Ext w0 w) => (show (∀ i, w.cell? ⟨ga, i, none⟩ = (#[.int .i64 zn, .bool zh, .string ⟨zpre.toArray⟩, .string ⟨zname.toArray⟩, .string ⟨zsuf.toArray⟩, .string ⟨zpost.toArray⟩, .string ⟨zunit.toArray⟩, .string ⟨zcity.toArray⟩, .string ⟨zstate.toArray⟩, .string ⟨zzip.toArray⟩, .string ⟨zmore.toArray⟩] : Array Value)[i]?) ∧ ga < w.heap.size from ⟨(BA.out.ext hx).cell, (BA.out.ext hx).lt⟩))
  clear BA
  obtain ⟨qa, la⟩ := BC.out _ (Ext.refl w0)
  go_wp2_with fail
  refine (HA.out _ X0.out).mono ?_
  rintro e w1 ⟨rfl, hx⟩
  have X1 := Lib.hid (((Ext.refl w0)).trans hx)
  clear hx
  clear qa la
  obtain ⟨qa, la⟩ := BC.out _ X1.out
  go_wp2_with fail
  refine (HLg.out _).mono ?_
  rintro e w2 ⟨rfl, hx⟩
  have X2 := Lib.hid ((X1.out).trans hx)
  clear hx
  clear qa la
  obtain ⟨qa, la⟩ := BC.out _ X2.out
  go_wp2_with fail
  refine (HTx.out _ (X0.out.trans X2.out)).mono ?_
  rintro e w3 ⟨rfl, hx⟩
  have X3 := Lib.hid ((X2.out).trans hx)
  clear hx
  clear qa la
  obtain ⟨qa, la⟩ := BC.out _ X3.out
  go_wp2_with fail
  refine (HCk.out _ (X0.out.trans X3.out)).mono ?_
  rintro e w4 ⟨rfl, hx⟩
  have X4 := Lib.hid ((X3.out).trans hx)
  clear hx
  clear qa la
  obtain ⟨qa, la⟩ := BC.out _ X4.out
  go_wp2_with fail
  refine (HPt.out _ (X0.out.trans X4.out)).mono ?_
  rintro e w5 ⟨rfl, hx⟩
  have X5 := Lib.hid ((X4.out).trans hx)
  clear hx
  clear qa la
  obtain ⟨qa, la⟩ := BC.out _ X5.out
  go_wp2_with fail
  refine (HNt.out _ (X0.out.trans ((X5.out.alloc (.cells #[.int .i64 zn, .bool zh, .string ⟨zpre.toArray⟩, .string ⟨zname.toArray⟩, .string ⟨zsuf.toArray⟩, .string ⟨zpost.toArray⟩, .string ⟨zunit.toArray⟩, .string ⟨zcity.toArray⟩, .string ⟨zstate.toArray⟩, .string ⟨zzip.toArray⟩, .string ⟨zmore.toArray⟩] 23)).alloc (.cells #[.int .i64 0, .int .i64 0] 26)))).mono ?_
  rintro e w6 ⟨rfl, hx⟩
  have X6 := Lib.hid ((((X5.out.alloc (.cells #[.int .i64 zn, .bool zh, .string ⟨zpre.toArray⟩, .string ⟨zname.toArray⟩, .string ⟨zsuf.toArray⟩, .string ⟨zpost.toArray⟩, .string ⟨zunit.toArray⟩, .string ⟨zcity.toArray⟩, .string ⟨zstate.toArray⟩, .string ⟨zzip.toArray⟩, .string ⟨zmore.toArray⟩] 23)).alloc (.cells #[.int .i64 0, .int .i64 0] 26))).trans hx)
  clear hx
  clear qa la
  obtain ⟨qa, la⟩ := BC.out _ X6.out
  go_wp2_with fail
  refine (HPs.out _ (X0.out.trans X6.out)).mono ?_
  rintro e w7 ⟨rfl, hx⟩
  have X7 := Lib.hid ((X6.out).trans hx)
  clear hx
  clear qa la
  obtain ⟨qa, la⟩ := BC.out _ X7.out
  go_upto_region 14 with (fail)
  clear qa la
  have BB := (Blk.new w7 23 #[.int .i64 yn, .bool yh, .string ⟨ypre.toArray⟩, .string ⟨yname.toArray⟩, .string ⟨ysuf.toArray⟩, .string ⟨ypost.toArray⟩, .string ⟨yunit.toArray⟩, .string ⟨ycity.toArray⟩, .string ⟨ystate.toArray⟩, .string ⟨yzip.toArray⟩, .string ⟨ymore.toArray⟩]).alloc (.cells #[.int .i64 0, .int .i64 fa] 26)
  have XB := Lib.hid ((X7.out.alloc (.cells #[.int .i64 yn, .bool yh, .string ⟨ypre.toArray⟩, .string ⟨yname.toArray⟩, .string ⟨ysuf.toArray⟩, .string ⟨ypost.toArray⟩, .string ⟨yunit.toArray⟩, .string ⟨ycity.toArray⟩, .string ⟨ystate.toArray⟩, .string ⟨yzip.toArray⟩, .string ⟨ymore.toArray⟩] 23)).alloc (.cells #[.int .i64 0, .int .i64 fa] 26))
  generalize (w7.alloc (.cells #[.int .i64 yn, .bool yh, .string ⟨ypre.toArray⟩, .string ⟨yname.toArray⟩, .string ⟨ysuf.toArray⟩, .string ⟨ypost.toArray⟩, .string ⟨yunit.toArray⟩, .string ⟨ycity.toArray⟩, .string ⟨ystate.toArray⟩, .string ⟨yzip.toArray⟩, .string ⟨ymore.toArray⟩] 23)).alloc (.cells #[.int .i64 0, .int .i64 fa] 26) = wb at *
  generalize w7.heap.size + 1 = gfb at *
  generalize w7.heap.size = gb at *
  replace X0 := Lib.hid (X0.out.trans XB.out)
  replace BB := Lib.hid BB
  clear BC
  have BC := Lib.hid (fun w (hx : Ext wb w) => (show (∀ i, w.cell? ⟨gb, i, none⟩ = (#[.int .i64 yn, .bool yh, .string ⟨ypre.toArray⟩, .string ⟨yname.toArray⟩, .string ⟨ysuf.toArray⟩, .string ⟨ypost.toArray⟩, .string ⟨yunit.toArray⟩, .string ⟨ycity.toArray⟩, .string ⟨ystate.toArray⟩, .string ⟨yzip.toArray⟩, .string ⟨ymore.toArray⟩] : Array Value)[i]?) ∧ gb < w.heap.size from ⟨(BB.out.ext hx).cell, (BB.out.ext hx).lt⟩))
  obtain ⟨qa, la⟩ := BC.out _ (Ext.refl wb)
  go_wp2_with fail
  refine (HTb.out _ X0.out).mono ?_
  rintro e w8 ⟨rfl, hx⟩
  have X8 := Lib.hid (((Ext.refl wb)).trans hx)
  clear hx
  clear qa la
  obtain ⟨qa, la⟩ := BC.out _ X8.out
  go_wp2_with fail
  refine (HPu.out _ (X0.out.trans X8.out)).mono ?_
  rintro e w9 ⟨rfl, hx⟩
  have X9 := Lib.hid ((X8.out).trans hx)
  clear hx
  clear qa la
  obtain ⟨qa, la⟩ := BC.out _ X9.out
  go_wp2_with fail
  refine (HNs.out _ (X0.out.trans ((X9.out.alloc (.cells #[.int .i64 yn, .bool yh, .string ⟨ypre.toArray⟩, .string ⟨yname.toArray⟩, .string ⟨ysuf.toArray⟩, .string ⟨ypost.toArray⟩, .string ⟨yunit.toArray⟩, .string ⟨ycity.toArray⟩, .string ⟨ystate.toArray⟩, .string ⟨yzip.toArray⟩, .string ⟨ymore.toArray⟩] 23)).alloc (.cells #[.int .i64 0, .int .i64 0] 26)))).mono ?_
  rintro e w10 ⟨rfl, hx⟩
  have X10 := Lib.hid ((((X9.out.alloc (.cells #[.int .i64 yn, .bool yh, .string ⟨ypre.toArray⟩, .string ⟨yname.toArray⟩, .string ⟨ysuf.toArray⟩, .string ⟨ypost.toArray⟩, .string ⟨yunit.toArray⟩, .string ⟨ycity.toArray⟩, .string ⟨ystate.toArray⟩, .string ⟨yzip.toArray⟩, .string ⟨ymore.toArray⟩] 23)).alloc (.cells #[.int .i64 0, .int .i64 0] 26))).trans hx)
  clear hx
  clear qa la
  obtain ⟨qa, la⟩ := BC.out _ X10.out
  go_wp2_with fail
  refine (HNu.out _ (X0.out.trans X10.out)).mono ?_
  rintro e w11 ⟨rfl, hx⟩
  have X11 := Lib.hid ((X10.out).trans hx)
  clear hx
  clear qa la
  obtain ⟨qa, la⟩ := BC.out _ X11.out
  go_wp2_with fail
  go_ret
  exact ⟨rfl, X0.out.trans X11.out⟩
set_option maxRecDepth 100000 in
set_option maxHeartbeats 4000000 in
theorem addrBack_qe (a b : Ad) (s tt u : Bs) (q fe fa : Int) (hlg : longA a = false) (hs : s.length ≤ 1000) (hq : q = 0) (hf : fe ≠ 0) (W : World) (hS : Std W) (K : BackK W a b s tt u q fe fa) : Calls Tryz.prog 5 #[adV a, .string ⟨s.toArray⟩] W fun e w' => e = .returned (.bool true) ∧ Ext W w' := by
  have d1 : decide ((1000 : Int) < (s.length : Int)) = false := decide_eq_false (by omega)
  have d2 : decide (1000 < s.length) = false := decide_eq_false (by omega)
  have HTx := Lib.hid (K.tx hlg)
  have HCk := Lib.hid (K.ck hlg)
  have HPs := Lib.hid (K.ps hs)
  have HPt := Lib.hid (K.pt hq)
  have HNt := Lib.hid (K.nt hq)
  subst hq
  have hfb : (fe != 0) = true := by simpa using hf
  obtain rfl := K.bz hf
  have HA := Lib.hid (fun w (hx : Ext W w) => l17awake_any w (hS.ext hx))
  have HLg := Lib.hid (fun w => l17long_any a w)
  rw [hlg] at HLg
  clear hS hs hlg K hf
  obtain ⟨zn, zh, zpre, zname, zsuf, zpost, zunit, zcity, zstate, zzip, zmore⟩ := a
  rw [adV_eq] at HPs
  rw [adV_eq] at HLg HTx HCk HPt ⊢
  dsimp only [Ad.zero] at *
  go_enter Tryz.func5, Tryz.ntmps5
  go_upto_region 1 with (fail)
  have BA := Lib.hid (Blk.new W 23 #[.int .i64 zn, .bool zh, .string ⟨zpre.toArray⟩, .string ⟨zname.toArray⟩, .string ⟨zsuf.toArray⟩, .string ⟨zpost.toArray⟩, .string ⟨zunit.toArray⟩, .string ⟨zcity.toArray⟩, .string ⟨zstate.toArray⟩, .string ⟨zzip.toArray⟩, .string ⟨zmore.toArray⟩])
  have X0 := Lib.hid ((Ext.refl W).alloc (.cells #[.int .i64 zn, .bool zh, .string ⟨zpre.toArray⟩, .string ⟨zname.toArray⟩, .string ⟨zsuf.toArray⟩, .string ⟨zpost.toArray⟩, .string ⟨zunit.toArray⟩, .string ⟨zcity.toArray⟩, .string ⟨zstate.toArray⟩, .string ⟨zzip.toArray⟩, .string ⟨zmore.toArray⟩] 23))
  generalize W.alloc (.cells #[.int .i64 zn, .bool zh, .string ⟨zpre.toArray⟩, .string ⟨zname.toArray⟩, .string ⟨zsuf.toArray⟩, .string ⟨zpost.toArray⟩, .string ⟨zunit.toArray⟩, .string ⟨zcity.toArray⟩, .string ⟨zstate.toArray⟩, .string ⟨zzip.toArray⟩, .string ⟨zmore.toArray⟩] 23) = w0 at *
  generalize W.heap.size = ga at *
  have BC := Lib.hid (fun w (hx : Ext w0 w) => (show (∀ i, w.cell? ⟨ga, i, none⟩ = (#[.int .i64 zn, .bool zh, .string ⟨zpre.toArray⟩, .string ⟨zname.toArray⟩, .string ⟨zsuf.toArray⟩, .string ⟨zpost.toArray⟩, .string ⟨zunit.toArray⟩, .string ⟨zcity.toArray⟩, .string ⟨zstate.toArray⟩, .string ⟨zzip.toArray⟩, .string ⟨zmore.toArray⟩] : Array Value)[i]?) ∧ ga < w.heap.size from ⟨(BA.out.ext hx).cell, (BA.out.ext hx).lt⟩))
  clear BA
  obtain ⟨qa, la⟩ := BC.out _ (Ext.refl w0)
  go_wp2_with fail
  refine (HA.out _ X0.out).mono ?_
  rintro e w1 ⟨rfl, hx⟩
  have X1 := Lib.hid (((Ext.refl w0)).trans hx)
  clear hx
  clear qa la
  obtain ⟨qa, la⟩ := BC.out _ X1.out
  go_wp2_with fail
  refine (HLg.out _).mono ?_
  rintro e w2 ⟨rfl, hx⟩
  have X2 := Lib.hid ((X1.out).trans hx)
  clear hx
  clear qa la
  obtain ⟨qa, la⟩ := BC.out _ X2.out
  go_wp2_with fail
  refine (HTx.out _ (X0.out.trans X2.out)).mono ?_
  rintro e w3 ⟨rfl, hx⟩
  have X3 := Lib.hid ((X2.out).trans hx)
  clear hx
  clear qa la
  obtain ⟨qa, la⟩ := BC.out _ X3.out
  go_wp2_with fail
  refine (HCk.out _ (X0.out.trans X3.out)).mono ?_
  rintro e w4 ⟨rfl, hx⟩
  have X4 := Lib.hid ((X3.out).trans hx)
  clear hx
  clear qa la
  obtain ⟨qa, la⟩ := BC.out _ X4.out
  go_wp2_with fail
  refine (HPt.out _ (X0.out.trans X4.out)).mono ?_
  rintro e w5 ⟨rfl, hx⟩
  have X5 := Lib.hid ((X4.out).trans hx)
  clear hx
  clear qa la
  obtain ⟨qa, la⟩ := BC.out _ X5.out
  go_wp2_with fail
  refine (HNt.out _ (X0.out.trans ((X5.out.alloc (.cells #[.int .i64 zn, .bool zh, .string ⟨zpre.toArray⟩, .string ⟨zname.toArray⟩, .string ⟨zsuf.toArray⟩, .string ⟨zpost.toArray⟩, .string ⟨zunit.toArray⟩, .string ⟨zcity.toArray⟩, .string ⟨zstate.toArray⟩, .string ⟨zzip.toArray⟩, .string ⟨zmore.toArray⟩] 23)).alloc (.cells #[.int .i64 0, .int .i64 0] 26)))).mono ?_
  rintro e w6 ⟨rfl, hx⟩
  have X6 := Lib.hid ((((X5.out.alloc (.cells #[.int .i64 zn, .bool zh, .string ⟨zpre.toArray⟩, .string ⟨zname.toArray⟩, .string ⟨zsuf.toArray⟩, .string ⟨zpost.toArray⟩, .string ⟨zunit.toArray⟩, .string ⟨zcity.toArray⟩, .string ⟨zstate.toArray⟩, .string ⟨zzip.toArray⟩, .string ⟨zmore.toArray⟩] 23)).alloc (.cells #[.int .i64 0, .int .i64 0] 26))).trans hx)
  clear hx
  clear qa la
  obtain ⟨qa, la⟩ := BC.out _ X6.out
  go_wp2_with fail
  refine (HPs.out _ (X0.out.trans X6.out)).mono ?_
  rintro e w7 ⟨rfl, hx⟩
  have X7 := Lib.hid ((X6.out).trans hx)
  clear hx
  clear qa la
  obtain ⟨qa, la⟩ := BC.out _ X7.out
  go_wp2_with fail
  go_ret
  exact ⟨rfl, X0.out.trans ((X7.out.alloc (.cells #[.int .i64 0, .bool false, .string ⟨#[]⟩, .string ⟨#[]⟩, .string ⟨#[]⟩, .string ⟨#[]⟩, .string ⟨#[]⟩, .string ⟨#[]⟩, .string ⟨#[]⟩, .string ⟨#[]⟩, .string ⟨#[]⟩] 23)).alloc (.cells #[.int .i64 fe, .int .i64 fa] 26))⟩
set_option maxRecDepth 100000 in
set_option maxHeartbeats 4000000 in
theorem addrBack_nf (a b : Ad) (s tt u : Bs) (q fe fa : Int) (hlg : longA a = false) (hs : s.length ≤ 1000) (hq : q ≠ 0) (hf : fe = 0) (W : World) (hS : Std W) (K : BackK W a b s tt u q fe fa) : Calls Tryz.prog 5 #[adV a, .string ⟨s.toArray⟩] W fun e w' => e = .returned (.bool true) ∧ Ext W w' := by
  have d1 : decide ((1000 : Int) < (s.length : Int)) = false := decide_eq_false (by omega)
  have d2 : decide (1000 < s.length) = false := decide_eq_false (by omega)
  have HTx := Lib.hid (K.tx hlg)
  have HCk := Lib.hid (K.ck hlg)
  have HPs := Lib.hid (K.ps hs)
  have hqb : (q == 0) = false := by rw [beq_eq_false_iff_ne]; exact hq
  have HTb := Lib.hid (K.tb hf)
  have HPu := Lib.hid (K.pu hf)
  have HNs := Lib.hid (K.ns hf hs)
  have HNu := Lib.hid (K.nu hf)
  subst hf
  have HA := Lib.hid (fun w (hx : Ext W w) => l17awake_any w (hS.ext hx))
  have HLg := Lib.hid (fun w => l17long_any a w)
  rw [hlg] at HLg
  clear hS hs hlg K hq
  obtain ⟨zn, zh, zpre, zname, zsuf, zpost, zunit, zcity, zstate, zzip, zmore⟩ := a
  obtain ⟨yn, yh, ypre, yname, ysuf, ypost, yunit, ycity, ystate, yzip, ymore⟩ := b
  rw [adV_eq] at HPs HTb HPu
  rw [adV_eq] at HLg HTx HCk ⊢
  dsimp only [Ad.zero] at *
  go_enter Tryz.func5, Tryz.ntmps5
  go_upto_region 1 with (fail)
  have BA := Lib.hid (Blk.new W 23 #[.int .i64 zn, .bool zh, .string ⟨zpre.toArray⟩, .string ⟨zname.toArray⟩, .string ⟨zsuf.toArray⟩, .string ⟨zpost.toArray⟩, .string ⟨zunit.toArray⟩, .string ⟨zcity.toArray⟩, .string ⟨zstate.toArray⟩, .string ⟨zzip.toArray⟩, .string ⟨zmore.toArray⟩])
  have X0 := Lib.hid ((Ext.refl W).alloc (.cells #[.int .i64 zn, .bool zh, .string ⟨zpre.toArray⟩, .string ⟨zname.toArray⟩, .string ⟨zsuf.toArray⟩, .string ⟨zpost.toArray⟩, .string ⟨zunit.toArray⟩, .string ⟨zcity.toArray⟩, .string ⟨zstate.toArray⟩, .string ⟨zzip.toArray⟩, .string ⟨zmore.toArray⟩] 23))
  generalize W.alloc (.cells #[.int .i64 zn, .bool zh, .string ⟨zpre.toArray⟩, .string ⟨zname.toArray⟩, .string ⟨zsuf.toArray⟩, .string ⟨zpost.toArray⟩, .string ⟨zunit.toArray⟩, .string ⟨zcity.toArray⟩, .string ⟨zstate.toArray⟩, .string ⟨zzip.toArray⟩, .string ⟨zmore.toArray⟩] 23) = w0 at *
  generalize W.heap.size = ga at *
  have BC := Lib.hid (fun w (hx : Ext w0 w) => (show (∀ i, w.cell? ⟨ga, i, none⟩ = (#[.int .i64 zn, .bool zh, .string ⟨zpre.toArray⟩, .string ⟨zname.toArray⟩, .string ⟨zsuf.toArray⟩, .string ⟨zpost.toArray⟩, .string ⟨zunit.toArray⟩, .string ⟨zcity.toArray⟩, .string ⟨zstate.toArray⟩, .string ⟨zzip.toArray⟩, .string ⟨zmore.toArray⟩] : Array Value)[i]?) ∧ ga < w.heap.size from ⟨(BA.out.ext hx).cell, (BA.out.ext hx).lt⟩))
  clear BA
  obtain ⟨qa, la⟩ := BC.out _ (Ext.refl w0)
  go_wp2_with fail
  refine (HA.out _ X0.out).mono ?_
  rintro e w1 ⟨rfl, hx⟩
  have X1 := Lib.hid (((Ext.refl w0)).trans hx)
  clear hx
  clear qa la
  obtain ⟨qa, la⟩ := BC.out _ X1.out
  go_wp2_with fail
  refine (HLg.out _).mono ?_
  rintro e w2 ⟨rfl, hx⟩
  have X2 := Lib.hid ((X1.out).trans hx)
  clear hx
  clear qa la
  obtain ⟨qa, la⟩ := BC.out _ X2.out
  go_wp2_with fail
  refine (HTx.out _ (X0.out.trans X2.out)).mono ?_
  rintro e w3 ⟨rfl, hx⟩
  have X3 := Lib.hid ((X2.out).trans hx)
  clear hx
  clear qa la
  obtain ⟨qa, la⟩ := BC.out _ X3.out
  go_wp2_with fail
  refine (HCk.out _ (X0.out.trans X3.out)).mono ?_
  rintro e w4 ⟨rfl, hx⟩
  have X4 := Lib.hid ((X3.out).trans hx)
  clear hx
  clear qa la
  obtain ⟨qa, la⟩ := BC.out _ X4.out
  go_wp2_with fail
  refine (HPs.out _ (X0.out.trans X4.out)).mono ?_
  rintro e w5 ⟨rfl, hx⟩
  have X5 := Lib.hid ((X4.out).trans hx)
  clear hx
  clear qa la
  obtain ⟨qa, la⟩ := BC.out _ X5.out
  go_upto_region 14 with (fail)
  clear qa la
  have BB := (Blk.new w5 23 #[.int .i64 yn, .bool yh, .string ⟨ypre.toArray⟩, .string ⟨yname.toArray⟩, .string ⟨ysuf.toArray⟩, .string ⟨ypost.toArray⟩, .string ⟨yunit.toArray⟩, .string ⟨ycity.toArray⟩, .string ⟨ystate.toArray⟩, .string ⟨yzip.toArray⟩, .string ⟨ymore.toArray⟩]).alloc (.cells #[.int .i64 0, .int .i64 fa] 26)
  have XB := Lib.hid ((X5.out.alloc (.cells #[.int .i64 yn, .bool yh, .string ⟨ypre.toArray⟩, .string ⟨yname.toArray⟩, .string ⟨ysuf.toArray⟩, .string ⟨ypost.toArray⟩, .string ⟨yunit.toArray⟩, .string ⟨ycity.toArray⟩, .string ⟨ystate.toArray⟩, .string ⟨yzip.toArray⟩, .string ⟨ymore.toArray⟩] 23)).alloc (.cells #[.int .i64 0, .int .i64 fa] 26))
  generalize (w5.alloc (.cells #[.int .i64 yn, .bool yh, .string ⟨ypre.toArray⟩, .string ⟨yname.toArray⟩, .string ⟨ysuf.toArray⟩, .string ⟨ypost.toArray⟩, .string ⟨yunit.toArray⟩, .string ⟨ycity.toArray⟩, .string ⟨ystate.toArray⟩, .string ⟨yzip.toArray⟩, .string ⟨ymore.toArray⟩] 23)).alloc (.cells #[.int .i64 0, .int .i64 fa] 26) = wb at *
  generalize w5.heap.size + 1 = gfb at *
  generalize w5.heap.size = gb at *
  replace X0 := Lib.hid (X0.out.trans XB.out)
  replace BB := Lib.hid BB
  clear BC
  have BC := Lib.hid (fun w (hx : Ext wb w) => (show (∀ i, w.cell? ⟨gb, i, none⟩ = (#[.int .i64 yn, .bool yh, .string ⟨ypre.toArray⟩, .string ⟨yname.toArray⟩, .string ⟨ysuf.toArray⟩, .string ⟨ypost.toArray⟩, .string ⟨yunit.toArray⟩, .string ⟨ycity.toArray⟩, .string ⟨ystate.toArray⟩, .string ⟨yzip.toArray⟩, .string ⟨ymore.toArray⟩] : Array Value)[i]?) ∧ gb < w.heap.size from ⟨(BB.out.ext hx).cell, (BB.out.ext hx).lt⟩))
  obtain ⟨qa, la⟩ := BC.out _ (Ext.refl wb)
  go_wp2_with fail
  refine (HTb.out _ X0.out).mono ?_
  rintro e w6 ⟨rfl, hx⟩
  have X6 := Lib.hid (((Ext.refl wb)).trans hx)
  clear hx
  clear qa la
  obtain ⟨qa, la⟩ := BC.out _ X6.out
  go_wp2_with fail
  refine (HPu.out _ (X0.out.trans X6.out)).mono ?_
  rintro e w7 ⟨rfl, hx⟩
  have X7 := Lib.hid ((X6.out).trans hx)
  clear hx
  clear qa la
  obtain ⟨qa, la⟩ := BC.out _ X7.out
  go_wp2_with fail
  refine (HNs.out _ (X0.out.trans ((X7.out.alloc (.cells #[.int .i64 yn, .bool yh, .string ⟨ypre.toArray⟩, .string ⟨yname.toArray⟩, .string ⟨ysuf.toArray⟩, .string ⟨ypost.toArray⟩, .string ⟨yunit.toArray⟩, .string ⟨ycity.toArray⟩, .string ⟨ystate.toArray⟩, .string ⟨yzip.toArray⟩, .string ⟨ymore.toArray⟩] 23)).alloc (.cells #[.int .i64 0, .int .i64 0] 26)))).mono ?_
  rintro e w8 ⟨rfl, hx⟩
  have X8 := Lib.hid ((((X7.out.alloc (.cells #[.int .i64 yn, .bool yh, .string ⟨ypre.toArray⟩, .string ⟨yname.toArray⟩, .string ⟨ysuf.toArray⟩, .string ⟨ypost.toArray⟩, .string ⟨yunit.toArray⟩, .string ⟨ycity.toArray⟩, .string ⟨ystate.toArray⟩, .string ⟨yzip.toArray⟩, .string ⟨ymore.toArray⟩] 23)).alloc (.cells #[.int .i64 0, .int .i64 0] 26))).trans hx)
  clear hx
  clear qa la
  obtain ⟨qa, la⟩ := BC.out _ X8.out
  go_wp2_with fail
  refine (HNu.out _ (X0.out.trans X8.out)).mono ?_
  rintro e w9 ⟨rfl, hx⟩
  have X9 := Lib.hid ((X8.out).trans hx)
  clear hx
  clear qa la
  obtain ⟨qa, la⟩ := BC.out _ X9.out
  go_wp2_with fail
  go_ret
  exact ⟨rfl, X0.out.trans X9.out⟩
set_option maxRecDepth 100000 in
set_option maxHeartbeats 4000000 in
theorem addrBack_ne (a b : Ad) (s tt u : Bs) (q fe fa : Int) (hlg : longA a = false) (hs : s.length ≤ 1000) (hq : q ≠ 0) (hf : fe ≠ 0) (W : World) (hS : Std W) (K : BackK W a b s tt u q fe fa) : Calls Tryz.prog 5 #[adV a, .string ⟨s.toArray⟩] W fun e w' => e = .returned (.bool true) ∧ Ext W w' := by
  have d1 : decide ((1000 : Int) < (s.length : Int)) = false := decide_eq_false (by omega)
  have d2 : decide (1000 < s.length) = false := decide_eq_false (by omega)
  have HTx := Lib.hid (K.tx hlg)
  have HCk := Lib.hid (K.ck hlg)
  have HPs := Lib.hid (K.ps hs)
  have hqb : (q == 0) = false := by rw [beq_eq_false_iff_ne]; exact hq
  have hfb : (fe != 0) = true := by simpa using hf
  obtain rfl := K.bz hf
  have HA := Lib.hid (fun w (hx : Ext W w) => l17awake_any w (hS.ext hx))
  have HLg := Lib.hid (fun w => l17long_any a w)
  rw [hlg] at HLg
  clear hS hs hlg K hq hf
  obtain ⟨zn, zh, zpre, zname, zsuf, zpost, zunit, zcity, zstate, zzip, zmore⟩ := a
  rw [adV_eq] at HPs
  rw [adV_eq] at HLg HTx HCk ⊢
  dsimp only [Ad.zero] at *
  go_enter Tryz.func5, Tryz.ntmps5
  go_upto_region 1 with (fail)
  have BA := Lib.hid (Blk.new W 23 #[.int .i64 zn, .bool zh, .string ⟨zpre.toArray⟩, .string ⟨zname.toArray⟩, .string ⟨zsuf.toArray⟩, .string ⟨zpost.toArray⟩, .string ⟨zunit.toArray⟩, .string ⟨zcity.toArray⟩, .string ⟨zstate.toArray⟩, .string ⟨zzip.toArray⟩, .string ⟨zmore.toArray⟩])
  have X0 := Lib.hid ((Ext.refl W).alloc (.cells #[.int .i64 zn, .bool zh, .string ⟨zpre.toArray⟩, .string ⟨zname.toArray⟩, .string ⟨zsuf.toArray⟩, .string ⟨zpost.toArray⟩, .string ⟨zunit.toArray⟩, .string ⟨zcity.toArray⟩, .string ⟨zstate.toArray⟩, .string ⟨zzip.toArray⟩, .string ⟨zmore.toArray⟩] 23))
  generalize W.alloc (.cells #[.int .i64 zn, .bool zh, .string ⟨zpre.toArray⟩, .string ⟨zname.toArray⟩, .string ⟨zsuf.toArray⟩, .string ⟨zpost.toArray⟩, .string ⟨zunit.toArray⟩, .string ⟨zcity.toArray⟩, .string ⟨zstate.toArray⟩, .string ⟨zzip.toArray⟩, .string ⟨zmore.toArray⟩] 23) = w0 at *
  generalize W.heap.size = ga at *
  have BC := Lib.hid (fun w (hx : Ext w0 w) => (show (∀ i, w.cell? ⟨ga, i, none⟩ = (#[.int .i64 zn, .bool zh, .string ⟨zpre.toArray⟩, .string ⟨zname.toArray⟩, .string ⟨zsuf.toArray⟩, .string ⟨zpost.toArray⟩, .string ⟨zunit.toArray⟩, .string ⟨zcity.toArray⟩, .string ⟨zstate.toArray⟩, .string ⟨zzip.toArray⟩, .string ⟨zmore.toArray⟩] : Array Value)[i]?) ∧ ga < w.heap.size from ⟨(BA.out.ext hx).cell, (BA.out.ext hx).lt⟩))
  clear BA
  obtain ⟨qa, la⟩ := BC.out _ (Ext.refl w0)
  go_wp2_with fail
  refine (HA.out _ X0.out).mono ?_
  rintro e w1 ⟨rfl, hx⟩
  have X1 := Lib.hid (((Ext.refl w0)).trans hx)
  clear hx
  clear qa la
  obtain ⟨qa, la⟩ := BC.out _ X1.out
  go_wp2_with fail
  refine (HLg.out _).mono ?_
  rintro e w2 ⟨rfl, hx⟩
  have X2 := Lib.hid ((X1.out).trans hx)
  clear hx
  clear qa la
  obtain ⟨qa, la⟩ := BC.out _ X2.out
  go_wp2_with fail
  refine (HTx.out _ (X0.out.trans X2.out)).mono ?_
  rintro e w3 ⟨rfl, hx⟩
  have X3 := Lib.hid ((X2.out).trans hx)
  clear hx
  clear qa la
  obtain ⟨qa, la⟩ := BC.out _ X3.out
  go_wp2_with fail
  refine (HCk.out _ (X0.out.trans X3.out)).mono ?_
  rintro e w4 ⟨rfl, hx⟩
  have X4 := Lib.hid ((X3.out).trans hx)
  clear hx
  clear qa la
  obtain ⟨qa, la⟩ := BC.out _ X4.out
  go_wp2_with fail
  refine (HPs.out _ (X0.out.trans X4.out)).mono ?_
  rintro e w5 ⟨rfl, hx⟩
  have X5 := Lib.hid ((X4.out).trans hx)
  clear hx
  clear qa la
  obtain ⟨qa, la⟩ := BC.out _ X5.out
  go_wp2_with fail
  go_ret
  exact ⟨rfl, X0.out.trans ((X5.out.alloc (.cells #[.int .i64 0, .bool false, .string ⟨#[]⟩, .string ⟨#[]⟩, .string ⟨#[]⟩, .string ⟨#[]⟩, .string ⟨#[]⟩, .string ⟨#[]⟩, .string ⟨#[]⟩, .string ⟨#[]⟩, .string ⟨#[]⟩] 23)).alloc (.cells #[.int .i64 fe, .int .i64 fa] 26))⟩
theorem addrBack_any (a : Ad) (hn : i64 a.n) (s : Bs) (W : World) (hS : Std W) : Calls Tryz.prog 5 #[adV a, .string ⟨s.toArray⟩] W fun e w' => e = .returned (.bool true) ∧ Ext W w' := by
  by_cases hl : longA a = true ∨ 1000 < s.length
  · exact addrBack_1 a hn s hl W hS
  · have h1 : longA a = false := by
      cases h : longA a with
      | false => rfl
      | true => exact absurd (.inl h) hl
    have h2 : s.length ≤ 1000 := Nat.le_of_not_lt fun h => hl (.inr h)
    obtain ⟨b, tt, u, q, fe, fa, K⟩ := back_k a hn s W hS
    by_cases hq : q = 0
    · by_cases hf : fe = 0
      · exact addrBack_qf a b s tt u q fe fa h1 h2 hq hf W hS K
      · exact addrBack_qe a b s tt u q fe fa h1 h2 hq hf W hS K
    · by_cases hf : fe = 0
      · exact addrBack_nf a b s tt u q fe fa h1 h2 hq hf W hS K
      · exact addrBack_ne a b s tt u q fe fa h1 h2 hq hf W hS K
end Go.Proofs.YtjneghncmgjkeaaGreatDoor
