/-
  The statement RemitFiles: the walk.
-/
import Derived.Test.YtokakpbpenndlaaGreatDoorRt46
import Derived.Test.YtokakpbpenndlaaGreatDoorRows
import Derived.ProofKit
import Derived.Test.YtokakpbpenndlaaGreatDoorRt13
import Derived.Test.YtokakpbpenndlaaGreatDoorRt41
import Derived.Test.YtokakpbpenndlaaGreatDoorTie
import Derived.Test.YtokakpbpenndlaaGreatDoorCards
import Derived.LaidMore
import Derived.Stop.Joined
import Derived.Lib.LaidTab
set_option linter.unusedVariables false
namespace Go.Proofs.YtokakpbpenndlaaGreatDoor
open Go.RowKit Go.Maps Go.Sort Go.Shelf

/-- Where the adding stands. -/
def RfAdd (w : World) (bb mb rb : Nat) (l : List EV) (i : Value) (wr : World) : Prop := ∃ k : Nat, k ≤ l.length ∧ i = .int .i64 (k : Int) ∧ PR w wr bb mb rb (Bk.addAll [] ((l.map EV.e).take k)) (Bk.addAll [] ((l.map EV.e).take k))
def RfWant (w : World) (n : Nat) (i : Value) (wr : World) : Prop := ∃ k : Nat, k ≤ n ∧ i = .int .i64 (k : Int) ∧ Ext w wr
/-- A report in a block of its own. -/
def RepIs (W : World) (cs : Array Value) (E : Int) (v f : Value) (wx : World) : Prop := ∃ g, v = .pointer (some ⟨g, 0, none⟩) ∧ f = .int .i64 E ∧ Blk wx g 23 cs ∧ Ext W wx
theorem repIs2 {wq v2 : World} (hx : Ext wq v2) {z : Array Value} (hz : z = #[.int .i64 0, .int .i64 0, .int .i64 0, .int .i64 0, .int .i64 0, .int .i64 0, .int .i64 0, .int .i64 0]) (C9 : Blk v2 wq.heap.size 23 z) (E : Int) (v0 v1 v2' v3 v4 v5 v6 v7 : Value) :
    RepIs wq #[v0, v1, v2', v3, v4, v5, v6, v7] E (.pointer (some ⟨wq.heap.size, 0, none⟩)) (.int .i64 E) ((((((((v2.setCell ⟨wq.heap.size, 0, none⟩ v0).setCell ⟨wq.heap.size, 1, none⟩ v1).setCell ⟨wq.heap.size, 2, none⟩ v2').setCell ⟨wq.heap.size, 3, none⟩ v3).setCell ⟨wq.heap.size, 4, none⟩ v4).setCell ⟨wq.heap.size, 5, none⟩ v5).setCell ⟨wq.heap.size, 6, none⟩ v6).setCell ⟨wq.heap.size, 7, none⟩ v7) := by
  subst hz
  exact ⟨_, rfl, rfl, put8 C9, ext8 hx (Nat.le_refl _) v0 v1 v2' v3 v4 v5 v6 v7⟩
theorem JurisEq.oks {w W : World} {base : Nat} {a b : List JX} (h : JurisEq a b) (ho : ∀ y ∈ a, JXOwn base W y) (hb : ∀ x ∈ b, x.ok w ∧ x.few) : ∀ y ∈ a, y.ok W := by
  intro y hy
  obtain ⟨k, hk, rfl⟩ := List.mem_iff_getElem.1 hy
  have hk2 : k < b.length := by rw [← h.len]; exact hk
  have hj := h.at_ hk hk2
  have hx := (hb _ (List.getElem_mem hk2)).1
  refine (ho _ hy).ok_ ?_ fun r hr p hp => ?_
  · rw [hj]; exact ⟨hx.i1, hx.i2, hx.i3, hx.i4⟩
  · have hre := h.r k hk hk2
    obtain ⟨t, ht, rfl⟩ := List.mem_iff_getElem.1 hr
    have ht2 : t < b[k].rings.length := by rw [← hre.len]; exact ht
    rw [hre.at_ ht ht2] at hp
    exact (hx.ro _ (List.getElem_mem ht2)).pi p hp
set_option maxRecDepth 100000 in
set_option maxHeartbeats 4000000 in
theorem remitFiles_any (l : List EV) (A : Option Addr) (cap : Nat) (js : List JX) (Aj : Option Addr) (cj : Nat) (id p : Int) (w : World) (hr : Reads w w.heap.size 6 A l.length (evCells l)) (hm : l.length ≤ maxLen) (hok : ∀ x ∈ l, x.ok w)
    (hrj : Reads w w.heap.size 5 Aj js.length (jvCells (jvs js))) (hjm : js.length ≤ maxLen) (hjok : ∀ x ∈ js, x.ok w ∧ x.few) (ht : Tab10 w) :
    Calls Tryz.prog 5 #[.slice A l.length cap, .slice Aj js.length cj, .int .i64 id, .int .i64 p] w fun e w' => e = .returned (.bool true) ∧ Ext w w' := by
  have HOK := Lib.hid hok
  have HJK := Lib.hid hjok
  have HR := Lib.hid (fun W (hx : Ext w W) => hr.ext hx)
  have HC := Lib.hid (fun k hk => evCells_six' (W := w) (k := k) hr hk)
  have HRJ := Lib.hid (fun W (hx : Ext w W) => hrj.ext hx)
  have HJ := Lib.hid (bigJuris2_any js Aj cj 80 w hrj hjm (fun x hxm => (hjok x hxm).1) (by omega) (fun x hxm => (hjok x hxm).2))
  have HT := Lib.hid ht
  clear hok hr hrj hjok ht
  go_enter Tryz.func5, Tryz.ntmps5
  go_wp2_with fail
  refine (big_any l A cap 25 _ (HR.out _ (Ext.refl _)) hm (by omega)).mono ?_
  rintro r w2 ⟨bg, rfl, hfit, rfl⟩
  cases bg
  case true =>
    go_wp2_with fail
    refine (awake30_any _ HT.out).mono ?_
    rintro e w1 ⟨rfl, X1⟩
    go_wp2_with fail
    go_ret
    exact ⟨rfl, X1⟩
  have hl25 := (hfit rfl).1
  clear hfit
  go_wp2_with fail
  refine HJ.out.mono ?_
  rintro e w2 ⟨b, rfl, hb80, rfl⟩
  cases b
  case true =>
    go_wp2_with fail
    refine (awake30_any _ HT.out).mono ?_
    rintro e w1 ⟨rfl, X1⟩
    go_wp2_with fail
    go_ret
    exact ⟨rfl, X1⟩
  obtain ⟨hj80, hfew⟩ := hb80 rfl
  have HFw := Lib.hid hfew
  have hjn : js.length ≤ 80 := by omega
  clear hb80 HJ hj80 hfew
  go_wp2_with fail
  refine (newBook_any _).mono ?_
  rintro r w20 ⟨rfl, B20, X20⟩
  have P0 := PR.new B20 X20
  have XP0 := X20.alloc (.cells #[.slice none 0 0] 46)
  clear B20 X20
  go_wp2_with fail
  generalize w20.alloc (.cells #[.slice none 0 0] 46) = w21 at *
  obtain ⟨bb, hbb⟩ : ∃ bb, w.heap.size + 1 = bb := ⟨_, rfl⟩
  obtain ⟨mb, hmb⟩ : ∃ mb, w.heap.size = mb := ⟨_, rfl⟩
  obtain ⟨rb, hrb⟩ : ∃ rb, w20.heap.size = rb := ⟨_, rfl⟩
  rw [hbb, hmb, hrb] at P0
  rw [hbb, hrb]
  have H0 := Lib.hid (show RfAdd w bb mb rb l (.int .i64 ((0 : Nat) : Int)) w21 from ⟨0, by omega, rfl, P0⟩)
  clear P0 XP0 hbb hmb hrb
  go_loopw [11] (fun i wr => RfAdd w bb mb rb l i wr) (fun i _ => l.length - (intOf i).toNat)
  case atStart => exact H0.out
  case round =>
    clear H0
    obtain ⟨k, hk, rfl, hP⟩ := hrel
    by_cases hlt : k < l.length
    · have hd : decide ((k : Int) < (l.length : Int)) = true := by simp; omega
      have kl : (k : Int) < (l.length : Int) := by omega
      have kz : (0 : Int) ≤ (k : Int) := by omega
      obtain ⟨g, off, rfl, hg, hc⟩ := HC.out k hlt
      obtain ⟨c1, c2, c3, c4, c5, c6⟩ := hc wr hP.x
      have hxo := HOK.out l[k] (List.getElem_mem hlt)
      have HN := Lib.hid (fun (W : World) (h : PR w W bb mb rb ((Bk.addAll [] ((l.map EV.e).take k)).add l[k].e).1 ((Bk.addAll [] ((l.map EV.e).take k)).add l[k].e).1) => (show RfAdd w bb mb rb l (.int .i64 ((k + 1 : Nat) : Int)) W from by
        refine ⟨k + 1, by omega, rfl, ?_⟩
        rw [addAll_take (by simpa using hlt), List.getElem_map]
        exact h))
      have hs1 := Lib.hid (addAll_small (B := []) (fun p hp => absurd hp (by simp)) ((l.map EV.e).take k))
      have hn1 := Lib.hid (show (Bk.addAll [] ((l.map EV.e).take k)).length ≤ 100000 from by
        have := addAll_len (B := []) ((l.map EV.e).take k)
        simp at this
        omega)
      have HP := Lib.hid hP
      have HCl := Lib.hid hc
      have HX := Lib.hid hxo
      clear hc hP hxo
      generalize l[k] = x at *
      generalize Bk.addAll [] ((l.map EV.e).take k) = K at *
      go_wp2_with fail
      refine (HP.out.add x.e x.A x.A' x.c x.c' (HX.out.ext HP.out.x).r hs1.out hn1.out).mono ?_
      rintro r w22 ⟨A22, c22, rfl, hP2⟩
      have HP2 := Lib.hid hP2
      clear c1 c2 c3 c4 c5 c6 hP2
      obtain ⟨c1, c2, c3, c4, c5, c6⟩ := HCl.out w22 HP2.out.x
      have hg22 : g < w22.heap.size := Nat.lt_of_lt_of_le hg HP2.out.x.size
      go_wp2_with fail
      refine (PR.radd x.e HP2.out x.A x.A' x.c x.c' (HX.out.ext HP2.out.x).r HX.out.c2.1 HX.out.c2.2 hn1.out).mono ?_
      rintro r w23 ⟨A23, n23, c23, E23, rfl, hP3⟩
      have HE := Lib.hid (HN.out _ hP3)
      clear HN HP HP2 hP3 c1 c2 c3 c4 c5 c6
      go_wp2_with fail
      go_roundw
      case rel => exact HE.out
      case measure => simp [intOf]; omega
    · obtain rfl : k = l.length := by omega
      have hd : decide ((l.length : Int) < (l.length : Int)) = false := by simp
      rw [show (l.map EV.e).take l.length = l.map EV.e from List.take_of_length_le (by simp)] at hP
      have hs1 := Lib.hid (addAll_small (B := []) (fun p hp => absurd hp (by simp)) (l.map EV.e))
      have hb1 := Lib.hid (addAll_b3 (B := []) Bk.b3_nil (l.map EV.e))
      have hn1 := Lib.hid (show (Bk.addAll [] (l.map EV.e)).length ≤ 25 from by
        have := addAll_len (B := []) (l.map EV.e)
        simp at this
        omega)
      have HP := Lib.hid hP
      have HCJ := Lib.hid (fun W (hx : Ext w W) => copyJuris_any js Aj js.length cj W rfl (HRJ.out W hx) (by omega) (fun x h => (HJK.out x h).1.ext hx) (fun x h => by
        obtain ⟨i, hi, rfl⟩ := List.mem_iff_getElem.1 h
        obtain ⟨f1, f2⟩ := HFw.out i hi hi
        refine ⟨by omega, fun r hr => ?_⟩
        obtain ⟨t, ht, rfl⟩ := List.mem_iff_getElem.1 hr
        have := f2 t ht ht
        omega))
      clear hP HC HOK HR HFw
      generalize Bk.addAll [] (l.map EV.e) = K at *
      go_wp2_with fail
      refine (HCJ.out _ HP.out.x).mono ?_
      rintro r w30 ⟨A30, c30, cp, rfl, hEq, hOwn, hRow, hx30⟩
      have HP30 := Lib.hid (HP.out.to hx30)
      have HEq := Lib.hid hEq
      have HRC := Lib.hid (fun W (hx : Ext w30 W) => Reads.of_own (own_ext hRow hx))
      have HOC := Lib.hid (fun W (hx : Ext w30 W) y (hy : y ∈ cp) => (hOwn y hy).ext hx)
      have HJs := Lib.hid hEq.js
      have hcn : (jvs cp).length = js.length := by rw [jvs_len, hEq.len]
      replace hcn := Lib.hid hcn
      clear HP HCJ hEq hOwn hRow hx30
      obtain ⟨R, E, hF⟩ : ∃ R E, K.file (jsOf (jvs js)) id p = (R, E) := ⟨_, _, rfl⟩
      have hF' : K.file (jsOf (jvs cp)) id p = (R, E) := by rw [HJs.out]; exact hF
      have HF1 := Lib.hid (HP30.out.one.file hs1.out hb1.out (by have := hn1.out; omega) (jvs cp) A30 c30 js.length hcn.out (HRC.out _ (Ext.refl _)) hjm id p hF')
      have HF2 := Lib.hid (fun W (hx : Ext w30 W) => PR.rfile (HP30.out.to hx) hs1.out (by have := hn1.out; omega) (jvs js) Aj cj js.length (jvs_len js) (HRJ.out W (HP30.out.x.trans hx)) hjm id p hF)
      clear hF'
      replace hF := Lib.hid hF
      go_wp2_with fail
      refine HF1.out.mono ?_
      rintro r w31 ⟨rfl, _, hx31⟩
      have B13 := Blk.new w31 23 #[.int .i64 R.j, .int .i64 R.k, .int .i64 R.p, .int .i64 R.t, .int .i64 R.x, .int .i64 R.v, .int .i64 R.s, .int .i64 R.r]
      have X32 := hx31.alloc (.cells #[.int .i64 R.j, .int .i64 R.k, .int .i64 R.p, .int .i64 R.t, .int .i64 R.x, .int .i64 R.v, .int .i64 R.s, .int .i64 R.r] 23)
      clear HF1 hx31
      unfold Rep.V
      go_wp2_with fail
      generalize w31.alloc (.cells #[.int .i64 R.j, .int .i64 R.k, .int .i64 R.p, .int .i64 R.t, .int .i64 R.x, .int .i64 R.v, .int .i64 R.s, .int .i64 R.r] 23) = w32 at *
      generalize w31.heap.size = g13 at *
      refine (HF2.out _ X32).mono ?_
      rintro r w33 ⟨rfl, hx33⟩
      have B13b := B13.ext hx33
      have B15 := Blk.new w33 23 #[.int .i64 R.j, .int .i64 R.k, .int .i64 R.p, .int .i64 R.t, .int .i64 R.x, .int .i64 R.v, .int .i64 R.s, .int .i64 R.r]
      have X34 := (X32.trans hx33).alloc (.cells #[.int .i64 R.j, .int .i64 R.k, .int .i64 R.p, .int .i64 R.t, .int .i64 R.x, .int .i64 R.v, .int .i64 R.s, .int .i64 R.r] 23)
      have B13c := B13b.alloc (.cells #[.int .i64 R.j, .int .i64 R.k, .int .i64 R.p, .int .i64 R.t, .int .i64 R.x, .int .i64 R.v, .int .i64 R.s, .int .i64 R.r] 23)
      clear HF2 X32 hx33 B13 B13b
      unfold Rep.V
      go_wp2_with fail
      generalize w33.alloc (.cells #[.int .i64 R.j, .int .i64 R.k, .int .i64 R.p, .int .i64 R.t, .int .i64 R.x, .int .i64 R.v, .int .i64 R.s, .int .i64 R.r] 23) = w34 at *
      generalize w33.heap.size = g15 at *
      have HA1 := Lib.hid ((HP30.out.to X34).one.all hs1.out hb1.out (by have := hn1.out; omega) (jvs cp) A30 c30 js.length hcn.out (HRC.out _ X34) hjm)
      refine HA1.out.mono ?_
      rintro r w35 ⟨v35, ss, rfl, hS, ho35, _, hx35⟩
      rw [HJs.out] at hS
      have hDs := dueF_eq hS
      obtain ⟨A35, c35, rfl, l35, m35, R35⟩ := own_slice ho35
      have X35 := X34.trans hx35
      have B13d := B13c.ext hx35
      have B15d := B15.ext hx35
      clear HA1 ho35 hx35 hS B13c B15 X34
      go_wp2_with fail
      refine ((HP30.out.to X35).rall hs1.out (by have := hn1.out; omega) (jvs js) Aj cj js.length (jvs_len js) (HRJ.out _ (HP30.out.x.trans X35)) hjm).mono ?_
      rintro r w36 ⟨v36, rfl, ho36, hx36⟩
      obtain ⟨D, hD⟩ : ∃ D, K.dueF (jsOf (jvs js)) = D := ⟨_, rfl⟩
      rw [hD] at ho36 hDs
      obtain ⟨A36, c36, rfl, l36, m36, R36⟩ := own_slice ho36
      have X36 := X35.trans hx36
      have R35b := R35.ext hx36
      have B13 := B13d.ext hx36
      have B15 := B15d.ext hx36
      have HD := Lib.hid hD
      have HSD := Lib.hid (sameDue_any (sortD ss) D A35 A36 ss.length D.length c35 c36 w36 (sortD_len ss) rfl R35b R36 (by omega) (by omega))
      have HRD := Lib.hid (fun W (hx : Ext w36 W) => R36.ext hx)
      have hnq : ∀ W, (binOp .neq 23 (.agg #[.int .i64 R.j, .int .i64 R.k, .int .i64 R.p, .int .i64 R.t, .int .i64 R.x, .int .i64 R.v, .int .i64 R.s, .int .i64 R.r]) (.agg #[.int .i64 R.j, .int .i64 R.k, .int .i64 R.p, .int .i64 R.t, .int .i64 R.x, .int .i64 R.v, .int .i64 R.s, .int .i64 R.r])).run Tryz.prog W = .ok (.bool false) W := neq_rep R R false (by simp)
      have hee : (E != E) = false := by simp
      have hdl : D.length ≤ maxLen := by omega
      unfold maxLen at hdl
      obtain ⟨q, q'⟩ := B13.cells
      obtain ⟨r, r'⟩ := B15.cells
      have lg1 := B13.lt
      have lg2 := B15.lt
      have hdt : decide (sortD ss = D) = true := decide_eq_true hDs
      replace X36 := Lib.hid X36
      clear hD hDs R35 R35b R36 ho36 hx36 B13d B15d X35 B13 B15
      go_wp2_with fail
      refine HSD.out.mono ?_
      rintro r w37 ⟨rfl, hx37⟩
      rw [hdt]
      have X37 := Lib.hid (X36.out.trans hx37)
      have HRD37 := Lib.hid (fun W (hx : Ext w37 W) => HRD.out W (hx37.trans hx))
      clear HSD HRD hx37 hdt q q' r r' lg1 lg2 hnq
      go_wp2_with fail
      refine (sameJuris_any cp js A30 Aj js.length c30 cj w37 HEq.out HEq.out.len rfl (HRC.out _ X37.out) (HRJ.out _ (HP30.out.x.trans X37.out)) hjm (HEq.out.oks (HOC.out _ X37.out) HJK.out) (fun x h => (HJK.out x h).1.ext (HP30.out.x.trans X37.out))).mono ?_
      rintro r w38 ⟨rfl, hx38⟩
      have X38 := Lib.hid (X37.out.trans hx38)
      have HRD38 := Lib.hid (fun W (hx : Ext w38 W) => HRD37.out W (hx38.trans hx))
      clear HRD37 hx38 X37 X36
      have HF3 := Lib.hid (fun W (hx : Ext w38 W) (J P : Int) (RR : Rep) (EE : Int) (hf : K.file (jsOf (jvs js)) J P = (RR, EE)) => (((HP30.out.to (X38.out.trans hx)).one.file hs1.out hb1.out (by have := hn1.out; omega) (jvs cp) A30 c30 js.length hcn.out (HRC.out _ (X38.out.trans hx)) hjm J P (by rw [HJs.out, hf])).mono (R' := fun r W' => r = .returned (.tuple #[.agg #[.int .i64 RR.j, .int .i64 RR.k, .int .i64 RR.p, .int .i64 RR.t, .int .i64 RR.x, .int .i64 RR.v, .int .i64 RR.s, .int .i64 RR.r], .int .i64 EE]) ∧ Ext W W') (fun r W' h => ⟨h.1, h.2.2⟩)))
      have HF4 := Lib.hid (fun W (hx : Ext w38 W) (J P : Int) (RR : Rep) (EE : Int) (hf : K.file (jsOf (jvs js)) J P = (RR, EE)) => ((PR.rfile (HP30.out.to (X38.out.trans hx)) hs1.out (by have := hn1.out; omega) (jvs js) Aj cj js.length (jvs_len js) (HRJ.out W (HP30.out.x.trans (X38.out.trans hx))) hjm J P hf).mono (R' := fun r W' => r = .returned (.tuple #[.agg #[.int .i64 RR.j, .int .i64 RR.k, .int .i64 RR.p, .int .i64 RR.t, .int .i64 RR.x, .int .i64 RR.v, .int .i64 RR.s, .int .i64 RR.r], .int .i64 EE]) ∧ Ext W W') (fun r W' h => h)))
      have XW := Lib.hid (HP30.out.x.trans X38.out)
      clear HP30 HEq HRC HOC HJs hcn HJK HRJ hs1 hb1 hn1 X38 hF HD
      go_wp2_with fail
      go_loopw [19] (fun i wr => RfWant w38 D.length i wr) (fun i _ => D.length - (intOf i).toNat)
      case atStart => exact ⟨0, by omega, rfl, Ext.refl _⟩
      case round =>
        obtain ⟨k, hk, rfl, hx⟩ := hrel
        obtain ⟨w3, rfl⟩ : ∃ w3, w3 = wr := ⟨_, rfl⟩
        by_cases hlt : k < D.length
        · have hd : decide ((k : Int) < (D.length : Int)) = true := by simp; omega
          have kl : (k : Int) < (D.length : Int) := by omega
          have kz : (0 : Int) ≤ (k : Int) := by omega
          obtain ⟨gd, od, rfl, hgd, _⟩ := (HRD38.out _ hx).cellAt hlt
          obtain ⟨⟨J, P⟩, hJP⟩ : ∃ q, D[k] = q := ⟨_, rfl⟩
          have HL3 := Lib.hid (fun w' (hy : Ext w3 w') => (show w'.cell? ⟨gd, od + k * 2, none⟩ = some (.int .i64 J) ∧ w'.cell? ⟨gd, od + k * 2 + 1, none⟩ = some (.int .i64 P) from by
            obtain ⟨g', o', e, _, hc⟩ := (HRD38.out _ (hx.trans hy)).cellAt hlt
            injection e with e
            injection e with e1 e2 _
            subst e1 e2
            obtain ⟨d1, d2⟩ := dueCl_at D k hlt
            rw [hJP] at d1 d2
            exact ⟨hc _ _ d1, hc _ _ d2⟩))
          obtain ⟨RR, E2, hf⟩ : ∃ RR E2, K.file (jsOf (jvs js)) J P = (RR, E2) := ⟨_, _, rfl⟩
          have OF3 := Lib.hid (fun W (hy : Ext w3 W) => HF3.out W (hx.trans hy) J P RR E2 hf)
          have OF4 := Lib.hid (fun W (hy : Ext w3 W) => HF4.out W (hx.trans hy) J P RR E2 hf)
          have HN := Lib.hid (fun W (hy : Ext w3 W) => (show RfWant w38 D.length (.int .i64 ((k + 1 : Nat) : Int)) W from ⟨k + 1, by omega, rfl, hx.trans hy⟩))
          replace hJP := Lib.hid hJP
          replace hf := Lib.hid hf
          have hgd3 : gd < w3.heap.size := hgd
          clear HF3 HF4 HRD38 hx hf hgd
          obtain ⟨rj, rk, rp, rt, rx, rv, rs, rr⟩ := RR
          simp only at OF3 OF4
          have HL := HL3
          have OF := OF3
          obtain ⟨k0, k1⟩ := HL.out w3 (Ext.refl _)
          go_upto_region 22 with (fail)
          go_cut [20, 21] (fun v f wx => RepIs w3 #[.int .i64 rj, .int .i64 rk, .int .i64 rp, .int .i64 rt, .int .i64 rx, .int .i64 rv, .int .i64 rs, .int .i64 rr] E2 v f wx)
          case first =>
            go_region_held3 (fun w' => w'.cell? ⟨gd, od + k * 2, none⟩ = some (.int .i64 J) ∧ w'.cell? ⟨gd, od + k * 2 + 1, none⟩ = some (.int .i64 P))
              (first | (with_reducible exact HL.out _ (Ext.refl w3).drew) | (with_reducible exact HL.out _ ((Ext.refl w3).alloc _)) | (with_reducible exact HL.out _ ((Ext.refl w3).drew.alloc _)) | (with_reducible exact HL.out _ ((Ext.refl w3).alloc _).drew) | (with_reducible exact HL.out _ X2) | (with_reducible exact HL.out _ (X2.alloc _)) | (with_reducible exact HL.out _ (ext8 X2 (Nat.le_refl _) _ _ _ _ _ _ _ _)) | (with_reducible exact HL.out _ (ext8 (X2.alloc _) X2.size _ _ _ _ _ _ _ _)))
              (first | (go_at_call 29; refine (OF.out _ (by first | with_reducible exact (Ext.refl w3).drew | with_reducible exact ((Ext.refl w3).alloc _).drew | with_reducible exact (Ext.refl w3).alloc _ | with_reducible exact Ext.refl w3)).mono ?_; rintro r v2 ⟨rfl, hx2⟩; have X2 : Ext w3 v2 := Ext.trans (by first | with_reducible exact (Ext.refl w3).drew | with_reducible exact ((Ext.refl w3).alloc _).drew | with_reducible exact (Ext.refl w3).alloc _ | with_reducible exact Ext.refl w3) hx2; (first | (with_reducible have C9 : Blk v2 w3.heap.size 23 #[.int .i64 0, .int .i64 0, .int .i64 0, .int .i64 0, .int .i64 0, .int .i64 0, .int .i64 0, .int .i64 0] := Blk.ext (Blk.ext (Blk.new w3 23 #[.int .i64 0, .int .i64 0, .int .i64 0, .int .i64 0, .int .i64 0, .int .i64 0, .int .i64 0, .int .i64 0]) (Ext.refl _).drew) hx2) | (with_reducible have C9 : Blk v2 w3.heap.size 23 #[.int .i64 0, .int .i64 0, .int .i64 0, .int .i64 0, .int .i64 0, .int .i64 0, .int .i64 0, .int .i64 0] := Blk.ext (Blk.new w3 23 #[.int .i64 0, .int .i64 0, .int .i64 0, .int .i64 0, .int .i64 0, .int .i64 0, .int .i64 0, .int .i64 0]) hx2) | skip); (first | (obtain ⟨k9, k9'⟩ := C9.cells) | skip)))
            · have HE := Lib.hid (show RepIs w3 #[.int .i64 rj, .int .i64 rk, .int .i64 rp, .int .i64 rt, .int .i64 rx, .int .i64 rv, .int .i64 rs, .int .i64 rr] E2 (.pointer (some ⟨v2.heap.size, 0, none⟩)) (.int .i64 E2) (v2.alloc (.cells #[.int .i64 rj, .int .i64 rk, .int .i64 rp, .int .i64 rt, .int .i64 rx, .int .i64 rv, .int .i64 rs, .int .i64 rr] 23)) from ⟨_, rfl, rfl, Blk.new _ _ _, X2.alloc _⟩)
              clear k0 k1
              go_wp2_with fail
              go_meet
              exact HE.out
            · have HE := Lib.hid (repIs2 X2 rfl C9 E2 (.int .i64 rj) (.int .i64 rk) (.int .i64 rp) (.int .i64 rt) (.int .i64 rx) (.int .i64 rv) (.int .i64 rs) (.int .i64 rr))
              clear k0 k1 k9 k9' C9
              go_wp2_with fail
              go_meet
              exact HE.out
          case rest =>
            obtain ⟨g20, rfl, rfl, B20, X20⟩ := hcut
            have HB20 := Lib.hid B20
            have HX20 := Lib.hid X20
            have HL := Lib.hid (fun W2 (hx : Ext wc W2) => HL3.out W2 (X20.trans hx))
            have OF := Lib.hid (fun W2 (hx : Ext wc W2) => OF4.out W2 (X20.trans hx))
            have hgd4 : gd < wc.heap.size := Nat.lt_of_lt_of_le hgd3 X20.size
            clear OF3 OF4 HL3 B20 X20
            obtain ⟨w4, rfl⟩ : ∃ w4, w4 = wc := ⟨_, rfl⟩
            obtain ⟨k0, k1⟩ := HL.out w4 (Ext.refl _)
            go_upto_region 23 with (fail)
            go_cut [22, 23] (fun v f wx => RepIs w4 #[.int .i64 rj, .int .i64 rk, .int .i64 rp, .int .i64 rt, .int .i64 rx, .int .i64 rv, .int .i64 rs, .int .i64 rr] E2 v f wx)
            case first =>
              go_region_held3 (fun w' => w'.cell? ⟨gd, od + k * 2, none⟩ = some (.int .i64 J) ∧ w'.cell? ⟨gd, od + k * 2 + 1, none⟩ = some (.int .i64 P))
                (first | (with_reducible exact HL.out _ (Ext.refl w4).drew) | (with_reducible exact HL.out _ ((Ext.refl w4).alloc _)) | (with_reducible exact HL.out _ ((Ext.refl w4).drew.alloc _)) | (with_reducible exact HL.out _ ((Ext.refl w4).alloc _).drew) | (with_reducible exact HL.out _ X2) | (with_reducible exact HL.out _ (X2.alloc _)) | (with_reducible exact HL.out _ (ext8 X2 (Nat.le_refl _) _ _ _ _ _ _ _ _)) | (with_reducible exact HL.out _ (ext8 (X2.alloc _) X2.size _ _ _ _ _ _ _ _)))
                (first | (go_at_call 30; refine (OF.out _ (by first | with_reducible exact (Ext.refl w4).drew | with_reducible exact ((Ext.refl w4).alloc _).drew | with_reducible exact (Ext.refl w4).alloc _ | with_reducible exact Ext.refl w4)).mono ?_; rintro r v2 ⟨rfl, hx2⟩; have X2 : Ext w4 v2 := Ext.trans (by first | with_reducible exact (Ext.refl w4).drew | with_reducible exact ((Ext.refl w4).alloc _).drew | with_reducible exact (Ext.refl w4).alloc _ | with_reducible exact Ext.refl w4) hx2; (first | (with_reducible have C9 : Blk v2 w4.heap.size 23 #[.int .i64 0, .int .i64 0, .int .i64 0, .int .i64 0, .int .i64 0, .int .i64 0, .int .i64 0, .int .i64 0] := Blk.ext (Blk.ext (Blk.new w4 23 #[.int .i64 0, .int .i64 0, .int .i64 0, .int .i64 0, .int .i64 0, .int .i64 0, .int .i64 0, .int .i64 0]) (Ext.refl _).drew) hx2) | (with_reducible have C9 : Blk v2 w4.heap.size 23 #[.int .i64 0, .int .i64 0, .int .i64 0, .int .i64 0, .int .i64 0, .int .i64 0, .int .i64 0, .int .i64 0] := Blk.ext (Blk.new w4 23 #[.int .i64 0, .int .i64 0, .int .i64 0, .int .i64 0, .int .i64 0, .int .i64 0, .int .i64 0, .int .i64 0]) hx2) | skip); (first | (obtain ⟨k9, k9'⟩ := C9.cells) | skip)))
              · have HE := Lib.hid (show RepIs w4 #[.int .i64 rj, .int .i64 rk, .int .i64 rp, .int .i64 rt, .int .i64 rx, .int .i64 rv, .int .i64 rs, .int .i64 rr] E2 (.pointer (some ⟨v2.heap.size, 0, none⟩)) (.int .i64 E2) (v2.alloc (.cells #[.int .i64 rj, .int .i64 rk, .int .i64 rp, .int .i64 rt, .int .i64 rx, .int .i64 rv, .int .i64 rs, .int .i64 rr] 23)) from ⟨_, rfl, rfl, Blk.new _ _ _, X2.alloc _⟩)
                clear k0 k1
                go_wp2_with fail
                go_meet
                exact HE.out
              · have HE := Lib.hid (repIs2 X2 rfl C9 E2 (.int .i64 rj) (.int .i64 rk) (.int .i64 rp) (.int .i64 rt) (.int .i64 rx) (.int .i64 rv) (.int .i64 rs) (.int .i64 rr))
                clear k0 k1 k9 k9' C9
                go_wp2_with fail
                go_meet
                exact HE.out
            case rest =>
              obtain ⟨g22, rfl, rfl, B22, X22⟩ := hcut
              have B20 := HB20.out.ext X22
              have hnq : ∀ W, (binOp .neq 23 (.agg #[.int .i64 rj, .int .i64 rk, .int .i64 rp, .int .i64 rt, .int .i64 rx, .int .i64 rv, .int .i64 rs, .int .i64 rr]) (.agg #[.int .i64 rj, .int .i64 rk, .int .i64 rp, .int .i64 rt, .int .i64 rx, .int .i64 rv, .int .i64 rs, .int .i64 rr])).run Tryz.prog W = .ok (.bool false) W := neq_rep ⟨rj, rk, rp, rt, rx, rv, rs, rr⟩ ⟨rj, rk, rp, rt, rx, rv, rs, rr⟩ false (by simp)
              have hee2 : (E2 != E2) = false := by simp
              obtain ⟨q, q'⟩ := B20.cells
              obtain ⟨r, r'⟩ := B22.cells
              have lg1 := B20.lt
              have lg2 := B22.lt
              have HE := Lib.hid (HN.out _ (HX20.out.trans X22))
              clear HN HB20 HX20 X22 B20 B22 HL OF k0 k1
              go_wp2_with fail
              go_roundw
              case rel => exact HE.out
              case measure => simp [intOf]; omega
        · obtain rfl : k = D.length := by omega
          have hd : decide ((D.length : Int) < (D.length : Int)) = false := by simp
          have HX := Lib.hid hx
          clear hx HF3 HF4 HRD38
          go_wp2_with fail
          refine (awake30_any _ (HT.out.ext (XW.out.trans HX.out))).mono ?_
          rintro e w1 ⟨rfl, X1⟩
          go_wp2_with fail
          go_ret
          exact ⟨rfl, (XW.out.trans HX.out).trans X1⟩
end Go.Proofs.YtokakpbpenndlaaGreatDoor

set_option linter.unusedVariables false
namespace Go.Proofs.YtokakpbpenndlaaGreatDoor
theorem Tryz.own : ownKnob Tryz.prog.godebug = none := by kernel_rfl
theorem Tryz.laidOut : laidOutB Tryz.prog = true := by kernel_rfl
end Go.Proofs.YtokakpbpenndlaaGreatDoor

set_option linter.unusedVariables false
namespace Go.Proofs.YtokakpbpenndlaaGreatDoor
open Go.RowKit
/-- The row's list. -/
def laid3 {H : Type} : List (String × DataW H) := [("math/bits.deBruijn32tab", Rows.laid_math_bits_deBruijn32tab), ("math/bits.deBruijn64tab", Rows.laid_math_bits_deBruijn64tab), ("internal/strconv.uint64pow10", Rows.laid_internal_strconv_uint64pow10)]
theorem door_met (os : Os) (args : Array Value) : laidMetH Tryz.prog laid3 ((World.doorLaid Tryz.prog 24 os).forCall (fun _ _ => 0) ⟨#[], args, []⟩).memory :=
  laidMetH_of_parts3 (fuel := 8) (laidMet_of_run' 8 (by kernel_rfl) (by kernel_rfl)) (by kernel_rfl) (by kernel_rfl)
/-- The table of powers, out of the condition. -/
theorem tab_of_laid {W : World} (h : laidMetH Tryz.prog laid3 W) : Tab10 W := by
  rw [MakeChecks.laidMetH_plain _ _ _ (by kernel_rfl)] at h
  obtain ⟨ps, ⟨_, _, _, _, _, _, _, _, _, _, ⟨_, _, _, _, _, _, _, _, _, _, ⟨g', t', cs, fuel, p, q, hg', ht', hvar, hd, _, _⟩, _⟩, _⟩, _⟩ := h
  have hg : Tryz.prog.globalNamed "internal/strconv.uint64pow10" = some 0 := by kernel_rfl
  have hty : (Tryz.prog.globals[0]?).map (·.type) = some 243 := by kernel_rfl
  obtain rfl := Option.some.inj (hg.symm.trans hg')
  obtain rfl := Option.some.inj (hty.symm.trans ht')
  unfold Tab10 Lib.TabIs
  rw [hvar, ← Lib.cells_of_tab (zs := Lib.pow10Tab) Tryz.underlying243 Tryz.underlying132 (by kernel_rfl) (by kernel_rfl) hd]
end Go.Proofs.YtokakpbpenndlaaGreatDoor
