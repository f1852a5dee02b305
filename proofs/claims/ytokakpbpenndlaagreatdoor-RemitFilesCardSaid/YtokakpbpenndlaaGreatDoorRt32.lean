/-
  The reference's book: Lines, May.
-/
import Derived.Test.YtokakpbpenndlaaGreatDoorRt31
set_option linter.unusedVariables false
namespace Go.Proofs.YtokakpbpenndlaaGreatDoor
open Go.RowKit Go.Maps

set_option maxRecDepth 100000 in
set_option maxHeartbeats 1000000 in
theorem rLines29_any {w0 W : World} {rb : Nat} {v : Value} {R : List RE} {B : Bk} (h : RBook w0 W rb v R) (hp : RP R B) (id : Int) :
    Calls Tryz.prog 66 #[.pointer (some ⟨rb, 0, none⟩), .int .i64 id] W fun r W' => ∃ A n c, r = .returned (.slice A n c) ∧ Ext W W' := by
  rcases find_cases B id with ⟨a, _⟩ | ⟨k, hk, a, _, _⟩
  · have HC := Lib.hid (h.place_ hp a)
    clear a h
    go_enter Tryz.func66, Tryz.ntmps66
    go_wp2_with fail
    refine HC.out.mono ?_
    rintro e w1 ⟨rfl, rfl⟩
    go_wp2_with fail
    go_ret
    exact ⟨_, _, _, rfl, Ext.refl _⟩
  · have HC := Lib.hid (h.place_ hp a)
    have HL := Lib.hid (rlines29_any h hp k (by rw [hp.len]; exact hk) hk rfl)
    have hd : decide ((k : Int) < 0) = false := by simp
    clear a h
    generalize B[k].lines = L at *
    go_enter Tryz.func66, Tryz.ntmps66
    go_wp2_with fail
    refine HC.out.mono ?_
    rintro e w1 ⟨rfl, rfl⟩
    go_wp2_with fail
    refine HL.out.mono ?_
    rintro e w1 ⟨A, c, rfl, _, hx⟩
    go_wp2_with fail
    go_ret
    exact ⟨_, _, _, rfl, hx⟩

def CameRel (W : World) (bk : List Int) (i b : Value) (wr : World) : Prop := ∃ k : Nat, k ≤ bk.length ∧ i = .int .i64 (k : Int) ∧ b = .bool ((bk.take k).any fun n => decide (0 < n)) ∧ Ext W wr
def OvRel (W : World) (n a b : List Int) (i : Value) (wr : World) : Prop := ∃ k : Nat, k ≤ n.length ∧ i = .int .i64 (k : Int) ∧ overB n a b = overB (n.drop k) (a.drop k) (b.drop k) ∧ Ext W wr
theorem any_take {l : List Int} {k : Nat} (hk : k < l.length) : ((l.take (k + 1)).any fun n => decide (0 < n)) = (((l.take k).any fun n => decide (0 < n)) || decide (0 < l[k])) := by
  rw [List.take_succ_eq_append_getElem hk, List.any_append]
  simp
theorem getD_at' {l : List Int} {k : Nat} (hk : k < l.length) : l.getD k 0 = l[k] := by simp [List.getD, hk]
theorem Bk.may_2 {B : Bk} {e : Ent} {s : Kp} (hc : e.check = 0) (hf : B.find e.id = none) (hk : e.k = 2) (hs : B.sale e.of_ = some s) : B.may e = s.refMay e := by
  unfold Bk.may
  rw [if_neg (by simpa using hc), if_neg (by rw [hf]; simp), if_pos hk, hs]
theorem Bk.may_3 {B : Bk} {e : Ent} {s : Kp} (hc : e.check = 0) (hf : B.find e.id = none) (hk : e.k = 3) (hs : B.sale e.of_ = some s) : B.may e = s.voidMay := by
  unfold Bk.may
  rw [if_neg (by simpa using hc), if_neg (by rw [hf]; simp), if_neg (by omega), if_pos hk, hs]
theorem Bk.may_6 {B : Bk} {e : Ent} (hc : e.check = 0) (hf : B.find e.id = none) (hk : e.k = 2 ∨ e.k = 3) (hs : B.sale e.of_ = none) : B.may e = 6 := by
  unfold Bk.may
  rw [if_neg (by simpa using hc), if_neg (by rw [hf]; simp)]
  by_cases h2 : e.k = 2
  · rw [if_pos h2, hs]
  · rw [if_neg h2, if_pos (by omega), hs]
theorem Bk.may_1 {B : Bk} {e : Ent} (hc : e.check = 0) (hf : B.find e.id = none) (hk : e.k = 1) : B.may e = 0 := by
  unfold Bk.may
  rw [if_neg (by simpa using hc), if_neg (by rw [hf]; simp), if_neg (by omega), if_neg (by omega)]
theorem Bk.may_7 {B : Bk} {e : Ent} (hc : e.check = 0) {x : Kp} (hf : B.find e.id = some x) : B.may e = 7 := by
  unfold Bk.may
  rw [if_neg (by simpa using hc), if_pos (by rw [hf]; rfl)]
theorem Bk.may_c {B : Bk} {e : Ent} (hc : e.check ≠ 0) : B.may e = e.check := by
  unfold Bk.may
  rw [if_pos hc]
set_option maxRecDepth 100000 in
set_option maxHeartbeats 4000000 in
theorem rmay29_any {w0 W : World} {rb : Nat} {v : Value} {R : List RE} {B : Bk} (h : RBook w0 W rb v R) (hp : RP R B) (e : Ent) (Aa At : Option Addr) (ca ct : Nat) (he : EntR W e Aa At) (hct : e.tax.length ≤ ct) (hcm : ct ≤ maxLen) :
    Calls Tryz.prog 64 #[.pointer (some ⟨rb, 0, none⟩), entV e Aa At ca ct] W fun r w' => r = .returned (.int .i64 (B.may e)) ∧ Ext W w' := by
  have X0 := (Ext.refl W).alloc (.cells (entC e (.slice Aa e.am.length ca) (.slice At e.tax.length ct)) 52)
  have B3 := Blk.new W 52 (entC e (.slice Aa e.am.length ca) (.slice At e.tax.length ct))
  have HE := Lib.hid (fun W' (hx : Ext W W') => he.ext hx)
  have la := he.la
  unfold maxLen at la
  have hm7 := Lib.hid (fun (x : Kp) (hc : e.check = 0) => Bk.may_7 (B := B) (x := x) hc)
  have hm1 := Lib.hid (fun (hc : e.check = 0) => Bk.may_1 (B := B) hc)
  have hm6 := Lib.hid (fun (hc : e.check = 0) => Bk.may_6 (B := B) hc)
  have hm2 := Lib.hid (fun (s : Kp) (hc : e.check = 0) => Bk.may_2 (B := B) (s := s) hc)
  have hm3 := Lib.hid (fun (s : Kp) (hc : e.check = 0) => Bk.may_3 (B := B) (s := s) hc)
  have hmc := Lib.hid (Bk.may_c (B := B) (e := e))
  have hkk := Lib.hid (fun (hc : e.check = 0) => Ent.kinds hc)
  obtain ⟨m, hm⟩ : ∃ m, B.may e = m := ⟨_, rfl⟩
  rw [hm] at hm7 hm1 hm6 hm2 hm3 hmc ⊢
  clear he
  go_enter Tryz.func64, Tryz.ntmps64
  go_wp2_with fail
  refine (rcheck29_any e Aa At ca ct _ (HE.out _ X0) hct hcm).mono ?_
  rintro r w1 ⟨rfl, hx1⟩
  have X1 := X0.trans hx1
  have B31 := B3.ext hx1
  clear X0 B3
  obtain ⟨g3, hg3⟩ : ∃ g3, W.heap.size = g3 := ⟨_, rfl⟩
  rw [hg3] at B31 ⊢
  replace hg3 := Lib.hid hg3
  by_cases hc : e.check = 0
  case neg =>
    have hb : (e.check != 0) = true := by simpa using hc
    have HF := Lib.hid (hmc.out hc)
    replace hc := Lib.hid hc
    clear hm7 hm1 hm6 hm2 hm3 hmc hm hkk
    generalize e.check = C at *
    go_wp2_with fail
    go_ret
    exact ⟨by rw [HF.out]; rfl, X1⟩
  have hb : (e.check != 0) = false := by simpa using hc
  have hk3 := hkk.out hc
  have HC0 := Lib.hid hc
  replace hm := Lib.hid hm
  clear hmc hkk hx1
  generalize hC : e.check = C at *
  replace hC := Lib.hid hC
  have HRB := Lib.hid (fun W' (hx : Ext W W') => h.to hx)
  have HB3 := Lib.hid (fun W' (hx : Ext w1 W') => (B31.ext hx).cells)
  have l3 := B31.lt
  obtain ⟨q, q'⟩ := B31.cells
  clear hc
  rcases find_cases B e.id with ⟨a, hf⟩ | ⟨k, hk, a, hf, _⟩
  case inr =>
    have HA := Lib.hid ((HRB.out _ X1).place_ hp a)
    have HF := Lib.hid (hm7.out _ HC0.out hf)
    have kd : decide ((k : Int) ≥ 0) = true := by simp
    clear hm7 hm1 hm6 hm2 hm3 a hf
    go_wp2_with fail
    refine HA.out.mono ?_
    rintro r w2 ⟨rfl, rfl⟩
    go_wp2_with fail
    go_ret
    exact ⟨by rw [HF.out]; rfl, X1⟩
  have HA := Lib.hid ((HRB.out _ X1).place_ hp a)
  have HF := Lib.hid hf
  clear hm7 a hf
  by_cases h1 : e.k = 1
  · have HF1 := Lib.hid (hm1.out HC0.out HF.out h1)
    have b1 : (e.k == 1) = true := by simpa using h1
    replace h1 := Lib.hid h1
    clear hm1 hm6 hm2 hm3
    go_wp2_with fail
    refine HA.out.mono ?_
    rintro r w2 ⟨rfl, rfl⟩
    go_wp2_with fail
    go_ret
    exact ⟨by rw [HF1.out]; rfl, X1⟩
  have b1 : (e.k == 1) = false := by simpa using h1
  have hk23 : e.k = 2 ∨ e.k = 3 := by omega
  replace hk23 := Lib.hid hk23
  replace h1 := Lib.hid h1
  clear hm1 hk3
  go_wp2_with fail
  refine HA.out.mono ?_
  rintro r w2 ⟨rfl, rfl⟩
  cases hs : B.sale e.of_ with
  | none =>
    have HSa := Lib.hid ((HRB.out _ X1).sale_ hp (id := e.of_) (z := false) (by rw [hs]; rfl))
    have HF6 := Lib.hid (hm6.out HC0.out HF.out hk23.out hs)
    clear hm6 hm2 hm3 hs
    go_wp2_with fail
    refine HSa.out.mono ?_
    rintro r w2 ⟨rfl, rfl⟩
    go_wp2_with fail
    go_ret
    exact ⟨by rw [HF6.out]; rfl, X1⟩
  | some sk =>
    have HSa := Lib.hid ((HRB.out _ X1).sale_ hp (id := e.of_) (z := true) (by rw [hs]; rfl))
    have HF2 := Lib.hid (fun h2 => hm2.out sk HC0.out HF.out h2 hs)
    have HF3 := Lib.hid (fun h3 => hm3.out sk HC0.out HF.out h3 hs)
    obtain ⟨k, hk, hkR, e1, e2, hpl, hid, k1, hm⟩ := hp.sale_at hs
    have HAt := Lib.hid (fun W' (hx : Ext W W') => (HRB.out _ hx).place_ hp hpl)
    have HVo := Lib.hid (fun W' (hx : Ext W W') => (HRB.out _ hx).voided_ hp hs rfl)
    have HBb := Lib.hid (fun line (hl : line < sk.e.am.length) => hp.backs hs hl R.length)
    have HBa := Lib.hid (fun W' (hx : Ext W W') line (hl : line < sk.e.am.length) => (HRB.out _ hx).back_ hp hs line R.length hl (Nat.le_refl _) (z := sk.back.getD line 0) (by rw [(HBb.out line hl).2.2.2.2, List.take_of_length_le (by simp [hp.len])]))
    have HLe := Lib.hid (fun W' (hx : Ext W W') (hv : sk.voided = false) line (hl : line < sk.e.am.length) => rleft29_any (HRB.out _ hx) hp hs hv line hl)
    have hbl := (hp.ok sk hm).bln k1
    obtain ⟨g, off, c, As, cs, Ats, cts, rfl, hml, hg, lb, ls1, ms1, ls2, ms2, HR'⟩ := h.entR hkR
    rw [e2] at ls1 ls2 HR'
    have HS := Lib.hid (fun W' hx => (HR' W' hx).1)
    have HSE := Lib.hid (fun W' hx => (HR' W' hx).2)
    have kl : (k : Int) < (R.length : Int) := by omega
    have kz : (0 : Int) ≤ (k : Int) := by omega
    have HF2' := Lib.hid (fun h2 => (show m = (if sk.voided then 9 else if e.am.length ≠ sk.e.am.length ∨ e.day < sk.e.day then 2 else if overB e.am sk.e.am sk.back then 5 else 0) from HF2.out h2))
    have HF3' := Lib.hid (fun h3 => (show m = (if sk.voided || sk.back.any (fun n => decide (0 < n)) then 9 else 0) from HF3.out h3))
    clear hm6 hm2 hm3 hs HF2 HF3 HR' HRB h hpl e1 e2 hm hid k1 hp
    generalize sk.e = s at *
    generalize sk.voided = vd at *
    generalize sk.back = bk at *
    replace hbl := Lib.hid hbl
    unfold maxLen at hml ms1 ms2
    go_wp2_with fail
    refine HSa.out.mono ?_
    rintro r w2 ⟨rfl, rfl⟩
    go_upto_region 10 with (fail)
    clear q q'
    go_cut [6] (fun v wx => XAt w1 s (.slice As s.am.length cs) (.slice Ats s.tax.length cts) v wx)
    case first =>
      have HX := Lib.hid (fun w' (hx : Ext w1 w') => (show w'.cell? ⟨rb, 0, none⟩ = some (.slice (some ⟨g, off, none⟩) R.length c) ∧ w'.cell? ⟨g3, 2, none⟩ = some (.int .i64 e.of_) ∧ w'.cell? ⟨g, off + k * 6, none⟩ = some (.int .i64 s.k) ∧ w'.cell? ⟨g, off + k * 6 + 1, none⟩ = some (.int .i64 s.id) ∧ w'.cell? ⟨g, off + k * 6 + 2, none⟩ = some (.int .i64 s.of_) ∧ w'.cell? ⟨g, off + k * 6 + 3, none⟩ = some (.int .i64 s.day) ∧ w'.cell? ⟨g, off + k * 6 + 4, none⟩ = some (.slice As s.am.length cs) ∧ w'.cell? ⟨g, off + k * 6 + 5, none⟩ = some (.slice Ats s.tax.length cts) from
        ⟨(HS.out _ (X1.trans hx)).b, (B31.ext hx).cell 2, (HS.out _ (X1.trans hx)).c0, (HS.out _ (X1.trans hx)).c1, (HS.out _ (X1.trans hx)).c2, (HS.out _ (X1.trans hx)).c3, (HS.out _ (X1.trans hx)).c4, (HS.out _ (X1.trans hx)).c5⟩))
      obtain ⟨k0, k1, k2, k3, k4, k5, k6, k7⟩ := HX.out w1 (Ext.refl _)
      obtain ⟨z1, z1'⟩ := (Blk.new w1 52 #[.int .i64 0, .int .i64 0, .int .i64 0, .int .i64 0, .slice none 0 0, .slice none 0 0]).cells
      obtain ⟨z2, z2'⟩ := (Blk.newD' w1 52 #[.int .i64 0, .int .i64 0, .int .i64 0, .int .i64 0, .slice none 0 0, .slice none 0 0]).cells
      obtain ⟨z3, z3'⟩ := (Blk.ext (Blk.new w1 52 #[.int .i64 0, .int .i64 0, .int .i64 0, .int .i64 0, .slice none 0 0, .slice none 0 0]) (Ext.refl _).drew).cells
      go_region_held3 (fun w' => w'.cell? ⟨rb, 0, none⟩ = some (.slice (some ⟨g, off, none⟩) R.length c) ∧ w'.cell? ⟨g3, 2, none⟩ = some (.int .i64 e.of_) ∧ w'.cell? ⟨g, off + k * 6, none⟩ = some (.int .i64 s.k) ∧ w'.cell? ⟨g, off + k * 6 + 1, none⟩ = some (.int .i64 s.id) ∧ w'.cell? ⟨g, off + k * 6 + 2, none⟩ = some (.int .i64 s.of_) ∧ w'.cell? ⟨g, off + k * 6 + 3, none⟩ = some (.int .i64 s.day) ∧ w'.cell? ⟨g, off + k * 6 + 4, none⟩ = some (.slice As s.am.length cs) ∧ w'.cell? ⟨g, off + k * 6 + 5, none⟩ = some (.slice Ats s.tax.length cts))
        (first | (with_reducible exact HX.out _ (Ext.refl w1).drew) | (with_reducible exact HX.out _ ((Ext.refl w1).alloc _)) | (with_reducible exact HX.out _ ((Ext.refl w1).drew.alloc _)) | (with_reducible exact HX.out _ ((Ext.refl w1).alloc _).drew) | (with_reducible exact HX.out _ (set6' ((Ext.refl w1).alloc _).drew (Nat.le_refl _) _ _ _ _ _ _)) | (with_reducible exact HX.out _ (set6' ((Ext.refl w1).drew.alloc _) (Nat.le_refl _) _ _ _ _ _ _)) | (with_reducible exact HX.out _ (set6' ((Ext.refl w1).alloc _) (Nat.le_refl _) _ _ _ _ _ _)))
        (first | (go_at_call 65; refine (HAt.out _ (by first | with_reducible exact X1.drew | with_reducible exact X1.drew.alloc _ | with_reducible exact X1.alloc _ | with_reducible exact (X1.alloc _).drew | with_reducible exact X1)).mono ?_; rintro r v2 ⟨rfl, rfl⟩))
      all_goals clear k0 k1 k2 k3 k4 k5 k6 k7 z1 z1' z2 z2' z3 z3'
      all_goals
        have HE := Lib.hid (show XAt w1 s (.slice As s.am.length cs) (.slice Ats s.tax.length cts) (.pointer (some ⟨w1.heap.size, 0, none⟩)) ((w1.alloc (.cells (entC s (.slice As s.am.length cs) (.slice Ats s.tax.length cts)) 52)).drew) from ⟨rfl, Blk.ext (Blk.new w1 _ _) (Ext.refl _).drew, ((Ext.refl w1).alloc _).drew⟩)
        go_wp2_with fail
        go_meet
        exact HE.out
    case rest =>
      obtain ⟨rfl, BX, X2⟩ := hcut
      have X3 := X1.trans X2
      have B3' := B31.ext X2
      generalize w1.heap.size = g6 at *
      have HB5 := Lib.hid (fun W' (hx : Ext wc W') => (B3'.ext hx).cells)
      have HB7 := Lib.hid (fun W' (hx : Ext wc W') => (BX.ext hx).cells)
      have l5 := B3'.lt
      have l7 := BX.lt
      have HX3 := Lib.hid X3
      clear X1 X2 B31 B3' BX HB3
      go_wp2_with fail
      go_loopw [8, 7] (fun i b wr => CameRel wc bk i b wr) (fun i _ _ => bk.length - (intOf i).toNat)
      case atStart => exact ⟨0, by omega, rfl, by simp, Ext.refl _⟩
      case round =>
        obtain ⟨n, hn, rfl, rfl, hx⟩ := hrel
        obtain ⟨p, p'⟩ := HB7.out _ hx
        have l7' : g6 < wr.heap.size := Nat.lt_of_lt_of_le l7 hx.size
        have l5' : g3 < wr.heap.size := Nat.lt_of_lt_of_le l5 hx.size
        obtain ⟨q, q'⟩ := HB5.out _ hx
        by_cases hlt : n < bk.length
        · have hns : n < s.am.length := by rw [← hbl.out]; exact hlt
          have hd : decide ((n : Int) < (s.am.length : Int)) = true := by simp; omega
          have HBn := Lib.hid (fun W' hx => HBa.out W' hx n hns)
          rw [getD_at' hlt] at HBn
          have HN := Lib.hid (fun (c : Bool) (hc : c = (((bk.take n).any fun n => decide (0 < n)) || decide (0 < bk[n]))) (W' : World) (hy : Ext wr W') => (show CameRel wc bk (.int .i64 ((n + 1 : Nat) : Int)) (.bool c) W' from ⟨n + 1, by omega, rfl, by rw [any_take hlt, hc], hx.trans hy⟩))
          have cb := (HS.out _ (HX3.out.trans hx)).b
          have lbr : rb < wr.heap.size := by have := (HX3.out.trans hx).size; omega
          generalize bk[n] = bn at *
          clear HBa
          cases hcm : ((bk.take n).any fun n => decide (0 < n))
          · rw [hcm] at HN
            clear hcm
            replace hx := Lib.hid hx
            go_upto_region 15 with (fail)
            have HX := Lib.hid (fun w' (hy : Ext wr w') => (show w'.cell? ⟨rb, 0, none⟩ = some (.slice (some ⟨g, off, none⟩) R.length c) ∧ w'.cell? ⟨g3, 2, none⟩ = some (.int .i64 e.of_) from ⟨(hy.cell _ _ _ lbr).trans cb, (hy.cell _ _ _ l5').trans (q 2)⟩))
            clear p p' q q' cb
            obtain ⟨k0, k1⟩ := HX.out wr (Ext.refl _)
            go_region_held3 (fun w' => w'.cell? ⟨rb, 0, none⟩ = some (.slice (some ⟨g, off, none⟩) R.length c) ∧ w'.cell? ⟨g3, 2, none⟩ = some (.int .i64 e.of_))
              (first | (with_reducible exact HX.out _ (Ext.refl wr).drew))
              (first | (go_at_call 108; refine (HBn.out _ (by first | with_reducible exact (HX3.out.trans hx.out).drew | with_reducible exact (HX3.out.trans hx.out))).mono ?_; rintro r v2 ⟨rfl, rfl⟩))
            all_goals
              clear k0 k1
              have HN2 := Lib.hid (HN.out (decide (0 < bn)) (by simp) _ (Ext.refl wr).drew)
              go_wp2_with fail
              go_roundw
              case rel => exact HN2.out
              case measure => simp [intOf]; omega
          · rw [hcm] at HN
            have HN2 := Lib.hid (fun j => HN.out true (by simp) _ ((Ext.refl wr).drewN j))
            clear hcm HBn HN
            go_wp2_with fail
            go_quiet (fail)
            go_wp2_with fail
            go_roundw
            case rel => exact HN2.out _
            case measure => simp [intOf]; omega
        · have hd : decide ((n : Int) < (s.am.length : Int)) = false := by have := hbl.out; simp; omega
          have hd' : decide (n < s.am.length) = false := by have := hbl.out; simp; omega
          rw [List.take_of_length_le (by omega)]
          obtain ⟨cm, hcm⟩ : ∃ cm, (bk.any fun n => decide (0 < n)) = cm := ⟨_, rfl⟩
          rw [hcm] at HF3' ⊢
          replace hcm := Lib.hid hcm
          have HV := Lib.hid (HVo.out _ (HX3.out.trans hx))
          have HX4 := HX3.out.trans hx
          clear HBa HVo hlt hn
          go_wp2_with fail
          refine HV.out.mono ?_
          rintro r w2 ⟨rfl, rfl⟩
          cases vd
          case true =>
            have HF9 := Lib.hid (show m = 9 from by
              rcases hk23.out with h | h
              · rw [HF2'.out h]; rfl
              · rw [HF3'.out h]; rfl)
            clear HF2' HF3' HLe
            go_wp2_with fail
            go_ret
            exact ⟨by rw [HF9.out]; rfl, HX4⟩
          by_cases h3 : e.k = 3
          · have b3 : (e.k == 3) = true := by simpa using h3
            have HF0 := Lib.hid (HF3'.out h3)
            clear HF2' HF3' HLe
            replace h3 := Lib.hid h3
            cases cm
            all_goals
              go_wp2_with fail
              go_ret
              exact ⟨by rw [HF0.out]; rfl, HX4⟩
          have b3 : (e.k == 3) = false := by simpa using h3
          have HF2 := HF2'.out (by rcases hk23.out with h | h; exact h; exact absurd h h3)
          rw [if_neg (by simp)] at HF2
          clear HF2' HF3'
          replace h3 := Lib.hid h3
          by_cases hln : e.am.length = s.am.length
          case neg =>
            have bl : ((e.am.length : Int) != (s.am.length : Int)) = true := by simp; omega
            have HF9 := Lib.hid (HF2.trans (if_pos (.inl hln)))
            clear HF2 HLe
            replace hln := Lib.hid hln
            go_wp2_with fail
            go_ret
            exact ⟨by rw [HF9.out]; rfl, HX4⟩
          have bl : ((e.am.length : Int) != (s.am.length : Int)) = false := by simp; omega
          by_cases hdy : e.day < s.day
          · have bd : decide (e.day < s.day) = true := by simpa using hdy
            have HF9 := Lib.hid (HF2.trans (if_pos (.inr hdy)))
            clear HF2 HLe hdy
            replace hln := Lib.hid hln
            go_wp2_with fail
            go_ret
            exact ⟨by rw [HF9.out]; rfl, HX4⟩
          have bd : decide (e.day < s.day) = false := by simpa using hdy
          rw [if_neg (by simp [hln, hdy])] at HF2
          replace HF2 := Lib.hid HF2
          replace hln := Lib.hid hln
          clear hdy
          generalize wr = wo at *
          replace hx := Lib.hid hx
          go_wp2_with fail
          clear p p' q q' hd hd' bl bd b3
          go_loopw [9] (fun i wx => OvRel wo e.am s.am bk i wx) (fun i _ => e.am.length - (intOf i).toNat)
          case atStart => exact ⟨0, by omega, rfl, by simp, Ext.refl _⟩
          case round =>
            obtain ⟨j, hj, rfl, hov, hy⟩ := hrel
            obtain ⟨q, q'⟩ := HB5.out _ (hx.out.trans hy)
            have l5'' : g3 < wr.heap.size := Nat.lt_of_lt_of_le l5' hy.size
            by_cases hlt : j < e.am.length
            · have hd : decide ((j : Int) < (e.am.length : Int)) = true := by simp; omega
              have jl : (j : Int) < (e.am.length : Int) := by omega
              have jz : (0 : Int) ≤ (j : Int) := by omega
              have hjs : j < s.am.length := by rw [← hln.out]; exact hlt
              have hjb : j < bk.length := by rw [hbl.out]; exact hjs
              have HL := Lib.hid (HLe.out _ (HX4.trans hy) (by first | rfl | trivial) j hjs)
              rw [getD_at' hjs, getD_at' hjb] at HL
              have HA2 := Lib.hid (fun W' (hz : Ext wr W') => reads_int (HE.out _ ((HX4.trans hy).trans hz)).ra hlt rfl)
              obtain ⟨ga, oa, rfl, _, _⟩ := HA2.out wr (Ext.refl _)
              have HA3 := Lib.hid (fun W' (hz : Ext wr W') => (show ga < W'.heap.size ∧ W'.cell? ⟨ga, oa + j, none⟩ = some (.int .i64 e.am[j]) from by
                obtain ⟨g', o', e', h1, h2⟩ := HA2.out W' hz
                injection e' with e'
                injection e' with e1 e2 _
                subst e1 e2
                exact ⟨h1, h2⟩))
              have HN := Lib.hid (fun (h : ¬ s.am[j] - bk[j] < e.am[j]) (W' : World) (hz : Ext wo W') => (show OvRel wo e.am s.am bk (.int .i64 ((j + 1 : Nat) : Int)) W' from ⟨j + 1, by omega, rfl, by rw [hov, overB_next hlt hjs hjb, decide_eq_false h]; rfl, hz⟩))
              have HH := Lib.hid (fun (h : s.am[j] - bk[j] < e.am[j]) => (show m = 5 from by rw [HF2.out, hov, overB_next hlt hjs hjb, decide_eq_true h]; rfl))
              clear hov HA2
              generalize s.am[j] - bk[j] = lf at *
              generalize e.am[j] = an at *
              go_wp2_with fail
              refine HL.out.mono ?_
              rintro r w3 ⟨rfl, hz⟩
              clear q q'
              obtain ⟨q, q'⟩ := HB5.out _ ((hx.out.trans hy).trans hz)
              obtain ⟨hga, ca1⟩ := HA3.out _ hz
              have l5z : g3 < w3.heap.size := Nat.lt_of_lt_of_le l5'' hz.size
              by_cases hlf : lf < an
              · have HE5 := Lib.hid (HH.out hlf)
                have hdl : decide (lf < an) = true := by simpa using hlf
                have HX5 := (HX4.trans hy).trans hz
                clear HN HH HL hlf
                go_wp2_with fail
                go_ret
                exact ⟨by rw [HE5.out]; rfl, HX5⟩
              · have HN2 := Lib.hid (HN.out (by omega) _ (hy.trans hz))
                have hdl : decide (lf < an) = false := by simpa using hlf
                clear HN HH HL hlf
                go_wp2_with fail
                go_roundw
                case rel => exact HN2.out
                case measure => simp [intOf]; omega
            · have hd : decide ((j : Int) < (e.am.length : Int)) = false := by simp; omega
              have HE0 := Lib.hid (show m = 0 from by
                rw [HF2.out, hov, List.drop_eq_nil_of_le (by omega)]
                rfl)
              have HX5 := HX4.trans hy
              clear hov
              go_wp2_with fail
              go_ret
              exact ⟨by rw [HE0.out]; rfl, HX5⟩
end Go.Proofs.YtokakpbpenndlaaGreatDoor
