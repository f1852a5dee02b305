/-
  apportionref15: Upper, kind.
-/
import Derived.Test.YtjaponmpfdpemaaGreatDoorBb27
import Derived.Test.YtjaponmpfdpemaaGreatDoorBb11
set_option linter.unusedSimpArgs false
set_option linter.unusedVariables false
namespace Go.Proofs.YtjaponmpfdpemaaGreatDoor
open Go.RowKit
def UuAt (W : World) (s : Bs) (v i : Value) (wr : World) : Prop := ∃ k : Nat, k ≤ s.length ∧ i = .int .i64 (k : Int) ∧ wr.ownsRow W.heap.size 5 1 v k (bV (upS (s.take k))) ∧ Ext W wr
theorem bV_up {s : Bs} {k : Nat} (hk : k < s.length) : bV (upS (s.take (k + 1))) = bV (upS (s.take k)) ++ [.int .u8 ((upB s[k]).toNat : Int)] := by
 rw [List.take_succ_eq_append_getElem hk]
 unfold bV upS
 rw [List.map_append, List.map_append]
 rfl
set_option maxRecDepth 100000 in
theorem rupper_any (s : Bs) (h0 : 0 < s.length) (hs : s.length ≤ 100000) (W : World) : Calls Tryz.prog 140 #[.string ⟨s.toArray⟩] W fun e w' => e = .returned (.string ⟨(upS s).toArray⟩) ∧ Ext W w' := by
 have H0 := Lib.hid (show UuAt W s (.slice none 0 0) (.int .i64 ((0 : Nat) : Int)) W from ⟨0, by omega, rfl, World.ownsRow_nil _ _ _ _, Ext.refl _⟩)
 replace h0 := Lib.hid h0
 go_enter Tryz.func140, Tryz.ntmps140
 go_wp2_with fail
 go_loopw [3, 4] (fun v i wr => UuAt W s v i wr) (fun _ i _ => s.length - (intOf i).toNat)
 case atStart => exact H0.out
 case round =>
  clear H0
  obtain ⟨k, hk, rfl, hown, hx⟩ := hrel
  by_cases hlt : k < s.length
  ·have hd : decide ((k : Int) < (s.length : Int)) = true := decide_eq_true (by omega)
   have hd' : decide (k < s.length) = true := decide_eq_true hlt
   have kz : (0 : Int) ≤ (k : Int) := by omega
   have kl : (k : Int) < (s.length : Int) := by omega
   obtain ⟨n, hn⟩ : ∃ n, s[k].toNat = n := ⟨_, rfl⟩
   have hb : ∀ h, ((⟨s.toArray⟩ : ByteArray)[k]'h).toNat = n := fun _ => hn
   have hbv := bV_up hlt
   obtain ⟨A3, c3, rfl, _, _, _⟩ := own_slice hown
   by_cases hup : 97 ≤ n ∧ n ≤ 122
   ·have d1 : decide ((97 : Int) ≤ (n : Int)) = true := decide_eq_true (by omega)
    have d2 : decide ((n : Int) ≤ 122) = true := decide_eq_true (by omega)
    have hm : (upB s[k]).toNat = n - 32 := by
     unfold upB
     rw [if_pos (by rw [hn]; exact hup), UInt8.toNat_sub_of_le]
     ·rw [hn]; rfl
     ·rw [UInt8.le_iff_toNat_le, hn]; show 32 ≤ n; omega
    obtain ⟨m, hmn⟩ : ∃ m, n = m + 32 := ⟨n - 32, by omega⟩
    have hw : IntKind.u8.wrap ((n : Int) - 32) = (m : Int) := by simp [IntKind.wrap, IntKind.bits, IntKind.signed]; omega
    have HE := Lib.hid (fun (vp v5 : Value) (W5 : World) (z : Value) (w5 : World) (hg : Grew W w5 W5 5 1 z vp v5 (k + 1) (bV (upS (s.take k)) ++ (#[Value.int .u8 (m : Int)] : Array Value).toList)) => (show UuAt W s v5 (.int .i64 ((k + 1 : Nat) : Int)) W5 from ⟨k + 1, hlt, rfl, by rw [hbv, hm, show n - 32 = m by omega]; exact hg.own, hg.ext⟩))
    replace hmn := Lib.hid hmn
    clear hm hbv hup
    go_wp2_with (at_builtin; refine wpl_app1 row_u8 W wr (.tmp 23) (.tmp 25) rfl rfl rfl hown hx rfl rfl rfl (by simp [Value.oneCell']) (by omega) (by unfold maxLen; omega) ?_; intro v5 W5 hg5; replace HE := Lib.hid (HE.out _ _ _ _ _ hg5); obtain ⟨A5, c5, rfl, _, _, _⟩ := own_slice hg5.own; clear hg5)
    go_roundw
    case rel => exact HE.out
    case measure => simp [intOf]; omega
   ·have hm : (upB s[k]).toNat = n := by
     unfold upB
     rw [if_neg (by rw [hn]; exact hup), hn]
    have HE := Lib.hid (fun (vp v5 : Value) (W5 : World) (z : Value) (w5 : World) (hg : Grew W w5 W5 5 1 z vp v5 (k + 1) (bV (upS (s.take k)) ++ (#[Value.int .u8 (n : Int)] : Array Value).toList)) => (show UuAt W s v5 (.int .i64 ((k + 1 : Nat) : Int)) W5 from ⟨k + 1, hlt, rfl, by rw [hbv, hm]; exact hg.own, hg.ext⟩))
    clear hm hbv
    by_cases h97 : 97 ≤ n
    ·have d1 : decide ((97 : Int) ≤ (n : Int)) = true := decide_eq_true (by omega)
     have d2 : decide ((n : Int) ≤ 122) = false := decide_eq_false (by omega)
     clear hup h97
     go_wp2_with (at_builtin; refine wpl_app1 row_u8 W wr (.tmp 23) (.tmp 25) rfl rfl rfl hown hx rfl rfl rfl (by simp [Value.oneCell']) (by omega) (by unfold maxLen; omega) ?_; intro v5 W5 hg5; replace HE := Lib.hid (HE.out _ _ _ _ _ hg5); obtain ⟨A5, c5, rfl, _, _, _⟩ := own_slice hg5.own; clear hg5)
     go_roundw
     case rel => exact HE.out
     case measure => simp [intOf]; omega
    ·have d1 : decide ((97 : Int) ≤ (n : Int)) = false := decide_eq_false (by omega)
     clear hup h97
     go_wp2_with (at_builtin; refine wpl_app1 row_u8 W wr (.tmp 23) (.tmp 25) rfl rfl rfl hown hx rfl rfl rfl (by simp [Value.oneCell']) (by omega) (by unfold maxLen; omega) ?_; intro v5 W5 hg5; replace HE := Lib.hid (HE.out _ _ _ _ _ hg5); obtain ⟨A5, c5, rfl, _, _, _⟩ := own_slice hg5.own; clear hg5)
     go_roundw
     case rel => exact HE.out
     case measure => simp [intOf]; omega
  ·obtain rfl : k = s.length := by omega
   have hd : decide ((s.length : Int) < (s.length : Int)) = false := by simp
   rw [List.take_length] at hown
   obtain ⟨A3, c3, rfl, _, _, hrd⟩ := own_slice hown
   obtain ⟨g, o, rfl, hg, hc⟩ := hrd.cellAt h0.out
   have hbk := run_convert_bytes_back (P := Tryz.prog) wr 129 9 5 ⟨g, o, none⟩ c3 (upS s) Tryz.underlying129 Tryz.underlying5 Tryz.underlying9 (fun j hj => by
    rw [add_flat]
    exact hc j _ (by simp [bV, hj]))
   rw [show (upS s).length = s.length by simp [upS]] at hbk
   replace hx := Lib.hid hx
   clear hc hown hrd
   go_wp2_with fail
   go_ret
   exact ⟨rfl, hx.out⟩
def KdAt (W : World) (s : Bs) (i : Value) (wr : World) : Prop := ∃ k : Nat, k ≤ s.length ∧ i = .int .i64 (k : Int) ∧ wr = W ∧ ∀ j (h : j < s.length), j < k → digB s[j] = true
set_option maxRecDepth 100000 in
theorem rkind_any (s : Bs) (h0 : 0 < s.length) (hs : s.length ≤ 100000) (W : World) : Calls Tryz.prog 141 #[.string ⟨s.toArray⟩] W fun e w' => e = .returned (.int .i64 (kindT s)) ∧ Ext W w' := by
 have hK : kindT s = if clsB s[0] = 2 then 1 else if s.all digB then 2 else 3 := by
  unfold kindT
  rw [clsAt_lt h0]
 obtain ⟨R, hR⟩ : ∃ R, kindT s = R := ⟨_, rfl⟩
 rw [hR] at hK ⊢
 replace hR := Lib.hid hR
 obtain ⟨n0, hn0⟩ : ∃ n, s[0].toNat = n := ⟨_, rfl⟩
 have hb0 : ∀ h, ((⟨s.toArray⟩ : ByteArray)[0]'h).toNat = n0 := fun _ => hn0
 have H1 := Lib.hid (fun w => rletter_any s[0] w)
 rw [hn0] at H1
 have z0 : (0 : Int) < (s.length : Int) := by omega
 obtain ⟨x, hx⟩ : ∃ x, (clsB s[0] == 2) = x := ⟨_, rfl⟩
 rw [hx] at H1
 cases x with
 | true =>
  have hRt := Lib.hid (show R = 1 by rw [hK, if_pos (by simpa using hx)])
  clear hK hx
  go_enter Tryz.func141, Tryz.ntmps141
  go_wp2_with fail
  refine (H1.out _).mono ?_
  rintro e w1 ⟨rfl, rfl⟩
  go_wp2_with fail
  go_ret
  exact ⟨by rw [hRt.out]; rfl, Ext.refl _⟩
 | false =>
  have hK2 := Lib.hid (show R = if s.all digB then 2 else 3 by rw [hK, if_neg (by simpa using hx)])
  clear hK hx
  go_enter Tryz.func141, Tryz.ntmps141
  go_wp2_with fail
  refine (H1.out _).mono ?_
  rintro e w1 ⟨rfl, rfl⟩
  clear hb0 hn0 H1
  go_wp2_with fail
  go_loopw [3] (fun i wr => KdAt W s i wr) (fun i _ => s.length - (intOf i).toNat)
  case atStart => exact ⟨0, by omega, rfl, rfl, fun j _ h => absurd h (by omega)⟩
  case round =>
   obtain ⟨k, hk, rfl, rfl, hne⟩ := hrel
   by_cases hlt : k < s.length
   ·have hd : decide ((k : Int) < (s.length : Int)) = true := decide_eq_true (by omega)
    have hd' : decide (k < s.length) = true := decide_eq_true hlt
    have kz : (0 : Int) ≤ (k : Int) := by omega
    have kl : (k : Int) < (s.length : Int) := by omega
    obtain ⟨n, hn⟩ : ∃ n, s[k].toNat = n := ⟨_, rfl⟩
    have hb : ∀ h, ((⟨s.toArray⟩ : ByteArray)[k]'h).toNat = n := fun _ => hn
    have H2 := Lib.hid (fun w => rdigit_any s[k] w)
    have hdg : (clsB s[k] == 3) = digB s[k] := clsB_3 _
    rw [hdg, hn] at H2
    obtain ⟨y, hy⟩ : ∃ y, digB s[k] = y := ⟨_, rfl⟩
    rw [hy] at H2
    cases y with
    | true =>
     have HE := Lib.hid (fun (z : World) => show KdAt z s (.int .i64 ((k + 1 : Nat) : Int)) z from ⟨k + 1, hlt, rfl, rfl, fun j h hj => by
      by_cases e : j = k
      ·subst e; exact hy
      ·exact hne j h (by omega)⟩)
     clear hne hdg hy
     go_wp2_with fail
     refine (H2.out _).mono ?_
     rintro e w1 ⟨rfl, rfl⟩
     go_wp2_with fail
     exact ⟨HE.out _, by simp [intOf]; omega⟩
    | false =>
     have hRf := Lib.hid (show R = 3 by
      rw [hK2.out, if_neg]
      intro h
      have := List.all_eq_true.1 h _ (List.getElem_mem hlt)
      rw [hy] at this; cases this)
     clear hne hdg hy
     go_wp2_with fail
     refine (H2.out _).mono ?_
     rintro e w1 ⟨rfl, rfl⟩
     go_wp2_with fail
     go_ret
     exact ⟨by rw [hRf.out]; rfl, Ext.refl _⟩
   ·obtain rfl : k = s.length := by omega
    have hd : decide ((s.length : Int) < (s.length : Int)) = false := by simp
    have hRt := Lib.hid (show R = 2 by
     rw [hK2.out, if_pos]
     rw [List.all_eq_true]
     intro c hc
     obtain ⟨j, hj, rfl⟩ := List.mem_iff_getElem.1 hc
     exact hne j hj hj)
    clear hne
    go_wp2_with fail
    go_ret
    exact ⟨by rw [hRt.out]; rfl, Ext.refl _⟩
end Go.Proofs.YtjaponmpfdpemaaGreatDoor
set_option linter.unusedSimpArgs false
set_option linter.unusedVariables false
namespace Go.Proofs.YtjaponmpfdpemaaGreatDoor
open Go.RowKit
theorem ld_tk {w : World} {g : Nat} {a b : Value} (h : Blk w g 105 #[a, b]) : (loadVar 105 ⟨g, 0, none⟩).run Tryz.prog w = .ok (.agg #[a, b]) w := by
 have q := h.cell
 simp [go_sem, q]
theorem tk_set {w : World} {g : Nat} {a b : Value} (h : Blk w g 105 #[a, b]) (x y : Value) : Blk ((w.setCell ⟨g, 0, none⟩ x).setCell ⟨g, 1, none⟩ y) g 105 #[x, y] := (h.set_ 0 x).set_ 1 y
def NextP (s : Bs) (at_ : Nat) (t : Tok) (en : Nat) : Prop :=
 (clsAt s at_ = 5 ∧ t = tComma ∧ en = at_ + 1) ∨ (clsAt s at_ = 6 ∧ t = tHash ∧ en = at_ + 1) ∨ (WordTo s at_ at_ ∧ clsAt s at_ ≠ 5 ∧ clsAt s at_ ≠ 6 ∧ t = ⟨0, []⟩ ∧ en = at_ + 1) ∨ (WordTo s at_ en ∧ at_ < en ∧ t = wordT s at_ en)
def NextR (W : World) (s : Bs) (at_ : Nat) (e : Ending) (w' : World) : Prop := ∃ (t : Tok) (en : Nat), e = .returned (.tuple #[.agg #[.int .i64 t.k, .string ⟨t.t.toArray⟩], .int .i64 (en : Int)]) ∧ NextP s at_ t en ∧ Ext W w'
theorem clsB_5 (c : UInt8) : clsB c = 5 ↔ c.toNat = 44 := by
 unfold clsB
 repeat' split
 all_goals omega
theorem clsB_6 (c : UInt8) : clsB c = 6 ↔ c.toNat = 35 := by
 unfold clsB
 repeat' split
 all_goals omega
theorem rupper_cut (s : Bs) (a i : Nat) (ha : a < i) (hi : i ≤ s.length) (hs : s.length ≤ 100000) (W : World) : Calls Tryz.prog 140 #[.string ((⟨s.toArray⟩ : ByteArray).extract a i)] W fun e w' => e = .returned (.string ⟨(partT s a i).toArray⟩) ∧ Ext W w' := by
 rw [extract_cut s a i hi]
 exact rupper_any _ (by rw [List.length_drop, List.length_take]; omega) (by rw [List.length_drop, List.length_take]; omega) W
def NxAt (W : World) (s : Bs) (at_ : Nat) (i : Value) (wr : World) : Prop := ∃ k : Nat, at_ ≤ k ∧ k ≤ s.length ∧ i = .int .i64 (k : Int) ∧ (∃ a b, Blk wr W.heap.size 105 #[a, b]) ∧ Ext W wr ∧ ∀ j, at_ ≤ j → j < k → goesOn s j = true
set_option maxRecDepth 100000 in
set_option maxHeartbeats 2000000 in
theorem rnext_any (s : Bs) (at_ : Nat) (hlt : at_ < s.length) (hs : s.length ≤ 100000) (W : World) : Calls Tryz.prog 110 #[.string ⟨s.toArray⟩, .int .i64 (at_ : Int)] W fun e w' => NextR W s at_ e w' := by
 obtain ⟨n, hn⟩ : ∃ n, s[at_].toNat = n := ⟨_, rfl⟩
 have hb : ∀ h, ((⟨s.toArray⟩ : ByteArray)[at_]'h).toNat = n := fun _ => hn
 have h5 : clsAt s at_ = 5 ↔ n = 44 := by rw [clsAt_lt hlt, clsB_5, hn]
 have h6 : clsAt s at_ = 6 ↔ n = 35 := by rw [clsAt_lt hlt, clsB_6, hn]
 have az : (0 : Int) ≤ (at_ : Int) := by omega
 have al : (at_ : Int) < (s.length : Int) := by omega
 by_cases h44 : n = 44
 ·subst h44
  have hc := Lib.hid (h5.2 rfl)
  clear h5 h6
  go_enter Tryz.func110, Tryz.ntmps110
  go_wp2_with fail
  refine bodyPost_ret (results_ct rfl rfl (ld_tk (Blk.new _ _ _))) rfl ⟨tComma, at_ + 1, rfl, .inl ⟨hc.out, rfl, rfl⟩, ?_⟩
  exact (Ext.refl W).alloc _
 have d44 : ((n : Int) == 44) = false := by rw [beq_eq_false_iff_ne]; omega
 by_cases h35 : n = 35
 ·subst h35
  have hc := Lib.hid (h6.2 rfl)
  clear h5 h6 h44 d44
  go_enter Tryz.func110, Tryz.ntmps110
  go_wp2_with fail
  refine bodyPost_ret (results_ct rfl rfl (ld_tk (Blk.new _ _ _))) rfl ⟨tHash, at_ + 1, rfl, .inr (.inl ⟨hc.out, rfl, rfl⟩), ?_⟩
  exact (Ext.refl W).alloc _
 have d35 : ((n : Int) == 35) = false := by rw [beq_eq_false_iff_ne]; omega
 have h5' := Lib.hid (fun h => h44 (h5.1 h))
 have h6' := Lib.hid (fun h => h35 (h6.1 h))
 clear h5 h6 h44 h35
 replace hn := Lib.hid hn
 have hle : at_ ≤ s.length := by omega
 replace hle := Lib.hid hle
 go_enter Tryz.func110, Tryz.ntmps110
 go_wp2_with fail
 go_loopw [6] (fun i wr => NxAt W s at_ i wr) (fun i _ => s.length - (intOf i).toNat)
 case atStart => exact ⟨at_, Nat.le_refl _, hle.out, rfl, ⟨_, _, Blk.new _ _ _⟩, (Ext.refl W).alloc _, fun j h1 h2 => absurd h2 (by omega)⟩
 case round =>
  obtain ⟨k, hak, hk, rfl, ⟨z1, z2, hB⟩, hx, hon⟩ := hrel
  clear hb d44 d35
  by_cases hlt : k < s.length
  ·have hd : decide ((k : Int) < (s.length : Int)) = true := decide_eq_true (by omega)
   have hd' : decide (k < s.length) = true := decide_eq_true hlt
   have H1 := Lib.hid (fun w => rword_any s k hlt hs w)
   cases hg : goesOn s k with
   | true =>
    have HE := Lib.hid (show NxAt W s at_ (.int .i64 ((k + 1 : Nat) : Int)) wr from ⟨k + 1, by omega, hlt, rfl, ⟨z1, z2, hB⟩, hx, fun j h1 h2 => by
     by_cases e : j = k
     ·subst e; exact hg
     ·exact hon j h1 (by omega)⟩)
    rw [hg] at H1
    clear hon hg hB hx
    go_wp2_with fail
    refine (H1.out _).mono ?_
    rintro e w1 ⟨rfl, rfl⟩
    go_wp2_with fail
    exact ⟨HE.out, by simp [intOf]; omega⟩
   | false =>
    have HW := Lib.hid (show WordTo s at_ k from ⟨hak, hk, hon, .inr hg⟩)
    rw [hg] at H1
    clear hon hg
    by_cases he : k = at_
    ·have de : ((k : Int) == (at_ : Int)) = true := by rw [beq_iff_eq]; omega
     have HW0 := Lib.hid (show WordTo s at_ at_ by have := HW.out; rw [he] at this; exact this)
     clear HW
     replace he := Lib.hid he
     obtain ⟨q0, q1⟩ := hB.cells
     have lf := hB.lt
     go_wp2_with fail
     refine (H1.out _).mono ?_
     rintro e w1 ⟨rfl, rfl⟩
     go_wp2_with fail
     refine bodyPost_ret (results_ct rfl rfl (ld_tk (tk_set hB _ _))) rfl ⟨⟨0, []⟩, at_ + 1, rfl, .inr (.inr (.inl ⟨HW0.out, h5'.out, h6'.out, rfl, rfl⟩)), ?_⟩
     exact ((hx.set (p := ⟨W.heap.size, 0, none⟩) (Nat.le_refl _) _).set (p := ⟨W.heap.size, 1, none⟩) (Nat.le_refl _) _)
    ·have hlt2 : at_ < k := by omega
     have de : ((k : Int) == (at_ : Int)) = false := by rw [beq_eq_false_iff_ne]; omega
     have hpl : (partT s at_ k).length = k - at_ := partT_len hk
     have HU := Lib.hid (fun w => rupper_cut s at_ k hlt2 hk hs w)
     have HK := Lib.hid (fun w => rkind_any (partT s at_ k) (by omega) (by omega) w)
     have al2 : (at_ : Int) ≤ (k : Int) := by omega
     have kl2 : (k : Int) ≤ (s.length : Int) := by omega
     have HT := Lib.hid (show wordT s at_ k = ⟨kindT (partT s at_ k), partT s at_ k⟩ from rfl)
     replace he := Lib.hid he
     generalize kindT (partT s at_ k) = kt at *
     generalize partT s at_ k = pt at *
     replace hpl := Lib.hid hpl
     go_wp2_with fail
     refine (H1.out _).mono ?_
     rintro e w1 ⟨rfl, rfl⟩
     go_wp2_with fail
     refine (HU.out _).mono ?_
     rintro e w2 ⟨rfl, hx2⟩
     replace hB := hB.ext hx2
     replace hx := hx.trans hx2
     clear hx2
     go_wp2_with fail
     refine (HK.out _).mono ?_
     rintro e w3 ⟨rfl, hx2⟩
     replace hB := hB.ext hx2
     replace hx := hx.trans hx2
     clear hx2
     obtain ⟨q0, q1⟩ := hB.cells
     have lf := hB.lt
     go_wp2_with fail
     refine bodyPost_ret (results_ct rfl rfl (ld_tk (tk_set hB _ _))) rfl ⟨⟨kt, pt⟩, k, rfl, .inr (.inr (.inr ⟨HW.out, hlt2, HT.out.symm⟩)), ?_⟩
     exact ((hx.set (p := ⟨W.heap.size, 0, none⟩) (Nat.le_refl _) _).set (p := ⟨W.heap.size, 1, none⟩) (Nat.le_refl _) _)
  ·obtain rfl : k = s.length := by omega
   have hd : decide ((s.length : Int) < (s.length : Int)) = false := by simp
   have HW := Lib.hid (show WordTo s at_ s.length from ⟨hak, hk, hon, .inl rfl⟩)
   clear hon
   by_cases he : s.length = at_
   ·have de : ((s.length : Int) == (at_ : Int)) = true := by rw [beq_iff_eq]; omega
    have HW0 := Lib.hid (show WordTo s at_ at_ by have := HW.out; rw [he] at this; exact this)
    clear HW
    replace he := Lib.hid he
    obtain ⟨q0, q1⟩ := hB.cells
    have lf := hB.lt
    go_wp2_with fail
    refine bodyPost_ret (results_ct rfl rfl (ld_tk (tk_set hB _ _))) rfl ⟨⟨0, []⟩, at_ + 1, rfl, .inr (.inr (.inl ⟨HW0.out, h5'.out, h6'.out, rfl, rfl⟩)), ?_⟩
    exact ((hx.set (p := ⟨W.heap.size, 0, none⟩) (Nat.le_refl _) _).set (p := ⟨W.heap.size, 1, none⟩) (Nat.le_refl _) _)
   ·have hlt2 : at_ < s.length := by omega
    have de : ((s.length : Int) == (at_ : Int)) = false := by rw [beq_eq_false_iff_ne]; omega
    have hpl : (partT s at_ s.length).length = s.length - at_ := partT_len hk
    have HU := Lib.hid (fun w => rupper_cut s at_ s.length hlt2 hk hs w)
    have HK := Lib.hid (fun w => rkind_any (partT s at_ s.length) (by omega) (by omega) w)
    have al2 : (at_ : Int) ≤ (s.length : Int) := by omega
    have kl2 : (s.length : Int) ≤ (s.length : Int) := by omega
    have HT := Lib.hid (show wordT s at_ s.length = ⟨kindT (partT s at_ s.length), partT s at_ s.length⟩ from rfl)
    replace he := Lib.hid he
    generalize kindT (partT s at_ s.length) = kt at *
    generalize partT s at_ s.length = pt at *
    replace hpl := Lib.hid hpl
    go_wp2_with fail
    refine (HU.out _).mono ?_
    rintro e w2 ⟨rfl, hx2⟩
    replace hB := hB.ext hx2
    replace hx := hx.trans hx2
    clear hx2
    go_wp2_with fail
    refine (HK.out _).mono ?_
    rintro e w3 ⟨rfl, hx2⟩
    replace hB := hB.ext hx2
    replace hx := hx.trans hx2
    clear hx2
    obtain ⟨q0, q1⟩ := hB.cells
    have lf := hB.lt
    go_wp2_with fail
    refine bodyPost_ret (results_ct rfl rfl (ld_tk (tk_set hB _ _))) rfl ⟨⟨kt, pt⟩, s.length, rfl, .inr (.inr (.inr ⟨HW.out, hlt2, HT.out.symm⟩)), ?_⟩
    exact ((hx.set (p := ⟨W.heap.size, 0, none⟩) (Nat.le_refl _) _).set (p := ⟨W.heap.size, 1, none⟩) (Nat.le_refl _) _)
end Go.Proofs.YtjaponmpfdpemaaGreatDoor
set_option linter.unusedSimpArgs false
set_option linter.unusedVariables false
namespace Go.Proofs.YtjaponmpfdpemaaGreatDoor
open Go.RowKit
theorem clsB_0 (c : UInt8) : clsB c = 0 ↔ (c.toNat ≠ 9 ∧ (c.toNat < 32 ∨ 126 < c.toNat)) := by
 unfold clsB
 repeat' split
 all_goals omega
theorem kindT_ne (t : Bs) : kindT t ≠ 0 := by
 unfold kindT
 repeat' split
 all_goals omega
theorem next_ref {s : Bs} {at_ en : Nat} {out : List Tok} {t : Tok} (h : RefAt s at_ out) (hk : at_ < s.length) (h0 : clsAt s at_ ≠ 0) (hn : NextP s at_ t en) :
  at_ < en ∧ ((t.k = 0 ∧ RefAt s en out) ∨ (t.k ≠ 0 ∧ RefAt s en (out ++ [t]) ∧ clsAt s at_ ≠ 1 ∧ clsAt s at_ ≠ 4)) := by
 rcases hn with ⟨h1, rfl, rfl⟩ | ⟨h1, rfl, rfl⟩ | ⟨hw, h5, h6, rfl, rfl⟩ | ⟨hw, h1, rfl⟩
 ·exact ⟨by omega, .inr ⟨by decide, h.sep hk (.inl ⟨h1, rfl⟩), by omega, by omega⟩⟩
 ·exact ⟨by omega, .inr ⟨by decide, h.sep hk (.inr ⟨h1, rfl⟩), by omega, by omega⟩⟩
 ·exact ⟨by omega, .inl ⟨rfl, h.skip hk hw h0 h5 h6⟩⟩
 ·obtain ⟨hr, hs⟩ := h.word hw h1
  obtain ⟨c1, c4, _⟩ := snd_cls hs
  exact ⟨h1, .inr ⟨kindT_ne _, hr, c1, c4⟩⟩
def Tr1 (w0 : World) (s : Bs) (i : Value) (wr : World) : Prop := ∃ k : Nat, k ≤ s.length ∧ i = .int .i64 (k : Int) ∧ Ext w0 wr ∧ ∀ j (h : j < s.length), j < k → clsB s[j] ≠ 0
def Tr2 (w0 : World) (s : Bs) (v i : Value) (wr : World) : Prop := ∃ (k : Nat) (out : List Tok), i = .int .i64 (k : Int) ∧ RefAt s k out ∧ out.length ≤ 40 ∧ wr.ownsRow w0.heap.size 105 2 v out.length (tokCells out) ∧ Ext w0 wr
set_option maxRecDepth 100000 in
set_option maxHeartbeats 2000000 in
theorem rtokens_any (s : Bs) (W : World) (hs : s.length ≤ 100000) :
  Calls Tryz.prog 65 #[.string ⟨s.toArray⟩] W fun e w' => ∃ v, e = .returned (.tuple #[v, .agg #[.int .i64 (tokensP s).2.1, .int .i64 (tokensP s).2.2]]) ∧ w'.ownsRow W.heap.size 105 2 v (tokensP s).1.length (tokCells (tokensP s).1) ∧ Ext W w' := by
 by_cases h200 : 200 < s.length
 ·have hd : decide ((200 : Int) < (s.length : Int)) = true := by simp; omega
  have hT : tokensP s = ([], 3, 0) := by unfold tokensP; rw [if_pos h200]
  replace hT := Lib.hid hT
  go_enter Tryz.func65, Tryz.ntmps65
  go_wp2_with fail
  refine bodyPost_ret (results_tc rfl rfl (ld_fault (Blk.new W _ _))) rfl ⟨.slice none 0 0, ?_, ?_, (Ext.refl W).alloc _⟩
  ·rw [hT.out]; rfl
  ·rw [hT.out]; exact World.ownsRow_nil _ _ _ _
 have hd : decide ((200 : Int) < (s.length : Int)) = false := by simp; omega
 have hs200 : s.length ≤ 200 := by omega
 have hT4 := Lib.hid (fun (k : Nat) (h : badAt s = some k) => (show tokensP s = ([], 4, (k : Int)) by unfold tokensP; rw [if_neg h200, h]))
 go_enter Tryz.func65, Tryz.ntmps65
 go_upto_region 3 with (fail)
 have hsz : (W.alloc (.cells #[.int .i64 0, .int .i64 0] 36)).heap.size = W.heap.size + 1 := by simp
 have X01 := (Ext.refl W).alloc (.cells #[.int .i64 0, .int .i64 0] 36)
 have B0 := Blk.new W 36 #[.int .i64 0, .int .i64 0]
 generalize W.alloc (.cells #[.int .i64 0, .int .i64 0] 36) = w0 at *
 have HB := Lib.hid B0
 have hW0 : W.heap.size ≤ w0.heap.size := by omega
 replace hW0 := Lib.hid hW0
 generalize hgf : W.heap.size = g0 at *
 replace hsz := Lib.hid hsz
 replace hgf := Lib.hid hgf
 replace X01 := Lib.hid X01
 have H0 := Lib.hid (show Tr1 w0 s (.int .i64 ((0 : Nat) : Int)) w0 from ⟨0, by omega, rfl, Ext.refl _, fun j _ h => absurd h (by omega)⟩)
 clear B0 hd h200
 go_wp2_with fail
 go_loopw [4] (fun i wr => Tr1 w0 s i wr) (fun i _ => s.length - (intOf i).toNat)
 case atStart => exact H0.out
 case round =>
  clear H0
  obtain ⟨k, hk, rfl, hx, hgood⟩ := hrel
  by_cases hlt : k < s.length
  ·have hdk : decide ((k : Int) < (s.length : Int)) = true := decide_eq_true (by omega)
   have il : (k : Int) < (s.length : Int) := by omega
   have iz : (0 : Int) ≤ (k : Int) := by omega
   obtain ⟨b, hb'⟩ : ∃ b, s[k].toNat = b := ⟨_, rfl⟩
   have hb : ∀ h, ((⟨s.toArray⟩ : ByteArray)[k]'h).toNat = b := fun _ => hb'
   have h0b : clsB s[k] = 0 ↔ (b ≠ 9 ∧ (b < 32 ∨ 126 < b)) := by rw [clsB_0, hb']
   by_cases hbad : b ≠ 9 ∧ (b < 32 ∨ 126 < b)
   ·have hT : tokensP s = ([], 4, (k : Int)) := hT4.out k (bad_some hlt hgood (h0b.2 hbad))
    replace hT := Lib.hid hT
    have BB := HB.out.ext hx
    have XX := Lib.hid (X01.out.trans hx)
    obtain ⟨q0, q1⟩ := BB.cells
    have lf := BB.lt
    replace BB := Lib.hid BB
    have d9 : ((b : Int) != 9) = true := by rw [bne_iff_ne]; omega
    by_cases h32 : b < 32
    ·have d32 : decide ((b : Int) < 32) = true := decide_eq_true (by omega)
     clear hgood h0b hbad h32 hx
     go_wp2_with fail
     refine bodyPost_ret (results_tc rfl rfl (ld_fault (fault_set BB.out _ _))) rfl ⟨.slice none 0 0, ?_, ?_, ?_⟩
     ·rw [hT.out]; rfl
     ·rw [hT.out]; exact World.ownsRow_nil _ _ _ _
     ·exact (XX.out.set (p := ⟨g0, 0, none⟩) (Nat.le_of_eq hgf.out) _).set (p := ⟨g0, 1, none⟩) (Nat.le_of_eq hgf.out) _
    ·have d32 : decide ((b : Int) < 32) = false := decide_eq_false (by omega)
     have d126 : decide (126 < (b : Int)) = true := decide_eq_true (by omega)
     clear hgood h0b hbad h32 hx
     go_wp2_with fail
     refine bodyPost_ret (results_tc rfl rfl (ld_fault (fault_set BB.out _ _))) rfl ⟨.slice none 0 0, ?_, ?_, ?_⟩
     ·rw [hT.out]; rfl
     ·rw [hT.out]; exact World.ownsRow_nil _ _ _ _
     ·exact (XX.out.set (p := ⟨g0, 0, none⟩) (Nat.le_of_eq hgf.out) _).set (p := ⟨g0, 1, none⟩) (Nat.le_of_eq hgf.out) _
   ·have HE := Lib.hid (show Tr1 w0 s (.int .i64 ((k + 1 : Nat) : Int)) wr from ⟨k + 1, hlt, rfl, hx, fun j h hj => by
     by_cases e : j = k
     ·subst e; exact fun h => hbad (h0b.1 h)
     ·exact hgood j h (by omega)⟩)
    by_cases h9 : b = 9
    ·have d9 : ((b : Int) != 9) = false := by rw [bne_eq_false_iff_eq]; omega
     clear hgood h0b hbad h9 hx
     go_wp2_with fail
     go_roundw
     case rel => exact HE.out
     case measure => simp [intOf]; omega
    ·have d9 : ((b : Int) != 9) = true := by rw [bne_iff_ne]; omega
     have d32 : decide ((b : Int) < 32) = false := decide_eq_false (by omega)
     have d126 : decide (126 < (b : Int)) = false := decide_eq_false (by omega)
     clear hgood h0b hbad h9 hx
     go_wp2_with fail
     go_roundw
     case rel => exact HE.out
     case measure => simp [intOf]; omega
  ·obtain rfl : k = s.length := by omega
   have hdk : decide ((s.length : Int) < (s.length : Int)) = false := by simp
   have hbad : badAt s = none := bad_none fun i hi => hgood i hi hi
   have hall := Lib.hid (fun i (hi : i < s.length) => (show clsAt s i ≠ 0 by rw [clsAt_lt hi]; exact hgood i hi hi))
   replace hbad := Lib.hid hbad
   have H1 := Lib.hid (show Tr2 w0 s (.slice none 0 0) (.int .i64 ((0 : Nat) : Int)) wr from ⟨0, [], rfl, RefAt.start s, by simp, World.ownsRow_nil _ _ _ _, hx⟩)
   clear hgood hT4 hx
   go_wp2_with fail
   go_loopw [5, 6] (fun v i wr => Tr2 w0 s v i wr) (fun _ i _ => s.length - (intOf i).toNat)
   case atStart => exact H1.out
   case round =>
    clear H1
    obtain ⟨k, out, rfl, hR, h40, hrow, hx⟩ := hrel
    obtain ⟨w4, rfl⟩ : ∃ w4, w4 = wr := ⟨_, rfl⟩
    obtain ⟨A, cap, rfl, _, _, _⟩ := own_slice hrow
    have hkl := hR.le
    by_cases hlt : k < s.length
    ·have hdk : decide ((k : Int) < (s.length : Int)) = true := decide_eq_true (by omega)
     have HN := Lib.hid (fun w => rnext_any s k hlt (by omega) w)
     replace hR := Lib.hid hR
     replace hrow := Lib.hid hrow
     go_wp2_with fail
     refine (HN.out _).mono ?_
     rintro e w5 ⟨⟨tk, tt⟩, en, rfl, hnp, hx5⟩
     obtain ⟨hadv, hcs⟩ := next_ref hR.out hlt (hall.out k hlt) hnp
     replace hrow := Lib.hid (own_ext hrow.out hx5)
     replace hx := hx.trans hx5
     clear hx5 hnp HN
     rcases hcs with ⟨h0, hR2⟩ | ⟨h0, hR2, c1, c4⟩
     ·obtain rfl : tk = 0 := h0
      have HE := Lib.hid (fun w (hx' : Ext w5 w) => (show Tr2 w0 s (.slice A out.length cap) (.int .i64 (en : Int)) w from ⟨en, out, rfl, hR2, h40, own_ext hrow.out hx', hx.trans hx'⟩))
      have hen := hR2.le
      clear hR2 hR
      go_wp2_with fail
      go_roundw
      case rel => exact HE.out _ ((Ext.refl _).alloc _)
      case measure => simp [intOf]; omega
     ·have dk : (tk != 0) = true := by rw [bne_iff_ne]; exact h0
      by_cases hf : out.length = 40
      ·have df : ((out.length : Int) == 40) = true := by rw [beq_iff_eq]; omega
       have hT := Lib.hid (hR.out.full hlt c1 c4 hR2 hf hs200 hbad.out)
       have X5 := hx.alloc (.cells #[.int .i64 tk, .string ⟨tt.toArray⟩] 105)
       have BB := HB.out.ext X5
       have XX := Lib.hid (X01.out.trans X5)
       obtain ⟨q0, q1⟩ := BB.cells
       have lf := BB.lt
       replace BB := Lib.hid BB
       clear X5 hR2 hR h0 c1 c4 hx
       go_wp2_with fail
       refine bodyPost_ret (results_tc rfl rfl (ld_fault (fault_set BB.out _ _))) rfl ⟨.slice none 0 0, ?_, ?_, ?_⟩
       ·rw [hT.out]; rfl
       ·rw [hT.out]; exact World.ownsRow_nil _ _ _ _
       ·exact (XX.out.set (p := ⟨g0, 0, none⟩) (Nat.le_of_eq hgf.out) _).set (p := ⟨g0, 1, none⟩) (Nat.le_of_eq hgf.out) _
      ·have df : ((out.length : Int) == 40) = false := by rw [beq_eq_false_iff_ne]; omega
       have HE := Lib.hid (fun (z : Value) (v5 : Value) (w6 w7 : World) (hg : Grew w0 w6 w7 105 2 z (.slice A out.length cap) v5 (out.length + 1) (tokCells out ++ (#[.int .i64 tk, .string ⟨tt.toArray⟩] : Array Value).toList)) => (show Tr2 w0 s v5 (.int .i64 (en : Int)) w7 from ⟨en, out ++ [⟨tk, tt⟩], rfl, hR2, by rw [List.length_append]; simp; omega, by rw [List.length_append, tokCells_snoc]; exact hg.own, hg.ext⟩))
       have hen := hR2.le
       have B7 := Blk.new w5 105 #[.int .i64 tk, .string ⟨tt.toArray⟩]
       have X7 := hx.alloc (.cells #[.int .i64 tk, .string ⟨tt.toArray⟩] 105)
       have R7 := hrow.out.alloc (.cells #[.int .i64 tk, .string ⟨tt.toArray⟩] 105)
       clear hR2 hR h0 c1 c4 hx hrow
       go_upto_region 15 with (fail)
       generalize w5.alloc (.cells #[.int .i64 tk, .string ⟨tt.toArray⟩] 105) = w6 at *
       generalize w5.heap.size = g5 at *
       obtain ⟨b0, b1⟩ := B7.cells
       have lb := B7.lt
       go_wp2_with (first | (at_builtin; refine wpl_app1 row_tk w0 w6 (.tmp 60) (.tmp 62) rfl rfl rfl R7 X7 rfl rfl rfl (by simp [Value.oneCell']) (by omega) (by unfold maxLen; omega) ?_; intro v5 w7 hg5; replace HE := Lib.hid (HE.out _ _ _ _ hg5); obtain ⟨A5, c5, rfl, _, _, _⟩ := own_slice hg5.own; clear hg5) | (refine step_app1 row_tk w0 w6 (.tmp 60) (.tmp 62) rfl rfl rfl R7 X7 rfl rfl rfl (by simp [Value.oneCell']) (by omega) (by unfold maxLen; omega) ?_; intro v5 w7 hg5; replace HE := Lib.hid (HE.out _ _ _ _ hg5); obtain ⟨A5, c5, rfl, _, _, _⟩ := own_slice hg5.own; clear hg5))
       all_goals
        go_roundw
        case rel => exact HE.out
        case measure => simp [intOf]; omega
    ·obtain rfl : k = s.length := by omega
     have hdk : decide ((s.length : Int) < (s.length : Int)) = false := by simp
     have hto := hR.done (Nat.le_refl _)
     have hT := Lib.hid (show tokensP s = (out, 0, 0) by rw [tokensP_few hs200 hbad.out (by rw [hto]; exact h40), hto])
     have BB := HB.out.ext hx
     have XX := Lib.hid (X01.out.trans hx)
     obtain ⟨q0, q1⟩ := BB.cells
     have lf := BB.lt
     have hne := Lib.hid (own_blk_ne hrow BB (by decide))
     replace BB := Lib.hid BB
     replace hrow := Lib.hid hrow
     clear hx hR hto
     go_wp2_with fail
     refine bodyPost_ret (results_tc rfl rfl (ld_fault (fault_set BB.out _ _))) rfl ⟨.slice A out.length cap, ?_, ?_, ?_⟩
     ·rw [hT.out]; rfl
     ·rw [hT.out]
      exact own_base (ownsRow_setCell_other (ownsRow_setCell_other hrow.out hne.out _) hne.out _) (by rw [hgf.out]; exact hW0.out)
     ·exact (XX.out.set (p := ⟨g0, 0, none⟩) (Nat.le_of_eq hgf.out) _).set (p := ⟨g0, 1, none⟩) (Nat.le_of_eq hgf.out) _
end Go.Proofs.YtjaponmpfdpemaaGreatDoor
set_option linter.unusedSimpArgs false
set_option linter.unusedVariables false
namespace Go.Proofs.YtjaponmpfdpemaaGreatDoor
open Go.RowKit
def wpC (p : Wp) : List Value := [.string ⟨p.l.toArray⟩, .string ⟨p.s.toArray⟩]
def wpCells (l : List Wp) : List Value := l.flatMap wpC
def apartW (l : List Wp) : Bool := l.all fun p => l.all fun q => p == q || (p.l != q.l && p.l != q.s && p.s != q.l && p.s != q.s)
theorem find_apart {l : List Wp} (h : apartW l = true) (w : Bs) {p q : Wp} (hp : p ∈ l) (hq : q ∈ l) (h1 : (p.l == w || p.s == w) = true) (h2 : (q.l == w || q.s == w) = true) : p = q := by
 have := List.all_eq_true.1 (List.all_eq_true.1 h p hp) q hq
 rw [Bool.or_eq_true, beq_iff_eq] at this
 rcases this with e | e
 ·exact e
 ·simp only [Bool.and_eq_true, bne_iff_ne, ne_eq] at e
  simp only [Bool.or_eq_true, beq_iff_eq] at h1 h2
  rcases h1 with rfl | rfl <;> rcases h2 with h2 | h2
  ·exact absurd h2.symm e.1.1.1
  ·exact absurd h2.symm e.1.1.2
  ·exact absurd h2.symm e.1.2
  ·exact absurd h2.symm e.2
theorem words_apart (kind : Int) : apartW (wordsP kind) = true := by
 unfold wordsP
 by_cases h1 : kind = 1
 ·rw [if_pos h1]; kernel_rfl
 ·rw [if_neg h1]
  by_cases h2 : kind = 2
  ·rw [if_pos h2]; kernel_rfl
  ·rw [if_neg h2]
   by_cases h3 : kind = 3
   ·rw [if_pos h3]; kernel_rfl
   ·rw [if_neg h3]
    by_cases h4 : kind = 4
    ·rw [if_pos h4]; kernel_rfl
    ·rw [if_neg h4]; rfl
theorem shortP_hit {kind : Int} {w : Bs} {p : Wp} (hp : p ∈ wordsP kind) (h : (p.l == w || p.s == w) = true) : shortP kind w = (p.s, true) := by
 unfold shortP
 cases hf : (wordsP kind).reverse.find? fun p => p.l == w || p.s == w with
 | none =>
  have := List.find?_eq_none.1 hf p (List.mem_reverse.2 hp)
  exact absurd h this
 | some q =>
  have h1 := List.find?_some hf
  have h2 := List.mem_reverse.1 (List.mem_of_find?_eq_some hf)
  rw [find_apart (words_apart kind) w hp h2 h h1]
theorem shortP_miss {kind : Int} {w : Bs} (h : ∀ j (hj : j < (wordsP kind).length), ((wordsP kind)[j].l == w || (wordsP kind)[j].s == w) = false) : shortP kind w = ([], false) := by
 unfold shortP
 cases hf : (wordsP kind).reverse.find? fun p => p.l == w || p.s == w with
 | none => rfl
 | some q =>
  have h1 := List.find?_some hf
  have h2 := List.mem_reverse.1 (List.mem_of_find?_eq_some hf)
  obtain ⟨j, hj, rfl⟩ := List.mem_iff_getElem.1 h2
  rw [h j hj] at h1
  cases h1
set_option maxRecDepth 100000 in
set_option maxHeartbeats 2000000 in
theorem pairs_any (kind : Int) (hk : kindOk kind) (W : World) : Calls Tryz.prog 138 #[.int .i64 kind] W fun e w' => ∃ A, e = .returned (.slice A (wordsP kind).length (wordsP kind).length) ∧ Reads w' w'.heap.size 2 A (wordsP kind).length (wpCells (wordsP kind)) ∧ Ext W w' := by
 rcases hk with rfl | rfl | rfl | rfl
 all_goals
  go_enter Tryz.func138, Tryz.ntmps138
  go_wp2_with fail
  go_ret
  exact ⟨_, by kernel_rfl, reads_new' _ _ _ _ _ rfl rfl, (Ext.refl W).alloc _⟩
end Go.Proofs.YtjaponmpfdpemaaGreatDoor
set_option linter.unusedSimpArgs false
set_option linter.unusedVariables false
namespace Go.Proofs.YtjaponmpfdpemaaGreatDoor
open Go.RowKit
theorem wp_reads {w : World} {B : Nat} {A : Option Addr} {l : List Wp} (h : Reads w B 2 A l.length (wpCells l)) {k : Nat} (hk : k < l.length) : ∃ g o, A = some ⟨g, o, none⟩ ∧ g < B ∧ w.cell? ⟨g, o + k * 2, none⟩ = some (.string ⟨l[k].l.toArray⟩) ∧ w.cell? ⟨g, o + k * 2 + 1, none⟩ = some (.string ⟨l[k].s.toArray⟩) := by
 obtain ⟨g, o, e, hg, hc⟩ := h.cellAt hk
 exact ⟨g, o, e, hg, hc _ _ (flat_get (f := wpC) (c := 2) (fun _ => rfl) l k 0 hk (by decide)), hc _ _ (flat_get (f := wpC) (c := 2) (fun _ => rfl) l k 1 hk (by decide))⟩
def SrAt (W : World) (l : List Wp) (w : Bs) (i : Value) (wr : World) : Prop := ∃ k : Nat, k ≤ l.length ∧ i = .int .i64 (k : Int) ∧ Ext W wr ∧ ∀ j (h : j < l.length), j < k → (l[j].l == w || l[j].s == w) = false
theorem words_len (kind : Int) : (wordsP kind).length ≤ 100 := by
 unfold wordsP
 repeat' split
 all_goals decide
set_option maxRecDepth 100000 in
set_option maxHeartbeats 2000000 in
theorem rshort_any (kind : Int) (hk : kindOk kind) (w : Bs) (W : World) : Calls Tryz.prog 109 #[.int .i64 kind, .string ⟨w.toArray⟩] W fun e w' => e = .returned (.tuple #[.string ⟨(shortP kind w).1.toArray⟩, .bool (shortP kind w).2]) ∧ Ext W w' := by
 have HP := Lib.hid (fun W => pairs_any kind hk W)
 have HH := Lib.hid (fun p (hp : p ∈ wordsP kind) h => shortP_hit (w := w) hp h)
 have HM := Lib.hid (fun h => shortP_miss (kind := kind) (w := w) h)
 have hl := words_len kind
 generalize shortP kind w = R at *
 generalize wordsP kind = l at *
 clear hk
 go_enter Tryz.func109, Tryz.ntmps109
 go_wp2_with fail
 refine (HP.out _).mono ?_
 rintro e w1 ⟨A, rfl, hrd, hx⟩
 have HS := Lib.hid (show SrAt w1 l w (.int .i64 ((0 : Nat) : Int)) w1 from ⟨0, by omega, rfl, Ext.refl _, fun j _ h => absurd h (by omega)⟩)
 have HR := Lib.hid (fun w' (h : Ext w1 w') => hrd.ext h)
 have HX := Lib.hid (fun w' (h : Ext w1 w') => hx.trans h)
 clear hrd hx HP
 go_wp2_with fail
 go_loopw [7] (fun i wr => SrAt w1 l w i wr) (fun i _ => l.length - (intOf i).toNat)
 case atStart => exact HS.out
 case round =>
  clear HS
  obtain ⟨k, hk, rfl, hx, hno⟩ := hrel
  by_cases hlt : k < l.length
  ·have hd : decide ((k : Int) < (l.length : Int)) = true := decide_eq_true (by omega)
   have kz : (0 : Int) ≤ (k : Int) := by omega
   have kl : (k : Int) < (l.length : Int) := by omega
   obtain ⟨g, o, rfl, hg, t0, t1⟩ := wp_reads (HR.out _ hx) hlt
   by_cases h0 : l[k].l = w
   ·have b0 : (l[k].l == w) = true := by rw [beq_iff_eq]; exact h0
    have hR := Lib.hid (HH.out _ (List.getElem_mem hlt) (by rw [b0]; rfl))
    have HX' := Lib.hid (HX.out _ hx)
    clear hno HH HM HR HX hx h0
    generalize l[k].l = x at *
    generalize l[k].s = y at *
    go_wp2_with fail
    go_ret2
    exact ⟨by rw [hR.out]; rfl, HX'.out⟩
   ·have b0 : (l[k].l == w) = false := by rw [beq_eq_false_iff_ne]; exact h0
    by_cases h1 : l[k].s = w
    ·have b1 : (l[k].s == w) = true := by rw [beq_iff_eq]; exact h1
     have hR := Lib.hid (HH.out _ (List.getElem_mem hlt) (by rw [b1, Bool.or_true]))
     have HX' := Lib.hid (HX.out _ hx)
     clear hno HH HM HR HX hx h0 h1
     generalize l[k].l = x at *
     generalize l[k].s = y at *
     go_wp2_with fail
     go_ret2
     exact ⟨by rw [hR.out]; rfl, HX'.out⟩
    ·have b1 : (l[k].s == w) = false := by rw [beq_eq_false_iff_ne]; exact h1
     have HE := Lib.hid (show SrAt w1 l w (.int .i64 ((k + 1 : Nat) : Int)) wr from ⟨k + 1, hlt, rfl, hx, fun j h hj => by
      by_cases e : j = k
      ·subst e; rw [b0, b1]; rfl
      ·exact hno j h (by omega)⟩)
     clear hno HH HM HR HX hx h0 h1
     generalize l[k].l = x at *
     generalize l[k].s = y at *
     go_wp2_with fail
     go_roundw
     case rel => exact HE.out
     case measure => simp [intOf]; omega
  ·obtain rfl : k = l.length := by omega
   have hd : decide ((l.length : Int) < (l.length : Int)) = false := by simp
   have hR := Lib.hid (HM.out fun j hj => hno j hj hj)
   have HX' := Lib.hid (HX.out _ hx)
   clear hno HH HM HR HX hx
   go_wp2_with fail
   go_ret2
   exact ⟨by rw [hR.out]; rfl, HX'.out⟩
set_option maxRecDepth 100000 in
theorem rhas_any (t : Tok) (kind : Int) (hk : kindOk kind) (W : World) : Calls Tryz.prog 111 #[tokV t, .int .i64 kind] W fun e w' => e = .returned (.bool (shortP kind t.t).2) ∧ Ext W w' := by
 have HS := Lib.hid (fun W => rshort_any kind hk t.t W)
 generalize shortP kind t.t = R at *
 unfold tokV
 clear hk
 go_enter Tryz.func111, Tryz.ntmps111
 go_wp2_with fail
 refine (HS.out _).mono ?_
 rintro e w1 ⟨rfl, hx⟩
 go_wp2_with fail
 go_ret
 exact ⟨rfl, ((Ext.refl W).alloc _).trans hx⟩
set_option maxRecDepth 100000 in
theorem rshortT_any (t : Tok) (kind : Int) (hk : kindOk kind) (W : World) : Calls Tryz.prog 112 #[tokV t, .int .i64 kind] W fun e w' => e = .returned (.string ⟨(shortT t kind).toArray⟩) ∧ Ext W w' := by
 have HS := Lib.hid (fun W => rshort_any kind hk t.t W)
 unfold shortT
 generalize shortP kind t.t = R at *
 unfold tokV
 clear hk
 go_enter Tryz.func112, Tryz.ntmps112
 go_wp2_with fail
 refine (HS.out _).mono ?_
 rintro e w1 ⟨rfl, hx⟩
 go_wp2_with fail
 go_ret
 exact ⟨rfl, ((Ext.refl W).alloc _).trans hx⟩
end Go.Proofs.YtjaponmpfdpemaaGreatDoor
