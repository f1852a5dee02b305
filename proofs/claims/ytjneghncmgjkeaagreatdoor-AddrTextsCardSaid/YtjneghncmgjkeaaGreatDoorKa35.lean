/-
  apportionref15: Upper, kind.
-/
import Derived.Test.YtjneghncmgjkeaaGreatDoorKa34
set_option linter.unusedVariables false
namespace Go.Proofs.YtjneghncmgjkeaaGreatDoor
open Go.RowKit

def UuAt (W : World) (s : Bs) (v i : Value) (wr : World) : Prop := ∃ k : Nat, k ≤ s.length ∧ i = .int .i64 (k : Int) ∧ wr.ownsRow W.heap.size 5 1 v k (bV (upS (s.take k))) ∧ Ext W wr
theorem bV_up {s : Bs} {k : Nat} (hk : k < s.length) : bV (upS (s.take (k + 1))) = bV (upS (s.take k)) ++ [.int .u8 ((upB s[k]).toNat : Int)] := by
  rw [List.take_succ_eq_append_getElem hk]
  unfold bV upS
  rw [List.map_append, List.map_append]
  rfl
set_option maxRecDepth 100000 in
theorem rupper_any (s : Bs) (h0 : 0 < s.length) (hs : s.length ≤ 100000) (W : World) : Calls Tryz.prog 102 #[.string ⟨s.toArray⟩] W fun e w' => e = .returned (.string ⟨(upS s).toArray⟩) ∧ Ext W w' := by
  have H0 := Lib.hid (show UuAt W s (.slice none 0 0) (.int .i64 ((0 : Nat) : Int)) W from ⟨0, by omega, rfl, World.ownsRow_nil _ _ _ _, Ext.refl _⟩)
  replace h0 := Lib.hid h0
  go_enter Tryz.func102, Tryz.ntmps102
  go_wp2_with fail
  go_loopw [3, 4] (fun v i wr => UuAt W s v i wr) (fun _ i _ => s.length - (intOf i).toNat)
  case atStart => exact H0.out
  case round =>
    clear H0
    obtain ⟨k, hk, rfl, hown, hx⟩ := hrel
    by_cases hlt : k < s.length
    · have hd : decide ((k : Int) < (s.length : Int)) = true := decide_eq_true (by omega)
      have hd' : decide (k < s.length) = true := decide_eq_true hlt
      have kz : (0 : Int) ≤ (k : Int) := by omega
      have kl : (k : Int) < (s.length : Int) := by omega
      obtain ⟨n, hn⟩ : ∃ n, s[k].toNat = n := ⟨_, rfl⟩
      have hb : ∀ h, ((⟨s.toArray⟩ : ByteArray)[k]'h).toNat = n := fun _ => hn
      have hbv := bV_up hlt
      obtain ⟨A3, c3, rfl, _, _, _⟩ := own_slice hown
      by_cases hup : 97 ≤ n ∧ n ≤ 122
      · have d1 : decide ((97 : Int) ≤ (n : Int)) = true := decide_eq_true (by omega)
        have d2 : decide ((n : Int) ≤ 122) = true := decide_eq_true (by omega)
        have hm : (upB s[k]).toNat = n - 32 := by
          unfold upB
          rw [if_pos (by rw [hn]; exact hup), UInt8.toNat_sub_of_le]
          · rw [hn]; rfl
          · rw [UInt8.le_iff_toNat_le, hn]; show 32 ≤ n; omega
        obtain ⟨m, hmn⟩ : ∃ m, n = m + 32 := ⟨n - 32, by omega⟩
        have hw : IntKind.u8.wrap ((n : Int) - 32) = (m : Int) := by simp [IntKind.wrap, IntKind.bits, IntKind.signed]; omega
        have HE := Lib.hid (fun (vp v5 : Value) (W5 : World) (z : Value) (w5 : World) (hg : Grew W w5 W5 5 1 z vp v5 (k + 1) (bV (upS (s.take k)) ++ (#[Value.int .u8 (m : Int)] : Array Value).toList)) => (show UuAt W s v5 (.int .i64 ((k + 1 : Nat) : Int)) W5 from ⟨k + 1, hlt, rfl, by rw [hbv, hm, show n - 32 = m by omega]; exact hg.own, hg.ext⟩))
        replace hmn := Lib.hid hmn
        clear hm hbv hup
        go_wp2_with (at_builtin; refine wpl_app1 row_u8 W wr (.tmp 23) (.tmp 25) rfl rfl rfl hown hx rfl rfl rfl (by simp [Value.oneCell']) (by omega) (by unfold maxLen; omega) ?_; intro v5 W5 hg5; replace HE := Lib.hid (HE.out _ _ _ _ _ hg5); obtain ⟨A5, c5, rfl, _, _, _⟩ := own_slice hg5.own; clear hg5)
        go_roundw
        case rel => exact HE.out
        case measure => simp [intOf]; omega
      · have hm : (upB s[k]).toNat = n := by
          unfold upB
          rw [if_neg (by rw [hn]; exact hup), hn]
        have HE := Lib.hid (fun (vp v5 : Value) (W5 : World) (z : Value) (w5 : World) (hg : Grew W w5 W5 5 1 z vp v5 (k + 1) (bV (upS (s.take k)) ++ (#[Value.int .u8 (n : Int)] : Array Value).toList)) => (show UuAt W s v5 (.int .i64 ((k + 1 : Nat) : Int)) W5 from ⟨k + 1, hlt, rfl, by rw [hbv, hm]; exact hg.own, hg.ext⟩))
        clear hm hbv
        by_cases h97 : 97 ≤ n
        · have d1 : decide ((97 : Int) ≤ (n : Int)) = true := decide_eq_true (by omega)
          have d2 : decide ((n : Int) ≤ 122) = false := decide_eq_false (by omega)
          clear hup h97
          go_wp2_with (at_builtin; refine wpl_app1 row_u8 W wr (.tmp 23) (.tmp 25) rfl rfl rfl hown hx rfl rfl rfl (by simp [Value.oneCell']) (by omega) (by unfold maxLen; omega) ?_; intro v5 W5 hg5; replace HE := Lib.hid (HE.out _ _ _ _ _ hg5); obtain ⟨A5, c5, rfl, _, _, _⟩ := own_slice hg5.own; clear hg5)
          go_roundw
          case rel => exact HE.out
          case measure => simp [intOf]; omega
        · have d1 : decide ((97 : Int) ≤ (n : Int)) = false := decide_eq_false (by omega)
          clear hup h97
          go_wp2_with (at_builtin; refine wpl_app1 row_u8 W wr (.tmp 23) (.tmp 25) rfl rfl rfl hown hx rfl rfl rfl (by simp [Value.oneCell']) (by omega) (by unfold maxLen; omega) ?_; intro v5 W5 hg5; replace HE := Lib.hid (HE.out _ _ _ _ _ hg5); obtain ⟨A5, c5, rfl, _, _, _⟩ := own_slice hg5.own; clear hg5)
          go_roundw
          case rel => exact HE.out
          case measure => simp [intOf]; omega
    · obtain rfl : k = s.length := by omega
      have hd : decide ((s.length : Int) < (s.length : Int)) = false := by simp
      rw [List.take_length] at hown
      obtain ⟨A3, c3, rfl, _, _, hrd⟩ := own_slice hown
      obtain ⟨g, o, rfl, hg, hc⟩ := hrd.cellAt h0.out
      have hbk := run_convert_bytes_back (P := Tryz.prog) wr 47 9 5 ⟨g, o, none⟩ c3 (upS s) Tryz.underlying47 Tryz.underlying5 Tryz.underlying9 (fun j hj => by
        rw [add_flat]
        exact hc j _ (by simp [bV, hj]))
      rw [show (upS s).length = s.length by simp [upS]] at hbk
      replace hx := Lib.hid hx
      clear hc hown hrd
      go_wp2_with fail
      go_ret
      exact ⟨rfl, hx.out⟩
def KdAt (W : World) (s : Bs) (i : Value) (wr : World) : Prop := ∃ k : Nat, k ≤ s.length ∧ i = .int .i64 (k : Int) ∧ wr = W ∧ ∀ j (h : j < s.length), j < k → digB s[j] = true
set_option maxRecDepth 100000 in
theorem rkind_any (s : Bs) (h0 : 0 < s.length) (hs : s.length ≤ 100000) (W : World) : Calls Tryz.prog 103 #[.string ⟨s.toArray⟩] W fun e w' => e = .returned (.int .i64 (kindT s)) ∧ Ext W w' := by
  have hK : kindT s = if clsB s[0] = 2 then 1 else if s.all digB then 2 else 3 := by
    unfold kindT
    rw [clsAt_lt h0]
  obtain ⟨R, hR⟩ : ∃ R, kindT s = R := ⟨_, rfl⟩
  rw [hR] at hK ⊢
  replace hR := Lib.hid hR
  obtain ⟨n0, hn0⟩ : ∃ n, s[0].toNat = n := ⟨_, rfl⟩
  have hb0 : ∀ h, ((⟨s.toArray⟩ : ByteArray)[0]'h).toNat = n0 := fun _ => hn0
  have H1 := Lib.hid (fun w => rletter_any s[0] w)
  rw [hn0] at H1
  have z0 : (0 : Int) < (s.length : Int) := by omega
  obtain ⟨x, hx⟩ : ∃ x, (clsB s[0] == 2) = x := ⟨_, rfl⟩
  rw [hx] at H1
  cases x with
  | true =>
    have hRt := Lib.hid (show R = 1 by rw [hK, if_pos (by simpa using hx)])
    clear hK hx
    go_enter Tryz.func103, Tryz.ntmps103
    go_wp2_with fail
    refine (H1.out _).mono ?_
    rintro e w1 ⟨rfl, rfl⟩
    go_wp2_with fail
    go_ret
    exact ⟨by rw [hRt.out]; rfl, Ext.refl _⟩
  | false =>
    have hK2 := Lib.hid (show R = if s.all digB then 2 else 3 by rw [hK, if_neg (by simpa using hx)])
    clear hK hx
    go_enter Tryz.func103, Tryz.ntmps103
    go_wp2_with fail
    refine (H1.out _).mono ?_
    rintro e w1 ⟨rfl, rfl⟩
    clear hb0 hn0 H1
    go_wp2_with fail
    go_loopw [3] (fun i wr => KdAt W s i wr) (fun i _ => s.length - (intOf i).toNat)
    case atStart => exact ⟨0, by omega, rfl, rfl, fun j _ h => absurd h (by omega)⟩
    case round =>
      obtain ⟨k, hk, rfl, rfl, hne⟩ := hrel
      by_cases hlt : k < s.length
      · have hd : decide ((k : Int) < (s.length : Int)) = true := decide_eq_true (by omega)
        have hd' : decide (k < s.length) = true := decide_eq_true hlt
        have kz : (0 : Int) ≤ (k : Int) := by omega
        have kl : (k : Int) < (s.length : Int) := by omega
        obtain ⟨n, hn⟩ : ∃ n, s[k].toNat = n := ⟨_, rfl⟩
        have hb : ∀ h, ((⟨s.toArray⟩ : ByteArray)[k]'h).toNat = n := fun _ => hn
        have H2 := Lib.hid (fun w => rdigit_any s[k] w)
        have hdg : (clsB s[k] == 3) = digB s[k] := clsB_3 _
        rw [hdg, hn] at H2
        obtain ⟨y, hy⟩ : ∃ y, digB s[k] = y := ⟨_, rfl⟩
        rw [hy] at H2
        cases y with
        | true =>
          have HE := Lib.hid (fun (z : World) => show KdAt z s (.int .i64 ((k + 1 : Nat) : Int)) z from ⟨k + 1, hlt, rfl, rfl, fun j h hj => by
            by_cases e : j = k
            · subst e; exact hy
            · exact hne j h (by omega)⟩)
          clear hne hdg hy
          go_wp2_with fail
          refine (H2.out _).mono ?_
          rintro e w1 ⟨rfl, rfl⟩
          go_wp2_with fail
          exact ⟨HE.out _, by simp [intOf]; omega⟩
        | false =>
          have hRf := Lib.hid (show R = 3 by
            rw [hK2.out, if_neg]
            intro h
            have := List.all_eq_true.1 h _ (List.getElem_mem hlt)
            rw [hy] at this; cases this)
          clear hne hdg hy
          go_wp2_with fail
          refine (H2.out _).mono ?_
          rintro e w1 ⟨rfl, rfl⟩
          go_wp2_with fail
          go_ret
          exact ⟨by rw [hRf.out]; rfl, Ext.refl _⟩
      · obtain rfl : k = s.length := by omega
        have hd : decide ((s.length : Int) < (s.length : Int)) = false := by simp
        have hRt := Lib.hid (show R = 2 by
          rw [hK2.out, if_pos]
          rw [List.all_eq_true]
          intro c hc
          obtain ⟨j, hj, rfl⟩ := List.mem_iff_getElem.1 hc
          exact hne j hj hj)
        clear hne
        go_wp2_with fail
        go_ret
        exact ⟨by rw [hRt.out]; rfl, Ext.refl _⟩
end Go.Proofs.YtjneghncmgjkeaaGreatDoor

set_option linter.unusedVariables false
namespace Go.Proofs.YtjneghncmgjkeaaGreatDoor
open Go.RowKit

theorem ld_tk {w : World} {g : Nat} {a b : Value} (h : Blk w g 58 #[a, b]) : (loadVar 58 ⟨g, 0, none⟩).run Tryz.prog w = .ok (.agg #[a, b]) w := by
  have q := h.cell
  simp [go_sem, q]
theorem tk_set {w : World} {g : Nat} {a b : Value} (h : Blk w g 58 #[a, b]) (x y : Value) : Blk ((w.setCell ⟨g, 0, none⟩ x).setCell ⟨g, 1, none⟩ y) g 58 #[x, y] := (h.set_ 0 x).set_ 1 y
/-- What next tells of a place. -/
def NextP (s : Bs) (at_ : Nat) (t : Tok) (en : Nat) : Prop :=
  (clsAt s at_ = 5 ∧ t = tComma ∧ en = at_ + 1) ∨ (clsAt s at_ = 6 ∧ t = tHash ∧ en = at_ + 1) ∨ (WordTo s at_ at_ ∧ clsAt s at_ ≠ 5 ∧ clsAt s at_ ≠ 6 ∧ t = ⟨0, []⟩ ∧ en = at_ + 1) ∨ (WordTo s at_ en ∧ at_ < en ∧ t = wordT s at_ en)
def NextR (W : World) (s : Bs) (at_ : Nat) (e : Ending) (w' : World) : Prop := ∃ (t : Tok) (en : Nat), e = .returned (.tuple #[.agg #[.int .i64 t.k, .string ⟨t.t.toArray⟩], .int .i64 (en : Int)]) ∧ NextP s at_ t en ∧ Ext W w'
theorem clsB_5 (c : UInt8) : clsB c = 5 ↔ c.toNat = 44 := by
  unfold clsB
  repeat' split
  all_goals omega
theorem clsB_6 (c : UInt8) : clsB c = 6 ↔ c.toNat = 35 := by
  unfold clsB
  repeat' split
  all_goals omega
theorem rupper_cut (s : Bs) (a i : Nat) (ha : a < i) (hi : i ≤ s.length) (hs : s.length ≤ 100000) (W : World) : Calls Tryz.prog 102 #[.string ((⟨s.toArray⟩ : ByteArray).extract a i)] W fun e w' => e = .returned (.string ⟨(partT s a i).toArray⟩) ∧ Ext W w' := by
  rw [extract_cut s a i hi]
  exact rupper_any _ (by rw [List.length_drop, List.length_take]; omega) (by rw [List.length_drop, List.length_take]; omega) W
def NxAt (W : World) (s : Bs) (at_ : Nat) (i : Value) (wr : World) : Prop := ∃ k : Nat, at_ ≤ k ∧ k ≤ s.length ∧ i = .int .i64 (k : Int) ∧ (∃ a b, Blk wr W.heap.size 58 #[a, b]) ∧ Ext W wr ∧ ∀ j, at_ ≤ j → j < k → goesOn s j = true
set_option maxRecDepth 100000 in
set_option maxHeartbeats 2000000 in
theorem rnext_any (s : Bs) (at_ : Nat) (hlt : at_ < s.length) (hs : s.length ≤ 100000) (W : World) : Calls Tryz.prog 76 #[.string ⟨s.toArray⟩, .int .i64 (at_ : Int)] W fun e w' => NextR W s at_ e w' := by
  obtain ⟨n, hn⟩ : ∃ n, s[at_].toNat = n := ⟨_, rfl⟩
  have hb : ∀ h, ((⟨s.toArray⟩ : ByteArray)[at_]'h).toNat = n := fun _ => hn
  have h5 : clsAt s at_ = 5 ↔ n = 44 := by rw [clsAt_lt hlt, clsB_5, hn]
  have h6 : clsAt s at_ = 6 ↔ n = 35 := by rw [clsAt_lt hlt, clsB_6, hn]
  have az : (0 : Int) ≤ (at_ : Int) := by omega
  have al : (at_ : Int) < (s.length : Int) := by omega
  by_cases h44 : n = 44
  · subst h44
    have hc := Lib.hid (h5.2 rfl)
    clear h5 h6
    go_enter Tryz.func76, Tryz.ntmps76
    go_wp2_with fail
    refine bodyPost_ret (results_ct rfl rfl (ld_tk (Blk.new _ _ _))) rfl ⟨tComma, at_ + 1, rfl, .inl ⟨hc.out, rfl, rfl⟩, ?_⟩
    exact (Ext.refl W).alloc _
  have d44 : ((n : Int) == 44) = false := by rw [beq_eq_false_iff_ne]; omega
  by_cases h35 : n = 35
  · subst h35
    have hc := Lib.hid (h6.2 rfl)
    clear h5 h6 h44 d44
    go_enter Tryz.func76, Tryz.ntmps76
    go_wp2_with fail
    refine bodyPost_ret (results_ct rfl rfl (ld_tk (Blk.new _ _ _))) rfl ⟨tHash, at_ + 1, rfl, .inr (.inl ⟨hc.out, rfl, rfl⟩), ?_⟩
    exact (Ext.refl W).alloc _
  have d35 : ((n : Int) == 35) = false := by rw [beq_eq_false_iff_ne]; omega
  have h5' := Lib.hid (fun h => h44 (h5.1 h))
  have h6' := Lib.hid (fun h => h35 (h6.1 h))
  clear h5 h6 h44 h35
  replace hn := Lib.hid hn
  have hle : at_ ≤ s.length := by omega
  replace hle := Lib.hid hle
  go_enter Tryz.func76, Tryz.ntmps76
  go_wp2_with fail
  go_loopw [6] (fun i wr => NxAt W s at_ i wr) (fun i _ => s.length - (intOf i).toNat)
  case atStart => exact ⟨at_, Nat.le_refl _, hle.out, rfl, ⟨_, _, Blk.new _ _ _⟩, (Ext.refl W).alloc _, fun j h1 h2 => absurd h2 (by omega)⟩
  case round =>
    obtain ⟨k, hak, hk, rfl, ⟨z1, z2, hB⟩, hx, hon⟩ := hrel
    clear hb d44 d35
    by_cases hlt : k < s.length
    · have hd : decide ((k : Int) < (s.length : Int)) = true := decide_eq_true (by omega)
      have hd' : decide (k < s.length) = true := decide_eq_true hlt
      have H1 := Lib.hid (fun w => rword_any s k hlt hs w)
      cases hg : goesOn s k with
      | true =>
        have HE := Lib.hid (show NxAt W s at_ (.int .i64 ((k + 1 : Nat) : Int)) wr from ⟨k + 1, by omega, hlt, rfl, ⟨z1, z2, hB⟩, hx, fun j h1 h2 => by
          by_cases e : j = k
          · subst e; exact hg
          · exact hon j h1 (by omega)⟩)
        rw [hg] at H1
        clear hon hg hB hx
        go_wp2_with fail
        refine (H1.out _).mono ?_
        rintro e w1 ⟨rfl, rfl⟩
        go_wp2_with fail
        exact ⟨HE.out, by simp [intOf]; omega⟩
      | false =>
        have HW := Lib.hid (show WordTo s at_ k from ⟨hak, hk, hon, .inr hg⟩)
        rw [hg] at H1
        clear hon hg
        by_cases he : k = at_
        · have de : ((k : Int) == (at_ : Int)) = true := by rw [beq_iff_eq]; omega
          have HW0 := Lib.hid (show WordTo s at_ at_ by have := HW.out; rw [he] at this; exact this)
          clear HW
          replace he := Lib.hid he
          obtain ⟨q0, q1⟩ := hB.cells
          have lf := hB.lt
          go_wp2_with fail
          refine (H1.out _).mono ?_
          rintro e w1 ⟨rfl, rfl⟩
          go_wp2_with fail
          refine bodyPost_ret (results_ct rfl rfl (ld_tk (tk_set hB _ _))) rfl ⟨⟨0, []⟩, at_ + 1, rfl, .inr (.inr (.inl ⟨HW0.out, h5'.out, h6'.out, rfl, rfl⟩)), ?_⟩
          exact ((hx.set (p := ⟨W.heap.size, 0, none⟩) (Nat.le_refl _) _).set (p := ⟨W.heap.size, 1, none⟩) (Nat.le_refl _) _)
        · have hlt2 : at_ < k := by omega
          have de : ((k : Int) == (at_ : Int)) = false := by rw [beq_eq_false_iff_ne]; omega
          have hpl : (partT s at_ k).length = k - at_ := partT_len hk
          have HU := Lib.hid (fun w => rupper_cut s at_ k hlt2 hk hs w)
          have HK := Lib.hid (fun w => rkind_any (partT s at_ k) (by omega) (by omega) w)
          have al2 : (at_ : Int) ≤ (k : Int) := by omega
          have kl2 : (k : Int) ≤ (s.length : Int) := by omega
          have HT := Lib.hid (show wordT s at_ k = ⟨kindT (partT s at_ k), partT s at_ k⟩ from rfl)
          replace he := Lib.hid he
          generalize kindT (partT s at_ k) = kt at *
          generalize partT s at_ k = pt at *
          replace hpl := Lib.hid hpl
          go_wp2_with fail
          refine (H1.out _).mono ?_
          rintro e w1 ⟨rfl, rfl⟩
          go_wp2_with fail
          refine (HU.out _).mono ?_
          rintro e w2 ⟨rfl, hx2⟩
          replace hB := hB.ext hx2
          replace hx := hx.trans hx2
          clear hx2
          go_wp2_with fail
          refine (HK.out _).mono ?_
          rintro e w3 ⟨rfl, hx2⟩
          replace hB := hB.ext hx2
          replace hx := hx.trans hx2
          clear hx2
          obtain ⟨q0, q1⟩ := hB.cells
          have lf := hB.lt
          go_wp2_with fail
          refine bodyPost_ret (results_ct rfl rfl (ld_tk (tk_set hB _ _))) rfl ⟨⟨kt, pt⟩, k, rfl, .inr (.inr (.inr ⟨HW.out, hlt2, HT.out.symm⟩)), ?_⟩
          exact ((hx.set (p := ⟨W.heap.size, 0, none⟩) (Nat.le_refl _) _).set (p := ⟨W.heap.size, 1, none⟩) (Nat.le_refl _) _)
    · obtain rfl : k = s.length := by omega
      have hd : decide ((s.length : Int) < (s.length : Int)) = false := by simp
      have HW := Lib.hid (show WordTo s at_ s.length from ⟨hak, hk, hon, .inl rfl⟩)
      clear hon
      by_cases he : s.length = at_
      · have de : ((s.length : Int) == (at_ : Int)) = true := by rw [beq_iff_eq]; omega
        have HW0 := Lib.hid (show WordTo s at_ at_ by have := HW.out; rw [he] at this; exact this)
        clear HW
        replace he := Lib.hid he
        obtain ⟨q0, q1⟩ := hB.cells
        have lf := hB.lt
        go_wp2_with fail
        refine bodyPost_ret (results_ct rfl rfl (ld_tk (tk_set hB _ _))) rfl ⟨⟨0, []⟩, at_ + 1, rfl, .inr (.inr (.inl ⟨HW0.out, h5'.out, h6'.out, rfl, rfl⟩)), ?_⟩
        exact ((hx.set (p := ⟨W.heap.size, 0, none⟩) (Nat.le_refl _) _).set (p := ⟨W.heap.size, 1, none⟩) (Nat.le_refl _) _)
      · have hlt2 : at_ < s.length := by omega
        have de : ((s.length : Int) == (at_ : Int)) = false := by rw [beq_eq_false_iff_ne]; omega
        have hpl : (partT s at_ s.length).length = s.length - at_ := partT_len hk
        have HU := Lib.hid (fun w => rupper_cut s at_ s.length hlt2 hk hs w)
        have HK := Lib.hid (fun w => rkind_any (partT s at_ s.length) (by omega) (by omega) w)
        have al2 : (at_ : Int) ≤ (s.length : Int) := by omega
        have kl2 : (s.length : Int) ≤ (s.length : Int) := by omega
        have HT := Lib.hid (show wordT s at_ s.length = ⟨kindT (partT s at_ s.length), partT s at_ s.length⟩ from rfl)
        replace he := Lib.hid he
        generalize kindT (partT s at_ s.length) = kt at *
        generalize partT s at_ s.length = pt at *
        replace hpl := Lib.hid hpl
        go_wp2_with fail
        refine (HU.out _).mono ?_
        rintro e w2 ⟨rfl, hx2⟩
        replace hB := hB.ext hx2
        replace hx := hx.trans hx2
        clear hx2
        go_wp2_with fail
        refine (HK.out _).mono ?_
        rintro e w3 ⟨rfl, hx2⟩
        replace hB := hB.ext hx2
        replace hx := hx.trans hx2
        clear hx2
        obtain ⟨q0, q1⟩ := hB.cells
        have lf := hB.lt
        go_wp2_with fail
        refine bodyPost_ret (results_ct rfl rfl (ld_tk (tk_set hB _ _))) rfl ⟨⟨kt, pt⟩, s.length, rfl, .inr (.inr (.inr ⟨HW.out, hlt2, HT.out.symm⟩)), ?_⟩
        exact ((hx.set (p := ⟨W.heap.size, 0, none⟩) (Nat.le_refl _) _).set (p := ⟨W.heap.size, 1, none⟩) (Nat.le_refl _) _)
end Go.Proofs.YtjneghncmgjkeaaGreatDoor
