/-
  The reference's reports: Check, numbers, Bytes.
-/
import Derived.Test.YtokakpbpenndlaaGreatDoorRn43
import Derived.Test.YtokakpbpenndlaaGreatDoorRn37
set_option linter.unusedVariables false
namespace Go.Proofs.YtokakpbpenndlaaGreatDoor
open Go.RowKit Go.Maps

set_option maxRecDepth 100000 in
set_option maxHeartbeats 4000000 in
theorem refcheck_any (r : Rep) (w : World) : Calls Tryz.prog 19 #[r.V] w fun e w' => e = .returned (.int .i64 r.check) ∧ Ext w w' := by
  obtain ⟨j, k, p, t, x, v, s, b⟩ := r
  have X0 := (Ext.refl w).alloc (.cells #[.int .i64 j, .int .i64 k, .int .i64 p, .int .i64 t, .int .i64 x, .int .i64 v, .int .i64 s, .int .i64 b] 23)
  have B0 := Blk.new w 23 #[.int .i64 j, .int .i64 k, .int .i64 p, .int .i64 t, .int .i64 x, .int .i64 v, .int .i64 s, .int .i64 b]
  have HP := Lib.hid (rfirst_any k p)
  obtain ⟨C, hC⟩ : ∃ C, (⟨j, k, p, t, x, v, s, b⟩ : Rep).check = C := ⟨_, rfl⟩
  rw [hC]
  unfold Rep.check at hC
  simp only at hC
  obtain ⟨E, hE⟩ : ∃ E, perE k p = E := ⟨_, rfl⟩
  rw [hE] at hC HP
  replace hE := Lib.hid hE
  obtain ⟨q, q'⟩ := B0.cells
  by_cases hbad : E ≠ 0 ∨ j < 1 ∨ 1099511627775 < j ∨ s < 0 ∨ 2147483647 < s ∨ b < 0 ∨ 2147483647 < b
  · rw [if_pos hbad] at hC
    subst hC
    rcases (show decide (j < 1) = true ∨ (decide (j < 1) = false ∧ decide (1099511627775 < j) = true) ∨ (decide (j < 1) = false ∧ decide (1099511627775 < j) = false ∧ (E != 0) = true) ∨ (decide (j < 1) = false ∧ decide (1099511627775 < j) = false ∧ (E != 0) = false ∧ decide (s < 0) = true) ∨ (decide (j < 1) = false ∧ decide (1099511627775 < j) = false ∧ (E != 0) = false ∧ decide (s < 0) = false ∧ decide (2147483647 < s) = true) ∨
      (decide (j < 1) = false ∧ decide (1099511627775 < j) = false ∧ (E != 0) = false ∧ decide (s < 0) = false ∧ decide (2147483647 < s) = false ∧ decide (b < 0) = true) ∨ (decide (j < 1) = false ∧ decide (1099511627775 < j) = false ∧ (E != 0) = false ∧ decide (s < 0) = false ∧ decide (2147483647 < s) = false ∧ decide (b < 0) = false ∧ decide (2147483647 < b) = true) by
      simp only [decide_eq_true_eq, decide_eq_false_iff_not, bne_iff_ne, bne_eq_false_iff_eq]; omega) with h1 | ⟨h1, h2⟩ | ⟨h1, h2, h0⟩ | ⟨h1, h2, h0, h3⟩ | ⟨h1, h2, h0, h3, h4⟩ | ⟨h1, h2, h0, h3, h4, h5⟩ | ⟨h1, h2, h0, h3, h4, h5, h6⟩
    all_goals
      clear hbad
      go_enter Tryz.func19, Tryz.ntmps19
      go_wp2_with fail
      refine (HP.out _).mono ?_
      rintro e w1 ⟨n, rfl, rfl⟩
      go_wp2_with fail
      go_ret
      exact ⟨rfl, X0⟩
  · rw [if_neg hbad] at hC
    subst hC
    have h0 : (E != 0) = false := by simp; omega
    have h1 : decide (j < 1) = false := by simp; omega
    have h2 : decide (1099511627775 < j) = false := by simp; omega
    have h3 : decide (s < 0) = false := by simp; omega
    have h4 : decide (2147483647 < s) = false := by simp; omega
    have h5 : decide (b < 0) = false := by simp; omega
    have h6 : decide (2147483647 < b) = false := by simp; omega
    clear hbad
    go_enter Tryz.func19, Tryz.ntmps19
    go_wp2_with fail
    refine (HP.out _).mono ?_
    rintro e w1 ⟨n, rfl, rfl⟩
    go_wp2_with fail
    go_ret
    exact ⟨rfl, X0⟩
set_option maxRecDepth 100000 in
set_option maxHeartbeats 1000000 in
theorem numbers_any (r : Rep) (w : World) : Calls Tryz.prog 44 #[r.V] w fun e w' => ∃ g, e = .returned (.slice (some ⟨g, 0, none⟩) 8 8) ∧ Reads w' w'.heap.size 1 (some ⟨g, 0, none⟩) 8 (iV r.ints) ∧ Ext w w' := by
  have X0 := (Ext.refl w).alloc (.cells #[.int .i64 r.j, .int .i64 r.k, .int .i64 r.p, .int .i64 r.t, .int .i64 r.x, .int .i64 r.v, .int .i64 r.s, .int .i64 r.r] 23)
  have B0 := Blk.new w 23 #[.int .i64 r.j, .int .i64 r.k, .int .i64 r.p, .int .i64 r.t, .int .i64 r.x, .int .i64 r.v, .int .i64 r.s, .int .i64 r.r]
  have hz : (w.alloc (.cells #[.int .i64 r.j, .int .i64 r.k, .int .i64 r.p, .int .i64 r.t, .int .i64 r.x, .int .i64 r.v, .int .i64 r.s, .int .i64 r.r] 23)).heap.size = w.heap.size + 1 := by simp
  obtain ⟨q, q'⟩ := B0.cells
  have HR := Lib.hid (reads_c (w.alloc (.cells #[.int .i64 r.j, .int .i64 r.k, .int .i64 r.p, .int .i64 r.t, .int .i64 r.x, .int .i64 r.v, .int .i64 r.s, .int .i64 r.r] 23)) #[.int .i64 r.j, .int .i64 r.k, .int .i64 r.p, .int .i64 r.t, .int .i64 r.x, .int .i64 r.v, .int .i64 r.s, .int .i64 r.r] 3 8 1 (iV r.ints) rfl rfl)
  rw [hz] at HR
  clear hz
  go_enter Tryz.func44, Tryz.ntmps44
  go_wp2_with fail
  go_ret
  exact ⟨_, rfl, HR.out, X0.alloc _⟩
set_option maxRecDepth 100000 in
set_option maxHeartbeats 2000000 in
theorem refbytes30_any (r : Rep) (hi : r.i64s) (w : World) : Calls Tryz.prog 13 #[r.V] w fun e w' => ∃ v, e = .returned (.tuple #[v, .int .i64 r.check]) ∧ w'.ownsRow w.heap.size 5 1 v r.bytes.length (bV r.bytes) ∧ Ext w w' ∧ AllP w' v u8P := by
  have X0 := (Ext.refl w).alloc (.cells #[.int .i64 r.j, .int .i64 r.k, .int .i64 r.p, .int .i64 r.t, .int .i64 r.x, .int .i64 r.v, .int .i64 r.s, .int .i64 r.r] 23)
  have B0 := Blk.new w 23 #[.int .i64 r.j, .int .i64 r.k, .int .i64 r.p, .int .i64 r.t, .int .i64 r.x, .int .i64 r.v, .int .i64 r.s, .int .i64 r.r]
  have HI := Lib.hid hi
  have HC := Lib.hid (refcheck_any r)
  clear hi
  obtain ⟨C, hC⟩ : ∃ C, r.check = C := ⟨_, rfl⟩
  by_cases h0 : C = 0
  case neg =>
    have hb : (C != 0) = true := by simpa using h0
    have HO := Lib.hid (show r.bytes = [] by unfold Rep.bytes; rw [hC, if_neg h0])
    rw [hC] at HC ⊢
    replace hC := Lib.hid hC
    clear h0
    go_enter Tryz.func13, Tryz.ntmps13
    go_wp2_with fail
    refine (HC.out _).mono ?_
    rintro e w1 ⟨rfl, hx⟩
    go_wp2_with fail
    go_ret2
    refine ⟨_, rfl, ?_, X0.trans hx, AllP.nil _ _ _ _⟩
    rw [HO.out]; exact World.ownsRow_nil _ _ _ _
  subst h0
  have HO := Lib.hid (show r.bytes = putsL r.ints by unfold Rep.bytes; rw [if_pos hC])
  rw [hC] at HC ⊢
  replace hC := Lib.hid hC
  go_enter Tryz.func13, Tryz.ntmps13
  go_wp2_with fail
  refine (HC.out _).mono ?_
  rintro e w1 ⟨rfl, hx⟩
  have X1 := X0.trans hx
  have B1 := B0.ext hx
  clear X0 B0 hx
  obtain ⟨q, q'⟩ := B1.cells
  go_wp2_with fail
  refine (numbers_any r _).mono ?_
  rintro e w2 ⟨g2, rfl, hr2, hx⟩
  have X2 := X1.trans hx
  clear X1 B1 hx q q'
  have hL8 : r.ints.length = 8 := rfl
  go_wp2_with fail
  go_loopw [5, 7] (fun o i wr => PutsRel w2 r.ints o i wr) (fun _ i _ => 8 - (intOf i).toNat)
  case atStart => exact ⟨0, by omega, rfl, World.ownsRow_nil _ _ _ _, Ext.refl _, AllP.nil _ _ _ _⟩
  case round =>
    obtain ⟨k, hk, rfl, hown, hx, hall⟩ := hrel
    have hlen2 := putsL_len (r.ints.take k)
    have hlen3 : (r.ints.take k).length ≤ k := List.length_take_le _ _
    by_cases hlt : k < 8
    · have hd : decide ((k : Int) < 8) = true := by simp; omega
      have hk8 : k < r.ints.length := by omega
      obtain ⟨b, off, hA, hadb, c1⟩ := reads_int (hr2.extB (Nat.le_refl _) hx) hk8 hL8.symm
      injection hA with hA
      injection hA with hA1 hA2 _
      subst hA1 hA2
      rw [Nat.zero_add] at c1
      have kl : (k : Int) < 8 := by omega
      have kz : (0 : Int) ≤ (k : Int) := by omega
      have hn := HI.out.at_ k hk8
      have hlen := putL_len (r.ints[k]'hk8)
      have HN := Lib.hid (fun (W : World) (v : Value) (n : Nat) (xs : List Value) ho hn hxs hx ha => PutsRel.next (w := w2) (l := r.ints) (k := k) (m := k + 1) (v1 := v) (n := n) (xs := xs) (w1 := W) hk8 ho hn hxs hx ha rfl)
      have hnl : (putsL (r.ints.take k)).length ≤ 1000 := by omega
      generalize r.ints[k]'hk8 = n at *
      generalize putsL (r.ints.take k) = L at *
      clear hlen2 hlen3 hr2
      go_wp2_with (first
        | (go_at_call 45; refine (rput_any _ hn.1 hn.2 _).mono ?_; rintro e w3 ⟨v3, rfl, hown1, hx1, _⟩; obtain ⟨A1, c1, rfl, hc1, hm1, hr1⟩ := own_slice hown1)
        | (at_builtin; refine wpl_app row_u8 w2 w3 (.tmp 21) (.tmp 26) rfl rfl rfl (own_ext hown hx1) (hx.trans hx1) rfl hr1 (bV_one _) (by omega) (by unfold maxLen; omega) ?_; intro v4 w4 hg4))
      go_roundw
      case rel => exact HN.out _ _ _ _ hg4.own rfl rfl hg4.ext (hg4.all u8P u8z (u8bb _ _) (hall.ext hx1))
      case measure => simp [intOf]; omega
    · have hd : decide ((k : Int) < 8) = false := by simp; omega
      have HO2 := PutsRel.done (by omega) hown
      clear hown hr2
      go_wp2_with fail
      go_ret2
      refine ⟨_, rfl, ?_, X2.trans hx, hall⟩
      rw [HO.out]
      exact own_base HO2 X2.size
end Go.Proofs.YtokakpbpenndlaaGreatDoor

set_option linter.unusedVariables false
namespace Go.Proofs.YtokakpbpenndlaaGreatDoor
open Go.RowKit Go.Maps

theorem join_snoc (l : List (List UInt8)) (y sep : List UInt8) (h : l ≠ []) : Lib.join (l ++ [y]) sep = Lib.join l sep ++ sep ++ y := by
  cases l with
  | nil => exact absurd rfl h
  | cons x l =>
    rw [List.cons_append, Lib.join_cons, Lib.join_cons]
    simp [Lib.joinTail]
theorem lens_le (l : List (List UInt8)) (h : ∀ b ∈ l, b.length ≤ 30) : Lib.lens l ≤ 30 * l.length := by
  induction l with
  | nil => simp [Lib.lens]
  | cons b l ih =>
    have h1 := h b (by simp)
    have h2 := ih fun x hx => h x (by simp [hx])
    simp only [Lib.lens, List.map_cons, List.sum_cons, List.length_cons] at h2 ⊢
    omega
theorem join_le (l : List (List UInt8)) (h : ∀ b ∈ l, b.length ≤ 30) (hl : l.length ≤ 10) : (Lib.join l [32]).length ≤ 310 := by
  cases l with
  | nil => simp [Lib.join_nil]
  | cons b l =>
    rw [Lib.join_length]
    have := lens_le _ h
    simp only [List.length_cons, List.length_nil] at this hl ⊢
    omega
theorem repTexts_30 {r : Rep} (hi : r.i64s) (k : Nat) : ∀ b ∈ repTexts r k, b.length ≤ 30 := by
  intro b hb
  unfold repTexts at hb
  rcases List.mem_append.1 hb with hb | hb
  · simp only [List.mem_cons, List.not_mem_nil, or_false] at hb
    rcases hb with rfl | rfl
    · have := Lib.itoa_length_le r.j hi.j.1 hi.j.2
      omega
    · have : (perText r.k r.p).length ≤ 8 := by
        unfold perText perTextN twoL
        repeat' split
        all_goals simp
      omega
  · obtain ⟨n, hn, rfl⟩ := List.mem_map.1 hb
    obtain ⟨i, h1, rfl⟩ := List.mem_iff_getElem.1 (List.mem_of_mem_take (List.mem_of_mem_drop hn))
    have := Lib.itoa_length_le _ (hi.at_ i h1).1 (hi.at_ i h1).2
    omega
def RtRel (w2 : World) (r : Rep) (v7 v9 : Value) (wr : World) : Prop := ∃ k : Nat, k ≤ 5 ∧ v9 = .int .i64 (k : Int) ∧ v7 = .string ⟨(Lib.join (repTexts r (3 + k)) [32]).toArray⟩ ∧ Ext w2 wr
theorem repTexts_ne (r : Rep) (k : Nat) : repTexts r k ≠ [] := by simp [repTexts]
theorem RtRel.next {w2 W : World} {r : Rep} {k m : Nat} {s : ByteArray} (hk : k < 5) (hk8 : 3 + k < r.ints.length) (hs : s = ⟨(Lib.join (repTexts r (3 + k)) [32]).toArray⟩ ++ ⟨#[32]⟩ ++ ⟨(Lib.itoa (r.ints[3 + k]'hk8)).toArray⟩) (hx : Ext w2 W) (e : m = k + 1) : RtRel w2 r (.string s) (.int .i64 (m : Int)) W := by
  subst e hs
  refine ⟨k + 1, by omega, rfl, ?_, hx⟩
  rw [show 3 + (k + 1) = (3 + k) + 1 by omega, repTexts_hi r (by omega) hk8, join_snoc _ _ _ (repTexts_ne r _), show (⟨#[32]⟩ : ByteArray) = ⟨([32] : List UInt8).toArray⟩ from rfl, bytes_app, bytes_app]
set_option maxRecDepth 100000 in
set_option maxHeartbeats 2000000 in
theorem reftext30_any (r : Rep) (hi : r.i64s) (w : World) (ht : Tab10 w) : Calls Tryz.prog 15 #[r.V] w fun e w' => e = .returned (.tuple #[.string ⟨r.textO.toArray⟩, .int .i64 r.check]) ∧ Ext w w' := by
  have X0 := (Ext.refl w).alloc (.cells #[.int .i64 r.j, .int .i64 r.k, .int .i64 r.p, .int .i64 r.t, .int .i64 r.x, .int .i64 r.v, .int .i64 r.s, .int .i64 r.r] 23)
  have B0 := Blk.new w 23 #[.int .i64 r.j, .int .i64 r.k, .int .i64 r.p, .int .i64 r.t, .int .i64 r.x, .int .i64 r.v, .int .i64 r.s, .int .i64 r.r]
  have HT := Lib.hid (fun W (hx : Ext w W) => ht.ext hx)
  have HI := Lib.hid hi
  have HC := Lib.hid (refcheck_any r)
  clear ht hi
  obtain ⟨C, hC⟩ : ∃ C, r.check = C := ⟨_, rfl⟩
  obtain ⟨q, q'⟩ := B0.cells
  by_cases h0 : C = 0
  case neg =>
    have hb : (C != 0) = true := by simpa using h0
    have HO := Lib.hid (show r.textO = [] by unfold Rep.textO; rw [hC, if_neg h0])
    rw [hC] at HC ⊢
    replace hC := Lib.hid hC
    clear h0
    go_enter Tryz.func15, Tryz.ntmps15
    go_wp2_with fail
    refine (HC.out _).mono ?_
    rintro e w1 ⟨rfl, hx⟩
    go_wp2_with fail
    go_ret2
    exact ⟨by rw [HO.out]; rfl, X0.trans hx⟩
  subst h0
  have hpe := (Rep.bd hC).2.2.2.2.2
  have HO := Lib.hid (show r.textO = r.text by unfold Rep.textO; rw [if_pos hC])
  have HP := Lib.hid (rtext04_any r.k r.p hpe)
  rw [hC] at HC ⊢
  replace hC := Lib.hid hC
  clear hpe
  go_enter Tryz.func15, Tryz.ntmps15
  go_wp2_with fail
  refine (HC.out _).mono ?_
  rintro e w1 ⟨rfl, hx⟩
  have X1 := X0.trans hx
  have B1 := B0.ext hx
  clear q q' X0 B0 hx
  obtain ⟨q, q'⟩ := B1.cells
  go_wp2_with fail
  refine (HP.out _).mono ?_
  rintro e w2 ⟨rfl, hx⟩
  have X2 := X1.trans hx
  have B2 := B1.ext hx
  clear q q' X1 B1 hx
  obtain ⟨q, q'⟩ := B2.cells
  go_wp2_with fail
  refine (itoa_any r.j HI.out.j _ (HT.out _ X2)).mono ?_
  rintro e w3 ⟨rfl, hx⟩
  have X3 := X2.trans hx
  have B3 := B2.ext hx
  clear q q' X2 B2 hx
  obtain ⟨q, q'⟩ := B3.cells
  have l1 := repTexts_30 HI.out 0 (Lib.itoa r.j) (by simp [repTexts])
  have l2 := repTexts_30 HI.out 0 (perText r.k r.p) (by simp [repTexts])
  have n1 : ¬ 9223372036854775807 < (Lib.itoa r.j).length + 1 := by omega
  have n2 : ¬ 9223372036854775807 < (Lib.itoa r.j).length + 1 + (perText r.k r.p).length := by omega
  clear l1 l2
  go_wp2_with fail
  refine (numbers_any r _).mono ?_
  rintro e w4 ⟨g4, rfl, hr4, hx⟩
  have X4 := X3.trans hx
  clear q q' X3 B3 hx
  have hS0 := Lib.hid (show (⟨(Lib.itoa r.j).toArray⟩ ++ ⟨#[32]⟩ ++ ⟨(perText r.k r.p).toArray⟩ : ByteArray) = ⟨(Lib.join (repTexts r (3 + 0)) [32]).toArray⟩ by
    rw [show repTexts r (3 + 0) = [Lib.itoa r.j] ++ [perText r.k r.p] from rfl, join_snoc _ _ _ (by simp), show Lib.join [Lib.itoa r.j] [32] = Lib.itoa r.j by simp [Lib.join]]
    apply ByteArray.ext
    simp [ByteArray.data_append])
  go_wp2_with fail
  go_loopw [7, 9] (fun v7 v9 wr => RtRel w4 r v7 v9 wr) (fun _ v9 _ => 5 - (intOf v9).toNat)
  case atStart => exact ⟨0, by omega, rfl, by rw [hS0.out], Ext.refl _⟩
  case round =>
    obtain ⟨k, hk, rfl, rfl, hx⟩ := hrel
    have hL8 : r.ints.length = 8 := rfl
    by_cases hlt : k < 5
    · have hd : decide ((k : Int) < 5) = true := by simp; omega
      have hk8 : 3 + k < r.ints.length := by omega
      obtain ⟨b, off, hA, hadb, c1⟩ := reads_int (hr4.extB (Nat.le_refl _) hx) hk8 hL8.symm
      injection hA with hA
      injection hA with hA1 hA2 _
      subst hA1 hA2
      rw [Nat.zero_add] at c1
      have kl : (k : Int) < 5 := by omega
      have kz : (0 : Int) ≤ (k : Int) := by omega
      have hn := HI.out.at_ (3 + k) hk8
      have HN := Lib.hid (fun (W : World) (s : ByteArray) hs hx => RtRel.next (w2 := w4) (W := W) (r := r) (k := k) (m := k + 1) (s := s) hlt hk8 hs hx rfl)
      have hj := join_le (repTexts r (3 + k)) (repTexts_30 HI.out _) (by rw [repTexts_len r _ (by omega)]; omega)
      have hil := Lib.itoa_length_le _ hn.1 hn.2
      generalize r.ints[3 + k]'hk8 = n at *
      generalize Lib.join (repTexts r (3 + k)) [32] = L at *
      have m1 : ¬ 9223372036854775807 < L.length + 1 := by omega
      have m2 : ¬ 9223372036854775807 < L.length + 1 + (Lib.itoa n).length := by omega
      clear hj hil
      go_wp2_with fail
      refine (itoa_any n hn _ (HT.out _ (X4.trans hx))).mono ?_
      rintro e w6 ⟨rfl, hx6⟩
      have HN2 := Lib.hid (HN.out w6 _ rfl (hx.trans hx6))
      go_wp2_with fail
      go_roundw
      case rel => exact HN2.out
      case measure => simp [intOf]; omega
    · have hd : decide ((k : Int) < 5) = false := by simp; omega
      have hk5 : k = 5 := by omega
      subst hk5
      go_wp2_with fail
      go_ret2
      exact ⟨by rw [HO.out]; rfl, X4.trans hx⟩
end Go.Proofs.YtokakpbpenndlaaGreatDoor
