/-
  The reference's periods: Text.
-/
import Derived.Test.YtokakpbpenndlaaGreatDoorRn42
import Derived.Test.YtokakpbpenndlaaGreatDoorRn33
import Derived.Deep.RegionLaw
import Derived.Deep.RegionHeld3
set_option linter.unusedVariables false
namespace Go.Proofs.YtokakpbpenndlaaGreatDoor
open Go.RowKit

/-- A number in so many digits. -/
def digL (n : Int) : Nat → List UInt8
  | 0 => []
  | m + 1 => digL (n / 10) m ++ [UInt8.ofNat (48 + n % 10).toNat]
theorem digL_len (n : Int) : ∀ m, (digL n m).length = m
  | 0 => rfl
  | m + 1 => by
    show (digL (n / 10) m ++ _).length = _
    rw [List.length_append, digL_len]
    rfl
/-- A slice of one byte, as a text. -/
theorem conv_one (W : World) (g : Nat) (b : Int) (h : Blk W g 5 #[.int .u8 b]) : (convert 24 9 (.slice (some ⟨g, 0, none⟩) 1 1)).run Tryz.prog W = .ok (.string (strOfNums [b])) W :=
  run_convert_bytes_arg (P := Tryz.prog) W 24 5 Tryz.underlying24 Tryz.underlying5 g 0 1 1 [b] rfl (fun i hi => by
    have : i = 0 := by omega
    subst this
    exact h.cell 0) 9 Tryz.underlying9
set_option maxRecDepth 100000 in
set_option maxHeartbeats 1000000 in
theorem rdigits_any : ∀ (m : Nat) (n : Int) (_ : 0 ≤ n ∧ n ≤ 9999) (_ : m ≤ 10) (w : World), Calls Tryz.prog 95 #[.int .i64 n, .int .i64 (m : Int)] w fun e w' => e = .returned (.string ⟨(digL n m).toArray⟩) ∧ Ext w w' := by
  intro m
  induction m with
  | zero =>
    intro n hn hm w
    go_enter Tryz.func95, Tryz.ntmps95
    go_wp2_with fail
    go_ret
    exact ⟨rfl, Ext.refl _⟩
  | succ m ih =>
    intro n hn hm w
    obtain ⟨n0, n1⟩ := hn
    have HI := Lib.hid (fun W => ih (n / 10) (by omega) (by omega) W)
    have e1 : (((m + 1 : Nat) : Int)) - 1 = (m : Int) := by omega
    have s1 : IntKind.i64.wrap (m : Int) = (m : Int) := IntWalk.i64_in _ (by omega)
    have hz : ((((m + 1 : Nat) : Int)) == 0) = false := by rw [beq_eq_false_iff_ne]; omega
    have hc1 := fun (W : World) => conv_one (W.alloc (.cells #[.int .u8 (48 + n % 10)] 5)) W.heap.size (48 + n % 10) (Blk.new W _ _)
    have q1 : n.tdiv 10 = n / 10 := Int.tdiv_eq_ediv_of_nonneg n0
    have q2 : n.tmod 10 = n % 10 := Int.tmod_eq_emod_of_nonneg n0
    have q3 : IntKind.i64.wrap (n / 10) = n / 10 := IntWalk.i64_in _ (by omega)
    have q4 : IntKind.i64.wrap (48 + n % 10) = 48 + n % 10 := IntWalk.i64_in _ (by omega)
    have q5 : IntKind.u8.wrap (48 + n % 10) = 48 + n % 10 := by rw [IntKind.wrap_u8]; omega
    have hc3 := conv_one (w.alloc (.cells #[.int .u8 (48 + n % 10)] 5)).drew w.heap.size (48 + n % 10) (Blk.ext (Blk.new w 5 #[.int .u8 (48 + n % 10)]) (Ext.refl _).drew)
    have z1 : (strOfNums [48 + n % 10]).size = 1 := rfl
    have z2 : ¬ 9223372036854775807 < (digL (n / 10) m).length + 1 := by rw [digL_len]; omega
    clear ih e1
    go_enter Tryz.func95, Tryz.ntmps95
    go_wp2_with fail
    go_region_law (first
      | (go_simp; go_at_call 95; refine (HI.out _).mono ?_; rintro e w1 ⟨rfl, hx1⟩; (try have hc2 := conv_one w1 w.heap.size _ (Blk.ext (Blk.ext (Blk.new w 5 #[.int .u8 (48 + n % 10)]) (Ext.refl _).drew) hx1))))
    all_goals
      go_wp2_with fail
      go_ret
      refine ⟨ret_str (by rw [show digL n (m + 1) = digL (n / 10) m ++ [UInt8.ofNat (48 + n % 10).toNat] from rfl, ← bytes_app]; rfl), ?_⟩
      first
      | exact (Ext.trans (Ext.refl w).drew hx1).alloc _
      | exact Ext.trans ((Ext.refl w).alloc _).drew hx1
      | exact Ext.trans (Ext.refl w).drew hx1
theorem dig1 (n : Int) : (twoL n).drop 1 = digL n 1 := rfl
theorem dig2 (n : Int) : twoL n = digL n 2 := rfl
theorem dig4 (n : Int) : twoL (n / 100) ++ twoL n = digL n 4 := by
  have e : n / 10 / 10 = n / 100 := by omega
  have e2 : n / 10 / 10 / 10 = n / 100 / 10 := by omega
  show [UInt8.ofNat (48 + n / 100 / 10 % 10).toNat, UInt8.ofNat (48 + n / 100 % 10).toNat, UInt8.ofNat (48 + n / 10 % 10).toNat, UInt8.ofNat (48 + n % 10).toNat] = [UInt8.ofNat (48 + n / 10 / 10 / 10 % 10).toNat, UInt8.ofNat (48 + n / 10 / 10 % 10).toNat, UInt8.ofNat (48 + n / 10 % 10).toNat, UInt8.ofNat (48 + n % 10).toNat]
  rw [e2, e]
theorem ret_str2 {a b : ByteArray} (h : a = b) : Ending.returned (.tuple #[.string a, .int .i64 0]) = .returned (.tuple #[.string b, .int .i64 0]) := by rw [h]
theorem kind_of {k p : Int} (h : perE k p = 0) : k = 1 ∨ k = 2 ∨ k = 3 ∨ k = 4 := by
  unfold perE longI at h
  by_cases e1 : k = 1
  · omega
  by_cases e2 : k = 2
  · omega
  by_cases e3 : k = 3
  · omega
  by_cases e4 : k = 4
  · omega
  rw [if_neg e1, if_neg e2, if_neg e3, if_neg e4, if_pos rfl] at h
  cases h
set_option maxRecDepth 100000 in
set_option maxHeartbeats 1000000 in
theorem rtext04_any (k p : Int) (h : perE k p = 0) (w : World) : Calls Tryz.prog 49 #[.int .i64 k, .int .i64 p] w fun e w' => e = .returned (.tuple #[.string ⟨(perText k p).toArray⟩, .int .i64 0]) ∧ Ext w w' := by
  have HB := Lib.hid (rbegins_any k p)
  obtain ⟨hb, h1, h2⟩ := beg_ok h
  rw [hb] at HB h1 h2
  rw [h] at HB
  simp only at HB h1 h2
  have hk := kind_of h
  clear hb h
  rcases hk with rfl | rfl | rfl | rfl
  · have HT := Lib.hid (show perText 1 p = digL (p * 1 / 12 + 1) 4 ++ [45, 77] ++ digL (p * 1 % 12 + 1) 2 by
      show perTextN 1 (p * 1) 1 = _
      unfold perTextN
      rw [if_pos rfl, Int.ediv_one, ← dig4, ← dig2, List.append_assoc _ [45, 77]])
    have he : longI 1 = 1 := rfl
    rw [he] at HB h1 h2
    clear he
    generalize p * 1 / 12 + 1 = y at *
    generalize p * 1 % 12 + 1 = m at *
    obtain ⟨y1, y2⟩ := h1
    obtain ⟨m1, m2⟩ := h2
    go_enter Tryz.func49, Tryz.ntmps49
    go_wp2_with fail
    refine (HB.out _).mono ?_
    rintro e w1 ⟨rfl, rfl⟩
    go_wp2_with fail
    refine (rdigits_any 4 y (by omega) (by omega) _).mono ?_
    rintro e w2 ⟨rfl, hx2⟩
    go_wp2_with fail
    refine (rdigits_any 2 m (by omega) (by omega) _).mono ?_
    rintro e w3 ⟨rfl, hx3⟩
    go_wp2_with fail
    go_ret2
    exact ⟨ret_str2 (by rw [HT.out, show (⟨#[45, 77]⟩ : ByteArray) = ⟨([45, 77] : List UInt8).toArray⟩ from rfl, bytes_app, bytes_app]), hx2.trans hx3⟩
  · have HT := Lib.hid (show perText 2 p = digL (p * 3 / 12 + 1) 4 ++ [45, 81] ++ digL ((p * 3 % 12 + 1) / 3 + 1) 1 by
      show perTextN 2 (p * 3) 3 = _
      unfold perTextN
      rw [if_neg (by decide), if_pos rfl, ← dig4, ← dig1, List.append_assoc _ [45, 81], show (p * 3 % 12 + 1) / 3 = p * 3 % 12 / 3 by omega])
    have he : longI 2 = 3 := rfl
    rw [he] at HB h1 h2
    clear he
    generalize p * 3 / 12 + 1 = y at *
    generalize p * 3 % 12 + 1 = m at *
    obtain ⟨y1, y2⟩ := h1
    obtain ⟨m1, m2⟩ := h2
    go_enter Tryz.func49, Tryz.ntmps49
    go_wp2_with fail
    refine (HB.out _).mono ?_
    rintro e w1 ⟨rfl, rfl⟩
    go_wp2_with fail
    refine (rdigits_any 4 y (by omega) (by omega) _).mono ?_
    rintro e w2 ⟨rfl, hx2⟩
    go_wp2_with fail
    refine (rdigits_any 1 (m / 3 + 1) (by omega) (by omega) _).mono ?_
    rintro e w3 ⟨rfl, hx3⟩
    go_wp2_with fail
    go_ret2
    exact ⟨ret_str2 (by rw [HT.out, show (⟨#[45, 81]⟩ : ByteArray) = ⟨([45, 81] : List UInt8).toArray⟩ from rfl, bytes_app, bytes_app]), hx2.trans hx3⟩
  · have HT := Lib.hid (show perText 3 p = digL (p * 6 / 12 + 1) 4 ++ [45, 72] ++ digL ((p * 6 % 12 + 1) / 6 + 1) 1 by
      show perTextN 3 (p * 6) 6 = _
      unfold perTextN
      rw [if_neg (by decide), if_neg (by decide), if_pos rfl, ← dig4, ← dig1, List.append_assoc _ [45, 72], show (p * 6 % 12 + 1) / 6 = p * 6 % 12 / 6 by omega])
    have he : longI 3 = 6 := rfl
    rw [he] at HB h1 h2
    clear he
    generalize p * 6 / 12 + 1 = y at *
    generalize p * 6 % 12 + 1 = m at *
    obtain ⟨y1, y2⟩ := h1
    obtain ⟨m1, m2⟩ := h2
    go_enter Tryz.func49, Tryz.ntmps49
    go_wp2_with fail
    refine (HB.out _).mono ?_
    rintro e w1 ⟨rfl, rfl⟩
    go_wp2_with fail
    refine (rdigits_any 4 y (by omega) (by omega) _).mono ?_
    rintro e w2 ⟨rfl, hx2⟩
    go_wp2_with fail
    refine (rdigits_any 1 (m / 6 + 1) (by omega) (by omega) _).mono ?_
    rintro e w3 ⟨rfl, hx3⟩
    go_wp2_with fail
    go_ret2
    exact ⟨ret_str2 (by rw [HT.out, show (⟨#[45, 72]⟩ : ByteArray) = ⟨([45, 72] : List UInt8).toArray⟩ from rfl, bytes_app, bytes_app]), hx2.trans hx3⟩
  · have HT := Lib.hid (show perText 4 p = digL (p * 12 / 12 + 1) 4 by
      show perTextN 4 (p * 12) 12 = _
      unfold perTextN
      rw [if_neg (by decide), if_neg (by decide), if_neg (by decide), ← dig4, List.append_nil])
    have he : longI 4 = 12 := rfl
    rw [he] at HB h1 h2
    clear he
    generalize p * 12 / 12 + 1 = y at *
    generalize p * 12 % 12 + 1 = m at *
    obtain ⟨y1, y2⟩ := h1
    obtain ⟨m1, m2⟩ := h2
    go_enter Tryz.func49, Tryz.ntmps49
    go_wp2_with fail
    refine (HB.out _).mono ?_
    rintro e w1 ⟨rfl, rfl⟩
    go_wp2_with fail
    refine (rdigits_any 4 y (by omega) (by omega) _).mono ?_
    rintro e w2 ⟨rfl, hx2⟩
    go_wp2_with fail
    go_ret2
    exact ⟨by rw [HT.out]; rfl, hx2⟩
end Go.Proofs.YtokakpbpenndlaaGreatDoor
