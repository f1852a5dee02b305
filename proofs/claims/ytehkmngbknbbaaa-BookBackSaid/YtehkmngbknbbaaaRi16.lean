/-
  The statements' own helpers: lists that are lent, kept, written over.
-/
import Derived.Test.YtehkmngbknbbaaaRi06
import Derived.Test.YtehkmngbknbbaaaRi15
import Derived.Deep.RegionHeld3
set_option linter.unusedVariables false
namespace Go.Proofs.Ytehkmngbknbbaaa
open Go.RowKit
theorem row_ln : RowT Try.prog 24 110 2 16 (.agg #[.int .i64 0, .int .i64 0]) := rowT_mk Try.underlying24 (by kernel_rfl) rfl (by decide)

set_option maxHeartbeats 400000 in
theorem copyOrder_any (o : Ord) (A : Option Addr) (cap : Nat) (w : World) (hr : Reads w w.heap.size 2 A o.ls.length (lnCells o.ls)) (hm : o.ls.length ≤ 1000000) :
    Calls Try.prog 15 #[ordV o A cap] w fun e w' => ∃ A' c', e = .returned (ordV o A' c') ∧ w'.ownsRow w.heap.size 110 2 (.slice A' o.ls.length c') o.ls.length (lnCells o.ls) ∧ Ext w w' := by
  simp only [ordV]
  have RR := Lib.hid (fun o1 o2 o3 : Obj => hr.ext ((((Ext.refl w).alloc o1).alloc o2).alloc o3))
  clear hr
  go_enter Try.func15, Try.ntmps15
  have HB : ∀ (W W1 : World) (v1 : Value) (n : Nat) (xs : List Value) (o1 o2 : Array Value), W = (((w.alloc (.cells o1 26)).alloc (.cells o2 26)).alloc (.cells #[] 110)) → Grew w W W1 110 2 (.agg #[.int .i64 0, .int .i64 0]) (.slice (some ⟨w.heap.size + 1 + 1, 0, none⟩) 0 0) v1 n xs → Blk W1 w.heap.size 26 o1 ∧ Blk W1 (w.heap.size + 1) 26 o2 := by
    intro W W1 v1 n xs o1 o2 hW hg
    subst hW
    have hown := own_lit (((Ext.refl w).alloc (.cells o1 26)).alloc (.cells o2 26)) #[] 110 0 2 (g := w.heap.size + 1 + 1) (by simp) (by simp [maxLen]) rfl
    refine ⟨hg.blk hown (((Blk.new w _ _).alloc _).alloc _) (by decide), hg.blk hown ?_ (by decide)⟩
    have := (Blk.new (w.alloc (.cells o1 26)) 26 o2).alloc (.cells #[] 110)
    simpa using this
  go_wp2_with (at_builtin; refine wpl_app row_ln w _ (.tmp 3) (.tmp 5) rfl rfl rfl (own_lit (((Ext.refl w).alloc _).alloc _) _ _ 0 2 (by simp) (by simp [maxLen]) rfl) ((((Ext.refl w).alloc _).alloc _).alloc _) rfl (RR.out _ _ _) (lnCells_one _) (by omega) (by unfold maxLen; omega) ?_; intro v1 w1 hg; obtain ⟨A1, c1, rfl, hc1, hm1, hr1⟩ := own_slice hg.own; obtain ⟨B1, B2⟩ := HB _ _ _ _ _ _ _ rfl hg; obtain ⟨q1, q1'⟩ := B1.cells; obtain ⟨q2, q2'⟩ := B2.cells)
  refine bodyPost_ret (v := ordV o A1 c1) (by simp [results, Try.results15, go_sem, ordV, q2]) rfl ⟨_, _, rfl, ?_, ?_⟩
  · have hown := hg.own
    rw [Nat.zero_add, List.nil_append] at hown
    have n1 := own_blk_ne hown B1 (by decide)
    have n2 := own_blk_ne hown B2 (by decide)
    exact own_set (own_set (own_set (own_set (own_set (own_set hown n1 _) n2 _) n2 _) n2 _) n2 _) n2 _
  · exact (((((hg.ext.set (by simp) _).set (by simp) _).set (by simp) _).set (by simp) _).set (by simp) _).set (by simp) _

def markB (i : Nat) : UInt8 := UInt8.ofNat (160 + i % 90)
def lentL (l : List UInt8) : List UInt8 := l ++ [markB l.length, markB (l.length + 1), markB (l.length + 2)]

def lentC (l : List UInt8) (k : Nat) : List Value := bV ((lentL l).take k) ++ reps (l.length + 3 - k) (.int .u8 0)
theorem lentL_len (l : List UInt8) : (lentL l).length = l.length + 3 := by simp [lentL]
theorem lentC_start (l : List UInt8) : splice (reps (l.length + 3) (.int .u8 0)) 0 (bV l) = lentC l l.length := by
  simp [splice, lentC, lentL, reps, bV]
theorem lentC_end (l : List UInt8) : lentC l (l.length + 3) = bV (lentL l) := by
  rw [lentC, ← lentL_len, List.take_length]; simp [reps]
theorem lentL_at (l : List UInt8) (k : Nat) (h1 : l.length ≤ k) (h2 : k < l.length + 3) : (lentL l)[k]'(by rw [lentL_len]; exact h2) = markB k := by
  unfold lentL
  rw [List.getElem_append_right h1]
  rcases Nat.eq_or_lt_of_le h1 with h | h
  · subst h; simp
  · rcases Nat.eq_or_lt_of_le (show l.length + 1 ≤ k by omega) with h' | h'
    · have : k - l.length = 1 := by omega
      simp [h'.symm]
    · have e : k = l.length + 2 := by omega
      subst e
      simp
theorem lentC_next (l : List UInt8) (k : Nat) (h1 : l.length ≤ k) (h2 : k < l.length + 3) (c : Int) (hc : c = ((markB k).toNat : Int)) : (lentC l k).toArray.setIfInBounds k (.int .u8 c) = (lentC l (k + 1)).toArray := by
  subst hc
  have hl : ((lentL l).take k).length = k := by rw [List.length_take, lentL_len]; omega
  have hk : k < (lentL l).length := by rw [lentL_len]; exact h2
  obtain ⟨m, hm⟩ : ∃ m, l.length + 3 - k = m + 1 := ⟨l.length + 2 - k, by omega⟩
  have hm' : l.length + 3 - (k + 1) = m := by omega
  unfold lentC
  rw [hm, hm', List.take_succ_eq_append_getElem hk, lentL_at l k h1 h2, bV_app]
  simp only [reps, List.replicate_succ, List.setIfInBounds_toArray]
  congr 1
  rw [List.set_append_right _ _ (by simp [bV, lentL_len]; omega)]
  simp [bV, lentL_len, Nat.min_eq_left (show k ≤ l.length + 3 by omega)]
def LRel (w : World) (l : List UInt8) (i : Value) (wr : World) : Prop :=
  ∃ k : Nat, l.length ≤ k ∧ k ≤ l.length + 3 ∧ i = .int .i64 (k : Int) ∧ Blk wr w.heap.size 5 (lentC l k).toArray ∧ Ext w wr
theorem mark_val (k : Nat) : (160 + (k : Int) % 90) = ((markB k).toNat : Int) := by
  simp [markB]; omega

set_option maxHeartbeats 400000 in
theorem lent_any (l : List UInt8) (A : Option Addr) (cap : Nat) (w : World) (hr : Reads w w.heap.size 1 A l.length (bV l)) (hm : l.length ≤ 1000000) :
    Calls Try.prog 16 #[.slice A l.length cap] w fun e w' => ∃ g, e = .returned (.slice (some ⟨g, 0, none⟩) l.length (l.length + 3)) ∧ w.heap.size ≤ g ∧ Blk w' g 5 (bV (lentL l)).toArray ∧ Ext w w' := by
  have RR := Lib.hid (fun o1 : Obj => hr.ext ((Ext.refl w).alloc o1))
  have hmk := fun W => row_u8.make rfl (l.length + 3) (by omega) (by omega) W
  rw [show ((l.length + 3 : Nat) : Int) = (l.length : Int) + 3 by omega] at hmk
  clear hr
  go_enter Try.func16, Try.ntmps16
  have HC : ∀ (hp : 0 < (bV l).length), (some ⟨w.heap.size, 0, none⟩ : Option Addr) = some ⟨w.heap.size, 0, none⟩ ∧ ∃ ad, A = some ad ∧ ∀ j v, (bV l)[j]? = some v → (w.alloc (.cells (reps (l.length + 3) (.int .u8 0)).toArray 5)).cell? (ad.add j) = some v := by
    intro hp
    refine ⟨rfl, ?_⟩
    obtain ⟨b, off, rfl, hb, hc⟩ := (RR.out (.cells (reps (l.length + 3) (.int .u8 0)).toArray 5)).2 (by simpa [bV] using hp)
    exact ⟨_, rfl, fun j v hv => by rw [add_flat]; exact hc j v hv⟩
  replace HC := Lib.hid HC
  go_wp2_with (refine wpList_copy_splice rfl (.tmp 9) (.tmp 10) _ _ rfl 5 Try.underlying27 (by kernel_rfl) _ _ _ _ _ _ rfl rfl w.heap.size 0 (reps (l.length + 3) (.int .u8 0)) 5 (Blk.new w _ _) (bV l) (by simp [bV]) HC.out (by simp [bV, reps]) (bV_one l) w.heap.size w ((Ext.refl w).alloc _) (Nat.le_refl _) ?_; intro w1 hB1 hx1)
  rw [lentC_start] at hB1
  clear hmk RR HC
  go_loopw [4] (fun i wr => LRel w l i wr) (fun i _ => l.length + 3 - (intOf i).toNat)
  case atStart => exact ⟨l.length, by omega, by omega, rfl, hB1.out, hx1⟩
  case round =>
    obtain ⟨k, hk1, hk2, rfl, hB, hx⟩ := hrel
    clear hB1 hx1
    by_cases hlt : k < l.length + 3
    · have hd : decide ((k : Int) < (l.length : Int) + 3) = true := by simp; omega
      have hs : (lentC l k).toArray.size = l.length + 3 := by simp [lentC, bV, reps, lentL_len]; omega
      obtain ⟨u, hu⟩ : ∃ u, (lentC l k).toArray[k]? = some u := ⟨_, Array.getElem?_eq_getElem (by omega)⟩
      have q1 : wr.cell? ⟨w.heap.size, k, none⟩ = some u := (hB.cell k).trans hu
      have q2 := hB.frozen k
      have HS := Lib.hid hs
      clear hu hs
      go_wp2_with fail
      go_roundw
      case rel => exact ⟨k + 1, by omega, by omega, by go_num, by rw [← lentC_next l k hk1 hlt _ (mark_val k)]; exact hB.set_ k _, hx.set (Nat.le_refl _) _⟩
      case measure => simp [intOf]; omega
    · have hd : decide ((k : Int) < (l.length : Int) + 3) = false := by simp; omega
      have e : k = l.length + 3 := by omega
      subst e
      rw [lentC_end] at hB
      have HB := Lib.hid hB
      clear hB
      go_wp2_with fail
      go_ret
      exact ⟨_, rfl, Nat.le_refl _, HB.out, hx⟩
end Go.Proofs.Ytehkmngbknbbaaa

set_option linter.unusedVariables false
namespace Go.Proofs.Ytehkmngbknbbaaa
open Go.RowKit

/-- A row that is written over: only its block turns. -/
def ORel (w : World) (g : Nat) (t : TypeId) (n size : Nat) (p : Value → Prop) (i : Value) (wr : World) : Prop :=
  ∃ k : Nat, k ≤ n ∧ i = .int .i64 (k : Int) ∧ w.grownBy wr (some g) ∧ ∃ cs, Blk wr g t cs ∧ cs.size = size ∧ ∀ u ∈ cs.toList, p u

theorem u8_get {cs : Array Value} (h : ∀ u ∈ cs.toList, u8P u) {k : Nat} (hk : k < cs.size) : ∃ m : Int, cs[k]? = some (.int .u8 m) := by
  obtain ⟨m, hm⟩ := h cs[k] (by simp)
  exact ⟨m, by rw [Array.getElem?_eq_getElem hk, hm]⟩
theorem all_set {cs : Array Value} {p : Value → Prop} (h : ∀ u ∈ cs.toList, p u) {k : Nat} {v : Value} (hv : p v) : ∀ u ∈ (cs.setIfInBounds k v).toList, p u := by
  intro u hu
  simp only [Array.toList_setIfInBounds] at hu
  rcases List.mem_or_eq_of_mem_set hu with hu | rfl
  · exact h u hu
  · exact hv

set_option maxHeartbeats 400000 in
theorem overBytes_some (g n cap : Nat) (cs : Array Value) (w : World) (hB : Blk w g 5 cs) (hs : cs.size = cap) (hp : ∀ u ∈ cs.toList, u8P u) (hn : n ≤ cap) (hm : cap ≤ maxLen) :
    Calls Try.prog 25 #[.slice (some ⟨g, 0, none⟩) n cap] w fun e w' => e = .returned (.tuple #[]) ∧ w.grownBy w' (some g) := by
  unfold maxLen at hm
  go_enter Try.func25, Try.ntmps25
  go_wp2
  go_loopw [3] (fun i wr => ORel w g 5 cap cap u8P i wr) (fun i _ => cap - (intOf i).toNat)
  case atStart => exact ⟨0, by omega, rfl, World.grownBy.refl _ _, cs, hB, hs, hp⟩
  case round =>
    obtain ⟨k, hk, rfl, hx, cs1, hB1, hs1, hp1⟩ := hrel
    clear hB hs hp
    by_cases hlt : k < cap
    · have hd : decide ((k : Int) < (cap : Int)) = true := by simp; omega
      obtain ⟨m, hm1⟩ := u8_get hp1 (by omega : k < cs1.size)
      have q1 : wr.cell? ⟨g, k, none⟩ = some (.int .u8 m) := (hB1.cell k).trans hm1
      have q2 := hB1.frozen k
      have HP := Lib.hid hp1
      have HS := Lib.hid hs1
      clear hm1 hp1 hs1
      go_wp2_with fail
      go_roundw
      case rel => exact ⟨k + 1, by omega, by go_num, only_set hx (.inl rfl) _, _, hB1.set_ k _, by simpa using HS.out, all_set HP.out ⟨_, rfl⟩⟩
      case measure => simp [intOf]; omega
    · have hd : decide ((k : Int) < (cap : Int)) = false := by simp; omega
      have HP := Lib.hid hp1
      have HS := Lib.hid hs1
      clear hp1 hs1
      go_wp2_with fail
      go_end0
      exact ⟨rfl, hx⟩
theorem overBytes_nil (w : World) : Calls Try.prog 25 #[.slice none 0 0] w fun e w' => e = .returned (.tuple #[]) ∧ w = w' := by
  go_enter Try.func25, Try.ntmps25
  go_wp2
  go_loopw [3] (fun i wr => i = .int .i64 0 ∧ w = wr) (fun i _ => 0)
  case atStart => exact ⟨rfl, rfl⟩
  case round =>
    obtain ⟨rfl, rfl⟩ := hrel
    go_wp2
    go_end0
    exact ⟨rfl, rfl⟩
theorem overBytes_any {w : World} {base n : Nat} {v : Value} {xs : List Value} (hown : w.ownsRow base 5 1 v n xs) (hall : AllP w v u8P) :
    Calls Try.prog 25 #[v] w fun e w' => e = .returned (.tuple #[]) ∧ w.grownBy w' v.ownBlock := by
  rcases hown.2 with ⟨rfl, rfl⟩ | ⟨g, cap, cur, rfl, _, hh, hnc, hcm, hcs, _⟩
  · exact (overBytes_nil w).mono fun e w' ⟨h1, h2⟩ => ⟨h1, h2 ▸ World.grownBy.refl _ _⟩
  · obtain ⟨cs, t, fr, hc, hp⟩ := hall g rfl
    have hc' := hc
    rw [hh] at hc'
    injection hc' with hc'
    injection hc' with hc' _ _
    subst hc'
    exact overBytes_some g n cap cur w hh (by simpa using hcs) hp hnc hcm

set_option maxHeartbeats 400000 in
theorem overLines_some (g n cap : Nat) (cs : Array Value) (w : World) (hB : Blk w g 110 cs) (hs : cs.size = cap * 2) (hn : n ≤ cap) (hm : cap ≤ maxLen) :
    Calls Try.prog 26 #[.slice (some ⟨g, 0, none⟩) n cap] w fun e w' => e = .returned (.tuple #[]) ∧ w.grownBy w' (some g) := by
  unfold maxLen at hm
  go_enter Try.func26, Try.ntmps26
  go_wp2
  go_loopw [2] (fun i wr => ORel w g 110 n (cap * 2) (fun _ => True) i wr) (fun i _ => n - (intOf i).toNat)
  case atStart => exact ⟨0, by omega, rfl, World.grownBy.refl _ _, cs, hB, hs, fun _ _ => trivial⟩
  case round =>
    obtain ⟨k, hk, rfl, hx, cs1, hB1, hs1, hp1⟩ := hrel
    clear hB hs hp1
    by_cases hlt : k < n
    · have hd : decide ((k : Int) < (n : Int)) = true := by simp; omega
      obtain ⟨u, hu⟩ : ∃ u, cs1[k * 2]? = some u := ⟨_, Array.getElem?_eq_getElem (by omega)⟩
      obtain ⟨u', hu'⟩ : ∃ u, cs1[k * 2 + 1]? = some u := ⟨_, Array.getElem?_eq_getElem (by omega)⟩
      have q1 : wr.cell? ⟨g, k * 2, none⟩ = some u := (hB1.cell _).trans hu
      have q2 := hB1.frozen (k * 2)
      have q3 : wr.cell? ⟨g, k * 2 + 1, none⟩ = some u' := (hB1.cell _).trans hu'
      have q4 := hB1.frozen (k * 2 + 1)
      have HS := Lib.hid hs1
      clear hs1 hu hu'
      go_wp2_with fail
      go_roundw
      case rel => exact ⟨k + 1, by omega, by go_num, only_set (only_set hx (.inl rfl) _) (.inl rfl) _, _, (hB1.set_ _ _).set_ _ _, by simpa using HS.out, fun _ _ => trivial⟩
      case measure => simp [intOf]; omega
    · have hd : decide ((k : Int) < (n : Int)) = false := by simp; omega
      have HS := Lib.hid hs1
      clear hs1
      go_wp2_with fail
      go_end0
      exact ⟨rfl, hx⟩
theorem overLines_nil (w : World) : Calls Try.prog 26 #[.slice none 0 0] w fun e w' => e = .returned (.tuple #[]) ∧ w = w' := by
  go_enter Try.func26, Try.ntmps26
  go_wp2
  go_loopw [2] (fun i wr => i = .int .i64 0 ∧ w = wr) (fun i _ => 0)
  case atStart => exact ⟨rfl, rfl⟩
  case round =>
    obtain ⟨rfl, rfl⟩ := hrel
    go_wp2
    go_end0
    exact ⟨rfl, rfl⟩
theorem overLines_any {w : World} {base n : Nat} {v : Value} {xs : List Value} (hown : w.ownsRow base 110 2 v n xs) :
    Calls Try.prog 26 #[v] w fun e w' => e = .returned (.tuple #[]) ∧ w.grownBy w' v.ownBlock := by
  rcases hown.2 with ⟨rfl, rfl⟩ | ⟨g, cap, cur, rfl, _, hh, hnc, hcm, hcs, _⟩
  · exact (overLines_nil w).mono fun e w' ⟨h1, h2⟩ => ⟨h1, h2 ▸ World.grownBy.refl _ _⟩
  · exact overLines_some g n cap cur w hh hcs hnc hcm

end Go.Proofs.Ytehkmngbknbbaaa

set_option linter.unusedVariables false
namespace Go.Proofs.Ytehkmngbknbbaaa
open Go.RowKit

set_option maxHeartbeats 800000 in
theorem kept_any (l : List UInt8) (g : Nat) (A : Option Addr) (c : Nat) (w : World) (hB : Blk w g 5 (bV (lentL l)).toArray) (hr : Reads w w.heap.size 1 A l.length (bV l)) (hm : l.length ≤ 1000000) :
    Calls Try.prog 27 #[.slice (some ⟨g, 0, none⟩) l.length (l.length + 3), .slice A l.length c] w fun e w' => e = .returned (.bool true) ∧ Ext w w' := by
  have full : ∀ (W : World) (h : Nat), Blk W h 5 (bV (lentL l)).toArray → Reads W W.heap.size 1 (some ⟨h, 0, none⟩) (l.length + 3) (bV (lentL l)) := fun W h hb =>
    ⟨by simp [bV, lentL], fun _ => ⟨h, 0, rfl, hb.lt, fun j u hu => by rw [Nat.zero_add, hb.cell]; simpa using hu⟩⟩
  have F := Lib.hid full
  clear full
  have R := Lib.hid (fun (W : World) (h : Ext w W) => hr.ext h)
  have RB := Lib.hid hB
  clear hr hB
  have a1 : IntKind.i64.wrap ((l.length : Int) + 3) = (l.length : Int) + 3 := by rw [IntKind.wrap_i64]; omega
  have a2 : (0 : Int) ≤ (l.length : Int) + 3 := by omega
  have a3 : ((l.length : Int) + 3).toNat = l.length + 3 := by omega
  have a4 : (l.length : Int) + 3 ≤ ((l.length + 3 : Nat) : Int) := by omega
  go_enter Try.func27, Try.ntmps27
  go_wp2_with fail
  go_region_held3 (fun _ => True) (trivial) (first | (go_at_call 16; refine (lent_any l A c _ (R.out _ (Ext.refl w).drew) hm).mono ?_; rintro e w1 ⟨g2, rfl, hg2, hB2, hx2⟩) | (go_at_call 23; refine (sameBytes_any (lentL l) (lentL l) _ _ _ _ _ _ _ (F.out _ _ (Blk.ext (Blk.drewN RB.out 1) hx2)) (F.out _ _ hB2)).mono ?_; rintro e w2 ⟨rfl, rfl⟩))
  go_wp2_with fail
  go_ret
  exact ⟨rfl, (Ext.refl w).drew.trans hx2⟩
end Go.Proofs.Ytehkmngbknbbaaa
