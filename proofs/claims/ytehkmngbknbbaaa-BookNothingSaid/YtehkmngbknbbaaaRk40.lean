/-
  Written over, kept: the walks.
-/
import Derived.Test.YtehkmngbknbbaaaRk39
import Derived.Deep.RegionHeld3
set_option linter.unusedVariables false
namespace Go.Proofs.Ytehkmngbknbbaaa
open Go.RowKit

/-- A row that is written over: only its block turns. -/
def ORel (w : World) (g : Nat) (t : TypeId) (n size : Nat) (p : Value → Prop) (i : Value) (wr : World) : Prop :=
  ∃ k : Nat, k ≤ n ∧ i = .int .i64 (k : Int) ∧ w.grownBy wr (some g) ∧ ∃ cs, Blk wr g t cs ∧ cs.size = size ∧ ∀ u ∈ cs.toList, p u

theorem u8_get {cs : Array Value} (h : ∀ u ∈ cs.toList, u8P u) {k : Nat} (hk : k < cs.size) : ∃ m : Int, cs[k]? = some (.int .u8 m) := by
  obtain ⟨m, hm⟩ := h cs[k] (by simp)
  exact ⟨m, by rw [Array.getElem?_eq_getElem hk, hm]⟩
theorem all_set {cs : Array Value} {p : Value → Prop} (h : ∀ u ∈ cs.toList, p u) {k : Nat} {v : Value} (hv : p v) : ∀ u ∈ (cs.setIfInBounds k v).toList, p u := by
  intro u hu
  simp only [Array.toList_setIfInBounds] at hu
  rcases List.mem_or_eq_of_mem_set hu with hu | rfl
  · exact h u hu
  · exact hv

set_option maxHeartbeats 400000 in
theorem overBytes_some (g n cap : Nat) (cs : Array Value) (w : World) (hB : Blk w g 5 cs) (hs : cs.size = cap) (hp : ∀ u ∈ cs.toList, u8P u) (hn : n ≤ cap) (hm : cap ≤ maxLen) :
    Calls Try.prog 25 #[.slice (some ⟨g, 0, none⟩) n cap] w fun e w' => e = .returned (.tuple #[]) ∧ w.grownBy w' (some g) := by
  unfold maxLen at hm
  go_enter Try.func25, Try.ntmps25
  go_wp2
  go_loopw [3] (fun i wr => ORel w g 5 cap cap u8P i wr) (fun i _ => cap - (intOf i).toNat)
  case atStart => exact ⟨0, by omega, rfl, World.grownBy.refl _ _, cs, hB, hs, hp⟩
  case round =>
    obtain ⟨k, hk, rfl, hx, cs1, hB1, hs1, hp1⟩ := hrel
    clear hB hs hp
    by_cases hlt : k < cap
    · have hd : decide ((k : Int) < (cap : Int)) = true := by simp; omega
      obtain ⟨m, hm1⟩ := u8_get hp1 (by omega : k < cs1.size)
      have q1 : wr.cell? ⟨g, k, none⟩ = some (.int .u8 m) := (hB1.cell k).trans hm1
      have q2 := hB1.frozen k
      have HP := Lib.hid hp1
      have HS := Lib.hid hs1
      clear hm1 hp1 hs1
      go_wp2_with fail
      go_roundw
      case rel => exact ⟨k + 1, by omega, by go_num, only_set hx (.inl rfl) _, _, hB1.set_ k _, by simpa using HS.out, all_set HP.out ⟨_, rfl⟩⟩
      case measure => simp [intOf]; omega
    · have hd : decide ((k : Int) < (cap : Int)) = false := by simp; omega
      have HP := Lib.hid hp1
      have HS := Lib.hid hs1
      clear hp1 hs1
      go_wp2_with fail
      go_end0
      exact ⟨rfl, hx⟩
theorem overBytes_nil (w : World) : Calls Try.prog 25 #[.slice none 0 0] w fun e w' => e = .returned (.tuple #[]) ∧ w = w' := by
  go_enter Try.func25, Try.ntmps25
  go_wp2
  go_loopw [3] (fun i wr => i = .int .i64 0 ∧ w = wr) (fun i _ => 0)
  case atStart => exact ⟨rfl, rfl⟩
  case round =>
    obtain ⟨rfl, rfl⟩ := hrel
    go_wp2
    go_end0
    exact ⟨rfl, rfl⟩
theorem overBytes_any {w : World} {base n : Nat} {v : Value} {xs : List Value} (hown : w.ownsRow base 5 1 v n xs) (hall : AllP w v u8P) :
    Calls Try.prog 25 #[v] w fun e w' => e = .returned (.tuple #[]) ∧ w.grownBy w' v.ownBlock := by
  rcases hown.2 with ⟨rfl, rfl⟩ | ⟨g, cap, cur, rfl, _, hh, hnc, hcm, hcs, _⟩
  · exact (overBytes_nil w).mono fun e w' ⟨h1, h2⟩ => ⟨h1, h2 ▸ World.grownBy.refl _ _⟩
  · obtain ⟨cs, t, fr, hc, hp⟩ := hall g rfl
    have hc' := hc
    rw [hh] at hc'
    injection hc' with hc'
    injection hc' with hc' _ _
    subst hc'
    exact overBytes_some g n cap cur w hh (by simpa using hcs) hp hnc hcm

set_option maxHeartbeats 400000 in
theorem overLines_some (g n cap : Nat) (cs : Array Value) (w : World) (hB : Blk w g 110 cs) (hs : cs.size = cap * 2) (hn : n ≤ cap) (hm : cap ≤ maxLen) :
    Calls Try.prog 26 #[.slice (some ⟨g, 0, none⟩) n cap] w fun e w' => e = .returned (.tuple #[]) ∧ w.grownBy w' (some g) := by
  unfold maxLen at hm
  go_enter Try.func26, Try.ntmps26
  go_wp2
  go_loopw [2] (fun i wr => ORel w g 110 n (cap * 2) (fun _ => True) i wr) (fun i _ => n - (intOf i).toNat)
  case atStart => exact ⟨0, by omega, rfl, World.grownBy.refl _ _, cs, hB, hs, fun _ _ => trivial⟩
  case round =>
    obtain ⟨k, hk, rfl, hx, cs1, hB1, hs1, hp1⟩ := hrel
    clear hB hs hp1
    by_cases hlt : k < n
    · have hd : decide ((k : Int) < (n : Int)) = true := by simp; omega
      obtain ⟨u, hu⟩ : ∃ u, cs1[k * 2]? = some u := ⟨_, Array.getElem?_eq_getElem (by omega)⟩
      obtain ⟨u', hu'⟩ : ∃ u, cs1[k * 2 + 1]? = some u := ⟨_, Array.getElem?_eq_getElem (by omega)⟩
      have q1 : wr.cell? ⟨g, k * 2, none⟩ = some u := (hB1.cell _).trans hu
      have q2 := hB1.frozen (k * 2)
      have q3 : wr.cell? ⟨g, k * 2 + 1, none⟩ = some u' := (hB1.cell _).trans hu'
      have q4 := hB1.frozen (k * 2 + 1)
      have HS := Lib.hid hs1
      clear hs1 hu hu'
      go_wp2_with fail
      go_roundw
      case rel => exact ⟨k + 1, by omega, by go_num, only_set (only_set hx (.inl rfl) _) (.inl rfl) _, _, (hB1.set_ _ _).set_ _ _, by simpa using HS.out, fun _ _ => trivial⟩
      case measure => simp [intOf]; omega
    · have hd : decide ((k : Int) < (n : Int)) = false := by simp; omega
      have HS := Lib.hid hs1
      clear hs1
      go_wp2_with fail
      go_end0
      exact ⟨rfl, hx⟩
theorem overLines_nil (w : World) : Calls Try.prog 26 #[.slice none 0 0] w fun e w' => e = .returned (.tuple #[]) ∧ w = w' := by
  go_enter Try.func26, Try.ntmps26
  go_wp2
  go_loopw [2] (fun i wr => i = .int .i64 0 ∧ w = wr) (fun i _ => 0)
  case atStart => exact ⟨rfl, rfl⟩
  case round =>
    obtain ⟨rfl, rfl⟩ := hrel
    go_wp2
    go_end0
    exact ⟨rfl, rfl⟩
theorem overLines_any {w : World} {base n : Nat} {v : Value} {xs : List Value} (hown : w.ownsRow base 110 2 v n xs) :
    Calls Try.prog 26 #[v] w fun e w' => e = .returned (.tuple #[]) ∧ w.grownBy w' v.ownBlock := by
  rcases hown.2 with ⟨rfl, rfl⟩ | ⟨g, cap, cur, rfl, _, hh, hnc, hcm, hcs, _⟩
  · exact (overLines_nil w).mono fun e w' ⟨h1, h2⟩ => ⟨h1, h2 ▸ World.grownBy.refl _ _⟩
  · exact overLines_some g n cap cur w hh hcs hnc hcm

end Go.Proofs.Ytehkmngbknbbaaa

set_option linter.unusedVariables false
namespace Go.Proofs.Ytehkmngbknbbaaa
open Go.RowKit

set_option maxHeartbeats 800000 in
theorem kept_any (l : List UInt8) (g : Nat) (A : Option Addr) (c : Nat) (w : World) (hB : Blk w g 5 (bV (lentL l)).toArray) (hr : Reads w w.heap.size 1 A l.length (bV l)) (hm : l.length ≤ 1000000) :
    Calls Try.prog 27 #[.slice (some ⟨g, 0, none⟩) l.length (l.length + 3), .slice A l.length c] w fun e w' => e = .returned (.bool true) ∧ Ext w w' := by
  have full : ∀ (W : World) (h : Nat), Blk W h 5 (bV (lentL l)).toArray → Reads W W.heap.size 1 (some ⟨h, 0, none⟩) (l.length + 3) (bV (lentL l)) := fun W h hb =>
    ⟨by simp [bV, lentL], fun _ => ⟨h, 0, rfl, hb.lt, fun j u hu => by rw [Nat.zero_add, hb.cell]; simpa using hu⟩⟩
  have F := Lib.hid full
  clear full
  have R := Lib.hid (fun (W : World) (h : Ext w W) => hr.ext h)
  have RB := Lib.hid hB
  clear hr hB
  have a1 : IntKind.i64.wrap ((l.length : Int) + 3) = (l.length : Int) + 3 := by rw [IntKind.wrap_i64]; omega
  have a2 : (0 : Int) ≤ (l.length : Int) + 3 := by omega
  have a3 : ((l.length : Int) + 3).toNat = l.length + 3 := by omega
  have a4 : (l.length : Int) + 3 ≤ ((l.length + 3 : Nat) : Int) := by omega
  go_enter Try.func27, Try.ntmps27
  go_wp2_with fail
  go_region_held3 (fun _ => True) (trivial) (first | (go_at_call 16; refine (lent_any l A c _ (R.out _ (Ext.refl w).drew) hm).mono ?_; rintro e w1 ⟨g2, rfl, hg2, hB2, hx2⟩) | (go_at_call 23; refine (sameBytes_any (lentL l) (lentL l) _ _ _ _ _ _ _ (F.out _ _ (Blk.ext (Blk.drewN RB.out 1) hx2)) (F.out _ _ hB2)).mono ?_; rintro e w2 ⟨rfl, rfl⟩))
  go_wp2_with fail
  go_ret
  exact ⟨rfl, (Ext.refl w).drew.trans hx2⟩
end Go.Proofs.Ytehkmngbknbbaaa
