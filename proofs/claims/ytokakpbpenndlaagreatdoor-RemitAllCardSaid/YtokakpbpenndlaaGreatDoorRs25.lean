/-
  The statements' own helpers: lists that are lent, kept, written over.
-/
import Derived.Test.YtokakpbpenndlaaGreatDoorRs05
import Derived.Test.YtokakpbpenndlaaGreatDoorRs08
import Derived.Deep.RegionHeld3
import Derived.Test.YtokakpbpenndlaaGreatDoorRs24
set_option linter.unusedVariables false
namespace Go.Proofs.YtokakpbpenndlaaGreatDoor
open Go.RowKit
def markB (i : Nat) : UInt8 := UInt8.ofNat (160 + i % 90)
def lentL (l : List UInt8) : List UInt8 := l ++ [markB l.length, markB (l.length + 1), markB (l.length + 2)]

def lentC (l : List UInt8) (k : Nat) : List Value := bV ((lentL l).take k) ++ reps (l.length + 3 - k) (.int .u8 0)
theorem lentL_len (l : List UInt8) : (lentL l).length = l.length + 3 := by simp [lentL]
theorem lentC_start (l : List UInt8) : splice (reps (l.length + 3) (.int .u8 0)) 0 (bV l) = lentC l l.length := by
  simp [splice, lentC, lentL, reps, bV]
theorem lentC_end (l : List UInt8) : lentC l (l.length + 3) = bV (lentL l) := by
  rw [lentC, ← lentL_len, List.take_length]; simp [reps]
theorem lentL_at (l : List UInt8) (k : Nat) (h1 : l.length ≤ k) (h2 : k < l.length + 3) : (lentL l)[k]'(by rw [lentL_len]; exact h2) = markB k := by
  unfold lentL
  rw [List.getElem_append_right h1]
  rcases Nat.eq_or_lt_of_le h1 with h | h
  · subst h; simp
  · rcases Nat.eq_or_lt_of_le (show l.length + 1 ≤ k by omega) with h' | h'
    · have : k - l.length = 1 := by omega
      simp [h'.symm]
    · have e : k = l.length + 2 := by omega
      subst e
      simp
theorem lentC_next (l : List UInt8) (k : Nat) (h1 : l.length ≤ k) (h2 : k < l.length + 3) (c : Int) (hc : c = ((markB k).toNat : Int)) : (lentC l k).toArray.setIfInBounds k (.int .u8 c) = (lentC l (k + 1)).toArray := by
  subst hc
  have hl : ((lentL l).take k).length = k := by rw [List.length_take, lentL_len]; omega
  have hk : k < (lentL l).length := by rw [lentL_len]; exact h2
  obtain ⟨m, hm⟩ : ∃ m, l.length + 3 - k = m + 1 := ⟨l.length + 2 - k, by omega⟩
  have hm' : l.length + 3 - (k + 1) = m := by omega
  unfold lentC
  rw [hm, hm', List.take_succ_eq_append_getElem hk, lentL_at l k h1 h2, bV_app]
  simp only [reps, List.replicate_succ, List.setIfInBounds_toArray]
  congr 1
  rw [List.set_append_right _ _ (by simp [bV, lentL_len]; omega)]
  simp [bV, lentL_len, Nat.min_eq_left (show k ≤ l.length + 3 by omega)]
def LRel (w : World) (l : List UInt8) (i : Value) (wr : World) : Prop :=
  ∃ k : Nat, l.length ≤ k ∧ k ≤ l.length + 3 ∧ i = .int .i64 (k : Int) ∧ Blk wr w.heap.size 5 (lentC l k).toArray ∧ Ext w wr
theorem mark_val (k : Nat) : (160 + (k : Int) % 90) = ((markB k).toNat : Int) := by
  simp [markB]; omega

set_option maxHeartbeats 400000 in
theorem lent_any (l : List UInt8) (A : Option Addr) (cap : Nat) (w : World) (hr : Reads w w.heap.size 1 A l.length (bV l)) (hm : l.length ≤ 1000000) :
    Calls Tryz.prog 11 #[.slice A l.length cap] w fun e w' => ∃ g, e = .returned (.slice (some ⟨g, 0, none⟩) l.length (l.length + 3)) ∧ w.heap.size ≤ g ∧ Blk w' g 5 (bV (lentL l)).toArray ∧ Ext w w' := by
  have RR := Lib.hid (fun o1 : Obj => hr.ext ((Ext.refl w).alloc o1))
  have hmk := fun W => row_u8.make rfl (l.length + 3) (by omega) (by omega) W
  rw [show ((l.length + 3 : Nat) : Int) = (l.length : Int) + 3 by omega] at hmk
  clear hr
  go_enter Tryz.func11, Tryz.ntmps11
  have HC : ∀ (hp : 0 < (bV l).length), (some ⟨w.heap.size, 0, none⟩ : Option Addr) = some ⟨w.heap.size, 0, none⟩ ∧ ∃ ad, A = some ad ∧ ∀ j v, (bV l)[j]? = some v → (w.alloc (.cells (reps (l.length + 3) (.int .u8 0)).toArray 5)).cell? (ad.add j) = some v := by
    intro hp
    refine ⟨rfl, ?_⟩
    obtain ⟨b, off, rfl, hb, hc⟩ := (RR.out (.cells (reps (l.length + 3) (.int .u8 0)).toArray 5)).2 (by simpa [bV] using hp)
    exact ⟨_, rfl, fun j v hv => by rw [add_flat]; exact hc j v hv⟩
  replace HC := Lib.hid HC
  go_wp2_with (refine wpList_copy_splice rfl (.tmp 9) (.tmp 10) _ _ rfl 5 Tryz.underlying24 (by kernel_rfl) _ _ _ _ _ _ rfl rfl w.heap.size 0 (reps (l.length + 3) (.int .u8 0)) 5 (Blk.new w _ _) (bV l) (by simp [bV]) HC.out (by simp [bV, reps]) (bV_one l) w.heap.size w ((Ext.refl w).alloc _) (Nat.le_refl _) ?_; intro w1 hB1 hx1)
  rw [lentC_start] at hB1
  clear hmk RR HC
  go_loopw [4] (fun i wr => LRel w l i wr) (fun i _ => l.length + 3 - (intOf i).toNat)
  case atStart => exact ⟨l.length, by omega, by omega, rfl, hB1.out, hx1⟩
  case round =>
    obtain ⟨k, hk1, hk2, rfl, hB, hx⟩ := hrel
    clear hB1 hx1
    by_cases hlt : k < l.length + 3
    · have hd : decide ((k : Int) < (l.length : Int) + 3) = true := by simp; omega
      have hs : (lentC l k).toArray.size = l.length + 3 := by simp [lentC, bV, reps, lentL_len]; omega
      obtain ⟨u, hu⟩ : ∃ u, (lentC l k).toArray[k]? = some u := ⟨_, Array.getElem?_eq_getElem (by omega)⟩
      have q1 : wr.cell? ⟨w.heap.size, k, none⟩ = some u := (hB.cell k).trans hu
      have q2 := hB.frozen k
      have HS := Lib.hid hs
      clear hu hs
      go_wp2_with fail
      go_roundw
      case rel => exact ⟨k + 1, by omega, by omega, by go_num, by rw [← lentC_next l k hk1 hlt _ (mark_val k)]; exact hB.set_ k _, hx.set (Nat.le_refl _) _⟩
      case measure => simp [intOf]; omega
    · have hd : decide ((k : Int) < (l.length : Int) + 3) = false := by simp; omega
      have e : k = l.length + 3 := by omega
      subst e
      rw [lentC_end] at hB
      have HB := Lib.hid hB
      clear hB
      go_wp2_with fail
      go_ret
      exact ⟨_, rfl, Nat.le_refl _, HB.out, hx⟩
end Go.Proofs.YtokakpbpenndlaaGreatDoor

set_option linter.unusedVariables false
namespace Go.Proofs.YtokakpbpenndlaaGreatDoor
open Go.RowKit

/-- A row that is written over: only its block turns. -/
def ORel (w : World) (g : Nat) (t : TypeId) (n size : Nat) (p : Value → Prop) (i : Value) (wr : World) : Prop :=
  ∃ k : Nat, k ≤ n ∧ i = .int .i64 (k : Int) ∧ w.grownBy wr (some g) ∧ ∃ cs, Blk wr g t cs ∧ cs.size = size ∧ ∀ u ∈ cs.toList, p u

theorem u8_get {cs : Array Value} (h : ∀ u ∈ cs.toList, u8P u) {k : Nat} (hk : k < cs.size) : ∃ m : Int, cs[k]? = some (.int .u8 m) := by
  obtain ⟨m, hm⟩ := h cs[k] (by simp)
  exact ⟨m, by rw [Array.getElem?_eq_getElem hk, hm]⟩
theorem all_set {cs : Array Value} {p : Value → Prop} (h : ∀ u ∈ cs.toList, p u) {k : Nat} {v : Value} (hv : p v) : ∀ u ∈ (cs.setIfInBounds k v).toList, p u := by
  intro u hu
  simp only [Array.toList_setIfInBounds] at hu
  rcases List.mem_or_eq_of_mem_set hu with hu | rfl
  · exact h u hu
  · exact hv

set_option maxHeartbeats 400000 in
theorem overBytes_some (g n cap : Nat) (cs : Array Value) (w : World) (hB : Blk w g 5 cs) (hs : cs.size = cap) (hp : ∀ u ∈ cs.toList, u8P u) (hn : n ≤ cap) (hm : cap ≤ maxLen) :
    Calls Tryz.prog 21 #[.slice (some ⟨g, 0, none⟩) n cap] w fun e w' => e = .returned (.tuple #[]) ∧ w.grownBy w' (some g) := by
  unfold maxLen at hm
  go_enter Tryz.func21, Tryz.ntmps21
  go_wp2
  go_loopw [3] (fun i wr => ORel w g 5 cap cap u8P i wr) (fun i _ => cap - (intOf i).toNat)
  case atStart => exact ⟨0, by omega, rfl, World.grownBy.refl _ _, cs, hB, hs, hp⟩
  case round =>
    obtain ⟨k, hk, rfl, hx, cs1, hB1, hs1, hp1⟩ := hrel
    clear hB hs hp
    by_cases hlt : k < cap
    · have hd : decide ((k : Int) < (cap : Int)) = true := by simp; omega
      obtain ⟨m, hm1⟩ := u8_get hp1 (by omega : k < cs1.size)
      have q1 : wr.cell? ⟨g, k, none⟩ = some (.int .u8 m) := (hB1.cell k).trans hm1
      have q2 := hB1.frozen k
      have HP := Lib.hid hp1
      have HS := Lib.hid hs1
      clear hm1 hp1 hs1
      go_wp2_with fail
      go_roundw
      case rel => exact ⟨k + 1, by omega, by go_num, only_set hx (.inl rfl) _, _, hB1.set_ k _, by simpa using HS.out, all_set HP.out ⟨_, rfl⟩⟩
      case measure => simp [intOf]; omega
    · have hd : decide ((k : Int) < (cap : Int)) = false := by simp; omega
      have HP := Lib.hid hp1
      have HS := Lib.hid hs1
      clear hp1 hs1
      go_wp2_with fail
      go_end0
      exact ⟨rfl, hx⟩
theorem overBytes_nil (w : World) : Calls Tryz.prog 21 #[.slice none 0 0] w fun e w' => e = .returned (.tuple #[]) ∧ w = w' := by
  go_enter Tryz.func21, Tryz.ntmps21
  go_wp2
  go_loopw [3] (fun i wr => i = .int .i64 0 ∧ w = wr) (fun i _ => 0)
  case atStart => exact ⟨rfl, rfl⟩
  case round =>
    obtain ⟨rfl, rfl⟩ := hrel
    go_wp2
    go_end0
    exact ⟨rfl, rfl⟩
theorem overBytes_any {w : World} {base n : Nat} {v : Value} {xs : List Value} (hown : w.ownsRow base 5 1 v n xs) (hall : AllP w v u8P) :
    Calls Tryz.prog 21 #[v] w fun e w' => e = .returned (.tuple #[]) ∧ w.grownBy w' v.ownBlock := by
  rcases hown.2 with ⟨rfl, rfl⟩ | ⟨g, cap, cur, rfl, _, hh, hnc, hcm, hcs, _⟩
  · exact (overBytes_nil w).mono fun e w' ⟨h1, h2⟩ => ⟨h1, h2 ▸ World.grownBy.refl _ _⟩
  · obtain ⟨cs, t, fr, hc, hp⟩ := hall g rfl
    have hc' := hc
    rw [hh] at hc'
    injection hc' with hc'
    injection hc' with hc' _ _
    subst hc'
    exact overBytes_some g n cap cur w hh (by simpa using hcs) hp hnc hcm

end Go.Proofs.YtokakpbpenndlaaGreatDoor

set_option linter.unusedVariables false
namespace Go.Proofs.YtokakpbpenndlaaGreatDoor
open Go.RowKit

set_option maxHeartbeats 800000 in
theorem kept_any (l : List UInt8) (g : Nat) (A : Option Addr) (c : Nat) (w : World) (hB : Blk w g 5 (bV (lentL l)).toArray) (hr : Reads w w.heap.size 1 A l.length (bV l)) (hm : l.length ≤ 1000000) :
    Calls Tryz.prog 22 #[.slice (some ⟨g, 0, none⟩) l.length (l.length + 3), .slice A l.length c] w fun e w' => e = .returned (.bool true) ∧ Ext w w' := by
  have full : ∀ (W : World) (h : Nat), Blk W h 5 (bV (lentL l)).toArray → Reads W W.heap.size 1 (some ⟨h, 0, none⟩) (l.length + 3) (bV (lentL l)) := fun W h hb =>
    ⟨by simp [bV, lentL], fun _ => ⟨h, 0, rfl, hb.lt, fun j u hu => by rw [Nat.zero_add, hb.cell]; simpa using hu⟩⟩
  have F := Lib.hid full
  clear full
  have R := Lib.hid (fun (W : World) (h : Ext w W) => hr.ext h)
  have RB := Lib.hid hB
  clear hr hB
  have a1 : IntKind.i64.wrap ((l.length : Int) + 3) = (l.length : Int) + 3 := by rw [IntKind.wrap_i64]; omega
  have a2 : (0 : Int) ≤ (l.length : Int) + 3 := by omega
  have a3 : ((l.length : Int) + 3).toNat = l.length + 3 := by omega
  have a4 : (l.length : Int) + 3 ≤ ((l.length + 3 : Nat) : Int) := by omega
  go_enter Tryz.func22, Tryz.ntmps22
  go_wp2_with fail
  go_region_held3 (fun _ => True) (trivial) (first | (go_at_call 11; refine (lent_any l A c _ (R.out _ (Ext.refl w).drew) hm).mono ?_; rintro e w1 ⟨g2, rfl, hg2, hB2, hx2⟩) | (go_at_call 20; refine (sameBytes_any (lentL l) (lentL l) _ _ _ _ _ _ _ (F.out _ _ (Blk.ext (Blk.drewN RB.out 1) hx2)) (F.out _ _ hB2)).mono ?_; rintro e w2 ⟨rfl, rfl⟩))
  go_wp2_with fail
  go_ret
  exact ⟨rfl, (Ext.refl w).drew.trans hx2⟩
end Go.Proofs.YtokakpbpenndlaaGreatDoor

set_option linter.unusedVariables false
namespace Go.Proofs.YtokakpbpenndlaaGreatDoor
open Go.RowKit

/-- Block g is a reader of the program that stands as s. -/
structure RdO (w : World) (g : Nat) (s : RS) : Prop where
  ex : ∃ A cap, Blk w g 173 #[.slice A s.b.length cap, .int .i64 (s.at_ : Int), .int .i64 s.fe, .int .i64 (s.fa : Int), .bool true] ∧ Reads w g 1 A s.b.length (bV s.b) ∧ s.b.length ≤ cap ∧ cap ≤ maxLen
  ok : s.ok
theorem RdO.lt {w : World} {g : Nat} {s : RS} (h : RdO w g s) : g < w.heap.size := by obtain ⟨A, cap, hB, _⟩ := h.ex; exact hB.lt
theorem RdO.ext {w w' : World} {g : Nat} {s : RS} (h : RdO w g s) (hx : Ext w w') : RdO w' g s := by
  obtain ⟨A, cap, hB, hr, hc, hm⟩ := h.ex
  exact ⟨⟨A, cap, hB.ext hx, hr.extB (Nat.le_of_lt hB.lt) hx, hc, hm⟩, h.ok⟩

/-- The fault of a number that was read. -/
def RS.flt (s : RS) (lo hi above : Int) : Int × Nat :=
  if (getN s.b s.at_).fe ≠ 0 then ((getN s.b s.at_).fe, (getN s.b s.at_).fa) else if hi < (getN s.b s.at_).n then (above, s.at_) else if (getN s.b s.at_).n < lo then (5, s.at_) else (0, 0)

theorem oget_t (b : List UInt8) (A : Option Addr) (cap at_ : Nat) (w : World) (G : Got) (hG : Hid (getN b at_ = G)) (hr : Reads w w.heap.size 1 A b.length (bV b)) (hc : b.length ≤ cap) (hm : cap ≤ maxLen) (ha : at_ ≤ b.length) :
    Calls Tryz.prog 135 #[.slice A b.length cap, .int .i64 (at_ : Int)] w fun e w' => e = .returned (.tuple #[.int .i64 G.n, .int .i64 (G.next : Int), .agg #[.int .i64 G.fe, .int .i64 (G.fa : Int)]]) ∧ Ext w w' :=
  (oget_all b A cap at_ w hr hc hm ha).mono fun e w' ⟨h1, h2⟩ => ⟨by rw [h1, hG.out]; rfl, h2⟩
theorem rget_t (b : List UInt8) (A : Option Addr) (cap at_ : Nat) (w : World) (G : Got) (hG : Hid (getN b at_ = G)) (hr : Reads w w.heap.size 1 A b.length (bV b)) (hc : b.length ≤ cap) (hm : cap ≤ maxLen) (ha : at_ ≤ b.length) :
    Calls Tryz.prog 99 #[.slice A b.length cap, .int .i64 (at_ : Int)] w fun e w' => e = .returned (.tuple #[.int .i64 G.n, .int .i64 (G.next : Int), .agg #[.int .i64 G.fe, .int .i64 (G.fa : Int)]]) ∧ Ext w w' :=
  (rget_any b A cap at_ w hr hc hm ha).mono fun e w' ⟨h1, h2⟩ => ⟨by rw [h1, hG.out]; rfl, h2⟩

theorem al_some {w : World} {a : Addr} {v : Value} (h : w.cell? a = some v) (o : Obj) : (w.alloc o).cell? a = some v := (World.cell?_alloc_some w a o (by rw [h]; rfl)).trans h
theorem st_some {w : World} {a : Addr} {v u : Value} {o : Obj} {i : Nat} (h : w.cell? a = some v) : ((w.alloc o).setCell ⟨w.heap.size, i, none⟩ u).cell? a = some v :=
  (World.cell?_setCell_far _ _ _ _ (Nat.ne_of_gt (World.block_lt_of_cell? w _ h))).trans (al_some h o)
theorem st_some2 {w : World} {a : Addr} {v u u' : Value} {o : Obj} {i j : Nat} (h : w.cell? a = some v) : (((w.alloc o).setCell ⟨w.heap.size, i, none⟩ u).setCell ⟨w.heap.size, j, none⟩ u').cell? a = some v :=
  (World.cell?_setCell_far _ _ _ _ (Nat.ne_of_gt (World.block_lt_of_cell? w _ h))).trans (st_some h)
theorem set_some2 {w : World} {b i n j j' : Nat} {v u u' : Value} (h : w.cell? ⟨b, i, none⟩ = some v) (hne : b < n) : ((w.setCell ⟨n, j, none⟩ u).setCell ⟨n, j', none⟩ u').cell? ⟨b, i, none⟩ = some v :=
  (World.cell?_setCell_far _ _ _ _ (Nat.ne_of_gt hne)).trans ((World.cell?_setCell_far _ _ _ _ (Nat.ne_of_gt hne)).trans h)

set_option maxRecDepth 100000 in
set_option maxHeartbeats 4000000 in
theorem onum1_any (s : RS) (lo hi above : Int) (g br bh ba bl : Nat) (w : World) (h : RdO w g s)
    (c0 : w.cell? ⟨br, 0, none⟩ = some (.pointer (some ⟨g, 0, none⟩))) (c1 : w.cell? ⟨bh, 0, none⟩ = some (.int .i64 hi)) (c2 : w.cell? ⟨ba, 0, none⟩ = some (.int .i64 above)) (c3 : w.cell? ⟨bl, 0, none⟩ = some (.int .i64 lo)) :
    Calls Tryz.prog 134 #[.pointer (some ⟨br, 0, none⟩), .pointer (some ⟨bh, 0, none⟩), .pointer (some ⟨ba, 0, none⟩), .pointer (some ⟨bl, 0, none⟩)] w fun e w' =>
      e = .returned (.tuple #[.int .i64 (getN s.b s.at_).n, .int .i64 ((getN s.b s.at_).next : Int), .agg #[.int .i64 (s.flt lo hi above).1, .int .i64 ((s.flt lo hi above).2 : Int)]]) ∧ Ext w w' := by
  have hg := h.lt
  have z0 := World.block_lt_of_cell? w _ c0
  have z1 := World.block_lt_of_cell? w _ c1
  have z2 := World.block_lt_of_cell? w _ c2
  have z3 := World.block_lt_of_cell? w _ c3
  simp only at z0 z1 z2 z3
  obtain ⟨A, cap, hB, hr, hc, hm⟩ := h.ex
  have hok := h.ok.1
  have d0 : w.cell? ⟨g, 0, none⟩ = some (.slice A s.b.length cap) := hB.cell 0
  have d1 : w.cell? ⟨g, 1, none⟩ = some (.int .i64 (s.at_ : Int)) := hB.cell 1
  have RR := Lib.hid (fun (W : World) (hx : Ext w W) => (hr.more (Nat.le_of_lt hB.lt)).ext hx)
  clear hr hB h
  generalize hG : getN s.b s.at_ = G
  have HG := Lib.hid hG
  clear hG
  go_enter Tryz.func134, Tryz.ntmps134
  go_wp2_with fail
  go_region_held3 (fun w' => w'.cell? ⟨br, 0, none⟩ = some (.pointer (some ⟨g, 0, none⟩)) ∧ w'.cell? ⟨g, 0, none⟩ = some (.slice A s.b.length cap) ∧ w'.cell? ⟨g, 1, none⟩ = some (.int .i64 (s.at_ : Int))) (first | (exact ⟨k0, k4, k5⟩) | (exact ⟨al_some k0 _, al_some k4 _, al_some k5 _⟩) | (exact ⟨st_some2 k0, st_some2 k4, st_some2 k5⟩) | (exact ⟨set_some2 k0 (by omega), set_some2 k4 (by omega), set_some2 k5 (by omega)⟩) | (simp [go_sem, *]; done)) (first | (go_at_call 135; refine (oget_t s.b A cap s.at_ _ G HG (RR.out _ ((Ext.refl w).alloc _).drew) hc hm hok).mono ?_; rintro e w1 ⟨rfl, hx1⟩; have X1 := (((Ext.refl w).alloc _).drew).trans hx1; have B6 : Blk w1 w.heap.size 100 #[.int .i64 0, .int .i64 0] := Blk.ext (w := (w.alloc (.cells #[.int .i64 0, .int .i64 0] 100)).drew) (Blk.new w _ _) hx1; have k0 := (X1.cell br 0 none z0).trans c0; have k1 := (X1.cell bh 0 none z1).trans c1; have k2 := (X1.cell ba 0 none z2).trans c2; have k3 := (X1.cell bl 0 none z3).trans c3; have k4 := (X1.cell g 0 none hg).trans d0; have k5 := (X1.cell g 1 none hg).trans d1) | (go_at_call 135; refine (oget_t s.b A cap s.at_ _ G HG (RR.out _ (((Ext.refl w).alloc _).alloc _).drew) hc hm hok).mono ?_; rintro e w1 ⟨rfl, hx1⟩; have X1 := ((((Ext.refl w).alloc _).alloc _).drew).trans hx1; have B6 : Blk w1 w.heap.size 100 #[.int .i64 0, .int .i64 0] := Blk.ext (w := ((w.alloc (.cells #[.int .i64 0, .int .i64 0] 100)).alloc (.cells #[.int .i64 0, .int .i64 0] 100)).drew) ((Blk.new w _ _).alloc _) hx1; have B9 : Blk w1 (w.heap.size + 1) 100 #[.int .i64 0, .int .i64 0] := by { have := Blk.ext (w := ((w.alloc (.cells #[.int .i64 0, .int .i64 0] 100)).alloc (.cells #[.int .i64 0, .int .i64 0] 100)).drew) (Blk.new (w.alloc (.cells #[.int .i64 0, .int .i64 0] 100)) 100 #[.int .i64 0, .int .i64 0]) hx1; simpa using this }; obtain ⟨q9, q9'⟩ := B9.cells; have k0 := (X1.cell br 0 none z0).trans c0; have k1 := (X1.cell bh 0 none z1).trans c1; have k2 := (X1.cell ba 0 none z2).trans c2; have k3 := (X1.cell bl 0 none z3).trans c3; have k4 := (X1.cell g 0 none hg).trans d0; have k5 := (X1.cell g 1 none hg).trans d1))
  case' refine_2.refine_3.refine_3.refine_3.refine_3.refine_3.refine_3.refine_3.refine_3.refine_1.refine_2.refine_3.refine_3.refine_3.refine_3.refine_1.refine_2.refine_3.refine_3.refine_1.refine_2 =>
    replace B6 : Blk (w1.alloc (Obj.cells #[.int .i64 G.fe, .int .i64 (G.fa : Int)] 100)) w.heap.size 100 #[.int .i64 0, .int .i64 0] := B6.alloc _
    have B9 := Blk.new w1 100 #[.int .i64 G.fe, .int .i64 (G.fa : Int)]
    replace X1 := X1.alloc (Obj.cells #[.int .i64 G.fe, .int .i64 (G.fa : Int)] 100)
    have hn9 : w.heap.size < w1.heap.size := by have := hx1.size; simp at this; omega
    generalize w1.heap.size = n9 at *
    generalize w1.alloc (Obj.cells #[.int .i64 G.fe, .int .i64 (G.fa : Int)] 100) = wz at *
  case' refine_2.refine_3.refine_3.refine_3.refine_3.refine_3.refine_3.refine_3.refine_3.refine_2.refine_1.refine_2.refine_1.refine_2.refine_3.refine_3.refine_3.refine_3.refine_3.refine_3.refine_1.refine_2 =>
    replace B6 : Blk ((w1.setCell ⟨w.heap.size + 1, 0, none⟩ (.int .i64 G.fe)).setCell ⟨w.heap.size + 1, 1, none⟩ (.int .i64 (G.fa : Int))) w.heap.size 100 #[.int .i64 0, .int .i64 0] := (B6.far (by simp) _).far (by simp) _
    replace B9 := fault_set B9 (.int .i64 G.fe) (.int .i64 (G.fa : Int))
    replace X1 := (X1.set (p := ⟨w.heap.size + 1, 0, none⟩) (by simp) (.int .i64 G.fe)).set (p := ⟨w.heap.size + 1, 1, none⟩) (by simp) (.int .i64 (G.fa : Int))
    have hn9 : w.heap.size < w.heap.size + 1 := by omega
    clear q9 q9'
    generalize w.heap.size + 1 = n9 at *
    generalize ((w1.setCell ⟨n9, 0, none⟩ (.int .i64 G.fe)).setCell ⟨n9, 1, none⟩ (.int .i64 (G.fa : Int))) = wz at *
  all_goals
    clear hx1 k0 k1 k2 k3 k4 k5
    have k0 := (X1.cell br 0 none z0).trans c0
    have k1 := (X1.cell bh 0 none z1).trans c1
    have k2 := (X1.cell ba 0 none z2).trans c2
    have k3 := (X1.cell bl 0 none z3).trans c3
    have k4 := (X1.cell g 0 none hg).trans d0
    have k5 := (X1.cell g 1 none hg).trans d1
    obtain ⟨q9, q9'⟩ := B9.cells
    obtain ⟨q6, q6'⟩ := B6.cells
    have HF : Hid (s.flt lo hi above = if G.fe ≠ 0 then (G.fe, G.fa) else if hi < G.n then (above, s.at_) else if G.n < lo then (5, s.at_) else (0, 0)) := Lib.hid (by unfold RS.flt; rw [HG.out])
    have HG' := Lib.hid (show (G.fe = 0 → G.fa = 0) from fun h0 => by rw [← HG.out] at h0 ⊢; exact getGo_ok _ _ _ _ h0)
    go_wp2_with (go_at_call 98; refine (ofault_any _ _ _).mono ?_; rintro e w2 ⟨rfl, hx2⟩; obtain ⟨q9, q9'⟩ := (B9.ext hx2).cells; obtain ⟨q6, q6'⟩ := (B6.ext hx2).cells)
    · go_region
      go_wp2_with fail
      refine bodyPost_ret (results_ttc rfl rfl (ld_fault (show Blk _ _ _ _ from fault_set B6 _ _))) rfl ⟨?_, ?_⟩
      · rw [HF.out, if_pos (by have := ‹(G.fe != 0) = true›; simpa using this)]; rfl
      · exact ((X1.set (Nat.le_refl _) _).set (Nat.le_refl _) _).drew
    · have h1 : ¬ G.fe ≠ 0 := by have := ‹(G.fe != 0) = false›; simpa using this
      have h2 : hi < G.n := by assumption
      go_region_held3 (fun w' => w'.cell? ⟨br, 0, none⟩ = some (.pointer (some ⟨g, 0, none⟩)) ∧ w'.cell? ⟨g, 1, none⟩ = some (.int .i64 (s.at_ : Int)) ∧ w'.cell? ⟨ba, 0, none⟩ = some (.int .i64 above)) (first | (exact ⟨k0, k5, k2⟩) | (exact ⟨r0, r1, r2⟩) | (exact ⟨set_some2 r0 (by omega), set_some2 r1 (by omega), set_some2 r2 (by omega)⟩) | (simp [go_sem, *]; done)) (first | (go_at_call 98; refine (ofault_any _ _ _).mono ?_; rintro e w2 ⟨rfl, hx2⟩; have X2 := X1.trans (Ext.trans ((Ext.refl wz).drew) hx2); have Z9 := Blk.ext (w := wz.drew) B9 hx2; have Z6 := Blk.ext (w := wz.drew) B6 hx2; obtain ⟨q9, q9'⟩ := Z9.cells; obtain ⟨q6, q6'⟩ := Z6.cells; have r0 := (X2.cell br 0 none z0).trans c0; have r1 := (X2.cell g 1 none hg).trans d1; have r2 := (X2.cell ba 0 none z2).trans c2))
      go_wp2_with fail
      go_region
      go_wp2_with fail
      refine bodyPost_ret (results_ttc rfl rfl (ld_fault (show Blk _ _ _ _ from fault_set ((Z6.far (Nat.ne_of_lt hn9) _).far (Nat.ne_of_lt hn9) _) _ _))) rfl ⟨?_, ?_⟩
      · rw [HF.out, if_neg h1, if_pos h2]; rfl
      · exact ((((X2.set (Nat.le_of_lt hn9) _).set (Nat.le_of_lt hn9) _).set (Nat.le_refl _) _).set (Nat.le_refl _) _).drew
    · have h1 : ¬ G.fe ≠ 0 := by have := ‹(G.fe != 0) = false›; simpa using this
      have h2 : ¬ hi < G.n := Int.not_lt.2 (by assumption)
      have h3 : G.n < lo := by assumption
      go_region
      go_wp2_with fail
      refine bodyPost_ret (results_ttc rfl rfl (ld_fault (show Blk _ _ _ _ from fault_set (((B6.ext hx2).far (Nat.ne_of_lt hn9) _).far (Nat.ne_of_lt hn9) _) _ _))) rfl ⟨?_, ?_⟩
      · rw [HF.out, if_neg h1, if_neg (Int.not_lt.2 h2), if_pos h3]; rfl
      · exact (((((X1.trans hx2).set (Nat.le_of_lt hn9) _).set (Nat.le_of_lt hn9) _).set (Nat.le_refl _) _).set (Nat.le_refl _) _).drew
    · have h1 : ¬ G.fe ≠ 0 := by have := ‹(G.fe != 0) = false›; simpa using this
      have h2 : ¬ hi < G.n := Int.not_lt.2 (by assumption)
      have h3 : ¬ G.n < lo := Int.not_lt.2 (by assumption)
      go_region
      go_wp2_with fail
      refine bodyPost_ret (results_ttc rfl rfl (ld_fault (show Blk _ _ _ _ from fault_set B6 _ _))) rfl ⟨?_, ?_⟩
      · rw [HF.out, if_neg h1, if_neg (Int.not_lt.2 h2), if_neg (Int.not_lt.2 h3)]
        have h4 : G.fe = 0 := by simpa using h1
        rw [HG'.out h4, h4]; rfl
      · exact ((X1.set (Nat.le_refl _) _).set (Nat.le_refl _) _).drew
end Go.Proofs.YtokakpbpenndlaaGreatDoor
