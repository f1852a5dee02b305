/-
  Openers: jurisdictions with their rings. apportionkit.BigJuris.
-/
import Derived.Test.YtokakpbpenndlaaGreatDoorRr20
import Derived.Test.YtokakpbpenndlaaGreatDoorRr32
import Derived.Deep.DeepCutAuto
import Derived.Test.YtokakpbpenndlaaGreatDoorRr17
import Derived.Test.YtokakpbpenndlaaGreatDoorRr15
import Derived.Test.YtokakpbpenndlaaGreatDoorRr40
set_option linter.unusedVariables false
namespace Go.Proofs.YtokakpbpenndlaaGreatDoor
open Go.RowKit

/-- A ring in memory. -/
structure Ring where
  A : Option Addr
  c : Nat
  pts : List (Int × Int)
def ptC (p : Int × Int) : List Value := [.int .i64 p.1, .int .i64 p.2]
def ptCells (l : List (Int × Int)) : List Value := l.flatMap ptC
def Ring.cl (r : Ring) : List Value := [.slice r.A r.pts.length r.c]
def ringCells (l : List Ring) : List Value := l.flatMap Ring.cl
structure Ring.ok (w : World) (r : Ring) : Prop where
  l1 : r.pts.length ≤ r.c
  l2 : r.c ≤ maxLen
  pi : ∀ p ∈ r.pts, i64 p.1 ∧ i64 p.2
  rd : Reads w w.heap.size 2 r.A r.pts.length (ptCells r.pts)
theorem Ring.ok.ext {w w' : World} {r : Ring} (h : r.ok w) (hx : Ext w w') : r.ok w' := ⟨h.l1, h.l2, h.pi, h.rd.ext hx⟩
/-- A jurisdiction in memory, with its rings. -/
structure JX where
  j : Jur
  A : Option Addr
  c : Nat
  rings : List Ring
def JX.jv (x : JX) : JV := ⟨x.j, x.A, x.rings.length, x.c⟩
def jvs (l : List JX) : List JV := l.map JX.jv
theorem jvs_len (l : List JX) : (jvs l).length = l.length := by simp [jvs]
structure JX.ok (w : World) (x : JX) : Prop where
  l1 : x.rings.length ≤ x.c
  l2 : x.c ≤ maxLen
  i1 : i64 x.j.id
  i2 : i64 x.j.k
  i3 : i64 x.j.par
  i4 : i64 x.j.f
  ro : ∀ r ∈ x.rings, r.ok w
  rd : Reads w w.heap.size 1 x.A x.rings.length (ringCells x.rings)
theorem JX.ok.ext {w w' : World} {x : JX} (h : x.ok w) (hx : Ext w w') : x.ok w' := ⟨h.l1, h.l2, h.i1, h.i2, h.i3, h.i4, fun r hr => (h.ro r hr).ext hx, h.rd.ext hx⟩
theorem opens_points : Opens Tryz.prog 108 (fun w cs => ∃ r : Ring, cs = r.cl ∧ r.ok w) :=
  (opens_slice 2 Tryz.underlying108 (by kernel_rfl) (by decide) opens_point).mono fun w cs h => by
    obtain ⟨A, cap, l, h1, h2, h3, hp, h4⟩ := SliceOf.list (code := ptC) (p := fun p => i64 p.1 ∧ i64 p.2) h (fun x ⟨a, b, hb, h1, h2⟩ => ⟨(a, b), hb, h1, h2⟩)
    exact ⟨⟨A, cap, l⟩, h1, h2, h3, hp, h4⟩
theorem opens_rings : Opens Tryz.prog 79 (fun w cs => ∃ (A : Option Addr) (cap : Nat) (l : List Ring), cs = [.slice A l.length cap] ∧ l.length ≤ cap ∧ cap ≤ maxLen ∧ (∀ r ∈ l, r.ok w) ∧ Reads w w.heap.size 1 A l.length (ringCells l)) :=
  (opens_slice 1 Tryz.underlying79 (by kernel_rfl) (by decide) opens_points).mono fun w cs h =>
    SliceOf.list (code := Ring.cl) (p := fun r => r.ok w) h (fun x ⟨l, hl, hp⟩ => ⟨l, hl, hp⟩)
theorem opens_region : Opens Tryz.prog 81 (fun w cs => ∃ (A : Option Addr) (cap : Nat) (l : List Ring), cs = [.slice A l.length cap] ∧ l.length ≤ cap ∧ cap ≤ maxLen ∧ (∀ r ∈ l, r.ok w) ∧ Reads w w.heap.size 1 A l.length (ringCells l)) :=
  (opens_fields Tryz.underlying81 (.cons 1 opens_rings (by kernel_rfl) .nil) (by kernel_rfl)).mono fun w cs h => by
    obtain ⟨_, _, rfl, _, ⟨A, cap, l, rfl, h1⟩, rfl⟩ := h
    exact ⟨A, cap, l, rfl, h1⟩
theorem opens_jur : Opens Tryz.prog 83 (fun w cs => ∃ x : JX, cs = x.jv.cl ∧ x.ok w) :=
  (opens_fields Tryz.underlying83 (.cons 1 opens_i (by kernel_rfl) (.cons 1 opens_i (by kernel_rfl) (.cons 1 opens_i (by kernel_rfl) (.cons 1 opens_i (by kernel_rfl) (.cons 1 opens_region (by kernel_rfl) .nil))))) (by kernel_rfl)).mono fun w cs h => by
    obtain ⟨_, _, rfl, _, ⟨a, rfl, h1⟩, _, _, rfl, _, ⟨b, rfl, h2⟩, _, _, rfl, _, ⟨c, rfl, h3⟩, _, _, rfl, _, ⟨d, rfl, h4⟩, _, _, rfl, _, ⟨A, cap, l, rfl, l1, l2, l3, l4⟩, rfl⟩ := h
    exact ⟨⟨⟨a, b, c, d⟩, A, cap, l⟩, rfl, ⟨l1, l2, h1, h2, h3, h4, l3, l4⟩⟩
theorem opens_juris : Opens Tryz.prog 39 (fun w cs => ∃ (A : Option Addr) (cap : Nat) (l : List JX), cs = [.slice A l.length cap] ∧ l.length ≤ cap ∧ cap ≤ maxLen ∧ (∀ x ∈ l, x.ok w) ∧ Reads w w.heap.size 5 A l.length (jvCells (jvs l))) :=
  (opens_slice 5 Tryz.underlying39 (by kernel_rfl) (by decide) opens_jur).mono fun w cs h => by
    obtain ⟨A, cap, l, h1, h2, h3, hp, h4⟩ := SliceOf.list (code := fun x : JX => x.jv.cl) (p := fun x => x.ok w) h (fun x ⟨l, hl, hp⟩ => ⟨l, hl, hp⟩)
    refine ⟨A, cap, l, h1, h2, h3, hp, ?_⟩
    unfold jvCells jvs
    rw [List.flatMap_map]
    exact h4
/-- The cells of the k-th jurisdiction. -/
theorem jx_at {w : World} {A : Option Addr} {l : List JX} (hr : Reads w w.heap.size 5 A l.length (jvCells (jvs l))) {k : Nat} (hk : k < l.length) : ∃ g off, A = some ⟨g, off, none⟩ ∧ g < w.heap.size ∧ ∀ W, Ext w W →
    W.cell? ⟨g, off + k * 5, none⟩ = some (.int .i64 l[k].j.id) ∧ W.cell? ⟨g, off + k * 5 + 1, none⟩ = some (.int .i64 l[k].j.k) ∧ W.cell? ⟨g, off + k * 5 + 2, none⟩ = some (.int .i64 l[k].j.par) ∧
    W.cell? ⟨g, off + k * 5 + 3, none⟩ = some (.int .i64 l[k].j.f) ∧ W.cell? ⟨g, off + k * 5 + 4, none⟩ = some (.slice l[k].A l[k].rings.length l[k].c) := by
  have hk' : k < (jvs l).length := by rw [jvs_len]; exact hk
  rw [← jvs_len l] at hr
  have e : (jvs l)[k] = l[k].jv := by simp [jvs]
  have := jv_at hr hk'
  rw [e] at this
  exact this
theorem ring_at {w : World} {B : Nat} {A : Option Addr} {l : List Ring} (hr : Reads w B 1 A l.length (ringCells l)) {k : Nat} (hk : k < l.length) : ∃ g off, A = some ⟨g, off, none⟩ ∧ g < B ∧ w.cell? ⟨g, off + k, none⟩ = some (.slice l[k].A l[k].pts.length l[k].c) := by
  obtain ⟨g, off, rfl, hg, hc⟩ := hr.cellAt hk
  refine ⟨g, off, rfl, hg, hc _ _ ?_⟩
  have := flat_get (f := Ring.cl) (c := 1) (fun _ => rfl) l k 0 hk (by decide)
  simpa [ringCells, Ring.cl] using this
def BigP (n : Nat) (most : Int) (w : World) (e : Ending) (w' : World) : Prop := ∃ b : Bool, e = .returned (.bool b) ∧ (b = false → (n : Int) ≤ most) ∧ w = w'
def BjRel (n : Nat) (i v5 : Value) : Prop := ∃ (k : Nat) (V : Int), k ≤ n ∧ i = .int .i64 (k : Int) ∧ v5 = .int .i64 V
set_option maxRecDepth 100000 in
set_option maxHeartbeats 2000000 in
theorem bigJuris_any (l : List JX) (A : Option Addr) (cap : Nat) (most : Int) (w : World) (hr : Reads w w.heap.size 5 A l.length (jvCells (jvs l))) (hm : l.length ≤ maxLen) (hok : ∀ x ∈ l, x.ok w) (hmost : 0 ≤ most) :
    Calls Tryz.prog 24 #[.slice A l.length cap, .int .i64 most] w (BigP l.length most w) := by
  have HOK := Lib.hid hok
  unfold maxLen at hm
  clear hok
  go_enter Tryz.func24, Tryz.ntmps24
  go_wp2_with fail
  go_loop [6, 5] (fun i v5 => BjRel l.length i v5) (fun i _ => l.length - (intOf i).toNat)
  case atStart => exact ⟨0, 0, by omega, rfl, rfl⟩
  case round =>
    obtain ⟨k, V, hk, rfl, rfl⟩ := hrel
    by_cases hlt : k < l.length
    · have hd : decide ((k : Int) < (l.length : Int)) = true := by simp; omega
      by_cases hV : V ≤ 400
      · have hdV : decide (V ≤ 400) = true := by simpa using hV
        obtain ⟨g, off, rfl, hg, hc⟩ := jx_at hr hlt
        obtain ⟨c1, c2, c3, c4, c5⟩ := hc w (Ext.refl w)
        have kl : (k : Int) < (l.length : Int) := by omega
        have kz : (0 : Int) ≤ (k : Int) := by omega
        have hx := HOK.out l[k] (List.getElem_mem hlt)
        have hrd := hx.rd
        have hrl : l[k].rings.length ≤ 9223372036854775807 := by have := hx.l1; have := hx.l2; unfold maxLen at this; omega
        clear hc c1 c2 c3 c4 hx
        generalize l[k] = x at *
        go_wp2_with fail
        go_loop [7, 5] (fun i v5 => BjRel x.rings.length i v5) (fun i _ => x.rings.length - (intOf i).toNat)
        case atStart => exact ⟨0, V, by omega, rfl, rfl⟩
        case round =>
          obtain ⟨q, U, hq, rfl, rfl⟩ := hrel
          by_cases hlq : q < x.rings.length
          · have hdq : decide ((q : Int) < (x.rings.length : Int)) = true := by simp; omega
            by_cases hU : U ≤ 400
            · have hdU : decide (U ≤ 400) = true := by simpa using hU
              obtain ⟨g2, o2, hA2, hg2, cr⟩ := ring_at hrd hlq
              rw [hA2] at c5
              have ql : (q : Int) < (x.rings.length : Int) := by omega
              have qz : (0 : Int) ≤ (q : Int) := by omega
              generalize x.rings[q] = y at *
              clear hA2 hU hV
              go_wp2_with fail
              go_round
              case rel => exact ⟨q + 1, _, by omega, by go_num, rfl⟩
              case measure => simp [intOf]; omega
            · have hdU : decide (U ≤ 400) = false := by simpa using hU
              go_wp2_with fail
              go_round
              case rel => exact ⟨k + 1, U, by omega, by go_num, rfl⟩
              case measure => simp [intOf]; omega
          · have hdq : decide ((q : Int) < (x.rings.length : Int)) = false := by simp; omega
            go_wp2_with fail
            go_round
            case rel => exact ⟨k + 1, U, by omega, by go_num, rfl⟩
            case measure => simp [intOf]; omega
      · have hdV : decide (V ≤ 400) = false := by simpa using hV
        have hdV2 : decide (400 < V) = true := by simp; omega
        by_cases hb : most < (l.length : Int)
        · have hdb : decide (most < (l.length : Int)) = true := by simpa using hb
          go_wp2_with fail
          go_ret
          exact ⟨true, rfl, (fun h => by cases h), rfl⟩
        · have hdb : decide (most < (l.length : Int)) = false := by simpa using hb
          go_wp2_with fail
          go_ret
          exact ⟨true, rfl, (fun h => by cases h), rfl⟩
    · have hd : decide ((k : Int) < (l.length : Int)) = false := by simp; omega
      by_cases hb : most < (l.length : Int)
      · have hdb : decide (most < (l.length : Int)) = true := by simpa using hb
        go_wp2_with fail
        go_ret
        exact ⟨true, rfl, (fun h => by cases h), rfl⟩
      · have hdb : decide (most < (l.length : Int)) = false := by simpa using hb
        have hle : (l.length : Int) ≤ most := by omega
        go_wp2_with fail
        go_ret
        exact ⟨_, rfl, fun _ => hle, rfl⟩
end Go.Proofs.YtokakpbpenndlaaGreatDoor

set_option linter.unusedVariables false
namespace Go.Proofs.YtokakpbpenndlaaGreatDoor
open Go.RowKit

set_option maxHeartbeats 1000000 in
theorem pick_any (x n : Int) (hn : n ≤ 9223372036854775807) (w : World) :
    Calls Tryz.prog 35 #[.int .i64 x, .int .i64 n] w fun e w' => e = .returned (.int .i64 (pickI x n)) ∧ w = w' := by
  by_cases h1 : n < 1
  · have hd : decide (n < 1) = true := by simpa using h1
    have HE := Lib.hid (show pickI x n = 0 by unfold pickI; rw [if_pos h1])
    go_enter Tryz.func35, Tryz.ntmps35
    go_wp2_with fail
    go_ret
    exact ⟨by rw [HE.out]; rfl, rfl⟩
  · have hd : decide (n < 1) = false := by simpa using h1
    have hz : (n == 0) = false := by rw [beq_eq_false_iff_ne]; omega
    have hz' : n ≠ 0 := by omega
    obtain ⟨b1, b2⟩ := tmod_bd (x := x) (n := n) (by omega)
    by_cases hm : Int.tmod x n < 0
    · have hd2 : decide (Int.tmod x n < 0) = true := by simpa using hm
      have HE := Lib.hid (show pickI x n = Int.tmod x n + n by unfold pickI; rw [if_neg h1, if_pos hm])
      generalize hM : Int.tmod x n = M at *
      have hi : IntKind.i64.wrap M = M := by rw [IntKind.wrap_i64]; omega
      go_enter Tryz.func35, Tryz.ntmps35
      go_wp2_with fail
      go_ret
      exact ⟨by rw [HE.out]; rfl, rfl⟩
    · have hd2 : decide (Int.tmod x n < 0) = false := by simpa using hm
      have HE := Lib.hid (show pickI x n = Int.tmod x n by unfold pickI; rw [if_neg h1, if_neg hm])
      generalize hM : Int.tmod x n = M at *
      have hi : IntKind.i64.wrap M = M := by rw [IntKind.wrap_i64]; omega
      go_enter Tryz.func35, Tryz.ntmps35
      go_wp2_with fail
      go_ret
      exact ⟨by rw [HE.out]; rfl, rfl⟩
end Go.Proofs.YtokakpbpenndlaaGreatDoor

set_option linter.unusedVariables false
namespace Go.Proofs.YtokakpbpenndlaaGreatDoor
open Go.RowKit

theorem evCells_set (L : List EV) (p : Nat) (x : EV) (hp : p < L.length) : evCells (L.set p x) = (((((((evCells L).set (p * 6) (.int .i64 x.e.k)).set (p * 6 + 1) (.int .i64 x.e.id)).set (p * 6 + 2) (.int .i64 x.e.of_)).set (p * 6 + 3) (.int .i64 x.e.day)).set (p * 6 + 4) (.slice x.A x.e.am.length x.c)).set (p * 6 + 5) (.slice x.A' x.e.tax.length x.c')) := by
  have hl : (evCells L).length = L.length * 6 := flat_len EV.cl_len L
  have hl2 : (evCells (L.set p x)).length = L.length * 6 := by rw [show evCells (L.set p x) = (L.set p x).flatMap EV.cl from rfl, flat_len EV.cl_len]; simp
  apply List.ext_getElem?
  intro t
  by_cases ht : t < L.length * 6
  · have hk : t / 6 < L.length := by omega
    have h1 := flat_get EV.cl_len (L.set p x) (t / 6) (t % 6) (by simpa using hk) (by omega)
    have h2 := flat_get EV.cl_len L (t / 6) (t % 6) hk (by omega)
    rw [show t / 6 * 6 + t % 6 = t by omega] at h1 h2
    rw [show evCells (L.set p x) = (L.set p x).flatMap EV.cl from rfl, h1, List.getElem_set]
    simp only [List.getElem?_set, List.length_set, hl]
    by_cases hq : p = t / 6
    · rw [if_pos hq]
      rcases (by omega : t % 6 = 0 ∨ t % 6 = 1 ∨ t % 6 = 2 ∨ t % 6 = 3 ∨ t % 6 = 4 ∨ t % 6 = 5) with e | e | e | e | e | e <;> rw [e] <;>
        (repeat (first | rw [if_pos (by omega)] | rw [if_neg (by omega)])) <;> rfl
    · rw [if_neg hq]
      repeat rw [if_neg (by omega)]
      exact h2.symm
  · rw [List.getElem?_eq_none (by omega), List.getElem?_eq_none (by simp [hl]; omega)]
/-- A cell stored into a row of one's own. -/
theorem own_put {w : World} {base g n c size : Nat} {e : TypeId} {xs : List Value} (h : w.ownsRow base e size (.slice (some ⟨g, 0, none⟩) n c) n xs) {k : Nat} (hk : k < n * size) (u : Value) : (w.setCell ⟨g, k, none⟩ u).ownsRow base e size (.slice (some ⟨g, 0, none⟩) n c) n (xs.set k u) := by
  rcases h.2 with ⟨e1, _⟩ | ⟨g', c', cur, e1, hb, hg, r1, r2, r3, r4⟩
  · cases e1
  · have hl := h.1
    injection e1 with ea en ec
    injection ea with ea
    injection ea with ea
    subst ea ec
    have hblk : Blk w g e cur := hg
    refine ⟨by simpa using hl, .inr ⟨g, c, cur.setIfInBounds k u, rfl, hb, (hblk.set_ k u), r1, r2, by simpa using r3, ?_⟩⟩
    rw [Array.toList_setIfInBounds, List.take_set, r4]
end Go.Proofs.YtokakpbpenndlaaGreatDoor
