/-
  token: class, sound: the cutter in memory.
-/
import Derived.Test.YtjaponmpfdpemaaGreatDoorBa02
import Derived.Test.YtjaponmpfdpemaaGreatDoorProg
import Derived.Deep.DeepCutAuto
import Derived.Laws.IdiomStrings
import Derived.Test.YtjaponmpfdpemaaGreatDoorBa06
import Derived.Laws.MakeOwn
import Derived.Laws.CopyOwn
set_option linter.unusedVariables false
namespace Go.Proofs.YtjaponmpfdpemaaGreatDoor
open Go.RowKit

/-- The table of classes. -/
def clsA : Array Value := ((List.range 256).map fun i => Value.int .u8 (clsB (UInt8.ofNat i) : Int)).toArray
theorem clsA_size : clsA.size = 256 := by simp [clsA]
theorem clsA_at {i : Nat} (h : i < 256) : clsA[i]? = some (.int .u8 (clsB (UInt8.ofNat i) : Int)) := by
  unfold clsA
  rw [List.getElem?_toArray, List.getElem?_map, List.getElem?_range h]
  rfl
/-- The cutter's cells. -/
def cutC (s : Bs) (v : Value) (a : Int) : Array Value := #[.string ⟨s.toArray⟩] ++ clsA ++ #[v, .int .i64 a]
theorem cutC_0 (s : Bs) (v : Value) (a : Int) : (cutC s v a)[0]? = some (.string ⟨s.toArray⟩) := by
  unfold cutC
  rw [Array.getElem?_append_left (by simp [clsA_size]), Array.getElem?_append_left (by simp)]
  rfl
theorem cutC_cls (s : Bs) (v : Value) (a : Int) {i : Nat} (h : i < 256) : (cutC s v a)[1 + i]? = some (.int .u8 (clsB (UInt8.ofNat i) : Int)) := by
  unfold cutC
  rw [Array.getElem?_append_left (by simp [clsA_size]; omega), Array.getElem?_append_right (by simp)]
  rw [show 1 + i - (#[Value.string ⟨s.toArray⟩] : Array Value).size = i by simp]
  exact clsA_at h
theorem cutC_v (s : Bs) (v : Value) (a : Int) : (cutC s v a)[257]? = some v := by
  unfold cutC
  rw [Array.getElem?_append_right (by simp [clsA_size])]
  simp [clsA_size]
theorem cutC_a (s : Bs) (v : Value) (a : Int) : (cutC s v a)[258]? = some (.int .i64 a) := by
  unfold cutC
  rw [Array.getElem?_append_right (by simp [clsA_size])]
  simp [clsA_size]
theorem cutC_setv (s : Bs) (v u : Value) (a : Int) : (cutC s v a).setIfInBounds 257 u = cutC s u a := by
  apply Array.ext'
  simp [cutC, clsA_size, Array.setIfInBounds]
theorem cutC_seta (s : Bs) (v : Value) (a b : Int) : (cutC s v a).setIfInBounds 258 (.int .i64 b) = cutC s v b := by
  apply Array.ext'
  simp [cutC, clsA_size, Array.setIfInBounds]
set_option maxRecDepth 100000 in
theorem class_any {W : World} {g : Nat} {s : Bs} {v : Value} {a : Int} (h : Blk W g 124 (cutC s v a)) (i : Nat) (hs : s.length ≤ 200) (hi : i ≤ 1000) :
    Calls Tryz.prog 125 #[.pointer (some ⟨g, 0, none⟩), .int .i64 (i : Int)] W fun e w' => e = .returned (.int .u8 (clsAt s i : Int)) ∧ Ext W w' := by
  have c0 : W.cell? ⟨g, 0, none⟩ = some (.string ⟨s.toArray⟩) := (h.cell 0).trans (cutC_0 s v a)
  have hc := Lib.hid (fun k (hk : k < 256) => (h.cell (1 + k)).trans (cutC_cls s v a hk))
  have lg := h.lt
  clear h
  by_cases hl : i < s.length
  · have hd : decide ((s.length : Int) ≤ (i : Int)) = false := by simp; omega
    have il : (i : Int) < (s.length : Int) := by omega
    have iz : (0 : Int) ≤ (i : Int) := by omega
    obtain ⟨k, hk⟩ : ∃ k, s[i].toNat = k := ⟨_, rfl⟩
    have hk2 : k < 256 := by rw [← hk]; exact UInt8.toNat_lt _
    have hb : ∀ h, ((⟨s.toArray⟩ : ByteArray)[i]'h).toNat = k := fun _ => hk
    have ck := hc.out k hk2
    have kz : (0 : Int) ≤ (k : Int) := by omega
    have kl : (k : Int) < 256 := by omega
    have hcl : clsAt s i = clsB (UInt8.ofNat k) := by rw [clsAt_lt hl, ← hk, UInt8.ofNat_toNat]
    rw [hcl]
    replace hk := Lib.hid hk
    replace hcl := Lib.hid hcl
    go_enter Tryz.func125, Tryz.ntmps125
    go_upto_region 3 with (fail)
    go_quiet (fail)
    go_wp2_with fail
    go_ret
    exact ⟨rfl, (Ext.refl W).drewN _⟩
  · have hd : decide ((s.length : Int) ≤ (i : Int)) = true := by simp; omega
    go_enter Tryz.func125, Tryz.ntmps125
    go_wp2_with fail
    go_ret
    exact ⟨by rw [clsAt_end (by omega)]; rfl, Ext.refl _⟩
def sndI (s : Bs) (i : Int) : Bool := decide (0 ≤ i) && sndAt s i.toNat
set_option maxRecDepth 100000 in
theorem sound_any {W : World} {g : Nat} {s : Bs} {v : Value} {a : Int} (h : Blk W g 124 (cutC s v a)) (i : Int) (hs : s.length ≤ 200) (hi : -1 ≤ i ∧ i ≤ 1000) :
    Calls Tryz.prog 149 #[.pointer (some ⟨g, 0, none⟩), .int .i64 i] W fun e w' => e = .returned (.bool (sndI s i)) ∧ Ext W w' := by
  have c0 : W.cell? ⟨g, 0, none⟩ = some (.string ⟨s.toArray⟩) := (h.cell 0).trans (cutC_0 s v a)
  have hc := Lib.hid (fun k (hk : k < 256) => (h.cell (1 + k)).trans (cutC_cls s v a hk))
  have lg := h.lt
  clear h
  by_cases h0 : 0 ≤ i
  · obtain ⟨n, rfl⟩ : ∃ n : Nat, i = (n : Int) := ⟨i.toNat, by omega⟩
    have hsI : sndI s (n : Int) = sndAt s n := by unfold sndI; simp
    rw [hsI]
    replace hsI := Lib.hid hsI
    by_cases hl : n < s.length
    · have hd : decide ((n : Int) < (s.length : Int)) = true := by simp; omega
      have il : (n : Int) < (s.length : Int) := by omega
      have iz : (0 : Int) ≤ (n : Int) := by omega
      have hdz : decide ((0 : Int) ≤ (n : Int)) = true := decide_eq_true iz
      obtain ⟨k, hk⟩ : ∃ k, s[n].toNat = k := ⟨_, rfl⟩
      have hk2 : k < 256 := by rw [← hk]; exact UInt8.toNat_lt _
      have hb : ∀ h, ((⟨s.toArray⟩ : ByteArray)[n]'h).toNat = k := fun _ => hk
      have ck := hc.out k hk2
      have kz : (0 : Int) ≤ (k : Int) := by omega
      have kl : (k : Int) < 256 := by omega
      have hcl : sndAt s n = (clsB (UInt8.ofNat k) == 2 || clsB (UInt8.ofNat k) == 3) := by unfold sndAt; rw [clsAt_lt hl, ← hk, UInt8.ofNat_toNat]
      rw [hcl]
      replace hk := Lib.hid hk
      replace hcl := Lib.hid hcl
      generalize clsB (UInt8.ofNat k) = c at *
      rcases (show c = 2 ∨ c = 3 ∨ (c ≠ 2 ∧ c ≠ 3) by omega) with rfl | rfl | ⟨e2, e3⟩
      · go_enter Tryz.func149, Tryz.ntmps149
        go_upto_region 1 with (fail)
        go_quiet (fail)
        go_wp2_with fail
        go_ret
        exact ⟨rfl, (Ext.refl W).drewN _⟩
      · go_enter Tryz.func149, Tryz.ntmps149
        go_upto_region 1 with (fail)
        go_quiet (fail)
        go_wp2_with fail
        go_ret
        exact ⟨rfl, (Ext.refl W).drewN _⟩
      · have f2 : ((c : Int) == 2) = false := by rw [beq_eq_false_iff_ne]; omega
        have f3 : ((c : Int) == 3) = false := by rw [beq_eq_false_iff_ne]; omega
        have f4 : (c == 2 || c == 3) = false := by rw [Bool.or_eq_false_iff, beq_eq_false_iff_ne, beq_eq_false_iff_ne]; exact ⟨e2, e3⟩
        rw [f4]
        go_enter Tryz.func149, Tryz.ntmps149
        go_upto_region 1 with (fail)
        go_quiet (fail)
        go_wp2_with fail
        go_ret
        exact ⟨rfl, (Ext.refl W).drewN _⟩
    · have hd : decide ((n : Int) < (s.length : Int)) = false := by simp; omega
      have iz : (0 : Int) ≤ (n : Int) := by omega
      have hdz : decide ((0 : Int) ≤ (n : Int)) = true := decide_eq_true iz
      have hse : sndAt s n = false := by unfold sndAt; rw [clsAt_end (by omega)]; rfl
      rw [hse]
      replace hse := Lib.hid hse
      go_enter Tryz.func149, Tryz.ntmps149
      go_upto_region 1 with (fail)
      go_quiet (fail)
      go_wp2_with fail
      go_ret
      exact ⟨rfl, (Ext.refl W).drewN _⟩
  · have hd : decide (0 ≤ i) = false := by simp; omega
    have hsI : sndI s i = false := by unfold sndI; rw [hd]; rfl
    rw [hsI]
    replace hsI := Lib.hid hsI
    go_enter Tryz.func149, Tryz.ntmps149
    go_upto_region 1 with (fail)
    go_quiet (fail)
    go_wp2_with fail
    go_ret
    exact ⟨rfl, (Ext.refl W).drewN _⟩
end Go.Proofs.YtjaponmpfdpemaaGreatDoor

set_option linter.unusedVariables false
namespace Go.Proofs.YtjaponmpfdpemaaGreatDoor
open Go.RowKit

/-- The row that '[]byte(s)' lays. -/
def RowF (W : World) (g : Nat) (cs : Array Value) : Prop := W.heap[g]? = some (.cells cs 5 (cs.size, cs.size + 1))
theorem RowF.lt {W : World} {g : Nat} {cs : Array Value} (h : RowF W g cs) : g < W.heap.size := by
  rcases Nat.lt_or_ge g W.heap.size with hlt | hge
  · exact hlt
  · unfold RowF at h; rw [Array.getElem?_eq_none hge] at h; cases h
theorem RowF.cell {W : World} {g : Nat} {cs : Array Value} (h : RowF W g cs) (i : Nat) : W.cell? ⟨g, i, none⟩ = cs[i]? := cell_of_row W g i cs _ _ h
theorem RowF.frozen {W : World} {g : Nat} {cs : Array Value} (h : RowF W g cs) {i : Nat} (hi : i < cs.size) : W.frozen? ⟨g, i, none⟩ = false := by
  unfold RowF at h
  simp [World.frozen?, h]
  omega
theorem RowF.set_ {W : World} {g : Nat} {cs : Array Value} (h : RowF W g cs) (i : Nat) (u : Value) : RowF (W.setCell ⟨g, i, none⟩ u) g (cs.setIfInBounds i u) := by
  unfold RowF at h ⊢
  simp [World.setCell, Array.getElem?_modify, h]
theorem str_bytes (W : World) (s : Bs) : ∃ W1 cap cs, (convert 9 129 (.string ⟨s.toArray⟩)).run Tryz.prog W = .ok (.slice (some ⟨W.heap.size, 0, none⟩) s.length cap) W1 ∧ RowF W1 W.heap.size cs ∧ (∀ i (h : i < s.length), cs[i]? = some (.int .u8 (s[i].toNat : Int))) ∧ Ext W W1 := by
  refine ⟨_, _, bytesRow ⟨s.toArray⟩ (grownCap W (⟨s.toArray⟩ : ByteArray).size 0 5), run_bytes_of_string W 9 129 5 ⟨s.toArray⟩ Tryz.underlying9 Tryz.underlying129 Tryz.underlying5, ?_, ?_, ?_⟩
  · exact heap_alloc_new W.drew _
  · intro i h
    unfold bytesRow
    rw [Array.getElem?_append_left (by simpa using h)]
    simp [h]
  · exact (Ext.refl W).drew.alloc _
/-- The bytes of a row, so many of them turned. -/
def UpAt (s : Bs) (k : Nat) (cs : Array Value) : Prop := ∀ i (h : i < s.length), cs[i]? = some (.int .u8 (((if i < k then upB s[i] else s[i]).toNat : Nat) : Int))
theorem UpAt.next {s : Bs} {k : Nat} {cs : Array Value} (h : UpAt s k cs) (hk : k < s.length) {u : Value} (hu : u = .int .u8 ((upB s[k]).toNat : Int)) : UpAt s (k + 1) (cs.setIfInBounds k u) := by
  intro i hi
  by_cases e : i = k
  · subst e
    have hsz : i < cs.size := by
      have := h i hi
      exact (Array.getElem?_eq_some_iff.1 this).1
    rw [Array.getElem?_setIfInBounds_self_of_lt hsz, hu, if_pos (by omega)]
  · rw [Array.getElem?_setIfInBounds_ne (by omega), h i hi]
    by_cases h1 : i < k
    · rw [if_pos h1, if_pos (by omega)]
    · rw [if_neg h1, if_neg (by omega)]
theorem UpAt.same {s : Bs} {k : Nat} {cs : Array Value} (h : UpAt s k cs) (hk : k < s.length) (hu : upB s[k] = s[k]) : UpAt s (k + 1) cs := by
  intro i hi
  rw [h i hi]
  by_cases e : i = k
  · subst e
    rw [if_neg (by omega), if_pos (by omega), hu]
  · by_cases h1 : i < k
    · rw [if_pos h1, if_pos (by omega)]
    · rw [if_neg h1, if_neg (by omega)]
def UpRel (W : World) (g : Nat) (s : Bs) (i : Value) (wr : World) : Prop := ∃ (k : Nat) (cs : Array Value), k ≤ s.length ∧ i = .int .i64 (k : Int) ∧ RowF wr g cs ∧ UpAt s k cs ∧ Ext W wr
set_option maxRecDepth 100000 in
theorem upper_any (s : Bs) (W : World) (hs : s.length ≤ 100000) : Calls Tryz.prog 150 #[.string ⟨s.toArray⟩] W fun e w' => e = .returned (.string ⟨(upS s).toArray⟩) ∧ Ext W w' := by
  obtain ⟨W1, cap, cs, hcv, hR, hc, hX⟩ := str_bytes W s
  have H0 := Lib.hid (show UpRel W W.heap.size s (.int .i64 ((0 : Nat) : Int)) W1 from ⟨0, cs, by omega, rfl, hR, fun i h => by rw [hc i h, if_neg (by omega)], hX⟩)
  clear hR hc hX
  go_enter Tryz.func150, Tryz.ntmps150
  go_wp2_with fail
  clear hcv
  generalize hg : W.heap.size = g at *
  go_loopw [10] (fun i wr => UpRel W g s i wr) (fun i _ => s.length - (intOf i).toNat)
  case atStart => exact H0.out
  case round =>
    clear H0
    obtain ⟨k, cs, hk, rfl, hR, hU, hX⟩ := hrel
    by_cases hlt : k < s.length
    · have hd : decide ((k : Int) < (s.length : Int)) = true := by simp; omega
      have kl : (k : Int) < (s.length : Int) := by omega
      have kz : (0 : Int) ≤ (k : Int) := by omega
      have hck := hU k hlt
      rw [if_neg (Nat.lt_irrefl k)] at hck
      have hsz : k < cs.size := (Array.getElem?_eq_some_iff.1 hck).1
      have c0 := (hR.cell k).trans hck
      have f0 := hR.frozen hsz
      have lg := hR.lt
      obtain ⟨b, hb⟩ : ∃ b, s[k].toNat = b := ⟨_, rfl⟩
      have hb2 : b < 256 := by rw [← hb]; exact UInt8.toNat_lt _
      have hge : W.heap.size ≤ g := by omega
      rw [hb] at c0
      by_cases hup : 97 ≤ b ∧ b ≤ 122
      · have d1 : decide ((97 : Int) ≤ (b : Int)) = true := decide_eq_true (by omega)
        have d2 : decide ((b : Int) ≤ 122) = true := decide_eq_true (by omega)
        have hw : IntKind.u8.wrap ((b : Int) - 97) = (b : Int) - 97 := by simp [IntKind.wrap, IntKind.bits, IntKind.signed]; omega
        have hw2 : IntKind.u8.wrap ((b : Int) - 97 + 65) = (b : Int) - 97 + 65 := by simp [IntKind.wrap, IntKind.bits, IntKind.signed]; omega
        have hbn : (upB s[k]).toNat = b - 32 := by
          unfold upB
          rw [if_pos (by rw [hb]; exact hup), UInt8.toNat_sub_of_le]
          · rw [hb]; rfl
          · rw [UInt8.le_iff_toNat_le, hb]; show 32 ≤ b; omega
        have HE := Lib.hid (show UpRel W g s (.int .i64 ((k + 1 : Nat) : Int)) (wr.setCell ⟨g, k, none⟩ (.int .u8 ((b : Int) - 97 + 65))) from
          ⟨k + 1, _, by omega, rfl, hR.set_ k _, hU.next hlt (by rw [hbn]; congr 1; omega), hX.set (p := ⟨g, k, none⟩) hge _⟩)
        clear hR hU hX hck hb hbn hup hg
        go_wp2_with fail
        go_roundw
        case rel => exact HE.out
        case measure => simp [intOf]; omega
      · have HE := Lib.hid (show UpRel W g s (.int .i64 ((k + 1 : Nat) : Int)) wr from ⟨k + 1, cs, by omega, rfl, hR, hU.same hlt (by unfold upB; rw [if_neg (by rw [hb]; exact hup)]), hX⟩)
        by_cases h97 : 97 ≤ b
        · have d1 : decide ((97 : Int) ≤ (b : Int)) = true := decide_eq_true (by omega)
          have d2 : decide ((b : Int) ≤ 122) = false := decide_eq_false (by omega)
          clear hR hU hX hck hb hup hg
          go_wp2_with fail
          go_roundw
          case rel => exact HE.out
          case measure => simp [intOf]; omega
        · have d1 : decide ((97 : Int) ≤ (b : Int)) = false := decide_eq_false (by omega)
          clear hR hU hX hck hb hup hg
          go_wp2_with fail
          go_roundw
          case rel => exact HE.out
          case measure => simp [intOf]; omega
    · obtain rfl : k = s.length := by omega
      have hd : decide ((s.length : Int) < (s.length : Int)) = false := by simp
      have hbk := run_convert_bytes_back (P := Tryz.prog) wr 129 9 5 ⟨g, 0, none⟩ cap (upS s) Tryz.underlying129 Tryz.underlying5 Tryz.underlying9 (fun j hj => by
        have hj' : j < s.length := by simpa [upS] using hj
        rw [add_flat, Nat.zero_add, hR.cell j, hU j hj', if_pos hj']
        simp [upS])
      rw [show (upS s).length = s.length by simp [upS]] at hbk
      have HX := Lib.hid hX
      clear hR hU hX hg
      go_wp2_with fail
      go_ret
      exact ⟨rfl, HX.out⟩
end Go.Proofs.YtjaponmpfdpemaaGreatDoor

set_option linter.unusedVariables false
namespace Go.Proofs.YtjaponmpfdpemaaGreatDoor
open Go.RowKit
/-- Only block g has turned, and what is new. -/
theorem only_alloc {a w : World} {row : Option Nat} (h : a.grownBy w row) (o : Obj) : a.grownBy (w.alloc o) row :=
  ⟨h.os, h.tape, h.output, Nat.le_trans h.size (by simp), fun i hi hne => (Below.heap_alloc w o i (Nat.lt_of_lt_of_le hi h.size)).trans (h.block i hi hne)⟩
theorem only_ext {a w w' : World} {row : Option Nat} (h : a.grownBy w row) (hx : Ext w w') : a.grownBy w' row :=
  ⟨hx.os.trans h.os, hx.tape.trans h.tape, hx.output.trans h.output, Nat.le_trans h.size hx.size, fun i hi hne => (hx.block i (Nat.lt_of_lt_of_le hi h.size)).trans (h.block i hi hne)⟩
theorem only_set {a w : World} {g : Nat} (h : a.grownBy w (some g)) {p : Addr} (hp : p.block = g ∨ a.heap.size ≤ p.block) (u : Value) : a.grownBy (w.setCell p u) (some g) :=
  ⟨h.os, h.tape, h.output, by simpa [World.setCell] using h.size, fun i hi hne => (Below.heap_setCell w p u i (by
    rintro rfl
    rcases hp with hp | hp
    · exact hne (by rw [hp])
    · omega)).trans (h.block i hi hne)⟩
theorem only_trans {a b c : World} {row : Option Nat} (h : a.grownBy b row) (k : b.grownBy c row) : a.grownBy c row :=
  ⟨k.os.trans h.os, k.tape.trans h.tape, k.output.trans h.output, Nat.le_trans h.size k.size, fun i hi hne => (k.block i (Nat.lt_of_lt_of_le hi h.size) hne).trans (h.block i hi hne)⟩
theorem own_lit {w0 w : World} (hx : Ext w0 w) (cs : Array Value) (e : TypeId) (n size : Nat) {g : Nat} (hg : g = w.heap.size) (hm : n ≤ maxLen) (hs : cs.size = n * size) : (w.alloc (.cells cs e)).ownsRow w0.heap.size e size (.slice (some ⟨g, 0, none⟩) n n) n cs.toList := by
  subst hg
  exact World.ownsRow_lit w cs n hx.size hm hs
theorem own_set {w : World} {base : Nat} {e : TypeId} {size n : Nat} {v : Value} {xs : List Value} (h : w.ownsRow base e size v n xs) {a : Addr} (ha : v.ownBlock ≠ some a.block) (u : Value) : (w.setCell a u).ownsRow base e size v n xs := ownsRow_setCell_other h ha u

/-! ### Results that lie in memory -/
section
variable {fn : Func} {tmps : Array Value} {P : Program} {w : World}
theorem results_c {p : Tmp} {ty : TypeId} {a : Addr} {v : Value} (h : fn.results = #[.cell p ty]) (ha : tmps.getD p undef = .pointer (some a)) (hv : (loadVar ty a).run P w = .ok v w) : (results fn tmps).run P w = .ok v w := by
  simp only [results, h]
  simp at ha
  simp [ha, asAddr, hv]
theorem results_ct {p u : Tmp} {ty : TypeId} {a : Addr} {v : Value} (h : fn.results = #[.cell p ty, .tmp u]) (ha : tmps.getD p undef = .pointer (some a)) (hv : (loadVar ty a).run P w = .ok v w) : (results fn tmps).run P w = .ok (.tuple #[v, tmps.getD u undef]) w := by
  simp only [results, h]
  simp at ha
  simp [Result.andThen, ha, asAddr, hv]
theorem results_tc {p u : Tmp} {ty : TypeId} {a : Addr} {v : Value} (h : fn.results = #[.tmp u, .cell p ty]) (ha : tmps.getD p undef = .pointer (some a)) (hv : (loadVar ty a).run P w = .ok v w) : (results fn tmps).run P w = .ok (.tuple #[tmps.getD u undef, v]) w := by
  simp only [results, h]
  simp at ha
  simp [Result.andThen, ha, asAddr, hv]
theorem results_cc {p q : Tmp} {ty tq : TypeId} {a b : Addr} {v u : Value} (h : fn.results = #[.cell p ty, .cell q tq]) (ha : tmps.getD p undef = .pointer (some a)) (hv : (loadVar ty a).run P w = .ok v w) (hb : tmps.getD q undef = .pointer (some b)) (hu : (loadVar tq b).run P w = .ok u w) : (results fn tmps).run P w = .ok (.tuple #[v, u]) w := by
  simp only [results, h]
  simp at ha hb
  simp [Sem.run_bind, Result.andThen, ha, hb, asAddr, hv, hu]
end
end Go.Proofs.YtjaponmpfdpemaaGreatDoor
