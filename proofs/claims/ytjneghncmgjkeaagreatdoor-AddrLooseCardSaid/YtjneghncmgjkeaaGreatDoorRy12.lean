/-
  token: Upper.
-/
import Derived.Test.YtjneghncmgjkeaaGreatDoorRy11
import Derived.Laws.IdiomStrings
import Derived.Laws.MakeOwn
import Derived.Laws.CopyOwn
set_option linter.unusedVariables false
namespace Go.Proofs.YtjneghncmgjkeaaGreatDoor
open Go.RowKit

/-- The row that '[]byte(s)' lays. -/
def RowF (W : World) (g : Nat) (cs : Array Value) : Prop := W.heap[g]? = some (.cells cs 5 (cs.size, cs.size + 1))
theorem RowF.lt {W : World} {g : Nat} {cs : Array Value} (h : RowF W g cs) : g < W.heap.size := by
  rcases Nat.lt_or_ge g W.heap.size with hlt | hge
  · exact hlt
  · unfold RowF at h; rw [Array.getElem?_eq_none hge] at h; cases h
theorem RowF.cell {W : World} {g : Nat} {cs : Array Value} (h : RowF W g cs) (i : Nat) : W.cell? ⟨g, i, none⟩ = cs[i]? := cell_of_row W g i cs _ _ h
theorem RowF.frozen {W : World} {g : Nat} {cs : Array Value} (h : RowF W g cs) {i : Nat} (hi : i < cs.size) : W.frozen? ⟨g, i, none⟩ = false := by
  unfold RowF at h
  simp [World.frozen?, h]
  omega
theorem RowF.set_ {W : World} {g : Nat} {cs : Array Value} (h : RowF W g cs) (i : Nat) (u : Value) : RowF (W.setCell ⟨g, i, none⟩ u) g (cs.setIfInBounds i u) := by
  unfold RowF at h ⊢
  simp [World.setCell, Array.getElem?_modify, h]
theorem str_bytes (W : World) (s : Bs) : ∃ W1 cap cs, (convert 9 47 (.string ⟨s.toArray⟩)).run Tryz.prog W = .ok (.slice (some ⟨W.heap.size, 0, none⟩) s.length cap) W1 ∧ RowF W1 W.heap.size cs ∧ (∀ i (h : i < s.length), cs[i]? = some (.int .u8 (s[i].toNat : Int))) ∧ Ext W W1 := by
  refine ⟨_, _, bytesRow ⟨s.toArray⟩ (grownCap W (⟨s.toArray⟩ : ByteArray).size 0 5), run_bytes_of_string W 9 47 5 ⟨s.toArray⟩ Tryz.underlying9 Tryz.underlying47 Tryz.underlying5, ?_, ?_, ?_⟩
  · exact heap_alloc_new W.drew _
  · intro i h
    unfold bytesRow
    rw [Array.getElem?_append_left (by simpa using h)]
    simp [h]
  · exact (Ext.refl W).drew.alloc _
/-- The bytes of a row, so many of them turned. -/
def UpAt (s : Bs) (k : Nat) (cs : Array Value) : Prop := ∀ i (h : i < s.length), cs[i]? = some (.int .u8 (((if i < k then upB s[i] else s[i]).toNat : Nat) : Int))
theorem UpAt.next {s : Bs} {k : Nat} {cs : Array Value} (h : UpAt s k cs) (hk : k < s.length) {u : Value} (hu : u = .int .u8 ((upB s[k]).toNat : Int)) : UpAt s (k + 1) (cs.setIfInBounds k u) := by
  intro i hi
  by_cases e : i = k
  · subst e
    have hsz : i < cs.size := by
      have := h i hi
      exact (Array.getElem?_eq_some_iff.1 this).1
    rw [Array.getElem?_setIfInBounds_self_of_lt hsz, hu, if_pos (by omega)]
  · rw [Array.getElem?_setIfInBounds_ne (by omega), h i hi]
    by_cases h1 : i < k
    · rw [if_pos h1, if_pos (by omega)]
    · rw [if_neg h1, if_neg (by omega)]
theorem UpAt.same {s : Bs} {k : Nat} {cs : Array Value} (h : UpAt s k cs) (hk : k < s.length) (hu : upB s[k] = s[k]) : UpAt s (k + 1) cs := by
  intro i hi
  rw [h i hi]
  by_cases e : i = k
  · subst e
    rw [if_neg (by omega), if_pos (by omega), hu]
  · by_cases h1 : i < k
    · rw [if_pos h1, if_pos (by omega)]
    · rw [if_neg h1, if_neg (by omega)]
def UpRel (W : World) (g : Nat) (s : Bs) (i : Value) (wr : World) : Prop := ∃ (k : Nat) (cs : Array Value), k ≤ s.length ∧ i = .int .i64 (k : Int) ∧ RowF wr g cs ∧ UpAt s k cs ∧ Ext W wr
set_option maxRecDepth 100000 in
theorem upper_any (s : Bs) (W : World) (hs : s.length ≤ 100000) : Calls Tryz.prog 21 #[.string ⟨s.toArray⟩] W fun e w' => e = .returned (.string ⟨(upS s).toArray⟩) ∧ Ext W w' := by
  obtain ⟨W1, cap, cs, hcv, hR, hc, hX⟩ := str_bytes W s
  have H0 := Lib.hid (show UpRel W W.heap.size s (.int .i64 ((0 : Nat) : Int)) W1 from ⟨0, cs, by omega, rfl, hR, fun i h => by rw [hc i h, if_neg (by omega)], hX⟩)
  clear hR hc hX
  go_enter Tryz.func21, Tryz.ntmps21
  go_wp2_with fail
  clear hcv
  generalize hg : W.heap.size = g at *
  go_loopw [10] (fun i wr => UpRel W g s i wr) (fun i _ => s.length - (intOf i).toNat)
  case atStart => exact H0.out
  case round =>
    clear H0
    obtain ⟨k, cs, hk, rfl, hR, hU, hX⟩ := hrel
    by_cases hlt : k < s.length
    · have hd : decide ((k : Int) < (s.length : Int)) = true := by simp; omega
      have kl : (k : Int) < (s.length : Int) := by omega
      have kz : (0 : Int) ≤ (k : Int) := by omega
      have hck := hU k hlt
      rw [if_neg (Nat.lt_irrefl k)] at hck
      have hsz : k < cs.size := (Array.getElem?_eq_some_iff.1 hck).1
      have c0 := (hR.cell k).trans hck
      have f0 := hR.frozen hsz
      have lg := hR.lt
      obtain ⟨b, hb⟩ : ∃ b, s[k].toNat = b := ⟨_, rfl⟩
      have hb2 : b < 256 := by rw [← hb]; exact UInt8.toNat_lt _
      have hge : W.heap.size ≤ g := by omega
      rw [hb] at c0
      by_cases hup : 97 ≤ b ∧ b ≤ 122
      · have d1 : decide ((97 : Int) ≤ (b : Int)) = true := decide_eq_true (by omega)
        have d2 : decide ((b : Int) ≤ 122) = true := decide_eq_true (by omega)
        have hw : IntKind.u8.wrap ((b : Int) - 97) = (b : Int) - 97 := by simp [IntKind.wrap, IntKind.bits, IntKind.signed]; omega
        have hw2 : IntKind.u8.wrap ((b : Int) - 97 + 65) = (b : Int) - 97 + 65 := by simp [IntKind.wrap, IntKind.bits, IntKind.signed]; omega
        have hbn : (upB s[k]).toNat = b - 32 := by
          unfold upB
          rw [if_pos (by rw [hb]; exact hup), UInt8.toNat_sub_of_le]
          · rw [hb]; rfl
          · rw [UInt8.le_iff_toNat_le, hb]; show 32 ≤ b; omega
        have HE := Lib.hid (show UpRel W g s (.int .i64 ((k + 1 : Nat) : Int)) (wr.setCell ⟨g, k, none⟩ (.int .u8 ((b : Int) - 97 + 65))) from
          ⟨k + 1, _, by omega, rfl, hR.set_ k _, hU.next hlt (by rw [hbn]; congr 1; omega), hX.set (p := ⟨g, k, none⟩) hge _⟩)
        clear hR hU hX hck hb hbn hup hg
        go_wp2_with fail
        go_roundw
        case rel => exact HE.out
        case measure => simp [intOf]; omega
      · have HE := Lib.hid (show UpRel W g s (.int .i64 ((k + 1 : Nat) : Int)) wr from ⟨k + 1, cs, by omega, rfl, hR, hU.same hlt (by unfold upB; rw [if_neg (by rw [hb]; exact hup)]), hX⟩)
        by_cases h97 : 97 ≤ b
        · have d1 : decide ((97 : Int) ≤ (b : Int)) = true := decide_eq_true (by omega)
          have d2 : decide ((b : Int) ≤ 122) = false := decide_eq_false (by omega)
          clear hR hU hX hck hb hup hg
          go_wp2_with fail
          go_roundw
          case rel => exact HE.out
          case measure => simp [intOf]; omega
        · have d1 : decide ((97 : Int) ≤ (b : Int)) = false := decide_eq_false (by omega)
          clear hR hU hX hck hb hup hg
          go_wp2_with fail
          go_roundw
          case rel => exact HE.out
          case measure => simp [intOf]; omega
    · obtain rfl : k = s.length := by omega
      have hd : decide ((s.length : Int) < (s.length : Int)) = false := by simp
      have hbk := run_convert_bytes_back (P := Tryz.prog) wr 47 9 5 ⟨g, 0, none⟩ cap (upS s) Tryz.underlying47 Tryz.underlying5 Tryz.underlying9 (fun j hj => by
        have hj' : j < s.length := by simpa [upS] using hj
        rw [add_flat, Nat.zero_add, hR.cell j, hU j hj', if_pos hj']
        simp [upS])
      rw [show (upS s).length = s.length by simp [upS]] at hbk
      have HX := Lib.hid hX
      clear hR hU hX hg
      go_wp2_with fail
      go_ret
      exact ⟨rfl, HX.out⟩
end Go.Proofs.YtjneghncmgjkeaaGreatDoor

set_option linter.unusedVariables false
namespace Go.Proofs.YtjneghncmgjkeaaGreatDoor
open Go.RowKit
/-- Only block g has turned, and what is new. -/
theorem only_alloc {a w : World} {row : Option Nat} (h : a.grownBy w row) (o : Obj) : a.grownBy (w.alloc o) row :=
  ⟨h.os, h.tape, h.output, Nat.le_trans h.size (by simp), fun i hi hne => (Below.heap_alloc w o i (Nat.lt_of_lt_of_le hi h.size)).trans (h.block i hi hne)⟩
theorem only_ext {a w w' : World} {row : Option Nat} (h : a.grownBy w row) (hx : Ext w w') : a.grownBy w' row :=
  ⟨hx.os.trans h.os, hx.tape.trans h.tape, hx.output.trans h.output, Nat.le_trans h.size hx.size, fun i hi hne => (hx.block i (Nat.lt_of_lt_of_le hi h.size)).trans (h.block i hi hne)⟩
theorem only_set {a w : World} {g : Nat} (h : a.grownBy w (some g)) {p : Addr} (hp : p.block = g ∨ a.heap.size ≤ p.block) (u : Value) : a.grownBy (w.setCell p u) (some g) :=
  ⟨h.os, h.tape, h.output, by simpa [World.setCell] using h.size, fun i hi hne => (Below.heap_setCell w p u i (by
    rintro rfl
    rcases hp with hp | hp
    · exact hne (by rw [hp])
    · omega)).trans (h.block i hi hne)⟩
theorem only_trans {a b c : World} {row : Option Nat} (h : a.grownBy b row) (k : b.grownBy c row) : a.grownBy c row :=
  ⟨k.os.trans h.os, k.tape.trans h.tape, k.output.trans h.output, Nat.le_trans h.size k.size, fun i hi hne => (k.block i (Nat.lt_of_lt_of_le hi h.size) hne).trans (h.block i hi hne)⟩
theorem own_lit {w0 w : World} (hx : Ext w0 w) (cs : Array Value) (e : TypeId) (n size : Nat) {g : Nat} (hg : g = w.heap.size) (hm : n ≤ maxLen) (hs : cs.size = n * size) : (w.alloc (.cells cs e)).ownsRow w0.heap.size e size (.slice (some ⟨g, 0, none⟩) n n) n cs.toList := by
  subst hg
  exact World.ownsRow_lit w cs n hx.size hm hs
theorem own_set {w : World} {base : Nat} {e : TypeId} {size n : Nat} {v : Value} {xs : List Value} (h : w.ownsRow base e size v n xs) {a : Addr} (ha : v.ownBlock ≠ some a.block) (u : Value) : (w.setCell a u).ownsRow base e size v n xs := ownsRow_setCell_other h ha u

/-! ### Results that lie in memory -/
section
variable {fn : Func} {tmps : Array Value} {P : Program} {w : World}
theorem results_c {p : Tmp} {ty : TypeId} {a : Addr} {v : Value} (h : fn.results = #[.cell p ty]) (ha : tmps.getD p undef = .pointer (some a)) (hv : (loadVar ty a).run P w = .ok v w) : (results fn tmps).run P w = .ok v w := by
  simp only [results, h]
  simp at ha
  simp [ha, asAddr, hv]
theorem results_tc {p u : Tmp} {ty : TypeId} {a : Addr} {v : Value} (h : fn.results = #[.tmp u, .cell p ty]) (ha : tmps.getD p undef = .pointer (some a)) (hv : (loadVar ty a).run P w = .ok v w) : (results fn tmps).run P w = .ok (.tuple #[tmps.getD u undef, v]) w := by
  simp only [results, h]
  simp at ha
  simp [Result.andThen, ha, asAddr, hv]
theorem results_cc {p q : Tmp} {ty tq : TypeId} {a b : Addr} {v u : Value} (h : fn.results = #[.cell p ty, .cell q tq]) (ha : tmps.getD p undef = .pointer (some a)) (hv : (loadVar ty a).run P w = .ok v w) (hb : tmps.getD q undef = .pointer (some b)) (hu : (loadVar tq b).run P w = .ok u w) : (results fn tmps).run P w = .ok (.tuple #[v, u]) w := by
  simp only [results, h]
  simp at ha hb
  simp [Sem.run_bind, Result.andThen, ha, hb, asAddr, hv, hu]
end
end Go.Proofs.YtjneghncmgjkeaaGreatDoor
