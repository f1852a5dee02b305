/-
  More words: makes, rows of one block that turned, structs read whole.
-/
import Derived.Test.YtehkmngbknbbaaaRj02
import Derived.Laws.MakeOwn
import Derived.Laws.CopyOwn
import Derived.Test.YtehkmngbknbbaaaProg
set_option linter.unusedVariables false
namespace Go.Proofs.Ytehkmngbknbbaaa
open Go.RowKit

theorem run_make_rowN {P : Program} (t e : TypeId) (i : TypeInfo) (z : Value) (ht : P.underlying t = some (.slice e)) (hi : P.info? e = some i) (hz : i.zero = some z)
    (kl kc : IntKind) (n c : Nat) (hnc : n ≤ c) (hbytes : i.bytes * c ≤ 281474976710656) (h63 : c ≤ 9223372036854775807) (w : World) :
    (Instr.makeSlice t (.int kl (n : Int)) (.int kc (c : Int))).run P w = .ok (.slice (some ⟨w.heap.size, 0, none⟩) n c) (w.alloc (.cells (madeCells z.cells (c * i.size)) e)) := by
  have hb : (i.bytes : Int) * (c : Int) ≤ 281474976710656 := by
    have h : ((i.bytes * c : Nat) : Int) ≤ 281474976710656 := by omega
    rwa [Int.natCast_mul] at h
  have hr := run_make (P := P) w t e i z ht hi hz kl kc n c (by omega) (by omega) hb (by omega)
  simp only [Int.toNat_natCast] at hr
  exact hr
/-- n times one value, closed to simp. -/
def reps (n : Nat) (z : Value) : List Value := List.replicate n z
theorem RowT.make {P : Program} {t e : TypeId} {bytes : Nat} {z : Value} (T : RowT P t e 1 bytes z) (hz1 : z.cells = #[z]) (n : Nat) (hbytes : bytes * n ≤ 281474976710656) (h63 : n ≤ 9223372036854775807) (w : World) :
    (Instr.makeSlice t (.int .i64 (n : Int)) (.int .i64 (n : Int))).run P w = .ok (.slice (some ⟨w.heap.size, 0, none⟩) n n) (w.alloc (.cells (reps n z).toArray e)) := by
  obtain ⟨ht, ⟨i, hi, hz, hsize, hby⟩, hzs, hsz⟩ := T
  have := run_make_rowN t e i z ht hi hz .i64 .i64 n n (Nat.le_refl _) (by rw [hby]; exact hbytes) h63 w
  rw [this, hsize, Nat.mul_one]
  rw [hz1]
  unfold reps
  congr 3
  apply Array.ext'
  simpa [reps] using toList_madeCells_one z n

/-- Only block g has turned, and what is new. -/
theorem only_alloc {a w : World} {row : Option Nat} (h : a.grownBy w row) (o : Obj) : a.grownBy (w.alloc o) row :=
  ⟨h.os, h.tape, h.output, Nat.le_trans h.size (by simp), fun i hi hne => (Below.heap_alloc w o i (Nat.lt_of_lt_of_le hi h.size)).trans (h.block i hi hne)⟩
theorem only_drewN {a w : World} {row : Option Nat} (h : a.grownBy w row) (n : Nat) : a.grownBy (w.drewN n) row := ⟨h.os, h.tape, h.output, h.size, h.block⟩
theorem only_ext {a w w' : World} {row : Option Nat} (h : a.grownBy w row) (hx : Ext w w') : a.grownBy w' row :=
  ⟨hx.os.trans h.os, hx.tape.trans h.tape, hx.output.trans h.output, Nat.le_trans h.size hx.size, fun i hi hne => (hx.block i (Nat.lt_of_lt_of_le hi h.size)).trans (h.block i hi hne)⟩
theorem ext_only {a w w' : World} {row : Option Nat} (h : Ext a w) (hx : w.grownBy w' row) (hr : ∀ k, row = some k → a.heap.size ≤ k) : Ext a w' := h.grown hx hr
theorem only_set {a w : World} {g : Nat} (h : a.grownBy w (some g)) {p : Addr} (hp : p.block = g ∨ a.heap.size ≤ p.block) (u : Value) : a.grownBy (w.setCell p u) (some g) :=
  ⟨h.os, h.tape, h.output, by simpa [World.setCell] using h.size, fun i hi hne => (Below.heap_setCell w p u i (by
    rintro rfl
    rcases hp with hp | hp
    · exact hne (by rw [hp])
    · omega)).trans (h.block i hi hne)⟩
theorem only_trans {a b c : World} {row : Option Nat} (h : a.grownBy b row) (k : b.grownBy c row) : a.grownBy c row :=
  ⟨k.os.trans h.os, k.tape.trans h.tape, k.output.trans h.output, Nat.le_trans h.size k.size, fun i hi hne => (k.block i (Nat.lt_of_lt_of_le hi h.size) hne).trans (h.block i hi hne)⟩
theorem own_lit {w0 w : World} (hx : Ext w0 w) (cs : Array Value) (e : TypeId) (n size : Nat) {g : Nat} (hg : g = w.heap.size) (hm : n ≤ maxLen) (hs : cs.size = n * size) : (w.alloc (.cells cs e)).ownsRow w0.heap.size e size (.slice (some ⟨g, 0, none⟩) n n) n cs.toList := by
  subst hg
  exact World.ownsRow_lit w cs n hx.size hm hs
theorem own_set {w : World} {base : Nat} {e : TypeId} {size n : Nat} {v : Value} {xs : List Value} (h : w.ownsRow base e size v n xs) {a : Addr} (ha : v.ownBlock ≠ some a.block) (u : Value) : (w.setCell a u).ownsRow base e size v n xs := ownsRow_setCell_other h ha u

/-! ### Results that lie in memory -/
section
variable {fn : Func} {tmps : Array Value} {P : Program} {w : World}
theorem results_c {p : Tmp} {ty : TypeId} {a : Addr} {v : Value} (h : fn.results = #[.cell p ty]) (ha : tmps.getD p undef = .pointer (some a)) (hv : (loadVar ty a).run P w = .ok v w) : (results fn tmps).run P w = .ok v w := by
  simp only [results, h]
  simp at ha
  simp [ha, asAddr, hv]
theorem results_ct {p u : Tmp} {ty : TypeId} {a : Addr} {v : Value} (h : fn.results = #[.cell p ty, .tmp u]) (ha : tmps.getD p undef = .pointer (some a)) (hv : (loadVar ty a).run P w = .ok v w) : (results fn tmps).run P w = .ok (.tuple #[v, tmps.getD u undef]) w := by
  simp only [results, h]
  simp at ha
  simp [Result.andThen, ha, asAddr, hv]
theorem results_tc {p u : Tmp} {ty : TypeId} {a : Addr} {v : Value} (h : fn.results = #[.tmp u, .cell p ty]) (ha : tmps.getD p undef = .pointer (some a)) (hv : (loadVar ty a).run P w = .ok v w) : (results fn tmps).run P w = .ok (.tuple #[tmps.getD u undef, v]) w := by
  simp only [results, h]
  simp at ha
  simp [Result.andThen, ha, asAddr, hv]
theorem results_ttc {p u u' : Tmp} {ty : TypeId} {a : Addr} {v : Value} (h : fn.results = #[.tmp u, .tmp u', .cell p ty]) (ha : tmps.getD p undef = .pointer (some a)) (hv : (loadVar ty a).run P w = .ok v w) : (results fn tmps).run P w = .ok (.tuple #[tmps.getD u undef, tmps.getD u' undef, v]) w := by
  simp only [results, h]
  simp at ha
  simp [Result.andThen, ha, asAddr, hv]
theorem results_cc {p q : Tmp} {ty tq : TypeId} {a b : Addr} {v u : Value} (h : fn.results = #[.cell p ty, .cell q tq]) (ha : tmps.getD p undef = .pointer (some a)) (hv : (loadVar ty a).run P w = .ok v w) (hb : tmps.getD q undef = .pointer (some b)) (hu : (loadVar tq b).run P w = .ok u w) : (results fn tmps).run P w = .ok (.tuple #[v, u]) w := by
  simp only [results, h]
  simp at ha hb
  simp [Sem.run_bind, Result.andThen, ha, hb, asAddr, hv, hu]
end
end Go.Proofs.Ytehkmngbknbbaaa

set_option linter.unusedVariables false
namespace Go.Proofs.Ytehkmngbknbbaaa
open Go.RowKit
theorem row_u8 : RowT Try.prog 27 5 1 1 (.int .u8 0) := rowT_mk Try.underlying27 (z := .int .u8 0) (by kernel_rfl) rfl (by decide)
theorem row_int : RowT Try.prog 47 3 1 8 (.int .i64 0) := rowT_mk Try.underlying47 (z := .int .i64 0) (by kernel_rfl) rfl (by decide)

/-- A round of a Put: so much is written, r is left. -/
def PutRel (w : World) (z : Nat) (s o : Value) (wr : World) : Prop :=
  ∃ (f r : Nat) (out : List UInt8), s = .int .u64 (r : Int) ∧ r < 128 ^ f ∧ r < 18446744073709551616 ∧ 1 ≤ f ∧ f + out.length ≤ 10 ∧ lebF 10 z = out ++ lebF f r ∧ wr.ownsRow w.heap.size 5 1 o out.length (bV out) ∧ Ext w wr ∧ AllP wr o u8P
theorem PutRel.next {w w1 : World} {z f r : Nat} {out : List UInt8} {v1 : Value} {n c : Int} (hr : r < 128 ^ (f + 1)) (hrl : r < 18446744073709551616) (hge : 128 ≤ r) (hfl : f + 1 + out.length ≤ 10) (h : lebF 10 z = out ++ lebF (f + 1) r)
    (hg : w1.ownsRow w.heap.size 5 1 v1 (out.length + 1) (bV out ++ [.int .u8 c])) (hc : c = ((UInt8.ofNat (r % 128 + 128)).toNat : Int)) (hx : Ext w w1) (hall : AllP w1 v1 u8P) (hn : n = ((r / 128 : Nat) : Int)) : PutRel w z (.int .u64 n) v1 w1 := by
  subst hn hc
  refine ⟨f, r / 128, out ++ [UInt8.ofNat (r % 128 + 128)], rfl, ?_, by omega, ?_, by simp; omega, by rw [h, lebF_big f r hge]; simp, ?_, hx, hall⟩
  · rw [Nat.pow_succ] at hr; exact Nat.div_lt_of_lt_mul (by omega)
  · rcases f with _ | f
    · simp at hr; omega
    · omega
  · rw [bV_app, List.length_append]
    simpa [bV] using hg
theorem PutRel.done {w w1 : World} {z f r : Nat} {out : List UInt8} {v1 : Value} (hlt : r < 128) (h : lebF 10 z = out ++ lebF (f + 1) r)
    (hg : w1.ownsRow w.heap.size 5 1 v1 (out.length + 1) (bV out ++ [.int .u8 ((UInt8.ofNat r).toNat : Int)])) : w1.ownsRow w.heap.size 5 1 v1 (lebF 10 z).length (bV (lebF 10 z)) := by
  rw [h, lebF_small f r hlt, bV_app, List.length_append]
  simpa [bV] using hg

set_option maxHeartbeats 400000 in
theorem oput_any (n : Int) (h1 : -9223372036854775808 ≤ n) (h2 : n ≤ 9223372036854775807) (w : World) :
    Calls Try.prog 100 #[.int .i64 n] w fun e w' => ∃ v, e = .returned v ∧ w'.ownsRow w.heap.size 5 1 v (putL n).length (bV (putL n)) ∧ Ext w w' ∧ AllP w' v u8P := by
  have hz := zig_o n h1 h2
  have hz1 := zig_lt n h1 h2
  go_enter Try.func100, Try.ntmps100
  go_wp2
  clear hz
  go_loopw [3, 4] (fun s o wr => PutRel w (zig n) s o wr) (fun s _ _ => (intOf s).toNat)
  case atStart => exact ⟨10, zig n, [], rfl, by omega, by omega, by omega, by simp, rfl, World.ownsRow_nil _ _ _ _, Ext.refl _, AllP.nil _ _ _ _⟩
  case round =>
    obtain ⟨f, r, out, rfl, hr, hrl, hf, hfl, heq, hown, hx, hall⟩ := hrel
    obtain ⟨f, rfl⟩ : ∃ g, f = g + 1 := ⟨f - 1, by omega⟩
    have HE := Lib.hid heq
    have HR := Lib.hid hr
    have HL := Lib.hid hrl
    clear heq hrl hr hz1
    by_cases hlt : r < 128
    · have hb := byte_lo r hlt
      have hd : decide ((128 : Int) ≤ (r : Int)) = false := by simp; omega
      go_wp2_with (at_builtin; refine wpl_app1 row_u8 w wr (.tmp 22) (.tmp 25) rfl rfl rfl hown hx rfl (by simp) rfl (by simp [Value.oneCell']) (by omega) (by unfold maxLen; omega) ?_; intro v1 w1 hg)
      go_ret
      exact ⟨_, rfl, PutRel.done hlt HE.out hg.own, hg.ext, hg.all u8P u8z (u8b1 _ _) (hall.ext ((Ext.refl _).alloc _))⟩
    · have hb := byte_o' r
      have hd : decide ((128 : Int) ≤ (r : Int)) = true := by simp; omega
      go_wp2_with (at_builtin; refine wpl_app1 row_u8 w wr (.tmp 16) (.tmp 20) rfl rfl rfl hown hx rfl (by simp) rfl (by simp [Value.oneCell']) (by omega) (by unfold maxLen; omega) ?_; intro v1 w1 hg)
      go_roundw
      case rel => exact PutRel.next HR.out HL.out (by omega) hfl HE.out hg.own (byte_o2 r) hg.ext (hg.all u8P u8z (u8b1 _ _) (hall.ext ((Ext.refl _).alloc _))) rfl
      case measure => simp [intOf]; omega

set_option maxHeartbeats 400000 in
theorem rput_any (n : Int) (h1 : -9223372036854775808 ≤ n) (h2 : n ≤ 9223372036854775807) (w : World) :
    Calls Try.prog 103 #[.int .i64 n] w fun e w' => ∃ v, e = .returned v ∧ w'.ownsRow w.heap.size 5 1 v (putL n).length (bV (putL n)) ∧ Ext w w' ∧ AllP w' v u8P := by
  have hz1 := zig_lt n h1 h2
  by_cases hn : n < 0
  case' pos =>
    have hz := zig_r2 n h1 hn
    have hd0 : decide (n < (0 : Int)) = true := by simpa using hn
  case' neg =>
    have hz := zig_r1 n h2 (by omega)
    have hd0 : decide (n < (0 : Int)) = false := by simpa using hn
  all_goals
    clear hn
    go_enter Try.func103, Try.ntmps103
    go_wp2
    clear hz
    go_loopw [3, 4] (fun s o wr => PutRel w (zig n) s o wr) (fun s _ _ => (intOf s).toNat)
    case atStart => exact ⟨10, zig n, [], rfl, by omega, by omega, by omega, by simp, rfl, World.ownsRow_nil _ _ _ _, Ext.refl _, AllP.nil _ _ _ _⟩
    case round =>
      obtain ⟨f, r, out, rfl, hr, hrl, hf, hfl, heq, hown, hx, hall⟩ := hrel
      obtain ⟨f, rfl⟩ : ∃ g, f = g + 1 := ⟨f - 1, by omega⟩
      have HE := Lib.hid heq
      have HR := Lib.hid hr
      have HL := Lib.hid hrl
      clear heq hrl hr hz1
      by_cases hlt : r < 128
      · have hb := byte_lo r hlt
        have hd : decide ((128 : Int) ≤ (r : Int)) = false := by simp; omega
        go_wp2_with (at_builtin; refine wpl_app1 row_u8 w wr (.tmp 23) (.tmp 26) rfl rfl rfl hown hx rfl (by simp) rfl (by simp [Value.oneCell']) (by omega) (by unfold maxLen; omega) ?_; intro v1 w1 hg)
        go_ret
        exact ⟨_, rfl, PutRel.done hlt HE.out hg.own, hg.ext, hg.all u8P u8z (u8b1 _ _) (hall.ext ((Ext.refl _).alloc _))⟩
      · skip
        have hd : decide ((128 : Int) ≤ (r : Int)) = true := by simp; omega
        go_wp2_with (at_builtin; refine wpl_app1 row_u8 w wr (.tmp 14) (.tmp 19) rfl rfl rfl hown hx rfl (by simp) rfl (by simp [Value.oneCell']) (by omega) (by unfold maxLen; omega) ?_; intro v1 w1 hg)
        go_roundw
        case rel => exact PutRel.next HR.out HL.out (by omega) hfl HE.out hg.own (byte_r' r) hg.ext (hg.all u8P u8z (u8b1 _ _) (hall.ext ((Ext.refl _).alloc _))) (u64_div r HL.out)
        case measure => have hq := u64_div r HL.out; simp only [intOf]; rw [hq]; omega
end Go.Proofs.Ytehkmngbknbbaaa
