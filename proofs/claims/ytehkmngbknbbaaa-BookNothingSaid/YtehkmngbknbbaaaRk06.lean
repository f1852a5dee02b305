/-
  Orders checked: the walks through within, place, Check.
-/
import Derived.Test.YtehkmngbknbbaaaProg
import Derived.Test.YtehkmngbknbbaaaRk01
import Derived.Test.YtehkmngbknbbaaaRk05
import Derived.Test.YtehkmngbknbbaaaRk02
import Derived.Laws.MakeOwn
import Derived.Laws.CopyOwn
set_option linter.unusedVariables false
namespace Go.Proofs.Ytehkmngbknbbaaa
open Go.RowKit

theorem within_any (n lo hi : Int) (w : World) :
    Calls Try.prog 65 #[.int .i64 n, .int .i64 lo, .int .i64 hi] w fun e w' => e = .returned (.bool (win n lo hi)) ∧ w = w' := by
  unfold win
  by_cases h1 : lo ≤ n <;> by_cases h2 : n ≤ hi
  all_goals
    go_enter Try.func65, Try.ntmps65
    go_wp2
    go_ret
    exact ⟨ret_bool (by simp [h1, h2]), rfl⟩
theorem place_any (n : Int) (w : World) :
    Calls Try.prog 66 #[.int .i64 n] w fun e w' => e = .returned (.bool (win n (-1099511627775) 1099511627775)) ∧ w = w' := by
  go_enter Try.func66, Try.ntmps66
  go_wp2_with (go_at_call 65; refine (within_any _ _ _ _).mono ?_; rintro e w' ⟨rfl, rfl⟩)
  go_ret
  exact ⟨rfl, rfl⟩

def Ln.cells (l : Ln) : List Value := [.int .i64 l.c, .int .i64 l.a]
def lnCells (ls : List Ln) : List Value := ls.flatMap Ln.cells
theorem lnCells_at (ls : List Ln) : ∀ (k : Nat) (h : k < ls.length), (lnCells ls)[k * 2]? = some (.int .i64 ls[k].c) ∧ (lnCells ls)[k * 2 + 1]? = some (.int .i64 ls[k].a) := by
  induction ls with
  | nil => intro k h; simp at h
  | cons l r ih =>
    intro k h
    cases k with
    | zero => simp [lnCells, Ln.cells]
    | succ k =>
      have := ih k (by simpa using h)
      simpa [lnCells, Ln.cells, Nat.add_mul, Nat.add_assoc] using this

set_option maxHeartbeats 1000000 in
theorem check_any (o : Ord) (A : Option Addr) (cap : Nat) (w : World) (hr : Reads w w.heap.size 2 A o.ls.length (lnCells o.ls)) (hm : o.ls.length ≤ maxLen) :
    Calls Try.prog 17 #[.agg #[.int .i64 o.cu, .int .i64 o.day, .int .i64 o.px, .int .i64 o.py, .slice A o.ls.length cap]] w fun e w' => e = .returned (.tuple #[.int .i64 o.check.1, .int .i64 o.check.2]) ∧ Ext w w' := by
  unfold maxLen at hm
  obtain ⟨cu, day, px, py, ls⟩ := o
  simp only at *
  have h0c : Ord.head ⟨cu, day, px, py, ls⟩ = (win cu 0 1099511627775 && win day 0 3652058 && win px (-1099511627775) 1099511627775 && win py (-1099511627775) 1099511627775) := rfl
  rcases h0 : Ord.head ⟨cu, day, px, py, ls⟩
  · have H := Lib.hid (show Ord.check ⟨cu, day, px, py, ls⟩ = (5, 0) by simp [Ord.check, h0])
    have H0 := Lib.hid (h0c.symm.trans h0)
    clear h0 h0c
    go_enter Try.func17, Try.ntmps17
    go_wp2_with (first | (go_at_call 65; refine (within_any _ _ _ _).mono ?_; rintro e w' ⟨rfl, rfl⟩) | (go_at_call 66; refine (place_any _ _).mono ?_; rintro e w' ⟨rfl, rfl⟩))
    all_goals first | (go_ret2; exact ⟨by rw [H.out]; rfl, (Ext.refl _).alloc _⟩) | (exfalso; have h9 := H0.out; go_tidy; simp_all; done)
  have h1 : win cu 0 1099511627775 = true := by simp_all
  have h2 : win day 0 3652058 = true := by simp_all
  have h3 : win px (-1099511627775) 1099511627775 = true := by simp_all
  have h4 : win py (-1099511627775) 1099511627775 = true := by simp_all
  clear h0c
  by_cases hl : ls.length = 0
  · have H := Lib.hid (show Ord.check ⟨cu, day, px, py, ls⟩ = (2, 0) by simp [Ord.check, h0, hl])
    have hb := eq0_t hl
    clear h0 hl
    go_enter Try.func17, Try.ntmps17
    go_wp2_with (first | (go_at_call 65; refine (within_any _ _ _ _).mono ?_; rintro e w' ⟨rfl, rfl⟩) | (go_at_call 66; refine (place_any _ _).mono ?_; rintro e w' ⟨rfl, rfl⟩))
    go_ret2
    exact ⟨by rw [H.out]; rfl, (Ext.refl _).alloc _⟩
  have hb := eq0_f hl
  by_cases hl2 : 100 < ls.length
  · have H := Lib.hid (show Ord.check ⟨cu, day, px, py, ls⟩ = (3, 0) by simp [Ord.check, h0, hl, hl2])
    have hb2 := lt_t (show (100 : Int) < ls.length by omega)
    clear h0 hl
    go_enter Try.func17, Try.ntmps17
    go_wp2_with (first | (go_at_call 65; refine (within_any _ _ _ _).mono ?_; rintro e w' ⟨rfl, rfl⟩) | (go_at_call 66; refine (place_any _ _).mono ?_; rintro e w' ⟨rfl, rfl⟩))
    go_ret2
    exact ⟨by rw [H.out]; rfl, (Ext.refl _).alloc _⟩
  have hb2 := lt_f (show (ls.length : Int) ≤ 100 by omega)
  have H : Hid (∀ r, badLn ls 0 = r → Ord.check ⟨cu, day, px, py, ls⟩ = match r with | some k => (5, (k : Int)) | none => (0, 0)) := fun r h => by simp [Ord.check, h0, hl, hl2, h]; rfl
  clear h0
  go_enter Try.func17, Try.ntmps17
  go_wp2_with (first | (go_at_call 65; refine (within_any _ _ _ _).mono ?_; rintro e w' ⟨rfl, rfl⟩) | (go_at_call 66; refine (place_any _ _).mono ?_; rintro e w' ⟨rfl, rfl⟩))
  go_loopw [44] (fun i wr => ∃ k : Nat, k ≤ ls.length ∧ i = .int .i64 k ∧ Ext w wr ∧ badLn (ls.take k) 0 = none) (fun i _ => ls.length - (intOf i).toNat)
  case atStart => exact ⟨0, by omega, rfl, (Ext.refl _).alloc _, rfl⟩
  case round =>
    obtain ⟨k, hk, rfl, hx, hbad⟩ := hrel
    by_cases hlt : k < ls.length
    · have hr' := hr.extB (Nat.le_refl _) hx
      obtain ⟨b, off, rfl, hadb, hc⟩ := hr'.cellAt hlt
      obtain ⟨e1, e2⟩ := lnCells_at ls k hlt
      have c1 := hc _ _ e1
      have c2 : wr.cell? ⟨b, off + k * 2 + 1, none⟩ = _ := hc _ _ e2
      clear hc e1 e2 hr hr'
      rcases q1 : win ls[k].c 1 1099511627775 <;> rcases q2 : win ls[k].a 0 1099511627775
      case false.false | false.true | true.false =>
        have e : (ls[k]).ok = false := by simp [Ln.ok, *]
        have HB := Lib.hid (badLn_hit ls 0 k hlt hbad e)
        clear hbad e
        go_wp2_with (go_at_call 65; refine (within_any _ _ _ _).mono ?_; rintro e w' ⟨rfl, rfl⟩)
        go_ret2
        refine ⟨?_, hx.alloc _⟩
        rw [H.out _ HB.out]; simp
      case true.true =>
        have e : (ls[k]).ok = true := by simp [Ln.ok, *]
        have HB := Lib.hid (badLn_take ls 0 k hlt hbad e)
        clear hbad e
        go_wp2_with (go_at_call 65; refine (within_any _ _ _ _).mono ?_; rintro e w' ⟨rfl, rfl⟩)
        go_roundw
        case rel => exact ⟨k + 1, by omega, by go_num, hx.alloc _, HB.out⟩
        case measure => simp [intOf]; omega
    · have e : k = ls.length := by omega
      have HB := Lib.hid (show badLn ls 0 = none by rw [e, List.take_length] at hbad; exact hbad)
      clear hbad e
      go_wp2_with fail
      go_ret2
      refine ⟨?_, hx⟩
      rw [H.out _ HB.out]; rfl
end Go.Proofs.Ytehkmngbknbbaaa

set_option linter.unusedVariables false
namespace Go.Proofs.Ytehkmngbknbbaaa
open Go.RowKit

theorem run_make_rowN {P : Program} (t e : TypeId) (i : TypeInfo) (z : Value) (ht : P.underlying t = some (.slice e)) (hi : P.info? e = some i) (hz : i.zero = some z)
    (kl kc : IntKind) (n c : Nat) (hnc : n ≤ c) (hbytes : i.bytes * c ≤ 281474976710656) (h63 : c ≤ 9223372036854775807) (w : World) :
    (Instr.makeSlice t (.int kl (n : Int)) (.int kc (c : Int))).run P w = .ok (.slice (some ⟨w.heap.size, 0, none⟩) n c) (w.alloc (.cells (madeCells z.cells (c * i.size)) e)) := by
  have hb : (i.bytes : Int) * (c : Int) ≤ 281474976710656 := by
    have h : ((i.bytes * c : Nat) : Int) ≤ 281474976710656 := by omega
    rwa [Int.natCast_mul] at h
  have hr := run_make (P := P) w t e i z ht hi hz kl kc n c (by omega) (by omega) hb (by omega)
  simp only [Int.toNat_natCast] at hr
  exact hr
/-- n times one value, closed to simp. -/
def reps (n : Nat) (z : Value) : List Value := List.replicate n z
theorem RowT.make {P : Program} {t e : TypeId} {bytes : Nat} {z : Value} (T : RowT P t e 1 bytes z) (hz1 : z.cells = #[z]) (n : Nat) (hbytes : bytes * n ≤ 281474976710656) (h63 : n ≤ 9223372036854775807) (w : World) :
    (Instr.makeSlice t (.int .i64 (n : Int)) (.int .i64 (n : Int))).run P w = .ok (.slice (some ⟨w.heap.size, 0, none⟩) n n) (w.alloc (.cells (reps n z).toArray e)) := by
  obtain ⟨ht, ⟨i, hi, hz, hsize, hby⟩, hzs, hsz⟩ := T
  have := run_make_rowN t e i z ht hi hz .i64 .i64 n n (Nat.le_refl _) (by rw [hby]; exact hbytes) h63 w
  rw [this, hsize, Nat.mul_one]
  rw [hz1]
  unfold reps
  congr 3
  apply Array.ext'
  simpa [reps] using toList_madeCells_one z n

/-- Only block g has turned, and what is new. -/
theorem only_alloc {a w : World} {row : Option Nat} (h : a.grownBy w row) (o : Obj) : a.grownBy (w.alloc o) row :=
  ⟨h.os, h.tape, h.output, Nat.le_trans h.size (by simp), fun i hi hne => (Below.heap_alloc w o i (Nat.lt_of_lt_of_le hi h.size)).trans (h.block i hi hne)⟩
theorem only_drewN {a w : World} {row : Option Nat} (h : a.grownBy w row) (n : Nat) : a.grownBy (w.drewN n) row := ⟨h.os, h.tape, h.output, h.size, h.block⟩
theorem only_ext {a w w' : World} {row : Option Nat} (h : a.grownBy w row) (hx : Ext w w') : a.grownBy w' row :=
  ⟨hx.os.trans h.os, hx.tape.trans h.tape, hx.output.trans h.output, Nat.le_trans h.size hx.size, fun i hi hne => (hx.block i (Nat.lt_of_lt_of_le hi h.size)).trans (h.block i hi hne)⟩
theorem ext_only {a w w' : World} {row : Option Nat} (h : Ext a w) (hx : w.grownBy w' row) (hr : ∀ k, row = some k → a.heap.size ≤ k) : Ext a w' := h.grown hx hr
theorem only_set {a w : World} {g : Nat} (h : a.grownBy w (some g)) {p : Addr} (hp : p.block = g ∨ a.heap.size ≤ p.block) (u : Value) : a.grownBy (w.setCell p u) (some g) :=
  ⟨h.os, h.tape, h.output, by simpa [World.setCell] using h.size, fun i hi hne => (Below.heap_setCell w p u i (by
    rintro rfl
    rcases hp with hp | hp
    · exact hne (by rw [hp])
    · omega)).trans (h.block i hi hne)⟩
theorem only_trans {a b c : World} {row : Option Nat} (h : a.grownBy b row) (k : b.grownBy c row) : a.grownBy c row :=
  ⟨k.os.trans h.os, k.tape.trans h.tape, k.output.trans h.output, Nat.le_trans h.size k.size, fun i hi hne => (k.block i (Nat.lt_of_lt_of_le hi h.size) hne).trans (h.block i hi hne)⟩
theorem own_lit {w0 w : World} (hx : Ext w0 w) (cs : Array Value) (e : TypeId) (n size : Nat) {g : Nat} (hg : g = w.heap.size) (hm : n ≤ maxLen) (hs : cs.size = n * size) : (w.alloc (.cells cs e)).ownsRow w0.heap.size e size (.slice (some ⟨g, 0, none⟩) n n) n cs.toList := by
  subst hg
  exact World.ownsRow_lit w cs n hx.size hm hs
theorem own_set {w : World} {base : Nat} {e : TypeId} {size n : Nat} {v : Value} {xs : List Value} (h : w.ownsRow base e size v n xs) {a : Addr} (ha : v.ownBlock ≠ some a.block) (u : Value) : (w.setCell a u).ownsRow base e size v n xs := ownsRow_setCell_other h ha u

/-! ### Results that lie in memory -/
section
variable {fn : Func} {tmps : Array Value} {P : Program} {w : World}
theorem results_c {p : Tmp} {ty : TypeId} {a : Addr} {v : Value} (h : fn.results = #[.cell p ty]) (ha : tmps.getD p undef = .pointer (some a)) (hv : (loadVar ty a).run P w = .ok v w) : (results fn tmps).run P w = .ok v w := by
  simp only [results, h]
  simp at ha
  simp [ha, asAddr, hv]
theorem results_ct {p u : Tmp} {ty : TypeId} {a : Addr} {v : Value} (h : fn.results = #[.cell p ty, .tmp u]) (ha : tmps.getD p undef = .pointer (some a)) (hv : (loadVar ty a).run P w = .ok v w) : (results fn tmps).run P w = .ok (.tuple #[v, tmps.getD u undef]) w := by
  simp only [results, h]
  simp at ha
  simp [Result.andThen, ha, asAddr, hv]
theorem results_tc {p u : Tmp} {ty : TypeId} {a : Addr} {v : Value} (h : fn.results = #[.tmp u, .cell p ty]) (ha : tmps.getD p undef = .pointer (some a)) (hv : (loadVar ty a).run P w = .ok v w) : (results fn tmps).run P w = .ok (.tuple #[tmps.getD u undef, v]) w := by
  simp only [results, h]
  simp at ha
  simp [Result.andThen, ha, asAddr, hv]
theorem results_ttc {p u u' : Tmp} {ty : TypeId} {a : Addr} {v : Value} (h : fn.results = #[.tmp u, .tmp u', .cell p ty]) (ha : tmps.getD p undef = .pointer (some a)) (hv : (loadVar ty a).run P w = .ok v w) : (results fn tmps).run P w = .ok (.tuple #[tmps.getD u undef, tmps.getD u' undef, v]) w := by
  simp only [results, h]
  simp at ha
  simp [Result.andThen, ha, asAddr, hv]
theorem results_cc {p q : Tmp} {ty tq : TypeId} {a b : Addr} {v u : Value} (h : fn.results = #[.cell p ty, .cell q tq]) (ha : tmps.getD p undef = .pointer (some a)) (hv : (loadVar ty a).run P w = .ok v w) (hb : tmps.getD q undef = .pointer (some b)) (hu : (loadVar tq b).run P w = .ok u w) : (results fn tmps).run P w = .ok (.tuple #[v, u]) w := by
  simp only [results, h]
  simp at ha hb
  simp [Sem.run_bind, Result.andThen, ha, hb, asAddr, hv, hu]
end
end Go.Proofs.Ytehkmngbknbbaaa
