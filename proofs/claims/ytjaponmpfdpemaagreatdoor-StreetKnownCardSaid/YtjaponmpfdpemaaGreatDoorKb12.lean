/-
  Shares rounded half to even: plain arithmetic.
-/
import Derived.Test.YtjaponmpfdpemaaGreatDoorKb11
import Derived.Test.YtjaponmpfdpemaaGreatDoorProg
import Derived.Test.YtjaponmpfdpemaaGreatDoorKb01
import Derived.Test.YtjaponmpfdpemaaGreatDoorKb07
import Derived.Test.YtjaponmpfdpemaaGreatDoorKb09
import Derived.Test.YtjaponmpfdpemaaGreatDoorKb06
import Derived.Test.YtjaponmpfdpemaaGreatDoorKb10
set_option linter.unusedVariables false
namespace Go.Proofs.YtjaponmpfdpemaaGreatDoor

/-- Rounded up: the rest is more than half, or just half behind an odd quotient. -/
def evUp (q r c : Nat) : Bool := decide (c - r < r) || (decide (r = c - r) && decide (q % 2 = 1))
/-- a * b / c, rounded half to even. -/
def evenN (a b c : Nat) : Nat := if evUp (a * b / c) (a * b % c) c then a * b / c + 1 else a * b / c

end Go.Proofs.YtjaponmpfdpemaaGreatDoor

set_option linter.unusedVariables false
namespace Go.Proofs.YtjaponmpfdpemaaGreatDoor
open Go.RowKit
end Go.Proofs.YtjaponmpfdpemaaGreatDoor

set_option linter.unusedVariables false
namespace Go.Proofs.YtjaponmpfdpemaaGreatDoor

def win (n lo hi : Int) : Bool := decide (lo ≤ n) && decide (n ≤ hi)
structure Ln where
  c : Int
  a : Int
deriving DecidableEq
structure Ord where
  cu : Int
  day : Int
  px : Int
  py : Int
  ls : List Ln
deriving DecidableEq

def Ln.ok (l : Ln) : Bool := win l.c 1 1099511627775 && win l.a 0 1099511627775
/-- The place of the first line that may not be. -/
def badLn : List Ln → Nat → Option Nat
  | [], _ => none
  | l :: r, k => if l.ok then badLn r (k + 1) else some k
def Ord.head (o : Ord) : Bool := win o.cu 0 1099511627775 && win o.day 0 3652058 && win o.px (-1099511627775) 1099511627775 && win o.py (-1099511627775) 1099511627775
/-- P25.1: the error, and at which line. -/
def Ord.check (o : Ord) : Int × Int :=
  if o.head = false then (5, 0) else if o.ls.length = 0 then (2, 0) else if 100 < o.ls.length then (3, 0) else
    match badLn o.ls 0 with
    | some k => (5, k)
    | none => (0, 0)

theorem badLn_all (ls : List Ln) : ∀ s, badLn ls s = none → ∀ x ∈ ls, x.ok = true := by
  induction ls with
  | nil => intro s _ x hx; cases hx
  | cons l r ih =>
    intro s h x hx
    unfold badLn at h
    split at h
    · rename_i hl
      rcases List.mem_cons.1 hx with rfl | hx
      · exact hl
      · exact ih _ h x hx
    · cases h
/-- What a checked order is. -/
theorem Ord.check_ok {o : Ord} (h : o.check.1 = 0) : o.head = true ∧ 1 ≤ o.ls.length ∧ o.ls.length ≤ 100 ∧ ∀ x ∈ o.ls, x.ok = true := by
  unfold Ord.check at h
  by_cases h0 : o.head = false
  · rw [if_pos h0] at h; cases h
  rw [if_neg h0] at h
  by_cases h1 : o.ls.length = 0
  · rw [if_pos h1] at h; cases h
  rw [if_neg h1] at h
  by_cases h2 : 100 < o.ls.length
  · rw [if_pos h2] at h; cases h
  rw [if_neg h2] at h
  refine ⟨by simpa using h0, by omega, by omega, ?_⟩
  split at h
  · cases h
  · rename_i hb; exact badLn_all _ _ hb
def Ord.hd (o : Ord) : List Int := [o.cu, o.day, o.px, o.py, o.ls.length]
end Go.Proofs.YtjaponmpfdpemaaGreatDoor

set_option linter.unusedVariables false
namespace Go.Proofs.YtjaponmpfdpemaaGreatDoor
open Go.RowKit
def Ln.cells (l : Ln) : List Value := [.int .i64 l.c, .int .i64 l.a]
end Go.Proofs.YtjaponmpfdpemaaGreatDoor

set_option linter.unusedVariables false
namespace Go.Proofs.YtjaponmpfdpemaaGreatDoor
open Go.RowKit
/-- P25.3: what of a total comes back, and the error. -/
def backI (t n b a : Int) : Int × Int :=
  if win t 0 4611686018427387904 = false ∨ win n 0 4611686018427387904 = false then (0, 5)
  else if b < 0 ∨ a < b ∨ n < a then (0, 2)
  else if n = 0 then (0, 0)
  else ((evenN t.toNat a.toNat n.toNat : Int) - evenN t.toNat b.toNat n.toNat, 0)
def taxV (a b c d e f : Int) : Value := .agg #[.int .i64 a, .int .i64 b, .int .i64 c, .int .i64 d, .int .i64 e, .int .i64 f]
def Tax1 (a b c d e f : Int) : Bool := win a 0 99 && win b 1 1099511627775 && win c 0 4611686018427387904 && win d 0 (4611686018427387904 - c) && win e 0 1000000 && win f 0 4611686018427387904
structure Tx where
  l : Int
  j : Int
  t : Int
  x : Int
  r : Int
  v : Int
deriving DecidableEq
def Tx.V (x : Tx) : Value := taxV x.l x.j x.t x.x x.r x.v
def Tx.zero : Tx := ⟨0, 0, 0, 0, 0, 0⟩
def Tx.ok (x : Tx) : Bool := Tax1 x.l x.j x.t x.x x.r x.v
/-- P25.3: what of a tax line comes back, and the error. -/
def Tx.ret (x : Tx) (b a : Int) : Tx × Int :=
  if x.ok = false then (Tx.zero, 5)
  else if (backI x.t (x.t + x.x) b a).2 ≠ 0 then (Tx.zero, (backI x.t (x.t + x.x) b a).2)
  else ({ x with t := (backI x.t (x.t + x.x) b a).1, x := a - b - (backI x.t (x.t + x.x) b a).1, v := (backI x.v (x.t + x.x) b a).1 }, 0)
/-- A block that holds a tax line. -/
def Tx.cells (x : Tx) : Array Value := #[.int .i64 x.l, .int .i64 x.j, .int .i64 x.t, .int .i64 x.x, .int .i64 x.r, .int .i64 x.v]
def Tx.z6 : Array Value := #[.int .i64 0, .int .i64 0, .int .i64 0, .int .i64 0, .int .i64 0, .int .i64 0]
end Go.Proofs.YtjaponmpfdpemaaGreatDoor

set_option linter.unusedVariables false
namespace Go.Proofs.YtjaponmpfdpemaaGreatDoor
open Go.RowKit
end Go.Proofs.YtjaponmpfdpemaaGreatDoor

set_option linter.unusedVariables false
namespace Go.Proofs.YtjaponmpfdpemaaGreatDoor

theorem flat_get {α β : Type} {f : α → List β} {c : Nat} (hf : ∀ a, (f a).length = c) : ∀ (l : List α) (k j : Nat) (h : k < l.length), j < c → (l.flatMap f)[k * c + j]? = (f l[k])[j]?
  | [], k, j, h, _ => by simp at h
  | a :: l, 0, j, _, hj => by
    rw [List.flatMap_cons, Nat.zero_mul, Nat.zero_add, List.getElem?_append_left (by rw [hf]; exact hj)]
    rfl
  | a :: l, k + 1, j, h, hj => by
    rw [List.flatMap_cons, List.getElem?_append_right (by rw [hf, Nat.add_mul]; omega), hf]
    rw [show (k + 1) * c + j - c = k * c + j by rw [Nat.add_mul]; omega]
    exact flat_get hf l k j (by simpa using h) hj
theorem flat_len {α β : Type} {f : α → List β} {c : Nat} (hf : ∀ a, (f a).length = c) (l : List α) : (l.flatMap f).length = l.length * c := by
  induction l with
  | nil => simp
  | cons a l ih => rw [List.flatMap_cons, List.length_append, ih, hf, List.length_cons, Nat.add_mul]; omega
theorem flat_take {α β : Type} {f : α → List β} {c : Nat} (hf : ∀ a, (f a).length = c) (l : List α) (n : Nat) : (l.take n).flatMap f = (l.flatMap f).take (n * c) := by
  have e : l.flatMap f = (l.take n).flatMap f ++ (l.drop n).flatMap f := by rw [← List.flatMap_append, List.take_append_drop]
  rcases Nat.lt_or_ge l.length n with h | h
  · rw [List.take_of_length_le (by omega), List.take_of_length_le]
    rw [flat_len hf]
    exact Nat.mul_le_mul_right _ (by omega)
  · have hl : ((l.take n).flatMap f).length = n * c := by rw [flat_len hf, List.length_take, Nat.min_eq_left h]
    rw [e, ← hl, List.take_left]
def Tx.key (x : Tx) : Int × Int := (x.l, x.j)
end Go.Proofs.YtjaponmpfdpemaaGreatDoor

set_option linter.unusedVariables false
namespace Go.Proofs.YtjaponmpfdpemaaGreatDoor
open Go.RowKit

theorem skipS_is {s : Bs} : ∀ {j a : Nat}, (∀ i, i < j → clsAt s (a + i) = 1 ∨ clsAt s (a + i) = 4) → clsAt s (a + j) ≠ 1 → clsAt s (a + j) ≠ 4 → skipS (s.drop a) = j
  | 0, a, _, h1, h4 => by
    rcases Nat.lt_or_ge a s.length with h | h
    · rw [List.drop_eq_getElem_cons h, skipS, ← clsAt_lt h, if_neg (by simp at h1 h4; omega)]
    · rw [List.drop_eq_nil_of_le h]; rfl
  | j + 1, a, hg, h1, h4 => by
    have h0 := hg 0 (by omega)
    rw [Nat.add_zero] at h0
    have h : a < s.length := by
      rcases Nat.lt_or_ge a s.length with h | h
      · exact h
      · rw [clsAt_end h] at h0; omega
    rw [List.drop_eq_getElem_cons h, skipS, ← clsAt_lt h, if_pos h0, skipS_is (j := j) (a := a + 1) (fun i hi => by rw [show a + 1 + i = a + (i + 1) by omega]; exact hg (i + 1) (by omega)) (by rw [show a + 1 + j = a + (j + 1) by omega]; exact h1) (by rw [show a + 1 + j = a + (j + 1) by omega]; exact h4)]
theorem tok_own {w : World} {base g o c : Nat} {out : List Tok} (h : w.ownsRow base 105 2 (.slice (some ⟨g, o, none⟩) out.length c) out.length (tokCells out)) {k : Nat} (hk : k < out.length) : g < w.heap.size ∧ w.cell? ⟨g, o + k * 2, none⟩ = some (.int .i64 out[k].k) ∧ w.cell? ⟨g, o + k * 2 + 1, none⟩ = some (.string ⟨out[k].t.toArray⟩) := by
  obtain ⟨g', o', e, hg, hc⟩ := (Reads.of_own h).cellAt hk
  injection e with e
  injection e with e1 e2 _
  subst e1 e2
  exact ⟨hg, hc _ _ (flat_get (f := tokC) (c := 2) (fun _ => rfl) out k 0 hk (by decide)), hc _ _ (flat_get (f := tokC) (c := 2) (fun _ => rfl) out k 1 hk (by decide))⟩
theorem advS_take {s : Bs} {out : List Tok} {k : Nat} (hk : k < out.length) : advS s 0 (out.take (k + 1)) = advS s 0 (out.take k) + skipS (s.drop (advS s 0 (out.take k))) + out[k].t.length := by
  rw [List.take_succ_eq_append_getElem hk, advS_app]
  rfl
theorem advS_le {s : Bs} {out : List Tok} {k : Nat} : advS s 0 (out.take k) ≤ advS s 0 out := by
  have := advS_app s (out.take k) (out.drop k) 0
  rw [List.take_append_drop] at this
  rw [this]
  exact advS_mono s _ _
def BgOut (W : World) (s : Bs) (out : List Tok) (n : Nat) (at_ k : Value) (wr : World) : Prop := ∃ m a : Nat, m ≤ n ∧ a = advS s 0 (out.take m) ∧ at_ = .int .i64 (a : Int) ∧ k = .int .i64 (m : Int) ∧ Ext W wr
def BgIn (W : World) (s : Bs) (a : Nat) (at_ : Value) (wr : World) : Prop := ∃ j b : Nat, b = a + j ∧ b ≤ a + s.length ∧ at_ = .int .i64 (b : Int) ∧ (∀ i, i < j → clsAt s (a + i) = 1 ∨ clsAt s (a + i) = 4) ∧ Ext W wr
set_option maxRecDepth 100000 in
theorem begins_any {w0 W : World} {g : Nat} {s : Bs} {v : Value} {out : List Tok} {x : Int} (h : CutAt w0 W g s v out x) (n : Nat) (hs : s.length ≤ 200) (hn : n < out.length) (hl : out.length ≤ 1000) (ha : advS s 0 out ≤ 300) :
    Calls Tryz.prog 83 #[.pointer (some ⟨g, 0, none⟩), .int .i64 (n : Int)] W fun e w' => e = .returned (.int .i64 (beginS s 0 out n : Int)) ∧ Ext W w' := by
  have HC := Lib.hid (fun W' (hx : Ext W W') => h.to hx)
  clear h
  go_enter Tryz.func83, Tryz.ntmps83
  go_wp2_with fail
  go_loopw [5, 6] (fun a k wr => BgOut W s out n a k wr) (fun _ k _ => n - (intOf k).toNat)
  case atStart => exact ⟨0, 0, by omega, rfl, rfl, rfl, Ext.refl _⟩
  case round =>
    obtain ⟨m, a, hm, hadv, rfl, rfl, hX⟩ := hrel
    have hale : a ≤ 300 := by
      have := advS_le (s := s) (out := out) (k := m)
      omega
    obtain ⟨w3, rfl⟩ : ∃ w3, w3 = wr := ⟨_, rfl⟩
    replace hadv := Lib.hid hadv
    have HX := Lib.hid hX
    clear hX
    have H1 := Lib.hid (show BgIn w3 s a (.int .i64 (a : Int)) w3 from ⟨0, a, rfl, by omega, rfl, fun i h => absurd h (by omega), Ext.refl _⟩)
    go_wp2_with fail
    go_loopw [5] (fun b wr => BgIn w3 s a b wr) (fun b _ => a + s.length + 1 - (intOf b).toNat)
    case atStart => exact H1.out
    case round =>
      clear H1
      obtain ⟨j, b, hb, hbl, rfl, hg, hx⟩ := hrel
      obtain ⟨w4, rfl⟩ : ∃ w4, w4 = wr := ⟨_, rfl⟩
      have hb5 : b ≤ 500 := by omega
      have HX4 := Lib.hid (HX.out.trans hx)
      have HXi := Lib.hid hx
      have HG := Lib.hid hg
      replace hb := Lib.hid hb
      clear hx hg
      go_wp2_with fail
      refine (class_any (HC.out _ HX4.out).blk b hs (by omega)).mono ?_
      rintro e w5 ⟨rfl, hx5⟩
      obtain ⟨c, hc⟩ : ∃ c, clsAt s b = c := ⟨_, rfl⟩
      rw [hc]
      have HX5 := Lib.hid (HX4.out.trans hx5)
      have HXi5 := Lib.hid (HXi.out.trans hx5)
      have hstep := Lib.hid (fun (w' : World) (hx' : Ext w3 w') (h14 : c = 1 ∨ c = 4) => (show BgIn w3 s a (.int .i64 ((b + 1 : Nat) : Int)) w' from by
        have hlt : b < s.length := by
          rcases Nat.lt_or_ge b s.length with h | h
          · exact h
          · rw [clsAt_end h] at hc; omega
        refine ⟨j + 1, b + 1, by have := hb.out; omega, by omega, rfl, fun i hi => ?_, hx'⟩
        by_cases e : i = j
        · subst e; rw [← hb.out, hc]; exact h14
        · exact HG.out i (by omega)))
      replace hc := Lib.hid hc
      clear hx5
      by_cases h1 : c = 1
      · subst h1
        have HE := Lib.hid (hstep.out w5 HXi5.out (.inl rfl))
        have hlt : b < a + s.length + 1 := by omega
        clear hstep
        go_wp2_with fail
        go_roundw
        case rel => exact HE.out
        case measure => simp [intOf]; omega
      · have d1 : ((c : Int) == 1) = false := by rw [beq_eq_false_iff_ne]; omega
        go_wp2_with fail
        refine (class_any (HC.out _ HX5.out).blk b hs (by omega)).mono ?_
        rintro e w6 ⟨rfl, hx6⟩
        rw [hc.out]
        have HX6 := Lib.hid (HX5.out.trans hx6)
        have HXi6 := Lib.hid (HXi5.out.trans hx6)
        clear hx6
        by_cases h4 : c = 4
        · subst h4
          have HE := Lib.hid (hstep.out w6 HXi6.out (.inr rfl))
          clear hstep
          go_wp2_with fail
          go_roundw
          case rel => exact HE.out
          case measure => simp [intOf]; omega
        · have d4 : ((c : Int) == 4) = false := by rw [beq_eq_false_iff_ne]; omega
          have hskip : skipS (s.drop a) = j := skipS_is HG.out (by rw [← hb.out, hc.out]; exact h1) (by rw [← hb.out, hc.out]; exact h4)
          replace hskip := Lib.hid hskip
          clear hstep
          by_cases hmn : m = n
          · subst hmn
            have e0 : ((m : Int) == (m : Int)) = true := by simp
            have hres : beginS s 0 out m = b := by rw [beginS_adv s out m 0 (by omega), ← hadv.out, hskip.out, hb.out]
            replace hres := Lib.hid hres
            go_wp2_with fail
            go_ret
            exact ⟨by rw [hres.out]; rfl, HX6.out⟩
          · have e0 : ((m : Int) == (n : Int)) = false := by rw [beq_eq_false_iff_ne]; omega
            have hmo : m < out.length := by omega
            have hCut := HC.out _ HX6.out
            have c257 := (hCut.blk.cell 257).trans (cutC_v s v x)
            have lg := hCut.blk.lt
            obtain ⟨A, cap, rfl, _, _, hrd⟩ := own_slice hCut.row
            obtain ⟨g8, o8, rfl, _, _⟩ := hrd.cellAt hmo
            obtain ⟨lg8, t0, t1⟩ := tok_own hCut.row hmo
            have ml : (m : Int) < (out.length : Int) := by omega
            have mz : (0 : Int) ≤ (m : Int) := by omega
            have hnext : advS s 0 (out.take (m + 1)) = b + out[m].t.length := by rw [advS_take hmo, ← hadv.out, hskip.out, hb.out]
            have hble : b + out[m].t.length ≤ 300 := by rw [← hnext]; exact Nat.le_trans advS_le ha
            have HE := Lib.hid (show BgOut W s out n (.int .i64 ((b + out[m].t.length : Nat) : Int)) (.int .i64 ((m + 1 : Nat) : Int)) w6 from ⟨m + 1, _, by omega, hnext.symm, rfl, rfl, HX6.out⟩)
            clear hnext hCut hrd
            generalize out[m].t = tt at *
            generalize out[m].k = tk at *
            go_wp2_with fail
            go_roundw
            case rel => exact HE.out
            case measure => simp [intOf]; omega
end Go.Proofs.YtjaponmpfdpemaaGreatDoor

set_option linter.unusedVariables false
namespace Go.Proofs.YtjaponmpfdpemaaGreatDoor

/-- The number of a rank. -/
def unzig (r : Nat) : Int := if r % 2 = 0 then ((r / 2 : Nat) : Int) else -((r / 2 : Nat) : Int) - 1
/-- What a reading gives: the number, the place behind it, the fault, its place. -/
structure Got where
  n : Int
  next : Nat
  fe : Int
  fa : Nat
deriving DecidableEq

/-- P5.2, from the i-th byte on: the bytes that are left, the rank so far. -/
def getGo (at_ : Nat) : List UInt8 → Nat → Nat → Got
  | [], i, _ => ⟨0, 0, 4, at_ + i⟩
  | c :: r, i, rank =>
    if i = 9 ∧ 1 < c.toNat then ⟨0, 0, 5, at_ + i⟩
    else if 0 < i ∧ c.toNat = 0 then ⟨0, 0, 4, at_ + i⟩
    else if c.toNat < 128 then ⟨unzig (rank + c.toNat % 128 * 128 ^ i), at_ + i + 1, 0, 0⟩
    else getGo at_ r (i + 1) (rank + c.toNat % 128 * 128 ^ i)
def getN (b : List UInt8) (at_ : Nat) : Got := getGo at_ (b.drop at_) 0 0

/-- A reader: its bytes, its place, its fault. -/
structure RS where
  b : List UInt8
  at_ : Nat
  fe : Int
  fa : Nat
deriving DecidableEq
def RS.start (b : List UInt8) : RS := ⟨b, 0, 0, 0⟩
/-- P5.4: a number from low to high; above: the error, if it is above. -/
def RS.num (s : RS) (lo hi above : Int) : Int × RS :=
  if s.fe ≠ 0 then (0, s) else
    let g := getN s.b s.at_
    if g.fe ≠ 0 then (0, { s with fe := g.fe, fa := g.fa })
    else if hi < g.n then (0, { s with fe := above, fa := s.at_ })
    else if g.n < lo then (0, { s with fe := 5, fa := s.at_ })
    else (g.n, { s with at_ := g.next })
def RS.int (s : RS) (lo hi : Int) : Int × RS := s.num lo hi 5
/-- A reader that stands within its bytes. -/
def RS.ok (s : RS) : Prop := s.at_ ≤ s.b.length ∧ s.fa ≤ s.b.length
end Go.Proofs.YtjaponmpfdpemaaGreatDoor

set_option linter.unusedVariables false
namespace Go.Proofs.YtjaponmpfdpemaaGreatDoor
open Go.RowKit
theorem ld_fault {w : World} {g : Nat} {a b : Value} (h : Blk w g 36 #[a, b]) : (loadVar 36 ⟨g, 0, none⟩).run Tryz.prog w = .ok (.agg #[a, b]) w := by
  have q := h.cell
  simp [go_sem, q]
theorem fault_set {w : World} {g : Nat} {a b : Value} (h : Blk w g 36 #[a, b]) (x y : Value) : Blk ((w.setCell ⟨g, 0, none⟩ x).setCell ⟨g, 1, none⟩ y) g 36 #[x, y] := (h.set_ 0 x).set_ 1 y
end Go.Proofs.YtjaponmpfdpemaaGreatDoor
