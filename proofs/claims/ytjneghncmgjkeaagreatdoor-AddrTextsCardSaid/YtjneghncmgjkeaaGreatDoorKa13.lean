/-
  token: begins.
-/
import Derived.Test.YtjneghncmgjkeaaGreatDoorKa11
import Derived.Test.YtjneghncmgjkeaaGreatDoorKa12
import Derived.Test.YtjneghncmgjkeaaGreatDoorKa08
import Derived.Test.YtjneghncmgjkeaaGreatDoorKa09
set_option linter.unusedVariables false
namespace Go.Proofs.YtjneghncmgjkeaaGreatDoor
open Go.RowKit

theorem skipS_is {s : Bs} : ∀ {j a : Nat}, (∀ i, i < j → clsAt s (a + i) = 1 ∨ clsAt s (a + i) = 4) → clsAt s (a + j) ≠ 1 → clsAt s (a + j) ≠ 4 → skipS (s.drop a) = j
  | 0, a, _, h1, h4 => by
    rcases Nat.lt_or_ge a s.length with h | h
    · rw [List.drop_eq_getElem_cons h, skipS, ← clsAt_lt h, if_neg (by simp at h1 h4; omega)]
    · rw [List.drop_eq_nil_of_le h]; rfl
  | j + 1, a, hg, h1, h4 => by
    have h0 := hg 0 (by omega)
    rw [Nat.add_zero] at h0
    have h : a < s.length := by
      rcases Nat.lt_or_ge a s.length with h | h
      · exact h
      · rw [clsAt_end h] at h0; omega
    rw [List.drop_eq_getElem_cons h, skipS, ← clsAt_lt h, if_pos h0, skipS_is (j := j) (a := a + 1) (fun i hi => by rw [show a + 1 + i = a + (i + 1) by omega]; exact hg (i + 1) (by omega)) (by rw [show a + 1 + j = a + (j + 1) by omega]; exact h1) (by rw [show a + 1 + j = a + (j + 1) by omega]; exact h4)]
theorem tok_own {w : World} {base g o c : Nat} {out : List Tok} (h : w.ownsRow base 58 2 (.slice (some ⟨g, o, none⟩) out.length c) out.length (tokCells out)) {k : Nat} (hk : k < out.length) : g < w.heap.size ∧ w.cell? ⟨g, o + k * 2, none⟩ = some (.int .i64 out[k].k) ∧ w.cell? ⟨g, o + k * 2 + 1, none⟩ = some (.string ⟨out[k].t.toArray⟩) := by
  obtain ⟨g', o', e, hg, hc⟩ := (Reads.of_own h).cellAt hk
  injection e with e
  injection e with e1 e2 _
  subst e1 e2
  exact ⟨hg, hc _ _ (flat_get (f := tokC) (c := 2) (fun _ => rfl) out k 0 hk (by decide)), hc _ _ (flat_get (f := tokC) (c := 2) (fun _ => rfl) out k 1 hk (by decide))⟩
theorem advS_take {s : Bs} {out : List Tok} {k : Nat} (hk : k < out.length) : advS s 0 (out.take (k + 1)) = advS s 0 (out.take k) + skipS (s.drop (advS s 0 (out.take k))) + out[k].t.length := by
  rw [List.take_succ_eq_append_getElem hk, advS_app]
  rfl
theorem advS_le {s : Bs} {out : List Tok} {k : Nat} : advS s 0 (out.take k) ≤ advS s 0 out := by
  have := advS_app s (out.take k) (out.drop k) 0
  rw [List.take_append_drop] at this
  rw [this]
  exact advS_mono s _ _
def BgOut (W : World) (s : Bs) (out : List Tok) (n : Nat) (at_ k : Value) (wr : World) : Prop := ∃ m a : Nat, m ≤ n ∧ a = advS s 0 (out.take m) ∧ at_ = .int .i64 (a : Int) ∧ k = .int .i64 (m : Int) ∧ Ext W wr
def BgIn (W : World) (s : Bs) (a : Nat) (at_ : Value) (wr : World) : Prop := ∃ j b : Nat, b = a + j ∧ b ≤ a + s.length ∧ at_ = .int .i64 (b : Int) ∧ (∀ i, i < j → clsAt s (a + i) = 1 ∨ clsAt s (a + i) = 4) ∧ Ext W wr
set_option maxRecDepth 100000 in
theorem begins_any {w0 W : World} {g : Nat} {s : Bs} {v : Value} {out : List Tok} {x : Int} (h : CutAt w0 W g s v out x) (n : Nat) (hs : s.length ≤ 200) (hn : n < out.length) (hl : out.length ≤ 1000) (ha : advS s 0 out ≤ 300) :
    Calls Tryz.prog 66 #[.pointer (some ⟨g, 0, none⟩), .int .i64 (n : Int)] W fun e w' => e = .returned (.int .i64 (beginS s 0 out n : Int)) ∧ Ext W w' := by
  have HC := Lib.hid (fun W' (hx : Ext W W') => h.to hx)
  clear h
  go_enter Tryz.func66, Tryz.ntmps66
  go_wp2_with fail
  go_loopw [5, 6] (fun a k wr => BgOut W s out n a k wr) (fun _ k _ => n - (intOf k).toNat)
  case atStart => exact ⟨0, 0, by omega, rfl, rfl, rfl, Ext.refl _⟩
  case round =>
    obtain ⟨m, a, hm, hadv, rfl, rfl, hX⟩ := hrel
    have hale : a ≤ 300 := by
      have := advS_le (s := s) (out := out) (k := m)
      omega
    obtain ⟨w3, rfl⟩ : ∃ w3, w3 = wr := ⟨_, rfl⟩
    replace hadv := Lib.hid hadv
    have HX := Lib.hid hX
    clear hX
    have H1 := Lib.hid (show BgIn w3 s a (.int .i64 (a : Int)) w3 from ⟨0, a, rfl, by omega, rfl, fun i h => absurd h (by omega), Ext.refl _⟩)
    go_wp2_with fail
    go_loopw [5] (fun b wr => BgIn w3 s a b wr) (fun b _ => a + s.length + 1 - (intOf b).toNat)
    case atStart => exact H1.out
    case round =>
      clear H1
      obtain ⟨j, b, hb, hbl, rfl, hg, hx⟩ := hrel
      obtain ⟨w4, rfl⟩ : ∃ w4, w4 = wr := ⟨_, rfl⟩
      have hb5 : b ≤ 500 := by omega
      have HX4 := Lib.hid (HX.out.trans hx)
      have HXi := Lib.hid hx
      have HG := Lib.hid hg
      replace hb := Lib.hid hb
      clear hx hg
      go_wp2_with fail
      refine (class_any (HC.out _ HX4.out).blk b hs (by omega)).mono ?_
      rintro e w5 ⟨rfl, hx5⟩
      obtain ⟨c, hc⟩ : ∃ c, clsAt s b = c := ⟨_, rfl⟩
      rw [hc]
      have HX5 := Lib.hid (HX4.out.trans hx5)
      have HXi5 := Lib.hid (HXi.out.trans hx5)
      have hstep := Lib.hid (fun (w' : World) (hx' : Ext w3 w') (h14 : c = 1 ∨ c = 4) => (show BgIn w3 s a (.int .i64 ((b + 1 : Nat) : Int)) w' from by
        have hlt : b < s.length := by
          rcases Nat.lt_or_ge b s.length with h | h
          · exact h
          · rw [clsAt_end h] at hc; omega
        refine ⟨j + 1, b + 1, by have := hb.out; omega, by omega, rfl, fun i hi => ?_, hx'⟩
        by_cases e : i = j
        · subst e; rw [← hb.out, hc]; exact h14
        · exact HG.out i (by omega)))
      replace hc := Lib.hid hc
      clear hx5
      by_cases h1 : c = 1
      · subst h1
        have HE := Lib.hid (hstep.out w5 HXi5.out (.inl rfl))
        have hlt : b < a + s.length + 1 := by omega
        clear hstep
        go_wp2_with fail
        go_roundw
        case rel => exact HE.out
        case measure => simp [intOf]; omega
      · have d1 : ((c : Int) == 1) = false := by rw [beq_eq_false_iff_ne]; omega
        go_wp2_with fail
        refine (class_any (HC.out _ HX5.out).blk b hs (by omega)).mono ?_
        rintro e w6 ⟨rfl, hx6⟩
        rw [hc.out]
        have HX6 := Lib.hid (HX5.out.trans hx6)
        have HXi6 := Lib.hid (HXi5.out.trans hx6)
        clear hx6
        by_cases h4 : c = 4
        · subst h4
          have HE := Lib.hid (hstep.out w6 HXi6.out (.inr rfl))
          clear hstep
          go_wp2_with fail
          go_roundw
          case rel => exact HE.out
          case measure => simp [intOf]; omega
        · have d4 : ((c : Int) == 4) = false := by rw [beq_eq_false_iff_ne]; omega
          have hskip : skipS (s.drop a) = j := skipS_is HG.out (by rw [← hb.out, hc.out]; exact h1) (by rw [← hb.out, hc.out]; exact h4)
          replace hskip := Lib.hid hskip
          clear hstep
          by_cases hmn : m = n
          · subst hmn
            have e0 : ((m : Int) == (m : Int)) = true := by simp
            have hres : beginS s 0 out m = b := by rw [beginS_adv s out m 0 (by omega), ← hadv.out, hskip.out, hb.out]
            replace hres := Lib.hid hres
            go_wp2_with fail
            go_ret
            exact ⟨by rw [hres.out]; rfl, HX6.out⟩
          · have e0 : ((m : Int) == (n : Int)) = false := by rw [beq_eq_false_iff_ne]; omega
            have hmo : m < out.length := by omega
            have hCut := HC.out _ HX6.out
            have c257 := (hCut.blk.cell 257).trans (cutC_v s v x)
            have lg := hCut.blk.lt
            obtain ⟨A, cap, rfl, _, _, hrd⟩ := own_slice hCut.row
            obtain ⟨g8, o8, rfl, _, _⟩ := hrd.cellAt hmo
            obtain ⟨lg8, t0, t1⟩ := tok_own hCut.row hmo
            have ml : (m : Int) < (out.length : Int) := by omega
            have mz : (0 : Int) ≤ (m : Int) := by omega
            have hnext : advS s 0 (out.take (m + 1)) = b + out[m].t.length := by rw [advS_take hmo, ← hadv.out, hskip.out, hb.out]
            have hble : b + out[m].t.length ≤ 300 := by rw [← hnext]; exact Nat.le_trans advS_le ha
            have HE := Lib.hid (show BgOut W s out n (.int .i64 ((b + out[m].t.length : Nat) : Int)) (.int .i64 ((m + 1 : Nat) : Int)) w6 from ⟨m + 1, _, by omega, hnext.symm, rfl, rfl, HX6.out⟩)
            clear hnext hCut hrd
            generalize out[m].t = tt at *
            generalize out[m].k = tk at *
            go_wp2_with fail
            go_roundw
            case rel => exact HE.out
            case measure => simp [intOf]; omega
end Go.Proofs.YtjneghncmgjkeaaGreatDoor

set_option linter.unusedVariables false
namespace Go.Proofs.YtjneghncmgjkeaaGreatDoor

/-- The number of a rank. -/
def unzig (r : Nat) : Int := if r % 2 = 0 then ((r / 2 : Nat) : Int) else -((r / 2 : Nat) : Int) - 1
/-- What a reading gives: the number, the place behind it, the fault, its place. -/
structure Got where
  n : Int
  next : Nat
  fe : Int
  fa : Nat
deriving DecidableEq

/-- P5.2, from the i-th byte on: the bytes that are left, the rank so far. -/
def getGo (at_ : Nat) : List UInt8 → Nat → Nat → Got
  | [], i, _ => ⟨0, 0, 4, at_ + i⟩
  | c :: r, i, rank =>
    if i = 9 ∧ 1 < c.toNat then ⟨0, 0, 5, at_ + i⟩
    else if 0 < i ∧ c.toNat = 0 then ⟨0, 0, 4, at_ + i⟩
    else if c.toNat < 128 then ⟨unzig (rank + c.toNat % 128 * 128 ^ i), at_ + i + 1, 0, 0⟩
    else getGo at_ r (i + 1) (rank + c.toNat % 128 * 128 ^ i)
def getN (b : List UInt8) (at_ : Nat) : Got := getGo at_ (b.drop at_) 0 0

/-- A reader: its bytes, its place, its fault. -/
structure RS where
  b : List UInt8
  at_ : Nat
  fe : Int
  fa : Nat
deriving DecidableEq
def RS.start (b : List UInt8) : RS := ⟨b, 0, 0, 0⟩
/-- P5.4: a number from low to high; above: the error, if it is above. -/
def RS.num (s : RS) (lo hi above : Int) : Int × RS :=
  if s.fe ≠ 0 then (0, s) else
    let g := getN s.b s.at_
    if g.fe ≠ 0 then (0, { s with fe := g.fe, fa := g.fa })
    else if hi < g.n then (0, { s with fe := above, fa := s.at_ })
    else if g.n < lo then (0, { s with fe := 5, fa := s.at_ })
    else (g.n, { s with at_ := g.next })
def RS.int (s : RS) (lo hi : Int) : Int × RS := s.num lo hi 5
/-- A reader that stands within its bytes. -/
def RS.ok (s : RS) : Prop := s.at_ ≤ s.b.length ∧ s.fa ≤ s.b.length
end Go.Proofs.YtjneghncmgjkeaaGreatDoor

set_option linter.unusedVariables false
namespace Go.Proofs.YtjneghncmgjkeaaGreatDoor
open Go.RowKit
theorem ld_fault {w : World} {g : Nat} {a b : Value} (h : Blk w g 26 #[a, b]) : (loadVar 26 ⟨g, 0, none⟩).run Tryz.prog w = .ok (.agg #[a, b]) w := by
  have q := h.cell
  simp [go_sem, q]
theorem fault_set {w : World} {g : Nat} {a b : Value} (h : Blk w g 26 #[a, b]) (x y : Value) : Blk ((w.setCell ⟨g, 0, none⟩ x).setCell ⟨g, 1, none⟩ y) g 26 #[x, y] := (h.set_ 0 x).set_ 1 y
end Go.Proofs.YtjneghncmgjkeaaGreatDoor

set_option linter.unusedVariables false
namespace Go.Proofs.YtjneghncmgjkeaaGreatDoor
open Go.RowKit

theorem build_cut (s : Bs) : (Array.foldl (fun cs x => cs.setIfInBounds (1 + x.snd) x.fst) (Tryz.zeroCells95.setIfInBounds 0 (Value.string ⟨s.toArray⟩)) clsA.zipIdx 0 clsA.size) = cutC s (.slice none 0 0) 0 := by kernel_rfl
theorem bad_none {s : Bs} (h : ∀ i (h : i < s.length), clsB s[i] ≠ 0) : badAt s = none := by
  unfold badAt
  rw [List.findIdx?_eq_none_iff]
  intro c hc
  obtain ⟨i, hi, rfl⟩ := List.mem_iff_getElem.1 hc
  simpa using h i hi
theorem bad_some {s : Bs} {k : Nat} (hk : k < s.length) (h : ∀ i (hi : i < s.length), i < k → clsB s[i] ≠ 0) (h0 : clsB s[k] = 0) : badAt s = some k := by
  unfold badAt
  rw [List.findIdx?_eq_some_iff_getElem]
  exact ⟨hk, by simpa using h0, fun j hj => by simpa using h j (by omega) hj⟩
/-- The bytes ahead are fine. -/
def Tk1 (w0 : World) (g : Nat) (s : Bs) (i : Value) (wr : World) : Prop := ∃ k : Nat, k ≤ s.length ∧ i = .int .i64 (k : Int) ∧ CutAt w0 wr g s (.slice none 0 0) [] 0 ∧ ∀ j (h : j < s.length), j < k → clsB s[j] ≠ 0
/-- So many bytes are gone through. -/
def Tk2 (w0 : World) (g : Nat) (s : Bs) (f i : Value) (wr : World) : Prop := ∃ (k : Nat) (v : Value) (a : Int), k ≤ s.length + 1 ∧ i = .int .i64 (k : Int) ∧ f = stV (runS s k).inn ∧ CutAt w0 wr g s v (runS s k).out a ∧ ((runS s k).inn = true → a = ((runS s k).at_ : Int))
set_option maxRecDepth 100000 in
theorem tokens_any (s : Bs) (W : World) (hs : s.length ≤ 100000) :
    Calls Tryz.prog 29 #[.string ⟨s.toArray⟩] W fun e w' => ∃ v, e = .returned (.tuple #[v, .agg #[.int .i64 (tokensP s).2.1, .int .i64 (tokensP s).2.2]]) ∧ w'.ownsRow W.heap.size 58 2 v (tokensP s).1.length (tokCells (tokensP s).1) ∧ Ext W w' := by
  by_cases h200 : 200 < s.length
  · have hd : decide ((200 : Int) < (s.length : Int)) = true := by simp; omega
    have hT : tokensP s = ([], 3, 0) := by unfold tokensP; rw [if_pos h200]
    replace hT := Lib.hid hT
    go_enter Tryz.func29, Tryz.ntmps29
    go_wp2_with fail
    refine bodyPost_ret (results_tc rfl rfl (ld_fault (Blk.new W _ _))) rfl ⟨.slice none 0 0, ?_, ?_, (Ext.refl W).alloc _⟩
    · rw [hT.out]; rfl
    · rw [hT.out]; exact World.ownsRow_nil _ _ _ _
  have hd : decide ((200 : Int) < (s.length : Int)) = false := by simp; omega
  have hs200 : s.length ≤ 200 := by omega
  have hT4 := Lib.hid (fun (k : Nat) (h : badAt s = some k) => (show tokensP s = ([], 4, (k : Int)) by unfold tokensP; rw [if_neg h200, h]))
  have hT0 := Lib.hid (fun (h : badAt s = none) => (show tokensP s = if 40 < (toksOf s).length then ([], 8, (beginS s 0 (toksOf s) 40 : Int)) else (toksOf s, 0, 0) by unfold tokensP; rw [if_neg h200, h]))
  go_enter Tryz.func29, Tryz.ntmps29
  go_wp2_with fail
  refine (classes_any _).mono ?_
  rintro e w1 ⟨rfl, hx1⟩
  have hsz : (W.alloc (.cells #[.int .i64 0, .int .i64 0] 26)).heap.size = W.heap.size + 1 := by simp
  have X01 := (Ext.refl W).alloc (.cells #[.int .i64 0, .int .i64 0] 26)
  have B0 := Blk.new W 26 #[.int .i64 0, .int .i64 0]
  generalize W.alloc (.cells #[.int .i64 0, .int .i64 0] 26) = w0 at *
  go_wp2_with fail
  rw [build_cut]
  have HC : CutAt w0 (w1.alloc (.cells (cutC s (.slice none 0 0) 0) 95)) w1.heap.size s (.slice none 0 0) [] 0 :=
    ⟨Blk.new _ _ _, World.ownsRow_nil _ _ _ _, hx1.alloc _, hx1.size⟩
  generalize w1.alloc (.cells (cutC s (.slice none 0 0) 0) 95) = w2 at *
  generalize w1.heap.size = g at *
  clear hx1
  have HB := Lib.hid B0
  have hW0 : W.heap.size ≤ w0.heap.size := by omega
  replace hW0 := Lib.hid hW0
  generalize hgf : W.heap.size = g0 at *
  replace hsz := Lib.hid hsz
  replace hgf := Lib.hid hgf
  replace X01 := Lib.hid X01
  have H0 := Lib.hid (show Tk1 w0 g s (.int .i64 ((0 : Nat) : Int)) w2 from ⟨0, by omega, rfl, HC, fun j _ h => absurd h (by omega)⟩)
  clear HC B0
  go_loopw [18] (fun i wr => Tk1 w0 g s i wr) (fun i _ => s.length - (intOf i).toNat)
  case atStart => exact H0.out
  case round =>
    clear H0
    obtain ⟨k, hk, rfl, HC, hgood⟩ := hrel
    obtain ⟨w3, rfl⟩ : ∃ w3, w3 = wr := ⟨_, rfl⟩
    by_cases hlt : k < s.length
    · have hdk : decide ((k : Int) < (s.length : Int)) = true := by simp; omega
      have il : (k : Int) < (s.length : Int) := by omega
      have iz : (0 : Int) ≤ (k : Int) := by omega
      obtain ⟨b, hb'⟩ : ∃ b, s[k].toNat = b := ⟨_, rfl⟩
      have hb2 : b < 256 := by rw [← hb']; exact UInt8.toNat_lt _
      have hb : ∀ h, ((⟨s.toArray⟩ : ByteArray)[k]'h).toNat = b := fun _ => hb'
      have ck := (HC.blk.cell (1 + b)).trans (cutC_cls s _ _ hb2)
      have bz : (0 : Int) ≤ (b : Int) := by omega
      have bl : (b : Int) < 256 := by omega
      have lg := HC.blk.lt
      have hcl : clsB s[k] = clsB (UInt8.ofNat b) := by rw [← hb', UInt8.ofNat_toNat]
      by_cases hc0 : clsB s[k] = 0
      · have hT : tokensP s = ([], 4, (k : Int)) := hT4.out k (bad_some hlt hgood hc0)
        replace hT := Lib.hid hT
        rw [hc0] at hcl
        rw [← hcl] at ck
        replace hcl := Lib.hid hcl
        replace hb' := Lib.hid hb'
        have e0 : (((0 : Nat) : Int) == 0) = true := rfl
        have BB := HB.out.ext HC.ext
        have XX := X01.out.trans HC.ext
        replace XX := Lib.hid XX
        obtain ⟨q0, q1⟩ := BB.cells
        have lf := BB.lt
        clear hgood HC hc0
        go_upto_region 7 with (fail)
        go_quiet (fail)
        have BB' := Lib.hid (Blk.drewN BB nq)
        have XX' := Lib.hid (XX.out.drewN nq)
        clear BB XX
        go_wp2_with fail
        refine bodyPost_ret (results_tc rfl rfl (ld_fault (fault_set BB'.out _ _))) rfl ⟨.slice none 0 0, ?_, ?_, ?_⟩
        · rw [hT.out]; rfl
        · rw [hT.out]; exact World.ownsRow_nil _ _ _ _
        · exact (XX'.out.set (p := ⟨g0, 0, none⟩) (Nat.le_of_eq hgf.out) _).set (p := ⟨g0, 1, none⟩) (Nat.le_of_eq hgf.out) _
      · have hne : (((clsB (UInt8.ofNat b) : Nat) : Int) == 0) = false := by rw [← hcl, beq_eq_false_iff_ne]; omega
        have HE := Lib.hid (fun n => (show Tk1 w0 g s (.int .i64 ((k + 1 : Nat) : Int)) (w3.drewN n) from ⟨k + 1, by omega, rfl, HC.to ((Ext.refl w3).drewN n), fun j h hj => by
          by_cases e : j = k
          · subst e; exact hc0
          · exact hgood j h (by omega)⟩))
        replace hcl := Lib.hid hcl
        replace hb' := Lib.hid hb'
        generalize clsB (UInt8.ofNat b) = c at *
        clear hgood HC hc0
        go_upto_region 7 with (fail)
        go_quiet (fail)
        go_wp2_with fail
        go_roundw
        case rel => exact HE.out _
        case measure => simp [intOf]; omega
    · obtain rfl : k = s.length := by omega
      have hdk : decide ((s.length : Int) < (s.length : Int)) = false := by simp
      have hbad : badAt s = none := bad_none fun i hi => hgood i hi hi
      have hTP := Lib.hid (hT0.out hbad)
      clear hT0 hT4
      have H1 := Lib.hid (show Tk2 w0 g s (stV false) (.int .i64 ((0 : Nat) : Int)) w3 from ⟨0, _, 0, by omega, rfl, rfl, HC, fun h => by cases h⟩)
      clear hgood HC hbad
      go_wp2_with fail
      go_loopw [6, 7] (fun f i wr => Tk2 w0 g s f i wr) (fun _ i _ => s.length + 1 - (intOf i).toNat)
      case atStart => exact H1.out
      case round =>
        clear H1
        obtain ⟨k, v, a, hk, rfl, rfl, HC, ha⟩ := hrel
        obtain ⟨w4, rfl⟩ : ∃ w4, w4 = wr := ⟨_, rfl⟩
        have hok := runS_ok s k hk
        by_cases hle : k ≤ s.length
        · have hdk : decide ((k : Int) ≤ (s.length : Int)) = true := by simp; omega
          have HN := Lib.hid (fun w' v' (h : CutAt w0 w' g s v' (stepS s (runS s k) k).out ((stepS s (runS s k) k).at_ : Int)) => (show Tk2 w0 g s (stV (stepS s (runS s k) k).inn) (.int .i64 ((k + 1 : Nat) : Int)) w' from ⟨k + 1, v', _, by omega, rfl, rfl, h, fun _ => rfl⟩))
          have hlen := hok.len
          have hlt := hok.lt
          clear hok
          generalize runS s k = st at *
          obtain ⟨at_, inn, out⟩ := st
          cases inn with
          | true =>
            obtain ⟨l1, l2, l3⟩ := hlt rfl
            obtain rfl := ha rfl
            simp only [if_true] at hlen
            obtain ⟨q, hq⟩ : ∃ q, q + 1 = k := ⟨k - 1, by omega⟩
            have hW := Lib.hid (twithin_any HC k q hq hs200 l1 hle l3 (by show out.length ≤ 900; have h1 : out.length + 1 ≤ k := hlen; omega))
            clear hq l1 l2 l3 hlt ha HC
            unfold stV
            simp only [if_true]
            go_wp2_with fail
            refine hW.out.mono ?_
            rintro e w5 ⟨rfl, v', H5⟩
            have HE := Lib.hid (HN.out _ _ H5)
            clear H5 HN hW
            generalize stV (stepS s ⟨at_, true, out⟩ k).inn = fv at *
            go_wp2_with fail
            go_roundw
            case rel => exact HE.out
            case measure => simp [intOf]; omega
          | false =>
            simp only [Bool.false_eq_true, if_false] at hlen
            have hW := Lib.hid (apart_any HC k hs200 (by omega) (by simpa using (by omega : out.length ≤ 1000)))
            have hS : stepS s ⟨at_, false, out⟩ k = stepA s out k := rfl
            have hat := stepA_at s out k
            rw [hS, hat] at HN
            clear hlt ha HC hS hat
            unfold stV
            simp only [Bool.false_eq_true, if_false]
            go_wp2_with fail
            refine hW.out.mono ?_
            rintro e w5 ⟨rfl, v', H5⟩
            have HE := Lib.hid (HN.out _ _ H5)
            clear H5 HN hW
            generalize stV (stepA s out k).inn = fv at *
            go_wp2_with fail
            go_roundw
            case rel => exact HE.out
            case measure => simp [intOf]; omega
        · obtain rfl : k = s.length + 1 := by omega
          have hdk : decide (((s.length + 1 : Nat) : Int) ≤ (s.length : Int)) = false := by simp; omega
          have hto : (runS s (s.length + 1)).out = toksOf s := rfl
          have hlen := hok.len
          have hadv := hok.adv
          have hin : (runS s (s.length + 1)).inn = false := by
            cases h : (runS s (s.length + 1)).inn with
            | false => rfl
            | true => have := (hok.lt h).2.1; omega
          rw [hin] at hlen hadv
          simp only [Bool.false_eq_true, if_false] at hlen hadv
          rw [hto] at hlen hadv HC
          rw [hin]
          have c257 := (HC.blk.cell 257).trans (cutC_v s v a)
          have lg := HC.blk.lt
          obtain ⟨A, cap, rfl, hcl, hcm, _⟩ := own_slice HC.row
          replace HC := Lib.hid HC
          clear ha hok hin hto
          generalize htk : toksOf s = tk at *
          by_cases h40 : 40 < tk.length
          · have hT : tokensP s = ([], 8, (beginS s 0 tk 40 : Int)) := by rw [hTP.out, if_pos h40]
            have hdn : decide ((40 : Int) < (tk.length : Int)) = true := by simp; omega
            have hB := Lib.hid (begins_any HC.out 40 hs200 h40 (by omega) (by omega))
            replace hT := Lib.hid hT
            replace htk := Lib.hid htk
            go_wp2_with fail
            refine hB.out.mono ?_
            rintro e w5 ⟨rfl, hx5⟩
            have X5 := HC.out.ext.trans hx5
            have BB := HB.out.ext X5
            have XX := Lib.hid (X01.out.trans X5)
            obtain ⟨q0, q1⟩ := BB.cells
            have lf := BB.lt
            replace BB := Lib.hid BB
            clear hx5 X5
            go_wp2_with fail
            refine bodyPost_ret (results_tc rfl rfl (ld_fault (fault_set BB.out _ _))) rfl ⟨.slice none 0 0, ?_, ?_, ?_⟩
            · rw [hT.out]; rfl
            · rw [hT.out]; exact World.ownsRow_nil _ _ _ _
            · exact (XX.out.set (p := ⟨g0, 0, none⟩) (Nat.le_of_eq hgf.out) _).set (p := ⟨g0, 1, none⟩) (Nat.le_of_eq hgf.out) _
          · have hT : tokensP s = (tk, 0, 0) := by rw [hTP.out, if_neg h40]
            have hdn : decide ((40 : Int) < (tk.length : Int)) = false := by simp; omega
            replace hT := Lib.hid hT
            replace htk := Lib.hid htk
            have X5 := HC.out.ext
            have BB := HB.out.ext X5
            have XX := Lib.hid (X01.out.trans X5)
            obtain ⟨q0, q1⟩ := BB.cells
            have lf := BB.lt
            have hne := own_blk_ne HC.out.row BB (by decide)
            replace BB := Lib.hid BB
            clear X5
            go_wp2_with fail
            refine bodyPost_ret (results_tc rfl rfl (ld_fault (fault_set BB.out _ _))) rfl ⟨.slice A tk.length cap, ?_, ?_, ?_⟩
            · rw [hT.out]; rfl
            · rw [hT.out]
              exact own_base (ownsRow_setCell_other (ownsRow_setCell_other HC.out.row hne _) hne _) (by rw [hgf.out]; exact hW0.out)
            · exact (XX.out.set (p := ⟨g0, 0, none⟩) (Nat.le_of_eq hgf.out) _).set (p := ⟨g0, 1, none⟩) (Nat.le_of_eq hgf.out) _
end Go.Proofs.YtjneghncmgjkeaaGreatDoor
