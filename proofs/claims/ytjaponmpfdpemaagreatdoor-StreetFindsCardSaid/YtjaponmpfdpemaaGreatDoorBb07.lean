/-
  The library at this program: strings.Trim at the digits.
-/
import Derived.Test.YtjaponmpfdpemaaGreatDoorBb05
import Derived.Shelf.Strings.SlTrimAscii
import Derived.Test.YtjaponmpfdpemaaGreatDoorBb02
import Derived.Test.YtjaponmpfdpemaaGreatDoorBb01
import Derived.Test.YtjaponmpfdpemaaGreatDoorBb06
import Derived.Lib.AtoiTie
import Derived.Lib.AppendIntMem
import Derived.Lib.AtoiErrMem
import Derived.Test.YtjaponmpfdpemaaGreatDoorProg
import Derived.Deep.DeepCutAuto
import Derived.Laws.IdiomStrings
import Derived.Laws.MakeOwn
import Derived.Laws.CopyOwn
set_option linter.unusedSimpArgs false
set_option linter.unusedVariables false
namespace Go.Proofs.YtjaponmpfdpemaaGreatDoor
open Go.RowKit
def digsL : Bs := [48, 49, 50, 51, 52, 53, 54, 55, 56, 57]
theorem digs_mem (c : UInt8) : digsL.contains c = digB c := by
 unfold digB digsL
 rw [Bool.eq_iff_iff, List.contains_iff_mem, decide_eq_true_eq]
 constructor
 ·intro h
  simp only [List.mem_cons, List.not_mem_nil, or_false] at h
  rcases h with rfl | rfl | rfl | rfl | rfl | rfl | rfl | rfl | rfl | rfl <;> decide
 ·intro ⟨h1, h2⟩
  have e : c = UInt8.ofNat c.toNat := by simp
  rw [e]
  have : c.toNat = 48 ∨ c.toNat = 49 ∨ c.toNat = 50 ∨ c.toNat = 51 ∨ c.toNat = 52 ∨ c.toNat = 53 ∨ c.toNat = 54 ∨ c.toNat = 55 ∨ c.toNat = 56 ∨ c.toNat = 57 := by omega
  rcases this with h | h | h | h | h | h | h | h | h | h <;> rw [h] <;> decide
theorem dropW_nil {p : UInt8 → Bool} : ∀ {l : Bs}, l.dropWhile p = [] ↔ l.all p = true
 | [] => by simp
 | c :: l => by
  rw [List.dropWhile_cons, List.all_cons]
  cases h : p c with
  | true => simp only [if_true, Bool.true_and]; exact dropW_nil
  | false => simp
theorem trimS_nil (s : Bs) : Lib.trimS s digsL = [] ↔ s.all digB = true := by
 have hp : (fun c => digsL.contains c) = digB := funext digs_mem
 unfold Lib.trimS Lib.trimLeftS Lib.trimRightS
 rw [hp, dropW_nil, List.all_reverse]
 constructor
 ·intro h
  -- what is left behind the trailing digits are digits: all are
  have key : ∀ l : Bs, (l.dropWhile digB).all digB = true → l.all digB = true := by
   intro l
   induction l with
   | nil => intro _; rfl
   | cons c l ih =>
    intro h
    rw [List.dropWhile_cons] at h
    cases hc : digB c with
    | true => rw [hc] at h; simp only [if_true] at h; rw [List.all_cons, hc, ih h]; rfl
    | false => rw [hc] at h; simp [hc] at h
  have := key s.reverse h
  rwa [List.all_reverse] at this
 ·intro h
  have : s.reverse.all digB = true := by rw [List.all_reverse]; exact h
  rw [dropW_nil.2 this]
  rfl
theorem trim_any (s : Bs) (W : World) (hs : s.length ≤ 100000) :
  Calls Tryz.prog 80 #[.string ⟨s.toArray⟩, .string ⟨#[48, 49, 50, 51, 52, 53, 54, 55, 56, 57]⟩] W fun e w' => (∃ r : Bs, e = .returned (.string ⟨r.toArray⟩) ∧ (r = [] ↔ s.all digB = true)) ∧ Ext W w' := by
 refine (Any.strings_Trim_laid Tryz.lays160 (by kernel_rfl) ⟨s.toArray⟩ ⟨#[48, 49, 50, 51, 52, 53, 54, 55, 56, 57]⟩ W (by show s.toArray.size ≤ _; simp; omega) (by decide) (ascii_of_all (by decide))).mono ?_
 rintro e w' ⟨rfl, hx⟩
 refine ⟨⟨_, rfl, ?_⟩, hx⟩
 exact trimS_nil s
end Go.Proofs.YtjaponmpfdpemaaGreatDoor
set_option linter.unusedSimpArgs false
set_option linter.unusedVariables false
namespace Go.Proofs.YtjaponmpfdpemaaGreatDoor
def zig (n : Int) : Nat := if 0 ≤ n then (2 * n).toNat else (-2 * n - 1).toNat
def lebF : Nat → Nat → List UInt8
 | 0, _ => []
 | f + 1, r => if r < 128 then [UInt8.ofNat r] else UInt8.ofNat (r % 128 + 128) :: lebF f (r / 128)
def putL (n : Int) : List UInt8 := lebF 10 (zig n)
theorem lebF_small (f r : Nat) (h : r < 128) : lebF (f + 1) r = [UInt8.ofNat r] := by simp [lebF, h]
theorem lebF_big (f r : Nat) (h : 128 ≤ r) : lebF (f + 1) r = UInt8.ofNat (r % 128 + 128) :: lebF f (r / 128) := by
 simp [lebF]; omega
def bV (l : List UInt8) : List Value := l.map fun b => .int .u8 (b.toNat : Int)
theorem bV_app (a b : List UInt8) : bV (a ++ b) = bV a ++ bV b := by simp [bV]
def u8P (u : Value) : Prop := ∃ n : Int, u = .int .u8 n
def putsL (l : List Int) : List UInt8 := l.flatMap putL
theorem putsL_snoc (l : List Int) (k : Nat) (h : k < l.length) : putsL (l.take (k + 1)) = putsL (l.take k) ++ putL l[k] := by
 rw [List.take_succ_eq_append_getElem h]; unfold putsL; rw [List.flatMap_append, List.flatMap_cons, List.flatMap_nil, List.append_nil]
def i64 (n : Int) : Prop := -9223372036854775808 ≤ n ∧ n ≤ 9223372036854775807
end Go.Proofs.YtjaponmpfdpemaaGreatDoor
set_option linter.unusedSimpArgs false
set_option linter.unusedVariables false
namespace Go.Proofs.YtjaponmpfdpemaaGreatDoor
open Go.RowKit
structure Std (w : World) : Prop where
 t10 : Lib.TabIs Tryz.prog w "internal/strconv.uint64pow10" .u64 Lib.pow10Tab
 sp : Lib.TabIs Tryz.prog w "strings.asciiSpace" .u8 Lib.asciiSpaceTab
 mx : ∃ m, w.cell? ⟨4, 0, none⟩ = some (.int .i64 m)
 e0 : ∃ v, w.cell? ⟨2, 0, none⟩ = some v ∧ (v = .nilIface ∨ ∃ te pe, v = .iface te pe)
 e1 : ∃ v, w.cell? ⟨3, 0, none⟩ = some v ∧ (v = .nilIface ∨ ∃ te pe, v = .iface te pe)
theorem cell_ext {w w' : World} (hx : Ext w w') {b o : Nat} {v : Value} (h : w.cell? ⟨b, o, none⟩ = some v) : w'.cell? ⟨b, o, none⟩ = some v :=
 (hx.cell b o none (World.block_lt_of_cell? w _ h)).trans h
theorem Std.ext {w w' : World} (h : Std w) (hx : Ext w w') : Std w' :=
 ⟨Lib.tabBelow_of_tabIs h.t10 w' hx, Lib.tabBelow_of_tabIs h.sp w' hx, h.mx.imp fun _ e => cell_ext hx e, h.e0.imp fun _ e => ⟨cell_ext hx e.1, e.2⟩, h.e1.imp fun _ e => ⟨cell_ext hx e.1, e.2⟩⟩
theorem decFrom_digs : ∀ (s : Bs) (acc : Nat), s.all digB = true → Lib.decFrom acc s = some (s.foldl (fun n c => 10 * n + (c.toNat - 48)) acc) ∧ ((s.foldl (fun n c => 10 * n + (c.toNat - 48)) acc : Nat) : Int) = s.foldl (fun n c => 10 * n + (c.toNat - 48 : Int)) (acc : Int)
 | [], acc, _ => ⟨rfl, rfl⟩
 | c :: s, acc, h => by
  simp only [List.all_cons, Bool.and_eq_true] at h
  have hc : 48 ≤ c.toNat ∧ c.toNat ≤ 57 := by simpa [digB] using h.1
  have ih := decFrom_digs s (10 * acc + (c.toNat - 48)) h.2
  have e : (((10 * acc + (c.toNat - 48) : Nat)) : Int) = 10 * (acc : Int) + ((c.toNat : Int) - 48) := by omega
  rw [e] at ih
  refine ⟨?_, ih.2⟩
  rw [Lib.decFrom]
  unfold Lib.digitVal
  rw [if_pos hc]
  simp only [List.foldl_cons]
  rw [Nat.mul_comm acc 10]
  exact ih.1
theorem atoi_digs {s : Bs} (h : digitsP s 1 6 = true) : Lib.atoiAll s = .ok (numP s) := by
 obtain ⟨l1, l2, hd⟩ := digitsP_all h
 rw [Lib.atoiAll_short s (by omega)]
 have hds := decFrom_digs s 0 hd
 cases s with
 | nil => simp at l1
 | cons c r =>
  simp only [List.all_cons, Bool.and_eq_true] at hd
  have hc : 48 ≤ c.toNat ∧ c.toNat ≤ 57 := by simpa [digB] using hd.1
  have h45 : (c == 45) = false := by
   rw [beq_eq_false_iff_ne]
   rintro rfl
   exact absurd hc.1 (by decide)
  have h43 : (c == 43) = false := by
   rw [beq_eq_false_iff_ne]
   rintro rfl
   exact absurd hc.1 (by decide)
  unfold Lib.atoi
  simp only [h45, h43, Bool.false_eq_true, if_false]
  unfold Lib.decNat
  rw [List.isEmpty_cons]
  simp only [Bool.false_eq_true, if_false]
  rw [hds.1]
  exact congrArg Lib.NumEnd.ok hds.2
theorem atoiS_any (s : Bs) (hs : s.length ≤ 1000) (w : World) (ht : Std w) : Calls Tryz.prog 93 #[.string ⟨s.toArray⟩] w fun e w' => ∃ n er, e = .returned (.tuple #[.int .i64 n, er]) ∧ (digitsP s 1 6 = true → n = numP s) ∧ Ext w w' := by
 obtain ⟨v0, c0, h0⟩ := ht.e0
 obtain ⟨v1, c1, h1⟩ := ht.e1
 have hsz : (⟨s.toArray⟩ : ByteArray).size = s.length := by show s.toArray.size = _; simp
 have hdt : (⟨s.toArray⟩ : ByteArray).data.toList = s := by simp
 cases he : Lib.atoiAll s with
 | ok n =>
  refine (Any.strconv_Atoi_ok Tryz.laysC172 ⟨s.toArray⟩ (by omega) n (by rw [hdt]; exact he) w).mono ?_
  rintro e w' ⟨rfl, hw⟩
  refine ⟨n, _, rfl, fun hd => ?_, ?_⟩
  ·rw [atoi_digs hd] at he
   injection he with he
   exact he.symm
  ·rcases hw with rfl | ⟨t, rfl⟩
   ·exact Ext.refl _
   ·exact Lib.bytesWorld_below w _ t
 | «syntax» =>
  refine (Any.strconv_Atoi_syntax Tryz.laysC172 ⟨s.toArray⟩ (by omega) (by rw [hdt]; exact he) v0 w c0 h0).mono ?_
  rintro e w' ⟨N, rfl, _, _, hx⟩
  refine ⟨_, _, rfl, fun hd => ?_, hx⟩
  rw [atoi_digs hd] at he
  cases he
 | range =>
  refine (Any.strconv_Atoi_range Tryz.laysC172 ⟨s.toArray⟩ (by omega) (by rw [hdt]; exact he) v1 w c1 h1).mono ?_
  rintro e w' ⟨N, rfl, _, _, hx⟩
  refine ⟨_, _, rfl, fun hd => ?_, hx⟩
  rw [atoi_digs hd] at he
  cases he
theorem cutS_any (s sep : Bs) (hs : s.length ≤ 10000) (w : World) (ht : Std w) : Calls Tryz.prog 94 #[.string ⟨s.toArray⟩, .string ⟨sep.toArray⟩] w fun e w' => e = .returned (.tuple #[.string ⟨(Lib.cut s sep).1.toArray⟩, .string ⟨(Lib.cut s sep).2.1.toArray⟩, .bool (Lib.cut s sep).2.2]) ∧ Ext w w' := by
 obtain ⟨m, hm⟩ := ht.mx
 have hsz : (⟨s.toArray⟩ : ByteArray).size = s.length := by show s.toArray.size = _; simp
 have := Tryz.strings_Cut ⟨s.toArray⟩ ⟨sep.toArray⟩ m w (by omega) hm
 simp only at this
 refine this.mono ?_
 rintro e w' ⟨rfl, n, rfl⟩
 exact ⟨rfl, (Ext.refl w).drewN n⟩
theorem fieldsS_any (s : Bs) (hs : s.length ≤ 10000) (ha : s.all (fun b => decide (b.toNat < 128)) = true) (w : World) (ht : Std w) : Calls Tryz.prog 165 #[.string ⟨s.toArray⟩] w fun e w' =>
  e = .returned (.slice (some ⟨w.heap.size, 0, none⟩) (Lib.fields s).length (Lib.fields s).length) ∧ w' = w.alloc (.cells ((Lib.fields s).map fun l => Value.string ⟨l.toArray⟩).toArray 9) := by
 have hsz : (⟨s.toArray⟩ : ByteArray).size = s.length := by show s.toArray.size = _; simp
 have := Tryz.strings_Fields ⟨s.toArray⟩ w (by omega) (ascii_of_all ha) ht.sp
 simp only at this
 exact this
theorem replS_any (s : Bs) (hs : s.length ≤ 10000) (hc : Lib.countB ⟨s.toArray⟩ ⟨#[95]⟩ ≤ 1000) (w : World) (ht : Std w) : Calls Tryz.prog 166 #[.string ⟨s.toArray⟩, .string ⟨#[95]⟩, .string ⟨#[32]⟩] w fun e w' =>
  e = .returned (.string ⟨(Lib.replaceAll s [95] [32]).toArray⟩) ∧ Ext w w' := by
 obtain ⟨m, hm⟩ := ht.mx
 have hsz : (⟨s.toArray⟩ : ByteArray).size = s.length := by show s.toArray.size = _; simp
 have := Tryz.strings_ReplaceAll ⟨s.toArray⟩ ⟨#[95]⟩ ⟨#[32]⟩ m w (by omega) hm (by decide) (by rw [hsz, show (⟨#[32]⟩ : ByteArray).size = 1 from rfl]; omega)
 simp only at this
 exact this
end Go.Proofs.YtjaponmpfdpemaaGreatDoor
set_option linter.unusedSimpArgs false
set_option linter.unusedVariables false
namespace Go.Proofs.YtjaponmpfdpemaaGreatDoor
open Go.RowKit
def clsA : Array Value := ((List.range 256).map fun i => Value.int .u8 (clsB (UInt8.ofNat i) : Int)).toArray
theorem clsA_size : clsA.size = 256 := by simp [clsA]
theorem clsA_at {i : Nat} (h : i < 256) : clsA[i]? = some (.int .u8 (clsB (UInt8.ofNat i) : Int)) := by
 unfold clsA
 rw [List.getElem?_toArray, List.getElem?_map, List.getElem?_range h]
 rfl
def cutC (s : Bs) (v : Value) (a : Int) : Array Value := #[.string ⟨s.toArray⟩] ++ clsA ++ #[v, .int .i64 a]
theorem cutC_0 (s : Bs) (v : Value) (a : Int) : (cutC s v a)[0]? = some (.string ⟨s.toArray⟩) := by
 unfold cutC
 rw [Array.getElem?_append_left (by simp [clsA_size]), Array.getElem?_append_left (by simp)]
 rfl
theorem cutC_cls (s : Bs) (v : Value) (a : Int) {i : Nat} (h : i < 256) : (cutC s v a)[1 + i]? = some (.int .u8 (clsB (UInt8.ofNat i) : Int)) := by
 unfold cutC
 rw [Array.getElem?_append_left (by simp [clsA_size]; omega), Array.getElem?_append_right (by simp)]
 rw [show 1 + i - (#[Value.string ⟨s.toArray⟩] : Array Value).size = i by simp]
 exact clsA_at h
theorem cutC_v (s : Bs) (v : Value) (a : Int) : (cutC s v a)[257]? = some v := by
 unfold cutC
 rw [Array.getElem?_append_right (by simp [clsA_size])]
 simp [clsA_size]
theorem cutC_a (s : Bs) (v : Value) (a : Int) : (cutC s v a)[258]? = some (.int .i64 a) := by
 unfold cutC
 rw [Array.getElem?_append_right (by simp [clsA_size])]
 simp [clsA_size]
theorem cutC_setv (s : Bs) (v u : Value) (a : Int) : (cutC s v a).setIfInBounds 257 u = cutC s u a := by
 apply Array.ext'
 simp [cutC, clsA_size, Array.setIfInBounds]
theorem cutC_seta (s : Bs) (v : Value) (a b : Int) : (cutC s v a).setIfInBounds 258 (.int .i64 b) = cutC s v b := by
 apply Array.ext'
 simp [cutC, clsA_size, Array.setIfInBounds]
set_option maxRecDepth 100000 in
theorem class_any {W : World} {g : Nat} {s : Bs} {v : Value} {a : Int} (h : Blk W g 124 (cutC s v a)) (i : Nat) (hs : s.length ≤ 200) (hi : i ≤ 1000) :
  Calls Tryz.prog 125 #[.pointer (some ⟨g, 0, none⟩), .int .i64 (i : Int)] W fun e w' => e = .returned (.int .u8 (clsAt s i : Int)) ∧ Ext W w' := by
 have c0 : W.cell? ⟨g, 0, none⟩ = some (.string ⟨s.toArray⟩) := (h.cell 0).trans (cutC_0 s v a)
 have hc := Lib.hid (fun k (hk : k < 256) => (h.cell (1 + k)).trans (cutC_cls s v a hk))
 have lg := h.lt
 clear h
 by_cases hl : i < s.length
 ·have hd : decide ((s.length : Int) ≤ (i : Int)) = false := by simp; omega
  have il : (i : Int) < (s.length : Int) := by omega
  have iz : (0 : Int) ≤ (i : Int) := by omega
  obtain ⟨k, hk⟩ : ∃ k, s[i].toNat = k := ⟨_, rfl⟩
  have hk2 : k < 256 := by rw [← hk]; exact UInt8.toNat_lt _
  have hb : ∀ h, ((⟨s.toArray⟩ : ByteArray)[i]'h).toNat = k := fun _ => hk
  have ck := hc.out k hk2
  have kz : (0 : Int) ≤ (k : Int) := by omega
  have kl : (k : Int) < 256 := by omega
  have hcl : clsAt s i = clsB (UInt8.ofNat k) := by rw [clsAt_lt hl, ← hk, UInt8.ofNat_toNat]
  rw [hcl]
  replace hk := Lib.hid hk
  replace hcl := Lib.hid hcl
  go_enter Tryz.func125, Tryz.ntmps125
  go_upto_region 3 with (fail)
  go_quiet (fail)
  go_wp2_with fail
  go_ret
  exact ⟨rfl, (Ext.refl W).drewN _⟩
 ·have hd : decide ((s.length : Int) ≤ (i : Int)) = true := by simp; omega
  go_enter Tryz.func125, Tryz.ntmps125
  go_wp2_with fail
  go_ret
  exact ⟨by rw [clsAt_end (by omega)]; rfl, Ext.refl _⟩
def sndI (s : Bs) (i : Int) : Bool := decide (0 ≤ i) && sndAt s i.toNat
set_option maxRecDepth 100000 in
theorem sound_any {W : World} {g : Nat} {s : Bs} {v : Value} {a : Int} (h : Blk W g 124 (cutC s v a)) (i : Int) (hs : s.length ≤ 200) (hi : -1 ≤ i ∧ i ≤ 1000) :
  Calls Tryz.prog 149 #[.pointer (some ⟨g, 0, none⟩), .int .i64 i] W fun e w' => e = .returned (.bool (sndI s i)) ∧ Ext W w' := by
 have c0 : W.cell? ⟨g, 0, none⟩ = some (.string ⟨s.toArray⟩) := (h.cell 0).trans (cutC_0 s v a)
 have hc := Lib.hid (fun k (hk : k < 256) => (h.cell (1 + k)).trans (cutC_cls s v a hk))
 have lg := h.lt
 clear h
 by_cases h0 : 0 ≤ i
 ·obtain ⟨n, rfl⟩ : ∃ n : Nat, i = (n : Int) := ⟨i.toNat, by omega⟩
  have hsI : sndI s (n : Int) = sndAt s n := by unfold sndI; simp
  rw [hsI]
  replace hsI := Lib.hid hsI
  by_cases hl : n < s.length
  ·have hd : decide ((n : Int) < (s.length : Int)) = true := by simp; omega
   have il : (n : Int) < (s.length : Int) := by omega
   have iz : (0 : Int) ≤ (n : Int) := by omega
   have hdz : decide ((0 : Int) ≤ (n : Int)) = true := decide_eq_true iz
   obtain ⟨k, hk⟩ : ∃ k, s[n].toNat = k := ⟨_, rfl⟩
   have hk2 : k < 256 := by rw [← hk]; exact UInt8.toNat_lt _
   have hb : ∀ h, ((⟨s.toArray⟩ : ByteArray)[n]'h).toNat = k := fun _ => hk
   have ck := hc.out k hk2
   have kz : (0 : Int) ≤ (k : Int) := by omega
   have kl : (k : Int) < 256 := by omega
   have hcl : sndAt s n = (clsB (UInt8.ofNat k) == 2 || clsB (UInt8.ofNat k) == 3) := by unfold sndAt; rw [clsAt_lt hl, ← hk, UInt8.ofNat_toNat]
   rw [hcl]
   replace hk := Lib.hid hk
   replace hcl := Lib.hid hcl
   generalize clsB (UInt8.ofNat k) = c at *
   rcases (show c = 2 ∨ c = 3 ∨ (c ≠ 2 ∧ c ≠ 3) by omega) with rfl | rfl | ⟨e2, e3⟩
   ·go_enter Tryz.func149, Tryz.ntmps149
    go_upto_region 1 with (fail)
    go_quiet (fail)
    go_wp2_with fail
    go_ret
    exact ⟨rfl, (Ext.refl W).drewN _⟩
   ·go_enter Tryz.func149, Tryz.ntmps149
    go_upto_region 1 with (fail)
    go_quiet (fail)
    go_wp2_with fail
    go_ret
    exact ⟨rfl, (Ext.refl W).drewN _⟩
   ·have f2 : ((c : Int) == 2) = false := by rw [beq_eq_false_iff_ne]; omega
    have f3 : ((c : Int) == 3) = false := by rw [beq_eq_false_iff_ne]; omega
    have f4 : (c == 2 || c == 3) = false := by rw [Bool.or_eq_false_iff, beq_eq_false_iff_ne, beq_eq_false_iff_ne]; exact ⟨e2, e3⟩
    rw [f4]
    go_enter Tryz.func149, Tryz.ntmps149
    go_upto_region 1 with (fail)
    go_quiet (fail)
    go_wp2_with fail
    go_ret
    exact ⟨rfl, (Ext.refl W).drewN _⟩
  ·have hd : decide ((n : Int) < (s.length : Int)) = false := by simp; omega
   have iz : (0 : Int) ≤ (n : Int) := by omega
   have hdz : decide ((0 : Int) ≤ (n : Int)) = true := decide_eq_true iz
   have hse : sndAt s n = false := by unfold sndAt; rw [clsAt_end (by omega)]; rfl
   rw [hse]
   replace hse := Lib.hid hse
   go_enter Tryz.func149, Tryz.ntmps149
   go_upto_region 1 with (fail)
   go_quiet (fail)
   go_wp2_with fail
   go_ret
   exact ⟨rfl, (Ext.refl W).drewN _⟩
 ·have hd : decide (0 ≤ i) = false := by simp; omega
  have hsI : sndI s i = false := by unfold sndI; rw [hd]; rfl
  rw [hsI]
  replace hsI := Lib.hid hsI
  go_enter Tryz.func149, Tryz.ntmps149
  go_upto_region 1 with (fail)
  go_quiet (fail)
  go_wp2_with fail
  go_ret
  exact ⟨rfl, (Ext.refl W).drewN _⟩
end Go.Proofs.YtjaponmpfdpemaaGreatDoor
set_option linter.unusedSimpArgs false
set_option linter.unusedVariables false
namespace Go.Proofs.YtjaponmpfdpemaaGreatDoor
open Go.RowKit
def RowF (W : World) (g : Nat) (cs : Array Value) : Prop := W.heap[g]? = some (.cells cs 5 (cs.size, cs.size + 1))
theorem RowF.lt {W : World} {g : Nat} {cs : Array Value} (h : RowF W g cs) : g < W.heap.size := by
 rcases Nat.lt_or_ge g W.heap.size with hlt | hge
 ·exact hlt
 ·unfold RowF at h; rw [Array.getElem?_eq_none hge] at h; cases h
theorem RowF.cell {W : World} {g : Nat} {cs : Array Value} (h : RowF W g cs) (i : Nat) : W.cell? ⟨g, i, none⟩ = cs[i]? := cell_of_row W g i cs _ _ h
theorem RowF.frozen {W : World} {g : Nat} {cs : Array Value} (h : RowF W g cs) {i : Nat} (hi : i < cs.size) : W.frozen? ⟨g, i, none⟩ = false := by
 unfold RowF at h
 simp [World.frozen?, h]
 omega
theorem RowF.set_ {W : World} {g : Nat} {cs : Array Value} (h : RowF W g cs) (i : Nat) (u : Value) : RowF (W.setCell ⟨g, i, none⟩ u) g (cs.setIfInBounds i u) := by
 unfold RowF at h ⊢
 simp [World.setCell, Array.getElem?_modify, h]
theorem str_bytes (W : World) (s : Bs) : ∃ W1 cap cs, (convert 9 129 (.string ⟨s.toArray⟩)).run Tryz.prog W = .ok (.slice (some ⟨W.heap.size, 0, none⟩) s.length cap) W1 ∧ RowF W1 W.heap.size cs ∧ (∀ i (h : i < s.length), cs[i]? = some (.int .u8 (s[i].toNat : Int))) ∧ Ext W W1 := by
 refine ⟨_, _, bytesRow ⟨s.toArray⟩ (grownCap W (⟨s.toArray⟩ : ByteArray).size 0 5), run_bytes_of_string W 9 129 5 ⟨s.toArray⟩ Tryz.underlying9 Tryz.underlying129 Tryz.underlying5, ?_, ?_, ?_⟩
 ·exact heap_alloc_new W.drew _
 ·intro i h
  unfold bytesRow
  rw [Array.getElem?_append_left (by simpa using h)]
  simp [h]
 ·exact (Ext.refl W).drew.alloc _
def UpAt (s : Bs) (k : Nat) (cs : Array Value) : Prop := ∀ i (h : i < s.length), cs[i]? = some (.int .u8 (((if i < k then upB s[i] else s[i]).toNat : Nat) : Int))
theorem UpAt.next {s : Bs} {k : Nat} {cs : Array Value} (h : UpAt s k cs) (hk : k < s.length) {u : Value} (hu : u = .int .u8 ((upB s[k]).toNat : Int)) : UpAt s (k + 1) (cs.setIfInBounds k u) := by
 intro i hi
 by_cases e : i = k
 ·subst e
  have hsz : i < cs.size := by
   have := h i hi
   exact (Array.getElem?_eq_some_iff.1 this).1
  rw [Array.getElem?_setIfInBounds_self_of_lt hsz, hu, if_pos (by omega)]
 ·rw [Array.getElem?_setIfInBounds_ne (by omega), h i hi]
  by_cases h1 : i < k
  ·rw [if_pos h1, if_pos (by omega)]
  ·rw [if_neg h1, if_neg (by omega)]
theorem UpAt.same {s : Bs} {k : Nat} {cs : Array Value} (h : UpAt s k cs) (hk : k < s.length) (hu : upB s[k] = s[k]) : UpAt s (k + 1) cs := by
 intro i hi
 rw [h i hi]
 by_cases e : i = k
 ·subst e
  rw [if_neg (by omega), if_pos (by omega), hu]
 ·by_cases h1 : i < k
  ·rw [if_pos h1, if_pos (by omega)]
  ·rw [if_neg h1, if_neg (by omega)]
def UpRel (W : World) (g : Nat) (s : Bs) (i : Value) (wr : World) : Prop := ∃ (k : Nat) (cs : Array Value), k ≤ s.length ∧ i = .int .i64 (k : Int) ∧ RowF wr g cs ∧ UpAt s k cs ∧ Ext W wr
set_option maxRecDepth 100000 in
theorem upper_any (s : Bs) (W : World) (hs : s.length ≤ 100000) : Calls Tryz.prog 150 #[.string ⟨s.toArray⟩] W fun e w' => e = .returned (.string ⟨(upS s).toArray⟩) ∧ Ext W w' := by
 obtain ⟨W1, cap, cs, hcv, hR, hc, hX⟩ := str_bytes W s
 have H0 := Lib.hid (show UpRel W W.heap.size s (.int .i64 ((0 : Nat) : Int)) W1 from ⟨0, cs, by omega, rfl, hR, fun i h => by rw [hc i h, if_neg (by omega)], hX⟩)
 clear hR hc hX
 go_enter Tryz.func150, Tryz.ntmps150
 go_wp2_with fail
 clear hcv
 generalize hg : W.heap.size = g at *
 go_loopw [10] (fun i wr => UpRel W g s i wr) (fun i _ => s.length - (intOf i).toNat)
 case atStart => exact H0.out
 case round =>
  clear H0
  obtain ⟨k, cs, hk, rfl, hR, hU, hX⟩ := hrel
  by_cases hlt : k < s.length
  ·have hd : decide ((k : Int) < (s.length : Int)) = true := by simp; omega
   have kl : (k : Int) < (s.length : Int) := by omega
   have kz : (0 : Int) ≤ (k : Int) := by omega
   have hck := hU k hlt
   rw [if_neg (Nat.lt_irrefl k)] at hck
   have hsz : k < cs.size := (Array.getElem?_eq_some_iff.1 hck).1
   have c0 := (hR.cell k).trans hck
   have f0 := hR.frozen hsz
   have lg := hR.lt
   obtain ⟨b, hb⟩ : ∃ b, s[k].toNat = b := ⟨_, rfl⟩
   have hb2 : b < 256 := by rw [← hb]; exact UInt8.toNat_lt _
   have hge : W.heap.size ≤ g := by omega
   rw [hb] at c0
   by_cases hup : 97 ≤ b ∧ b ≤ 122
   ·have d1 : decide ((97 : Int) ≤ (b : Int)) = true := decide_eq_true (by omega)
    have d2 : decide ((b : Int) ≤ 122) = true := decide_eq_true (by omega)
    have hw : IntKind.u8.wrap ((b : Int) - 97) = (b : Int) - 97 := by simp [IntKind.wrap, IntKind.bits, IntKind.signed]; omega
    have hw2 : IntKind.u8.wrap ((b : Int) - 97 + 65) = (b : Int) - 97 + 65 := by simp [IntKind.wrap, IntKind.bits, IntKind.signed]; omega
    have hbn : (upB s[k]).toNat = b - 32 := by
     unfold upB
     rw [if_pos (by rw [hb]; exact hup), UInt8.toNat_sub_of_le]
     ·rw [hb]; rfl
     ·rw [UInt8.le_iff_toNat_le, hb]; show 32 ≤ b; omega
    have HE := Lib.hid (show UpRel W g s (.int .i64 ((k + 1 : Nat) : Int)) (wr.setCell ⟨g, k, none⟩ (.int .u8 ((b : Int) - 97 + 65))) from
     ⟨k + 1, _, by omega, rfl, hR.set_ k _, hU.next hlt (by rw [hbn]; congr 1; omega), hX.set (p := ⟨g, k, none⟩) hge _⟩)
    clear hR hU hX hck hb hbn hup hg
    go_wp2_with fail
    go_roundw
    case rel => exact HE.out
    case measure => simp [intOf]; omega
   ·have HE := Lib.hid (show UpRel W g s (.int .i64 ((k + 1 : Nat) : Int)) wr from ⟨k + 1, cs, by omega, rfl, hR, hU.same hlt (by unfold upB; rw [if_neg (by rw [hb]; exact hup)]), hX⟩)
    by_cases h97 : 97 ≤ b
    ·have d1 : decide ((97 : Int) ≤ (b : Int)) = true := decide_eq_true (by omega)
     have d2 : decide ((b : Int) ≤ 122) = false := decide_eq_false (by omega)
     clear hR hU hX hck hb hup hg
     go_wp2_with fail
     go_roundw
     case rel => exact HE.out
     case measure => simp [intOf]; omega
    ·have d1 : decide ((97 : Int) ≤ (b : Int)) = false := decide_eq_false (by omega)
     clear hR hU hX hck hb hup hg
     go_wp2_with fail
     go_roundw
     case rel => exact HE.out
     case measure => simp [intOf]; omega
  ·obtain rfl : k = s.length := by omega
   have hd : decide ((s.length : Int) < (s.length : Int)) = false := by simp
   have hbk := run_convert_bytes_back (P := Tryz.prog) wr 129 9 5 ⟨g, 0, none⟩ cap (upS s) Tryz.underlying129 Tryz.underlying5 Tryz.underlying9 (fun j hj => by
    have hj' : j < s.length := by simpa [upS] using hj
    rw [add_flat, Nat.zero_add, hR.cell j, hU j hj', if_pos hj']
    simp [upS])
   rw [show (upS s).length = s.length by simp [upS]] at hbk
   have HX := Lib.hid hX
   clear hR hU hX hg
   go_wp2_with fail
   go_ret
   exact ⟨rfl, HX.out⟩
end Go.Proofs.YtjaponmpfdpemaaGreatDoor
set_option linter.unusedSimpArgs false
set_option linter.unusedVariables false
namespace Go.Proofs.YtjaponmpfdpemaaGreatDoor
open Go.RowKit
theorem only_alloc {a w : World} {row : Option Nat} (h : a.grownBy w row) (o : Obj) : a.grownBy (w.alloc o) row :=
 ⟨h.os, h.tape, h.output, Nat.le_trans h.size (by simp), fun i hi hne => (Below.heap_alloc w o i (Nat.lt_of_lt_of_le hi h.size)).trans (h.block i hi hne)⟩
theorem only_ext {a w w' : World} {row : Option Nat} (h : a.grownBy w row) (hx : Ext w w') : a.grownBy w' row :=
 ⟨hx.os.trans h.os, hx.tape.trans h.tape, hx.output.trans h.output, Nat.le_trans h.size hx.size, fun i hi hne => (hx.block i (Nat.lt_of_lt_of_le hi h.size)).trans (h.block i hi hne)⟩
theorem only_set {a w : World} {g : Nat} (h : a.grownBy w (some g)) {p : Addr} (hp : p.block = g ∨ a.heap.size ≤ p.block) (u : Value) : a.grownBy (w.setCell p u) (some g) :=
 ⟨h.os, h.tape, h.output, by simpa [World.setCell] using h.size, fun i hi hne => (Below.heap_setCell w p u i (by
  rintro rfl
  rcases hp with hp | hp
  ·exact hne (by rw [hp])
  ·omega)).trans (h.block i hi hne)⟩
theorem only_trans {a b c : World} {row : Option Nat} (h : a.grownBy b row) (k : b.grownBy c row) : a.grownBy c row :=
 ⟨k.os.trans h.os, k.tape.trans h.tape, k.output.trans h.output, Nat.le_trans h.size k.size, fun i hi hne => (k.block i (Nat.lt_of_lt_of_le hi h.size) hne).trans (h.block i hi hne)⟩
theorem own_lit {w0 w : World} (hx : Ext w0 w) (cs : Array Value) (e : TypeId) (n size : Nat) {g : Nat} (hg : g = w.heap.size) (hm : n ≤ maxLen) (hs : cs.size = n * size) : (w.alloc (.cells cs e)).ownsRow w0.heap.size e size (.slice (some ⟨g, 0, none⟩) n n) n cs.toList := by
 subst hg
 exact World.ownsRow_lit w cs n hx.size hm hs
theorem own_set {w : World} {base : Nat} {e : TypeId} {size n : Nat} {v : Value} {xs : List Value} (h : w.ownsRow base e size v n xs) {a : Addr} (ha : v.ownBlock ≠ some a.block) (u : Value) : (w.setCell a u).ownsRow base e size v n xs := ownsRow_setCell_other h ha u
section
variable {fn : Func} {tmps : Array Value} {P : Program} {w : World}
theorem results_c {p : Tmp} {ty : TypeId} {a : Addr} {v : Value} (h : fn.results = #[.cell p ty]) (ha : tmps.getD p undef = .pointer (some a)) (hv : (loadVar ty a).run P w = .ok v w) : (results fn tmps).run P w = .ok v w := by
 simp only [results, h]
 simp at ha
 simp [ha, asAddr, hv]
theorem results_ct {p u : Tmp} {ty : TypeId} {a : Addr} {v : Value} (h : fn.results = #[.cell p ty, .tmp u]) (ha : tmps.getD p undef = .pointer (some a)) (hv : (loadVar ty a).run P w = .ok v w) : (results fn tmps).run P w = .ok (.tuple #[v, tmps.getD u undef]) w := by
 simp only [results, h]
 simp at ha
 simp [Result.andThen, ha, asAddr, hv]
theorem results_tc {p u : Tmp} {ty : TypeId} {a : Addr} {v : Value} (h : fn.results = #[.tmp u, .cell p ty]) (ha : tmps.getD p undef = .pointer (some a)) (hv : (loadVar ty a).run P w = .ok v w) : (results fn tmps).run P w = .ok (.tuple #[tmps.getD u undef, v]) w := by
 simp only [results, h]
 simp at ha
 simp [Result.andThen, ha, asAddr, hv]
theorem results_cc {p q : Tmp} {ty tq : TypeId} {a b : Addr} {v u : Value} (h : fn.results = #[.cell p ty, .cell q tq]) (ha : tmps.getD p undef = .pointer (some a)) (hv : (loadVar ty a).run P w = .ok v w) (hb : tmps.getD q undef = .pointer (some b)) (hu : (loadVar tq b).run P w = .ok u w) : (results fn tmps).run P w = .ok (.tuple #[v, u]) w := by
 simp only [results, h]
 simp at ha hb
 simp [Sem.run_bind, Result.andThen, ha, hb, asAddr, hv, hu]
end
end Go.Proofs.YtjaponmpfdpemaaGreatDoor
