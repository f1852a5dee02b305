/-
  token: classes.
-/
import Derived.Test.YtjaponmpfdpemaaGreatDoorBb07
import Derived.Laws.RangeString
import Derived.Deep.MidRow
import Derived.Lib.LazyBuf
set_option linter.unusedSimpArgs false
set_option linter.unusedVariables false
namespace Go.Proofs.YtjaponmpfdpemaaGreatDoor
open Go.RowKit
def Tab (cs : Array Value) (f : Nat → Nat) : Prop := cs.size = 256 ∧ ∀ i, i < 256 → cs[i]? = some (.int .u8 (f i : Int))
theorem Tab.set {cs : Array Value} {f : Nat → Nat} (h : Tab cs f) {k v : Nat} (hk : k < 256) {u : Value} (hu : u = .int .u8 (v : Int)) : Tab (cs.setIfInBounds k u) (fun i => if i = k then v else f i) := by
 refine ⟨by rw [Array.size_setIfInBounds]; exact h.1, fun i hi => ?_⟩
 by_cases e : i = k
 ·subst e
  rw [Array.getElem?_setIfInBounds_self_of_lt (by rw [h.1]; exact hi), hu]; simp
 ·rw [Array.getElem?_setIfInBounds_ne (by omega), h.2 i hi]; simp [e]
theorem Tab.to {cs : Array Value} {f g : Nat → Nat} (h : Tab cs f) (hfg : ∀ i, i < 256 → f i = g i) : Tab cs g := ⟨h.1, fun i hi => by rw [h.2 i hi, hfg i hi]⟩
theorem Tab.eq {cs : Array Value} (h : Tab cs fun i => clsB (UInt8.ofNat i)) : cs = clsA := by
 apply Array.ext
 ·rw [h.1, clsA_size]
 ·intro i h1 h2
  have hi : i < 256 := by rw [← h.1]; exact h1
  have a := h.2 i hi
  have b := clsA_at hi
  rw [Array.getElem?_eq_getElem h1] at a
  rw [Array.getElem?_eq_getElem h2] at b
  rw [← b] at a
  exact Option.some.inj a
theorem zero92 : Tryz.zeroCells121 = Array.replicate 256 (.int .u8 0) := by kernel_rfl
structure ClsAt (W : World) (g0 gA : Nat) (f : Nat → Nat) (wr : World) : Prop where
 a : ∃ cs, Blk wr gA 121 cs ∧ Tab cs f
 r : ∃ cs, Blk wr g0 121 cs ∧ cs.size = 256
 ext : Ext W wr
 ge : W.heap.size ≤ gA
 ge0 : W.heap.size ≤ g0
 ne : g0 ≠ gA
theorem ClsAt.put {W wr : World} {g0 gA : Nat} {f : Nat → Nat} (h : ClsAt W g0 gA f wr) {k v : Nat} (hk : k < 256) {u : Value} (hu : u = .int .u8 (v : Int)) : ClsAt W g0 gA (fun i => if i = k then v else f i) (wr.setCell ⟨gA, k, none⟩ u) := by
 obtain ⟨cs, hb, ht⟩ := h.a
 obtain ⟨c0, hb0, hs⟩ := h.r
 exact ⟨⟨_, hb.set_ k u, ht.set hk hu⟩, ⟨c0, hb0.far (p := ⟨gA, k, none⟩) h.ne u, hs⟩, h.ext.set (p := ⟨gA, k, none⟩) h.ge u, h.ge, h.ge0, h.ne⟩
theorem ClsAt.to {W wr : World} {g0 gA : Nat} {f f' : Nat → Nat} (h : ClsAt W g0 gA f wr) (hf : ∀ i, i < 256 → f i = f' i) : ClsAt W g0 gA f' wr := by
 obtain ⟨cs, hb, ht⟩ := h.a
 exact ⟨⟨cs, hb, ht.to hf⟩, h.r, h.ext, h.ge, h.ge0, h.ne⟩
theorem ClsAt.alloc {W wr : World} {g0 gA : Nat} {f : Nat → Nat} (h : ClsAt W g0 gA f wr) (o : Obj) : ClsAt W g0 gA f (wr.alloc o) := by
 obtain ⟨cs, hb, ht⟩ := h.a
 obtain ⟨c0, hb0, hs⟩ := h.r
 exact ⟨⟨cs, hb.alloc o, ht⟩, ⟨c0, hb0.alloc o, hs⟩, h.ext.alloc o, h.ge, h.ge0, h.ne⟩
def f1 (n i : Nat) : Nat := if 32 ≤ i ∧ i < n then 1 else 0
def f2 (i : Nat) : Nat := if i = 9 then 1 else f1 127 i
def Cl1 (W : World) (g0 gA : Nat) (c : Value) (wr : World) : Prop := ∃ n : Nat, 32 ≤ n ∧ n ≤ 127 ∧ c = .int .u8 (n : Int) ∧ ClsAt W g0 gA (f1 n) wr
def abcS : ByteArray := ⟨#[65, 66, 67, 68, 69, 70, 71, 72, 73, 74, 75, 76, 77, 78, 79, 80, 81, 82, 83, 84, 85, 86, 87, 88, 89, 90]⟩
def digS : ByteArray := ⟨#[48, 49, 50, 51, 52, 53, 54, 55, 56, 57]⟩
def joiS : ByteArray := ⟨#[45, 47, 39, 46]⟩
theorem abc_at : ∀ k (h : k < 26), (abcS[k]'h).toNat = 65 + k := by
 have : ∀ k : Fin 26, (abcS[k.val]'k.isLt).toNat = 65 + k.val := by decide +kernel
 exact fun k h => this ⟨k, h⟩
theorem dig_at : ∀ k (h : k < 10), (digS[k]'h).toNat = 48 + k := by
 have : ∀ k : Fin 10, (digS[k.val]'k.isLt).toNat = 48 + k.val := by decide +kernel
 exact fun k h => this ⟨k, h⟩
def joN (k : Nat) : Nat := if k = 0 then 45 else if k = 1 then 47 else if k = 2 then 39 else 46
theorem joi_at : ∀ k (h : k < 4), (joiS[k]'h).toNat = joN k := by
 have : ∀ k : Fin 4, (joiS[k.val]'k.isLt).toNat = joN k.val := by decide +kernel
 exact fun k h => this ⟨k, h⟩
def f3 (k i : Nat) : Nat := if (65 ≤ i ∧ i < 65 + k) ∨ (97 ≤ i ∧ i < 97 + k) then 2 else f2 i
def f4 (k i : Nat) : Nat := if 48 ≤ i ∧ i < 48 + k then 3 else f3 26 i
def f5 (k i : Nat) : Nat := if (0 < k ∧ i = 45) ∨ (1 < k ∧ i = 47) ∨ (2 < k ∧ i = 39) ∨ (3 < k ∧ i = 46) then 4 else f4 10 i
def f6 (i : Nat) : Nat := if i = 35 then 6 else if i = 44 then 5 else f5 4 i
theorem f6_cls : ∀ i, i < 256 → f6 i = clsB (UInt8.ofNat i) := by
 have : ∀ i : Fin 256, f6 i.val = clsB (UInt8.ofNat i.val) := by decide +kernel
 exact fun i h => this ⟨i, h⟩
def iterPos (w : World) (N : Nat) : Nat := match w.heap[N]? with | some (.stringIter _ p) => p | _ => 0
theorem iterPos_iter (w : World) (s : ByteArray) (k : Nat) {N : Nat} (hN : w.heap.size = N) : iterPos (w.iter s k) N = k := by
 unfold iterPos
 rw [← hN, World.iter_heap]
theorem iter_set (w : World) (s : ByteArray) (p : Nat) {b i : Nat} (v : Value) (h : b < w.heap.size) : (w.iter s p).setCell ⟨b, i, none⟩ v = (w.setCell ⟨b, i, none⟩ v).iter s p := by
 unfold World.iter
 exact World.setCell_alloc_past _ _ _ _ h
theorem or_65 : bits BinOp.or IntKind.i32 65 32 = 97 := by kernel_rfl
theorem or_66 : bits BinOp.or IntKind.i32 66 32 = 98 := by kernel_rfl
theorem or_67 : bits BinOp.or IntKind.i32 67 32 = 99 := by kernel_rfl
theorem or_68 : bits BinOp.or IntKind.i32 68 32 = 100 := by kernel_rfl
theorem or_69 : bits BinOp.or IntKind.i32 69 32 = 101 := by kernel_rfl
theorem or_70 : bits BinOp.or IntKind.i32 70 32 = 102 := by kernel_rfl
theorem or_71 : bits BinOp.or IntKind.i32 71 32 = 103 := by kernel_rfl
theorem or_72 : bits BinOp.or IntKind.i32 72 32 = 104 := by kernel_rfl
theorem or_73 : bits BinOp.or IntKind.i32 73 32 = 105 := by kernel_rfl
theorem or_74 : bits BinOp.or IntKind.i32 74 32 = 106 := by kernel_rfl
theorem or_75 : bits BinOp.or IntKind.i32 75 32 = 107 := by kernel_rfl
theorem or_76 : bits BinOp.or IntKind.i32 76 32 = 108 := by kernel_rfl
theorem or_77 : bits BinOp.or IntKind.i32 77 32 = 109 := by kernel_rfl
theorem or_78 : bits BinOp.or IntKind.i32 78 32 = 110 := by kernel_rfl
theorem or_79 : bits BinOp.or IntKind.i32 79 32 = 111 := by kernel_rfl
theorem or_80 : bits BinOp.or IntKind.i32 80 32 = 112 := by kernel_rfl
theorem or_81 : bits BinOp.or IntKind.i32 81 32 = 113 := by kernel_rfl
theorem or_82 : bits BinOp.or IntKind.i32 82 32 = 114 := by kernel_rfl
theorem or_83 : bits BinOp.or IntKind.i32 83 32 = 115 := by kernel_rfl
theorem or_84 : bits BinOp.or IntKind.i32 84 32 = 116 := by kernel_rfl
theorem or_85 : bits BinOp.or IntKind.i32 85 32 = 117 := by kernel_rfl
theorem or_86 : bits BinOp.or IntKind.i32 86 32 = 118 := by kernel_rfl
theorem or_87 : bits BinOp.or IntKind.i32 87 32 = 119 := by kernel_rfl
theorem or_88 : bits BinOp.or IntKind.i32 88 32 = 120 := by kernel_rfl
theorem or_89 : bits BinOp.or IntKind.i32 89 32 = 121 := by kernel_rfl
theorem or_90 : bits BinOp.or IntKind.i32 90 32 = 122 := by kernel_rfl
theorem or32 {k n q : Nat} (hk : k < 26) (hn : 65 + k = n) (hq : 97 + k = q) : bits BinOp.or IntKind.i32 (n : Int) 32 = (q : Int) := by
 subst hn hq
 rcases (show k = 0 ∨ k = 1 ∨ k = 2 ∨ k = 3 ∨ k = 4 ∨ k = 5 ∨ k = 6 ∨ k = 7 ∨ k = 8 ∨ k = 9 ∨ k = 10 ∨ k = 11 ∨ k = 12 ∨ k = 13 ∨ k = 14 ∨ k = 15 ∨ k = 16 ∨ k = 17 ∨ k = 18 ∨ k = 19 ∨ k = 20 ∨ k = 21 ∨ k = 22 ∨ k = 23 ∨ k = 24 ∨ k = 25 by omega) with rfl | rfl | rfl | rfl | rfl | rfl | rfl | rfl | rfl | rfl | rfl | rfl | rfl | rfl | rfl | rfl | rfl | rfl | rfl | rfl | rfl | rfl | rfl | rfl | rfl | rfl
 ·exact or_65
 ·exact or_66
 ·exact or_67
 ·exact or_68
 ·exact or_69
 ·exact or_70
 ·exact or_71
 ·exact or_72
 ·exact or_73
 ·exact or_74
 ·exact or_75
 ·exact or_76
 ·exact or_77
 ·exact or_78
 ·exact or_79
 ·exact or_80
 ·exact or_81
 ·exact or_82
 ·exact or_83
 ·exact or_84
 ·exact or_85
 ·exact or_86
 ·exact or_87
 ·exact or_88
 ·exact or_89
 ·exact or_90
theorem joN_lt (k : Nat) : joN k < 128 := by
 unfold joN
 repeat' split
 all_goals omega
theorem let_step {k n q : Nat} (hn : 65 + k = n) (hq : 97 + k = q) (i : Nat) : (if i = q then 2 else if i = n then 2 else f3 k i) = f3 (k + 1) i := by
 unfold f3
 by_cases h1 : i = q
 ·rw [if_pos h1, if_pos (by omega)]
 ·rw [if_neg h1]
  by_cases h2 : i = n
  ·rw [if_pos h2, if_pos (by omega)]
  ·rw [if_neg h2]
   by_cases h3 : (65 ≤ i ∧ i < 65 + k) ∨ (97 ≤ i ∧ i < 97 + k)
   ·rw [if_pos h3, if_pos (by omega)]
   ·rw [if_neg h3, if_neg (by omega)]
theorem dig_step {k n : Nat} (hn : 48 + k = n) (i : Nat) : (if i = n then 3 else f4 k i) = f4 (k + 1) i := by
 unfold f4
 by_cases h2 : i = n
 ·rw [if_pos h2, if_pos (by omega)]
 ·rw [if_neg h2]
  by_cases h3 : 48 ≤ i ∧ i < 48 + k
  ·rw [if_pos h3, if_pos (by omega)]
  ·rw [if_neg h3, if_neg (by omega)]
theorem joi_step {k n : Nat} (hk : k < 4) (hn : joN k = n) (i : Nat) : (if i = n then 4 else f5 k i) = f5 (k + 1) i := by
 have e : n = 45 ∧ k = 0 ∨ n = 47 ∧ k = 1 ∨ n = 39 ∧ k = 2 ∨ n = 46 ∧ k = 3 := by
  unfold joN at hn
  rcases (show k = 0 ∨ k = 1 ∨ k = 2 ∨ k = 3 by omega) with rfl | rfl | rfl | rfl <;> simp at hn <;> omega
 unfold f5
 by_cases h2 : i = n
 ·rw [if_pos h2, if_pos (by omega)]
 ·rw [if_neg h2]
  by_cases h3 : (0 < k ∧ i = 45) ∨ (1 < k ∧ i = 47) ∨ (2 < k ∧ i = 39) ∨ (3 < k ∧ i = 46)
  ·rw [if_pos h3, if_pos (by omega)]
  ·rw [if_neg h3, if_neg (by omega)]
def ClI (W : World) (g0 gA N : Nat) (S : ByteArray) (m : Nat) (F : Nat → Nat → Nat) (wr : World) : Prop := ∃ (k : Nat) (w' : World), k ≤ m ∧ wr = w'.iter S k ∧ w'.heap.size = N ∧ ClsAt W g0 gA (F k) w'
set_option maxRecDepth 100000 in
theorem classes_any (W : World) : Calls Tryz.prog 81 #[] W fun e w' => e = .returned (.agg clsA) ∧ Ext W w' := by
 have hz : Tab Tryz.zeroCells121 (f1 32) := by
  rw [zero92]
  refine ⟨by simp, fun i hi => ?_⟩
  rw [Array.getElem?_replicate, if_pos hi]
  unfold f1
  rw [if_neg (by omega)]
  rfl
 generalize hzq : Tryz.zeroCells121 = Z at *
 have S0 : ClsAt W W.heap.size (W.heap.size + 1) (f1 32) ((W.alloc (.cells Z 121)).alloc (.cells Z 121)) := by
  have b0 := (Blk.new W 121 Z).alloc (.cells Z 121)
  have b1 := Blk.new (W.alloc (.cells Z 121)) 121 Z
  rw [show (W.alloc (.cells Z 121)).heap.size = W.heap.size + 1 by simp] at b1
  exact ⟨⟨Z, b1, hz⟩, ⟨Z, b0, hz.1⟩, ((Ext.refl W).alloc _).alloc _, by omega, by omega, by omega⟩
 go_enter Tryz.func81, Tryz.ntmps81
 go_upto_region 2 with (fail)
 generalize World.alloc (World.alloc W _) _ = w1 at *
 generalize W.heap.size + 1 = gA at *
 generalize W.heap.size = g0 at *
 have H0 := Lib.hid (show Cl1 W g0 gA (.int .u8 ((32 : Nat) : Int)) w1 from ⟨32, by omega, by omega, rfl, S0⟩)
 clear S0 hz hzq
 go_wp2_with fail
 go_loopw [2] (fun c wr => Cl1 W g0 gA c wr) (fun c _ => 127 - (intOf c).toNat)
 case atStart => exact H0.out
 case round =>
  clear H0
  obtain ⟨n, hn1, hn2, rfl, hS⟩ := hrel
  by_cases hlt : n ≤ 126
  ·have hd : decide ((n : Int) ≤ 126) = true := decide_eq_true (by omega)
   have nz : (0 : Int) ≤ (n : Int) := by omega
   have nl : (n : Int) < 256 := by omega
   have hw : IntKind.u8.wrap ((n : Int) + 1) = ((n + 1 : Nat) : Int) := by rw [IntWalk.u8_in _ (by omega)]; omega
   have HE := Lib.hid (show Cl1 W g0 gA (.int .u8 ((n + 1 : Nat) : Int)) (wr.setCell ⟨gA, n, none⟩ (.int .u8 1)) from
    ⟨n + 1, by omega, by omega, rfl, (hS.put (k := n) (v := 1) (by omega) rfl).to fun i hi => by unfold f1; split <;> split <;> (try split) <;> omega⟩)
   obtain ⟨cs, hb, ht⟩ := hS.a
   have cn := (hb.cell n).trans (ht.2 n (by omega))
   have fn := hb.frozen n
   have lg := hb.lt
   clear hS hb ht
   go_wp2_with fail
   go_roundw
   case rel => exact HE.out
   case measure => simp [intOf]; omega
  ·obtain rfl : n = 127 := by omega
   have hd : decide (((127 : Nat) : Int) ≤ 126) = false := decide_eq_false (by omega)
   obtain ⟨cs, hb, ht⟩ := hS.a
   have c9 := (hb.cell 9).trans (ht.2 9 (by omega))
   have f9 := hb.frozen 9
   have lg := hb.lt
   have S2 := (hS.put (k := 9) (v := 1) (by omega) rfl).to (f' := f2) fun i hi => rfl
   clear hS hb ht hd hlt
   go_upto_region 7 with (fail)
   generalize World.setCell _ _ _ = w2 at *
   clear c9 f9 lg
   go_wp2_with fail
   have H4 := Lib.hid (show ClI W g0 gA w2.heap.size abcS 26 f3 (w2.iter abcS 0) from ⟨0, w2, by omega, rfl, rfl, S2.to fun i hi => by unfold f3; rw [if_neg (by omega)]⟩)
   clear S2
   generalize w2.heap.size = N4 at *
   go_loopw [4] (fun _ wr => ClI W g0 gA N4 abcS 26 f3 wr) (fun _ wr => 26 - iterPos wr N4)
   case atStart => exact H4.out
   case round =>
    clear H4
    obtain ⟨k, w', hk, rfl, hN, hS⟩ := hrel
    have hm1 := Lib.hid (iterPos_iter w' abcS k hN)
    by_cases hlt : k < 26
    ·have hnx := run_next_ascii (P := Tryz.prog) w' abcS k 0 hlt (by rw [abc_at k hlt]; omega)
     rw [hN, abc_at k hlt] at hnx
     obtain ⟨n, hn⟩ : ∃ n, 65 + k = n := ⟨_, rfl⟩
     have hnb : n < 256 := by rw [← hn]; omega
     rw [hn] at hnx
     obtain ⟨cs, hb, ht⟩ := hS.a
     have lw := hb.lt
     have b1 : Blk (w'.iter abcS (k + 1)) gA 121 cs := hb.alloc _
     have cn := (b1.cell n).trans (ht.2 n hnb)
     have fn := b1.frozen n
     have lg := b1.lt
     have nz : (0 : Int) ≤ (n : Int) := by omega
     have nl : (n : Int) < 256 := by omega
     obtain ⟨q, hq⟩ : ∃ q, 97 + k = q := ⟨_, rfl⟩
     have hqb : q < 256 := by omega
     have hor := or32 hlt hn hq
     have cq := (b1.cell q).trans (ht.2 q hqb)
     have fq := b1.frozen q
     have qz : (0 : Int) ≤ (q : Int) := by omega
     have ql : (q : Int) < 256 := by omega
     have hnq : n ≠ q := by omega
     have hqn : q ≠ n := by omega
     have hm2 := Lib.hid (show iterPos (((w'.iter abcS (k + 1)).setCell ⟨gA, n, none⟩ (.int .u8 2)).setCell ⟨gA, q, none⟩ (.int .u8 2)) N4 = k + 1 from by rw [iter_set _ _ _ _ lw, iter_set _ _ _ _ (by simpa using lw)]; exact iterPos_iter _ abcS (k + 1) (by simp [hN]))
     have HE := Lib.hid (show ClI W g0 gA N4 abcS 26 f3 (((w'.iter abcS (k + 1)).setCell ⟨gA, n, none⟩ (.int .u8 2)).setCell ⟨gA, q, none⟩ (.int .u8 2)) from ⟨k + 1, (w'.setCell ⟨gA, n, none⟩ (.int .u8 2)).setCell ⟨gA, q, none⟩ (.int .u8 2), by omega, (by rw [iter_set _ _ _ _ lw, iter_set _ _ _ _ (by simpa using lw)]), by simp [hN], ((hS.put (k := n) (v := 2) hnb rfl).put (k := q) (v := 2) hqb rfl).to fun i hi => let_step hn hq i⟩)
     clear hS hb ht b1 hn hN lw hq
     generalize w'.iter abcS (k + 1) = V at *
     go_wp2_with fail
     go_roundw
     case rel => exact HE.out
     case measure => rw [hm1.out, hm2.out]; omega
    ·obtain rfl : k = 26 := by omega
     have hnx := run_next_end (P := Tryz.prog) w' abcS 26 0 (by decide)
     rw [hN] at hnx
     have S4 := hS.alloc (.stringIter abcS 26)
     clear hS hm1 hN hlt
     generalize hV : w'.iter abcS 26 = V4 at *
     rw [show w'.alloc (.stringIter abcS 26) = V4 from hV] at S4
     clear hV
     go_wp2_with fail
     have H6 := Lib.hid (show ClI W g0 gA V4.heap.size digS 10 f4 (V4.iter digS 0) from ⟨0, V4, by omega, rfl, rfl, S4.to fun i hi => by unfold f4; rw [if_neg (by omega)]⟩)
     clear S4
     generalize V4.heap.size = N6 at *
     go_loopw [6] (fun _ wr => ClI W g0 gA N6 digS 10 f4 wr) (fun _ wr => 10 - iterPos wr N6)
     case atStart => exact H6.out
     case round =>
      clear H6
      obtain ⟨k, w', hk, rfl, hN, hS⟩ := hrel
      have hm1 := Lib.hid (iterPos_iter w' digS k hN)
      by_cases hlt : k < 10
      ·have hnx := run_next_ascii (P := Tryz.prog) w' digS k 0 hlt (by rw [dig_at k hlt]; omega)
       rw [hN, dig_at k hlt] at hnx
       obtain ⟨n, hn⟩ : ∃ n, 48 + k = n := ⟨_, rfl⟩
       have hnb : n < 256 := by rw [← hn]; omega
       rw [hn] at hnx
       obtain ⟨cs, hb, ht⟩ := hS.a
       have lw := hb.lt
       have b1 : Blk (w'.iter digS (k + 1)) gA 121 cs := hb.alloc _
       have cn := (b1.cell n).trans (ht.2 n hnb)
       have fn := b1.frozen n
       have lg := b1.lt
       have nz : (0 : Int) ≤ (n : Int) := by omega
       have nl : (n : Int) < 256 := by omega
       have hm2 := Lib.hid (show iterPos ((w'.iter digS (k + 1)).setCell ⟨gA, n, none⟩ (.int .u8 3)) N6 = k + 1 from by rw [iter_set _ _ _ _ lw]; exact iterPos_iter _ digS (k + 1) (by simp [hN]))
       have HE := Lib.hid (show ClI W g0 gA N6 digS 10 f4 ((w'.iter digS (k + 1)).setCell ⟨gA, n, none⟩ (.int .u8 3)) from ⟨k + 1, w'.setCell ⟨gA, n, none⟩ (.int .u8 3), by omega, (by rw [iter_set _ _ _ _ lw]), by simp [hN], (hS.put (k := n) (v := 3) hnb rfl).to fun i hi => dig_step hn i⟩)
       clear hS hb ht b1 hn hN lw
       generalize w'.iter digS (k + 1) = V at *
       go_wp2_with fail
       go_roundw
       case rel => exact HE.out
       case measure => rw [hm1.out, hm2.out]; omega
      ·obtain rfl : k = 10 := by omega
       have hnx := run_next_end (P := Tryz.prog) w' digS 10 0 (by decide)
       rw [hN] at hnx
       have S6 := hS.alloc (.stringIter digS 10)
       clear hS hm1 hN hlt
       generalize hV : w'.iter digS 10 = V6 at *
       rw [show w'.alloc (.stringIter digS 10) = V6 from hV] at S6
       clear hV
       go_wp2_with fail
       have H8 := Lib.hid (show ClI W g0 gA V6.heap.size joiS 4 f5 (V6.iter joiS 0) from ⟨0, V6, by omega, rfl, rfl, S6.to fun i hi => by unfold f5; rw [if_neg (by omega)]⟩)
       clear S6
       generalize V6.heap.size = N8 at *
       go_loopw [8] (fun _ wr => ClI W g0 gA N8 joiS 4 f5 wr) (fun _ wr => 4 - iterPos wr N8)
       case atStart => exact H8.out
       case round =>
        clear H8
        obtain ⟨k, w', hk, rfl, hN, hS⟩ := hrel
        have hm1 := Lib.hid (iterPos_iter w' joiS k hN)
        by_cases hlt : k < 4
        ·have hnx := run_next_ascii (P := Tryz.prog) w' joiS k 0 hlt (by rw [joi_at k hlt]; exact joN_lt k)
         rw [hN, joi_at k hlt] at hnx
         obtain ⟨n, hn⟩ : ∃ n, joN k = n := ⟨_, rfl⟩
         have hnb : n < 256 := by rw [← hn]; exact Nat.lt_trans (joN_lt k) (by decide)
         rw [hn] at hnx
         obtain ⟨cs, hb, ht⟩ := hS.a
         have lw := hb.lt
         have b1 : Blk (w'.iter joiS (k + 1)) gA 121 cs := hb.alloc _
         have cn := (b1.cell n).trans (ht.2 n hnb)
         have fn := b1.frozen n
         have lg := b1.lt
         have nz : (0 : Int) ≤ (n : Int) := by omega
         have nl : (n : Int) < 256 := by omega
         have hm2 := Lib.hid (show iterPos ((w'.iter joiS (k + 1)).setCell ⟨gA, n, none⟩ (.int .u8 4)) N8 = k + 1 from by rw [iter_set _ _ _ _ lw]; exact iterPos_iter _ joiS (k + 1) (by simp [hN]))
         have HE := Lib.hid (show ClI W g0 gA N8 joiS 4 f5 ((w'.iter joiS (k + 1)).setCell ⟨gA, n, none⟩ (.int .u8 4)) from ⟨k + 1, w'.setCell ⟨gA, n, none⟩ (.int .u8 4), by omega, (by rw [iter_set _ _ _ _ lw]), by simp [hN], (hS.put (k := n) (v := 4) hnb rfl).to fun i hi => joi_step hlt hn i⟩)
         clear hS hb ht b1 hn hN lw
         generalize w'.iter joiS (k + 1) = V at *
         go_wp2_with fail
         go_roundw
         case rel => exact HE.out
         case measure => rw [hm1.out, hm2.out]; omega
        ·obtain rfl : k = 4 := by omega
         have hnx := run_next_end (P := Tryz.prog) w' joiS 4 0 (by decide)
         rw [hN] at hnx
         have S8 := hS.alloc (.stringIter joiS 4)
         clear hS hm1 hN hlt
         generalize hV : w'.iter joiS 4 = V8 at *
         rw [show w'.alloc (.stringIter joiS 4) = V8 from hV] at S8
         clear hV
         obtain ⟨cs, hb, ht⟩ := S8.a
         obtain ⟨c0, hb0, hs0⟩ := S8.r
         have hcA := (hb.cell 44).trans (ht.2 44 (by omega))
         have hcB := (hb.cell 35).trans (ht.2 35 (by omega))
         have fA := hb.frozen 44
         have fB := hb.frozen 35
         have lA := hb.lt
         have S9 := ((S8.put (k := 44) (v := 5) (by omega) rfl).put (k := 35) (v := 6) (by omega) rfl).to (f' := f6) fun i hi => rfl
         clear S8 hb ht hb0 hs0
         go_upto_region 20 with (fail)
         generalize World.setCell (World.setCell _ _ _) _ _ = w9 at *
         obtain ⟨cs, hb, ht⟩ := S9.a
         obtain ⟨c0, hb0, hs0⟩ := S9.r
         have hcs : cs = clsA := (ht.to f6_cls).eq
         subst hcs
         have hra : w9.rangeAt gA 0 clsA.toList := fun j v hv => by
          rw [Nat.zero_add, hb.cell j, ← Array.getElem?_toList]; exact hv
         have hth : w9.there g0 0 clsA.size := fun j hj => by
          rw [clsA_size] at hj
          rw [Nat.zero_add, hb0.cell j]
          refine ⟨?_, hb0.frozen j⟩
          rw [Array.getElem?_eq_getElem (by omega)]
          rfl
         have hin : (Tryz.prog.info? 121).map (·.size) = some clsA.size := by rw [clsA_size]; kernel_rfl
         have hin' : (Tryz.prog.info? 121).map (·.size) = some clsA.toList.length := by rw [Array.length_toList]; exact hin
         have hone : clsA.all (·.oneCell') = true := by
          rw [Array.all_eq_true_iff_forall_mem]
          intro v hv
          simp [clsA] at hv
          obtain ⟨k, _, rfl⟩ := hv
          rfl
         have hld := run_loadAt_mid (P := Tryz.prog) w9 gA 0 121 clsA.toList _ hra Tryz.underlying121 rfl hin'
         have hst := run_storeAt_mid (P := Tryz.prog) w9 g0 0 121 clsA hth hin hone
         have hrs := World.rangeAt_setCells_same w9 g0 0 clsA.toList (by rw [Array.length_toList]; exact hth)
         have hlv := (run_loadVar_mid (P := Tryz.prog) (w9.setCells g0 0 clsA.toList) g0 0 121 clsA.toList _ hrs Tryz.underlying121 rfl hin')
         have HX := Lib.hid (show Ext W (w9.setCells g0 0 clsA.toList) from below_setCells S9.ge0 _ _ _ S9.ext)
         rw [Array.toArray_toList] at hlv
         replace hlv := Lib.hid hlv
         refine wp_region_list ?_
         refine wpList_load_mid rfl 121 (.tmp 1) rfl gA 0 rfl clsA.toList _ hra Tryz.underlying121 rfl hin' ?_
         rw [Array.toArray_toList]
         refine wpList_store_mid rfl 121 (.tmp 0) (.tmp 39) rfl g0 0 clsA rfl rfl hth hin hone ?_
         refine wpList_nil ?_
         clear hb ht hb0 hs0 hra hth hin hin' hone hrs S9 hld hst
         generalize w9.setCells g0 0 clsA.toList = w10 at *
         generalize hA : clsA = cA at *
         replace hA := Lib.hid hA
         go_wp2_with fail
         exact bodyPost_ret (results_c rfl rfl hlv.out) rfl ⟨by rw [hA.out], HX.out⟩
end Go.Proofs.YtjaponmpfdpemaaGreatDoor
