/-
  slices.Insert of one part where there is no room.
-/
import Derived.Test.YtjaponmpfdpemaaGreatDoorBb21
import Derived.Test.YtjaponmpfdpemaaGreatDoorBb02
import Derived.Maps.OwnSet
import Derived.Maps.OwnOps
import Derived.DeepKeys4
import Derived.Test.YtjaponmpfdpemaaGreatDoorBb03
set_option linter.unusedSimpArgs false
set_option linter.unusedVariables false
namespace Go.Proofs.YtjaponmpfdpemaaGreatDoor
open Go.RowKit
set_option maxRecDepth 100000 in
set_option maxHeartbeats 4000000 in
theorem srins_grow (n k cap g vb : Nat) (X L : List Value) (w : World) (hk : k < n) (hnc : n ≤ cap) (hroom : cap < n + 1) (hbig : n ≤ 1000) (hne : vb ≠ g)
  (hLl : L.length = n * 13) (hL : ∀ j v, L[j]? = some v → w.cell? ⟨g, j, none⟩ = some v) (hgw : g < w.heap.size) (hv : w.heap[vb]? = some (.cells X.toArray 25 (0, 0))) (hX : X.length = 13)
  (h1 : ∀ u ∈ X, u.oneCell' = true) (h1L : ∀ u ∈ L, u.oneCell' = true) :
  Calls Tryz.prog 44 #[.slice (some ⟨g, 0, none⟩) n cap, .int .i64 (k : Int), .slice (some ⟨vb, 0, none⟩) 1 1] w fun e w' => ∃ c',
   e = .returned (.slice (some ⟨w.heap.size, 0, none⟩) (n + 1) c') ∧ n + 1 ≤ c' ∧ c' ≤ maxLen ∧ (∃ cur', w'.heap[w.heap.size]? = some (.cells (List.toArray cur') 25 (0, 0)) ∧ cur'.length = c' * 13 ∧ cur'.take ((n + 1) * 13) = L.take (k * 13) ++ X ++ L.drop (k * 13)) ∧ Ext w w' := by
 obtain ⟨i0, hi0, hz0, hzs, hzb⟩ := row_sr.ex
 have hzc := row_sr.hz
 have hold : (Builtin.firstCells i0.size k (.slice (some ⟨g, 0, none⟩) k cap)).run Tryz.prog w.drew = .ok (L.take (k * 13)).toArray w.drew := by
  rw [hzs]
  exact run_firstCells_some w.drew 13 k ⟨g, 0, none⟩ k cap (L.take (k * 13)) (by rw [List.length_take]; omega) (fun j v hj => by
   rw [Addr.add_lit, Nat.zero_add]
   rw [List.getElem?_take] at hj
   split at hj
   ·exact hL j v hj
   ·cases hj)
 obtain ⟨G, hG⟩ : ∃ G, G = grownCap w (n + 1) cap 25 := ⟨_, rfl⟩
 obtain ⟨Z, hZ⟩ : ∃ Z : List Value, Z = (Builtin.zeroCells srZ.cells (n + 1 - k)).toList ++ (Builtin.zeroCells srZ.cells (G - (n + 1))).toList := ⟨_, rfl⟩
 have hrz : ∀ ty, (Builtin.append_ #[27, 3] ty #[.slice (some ⟨g, 0, none⟩) k cap, .int .i64 ((n : Int) + 1 - (k : Int))]).run Tryz.prog w =
   .ok (.slice (some ⟨w.heap.size, 0, none⟩) (n + 1) G) (w.drew.alloc (.cells (L.take (k * 13) ++ Z).toArray 25)) := fun ty => by
  have h := Lib.run_append_grow_zeros w 27 3 ty 25 i0 _ .i64 .i64 Tryz.underlying27 Tryz.underlying3 hi0 hz0 (some ⟨g, 0, none⟩) k cap (L.take (k * 13)) hold (n + 1 - k) (by omega) (by omega) (by omega) (by omega) (by rw [hzb]; omega) (by rw [hzb, show k + (n + 1 - k) = n + 1 by omega]; exact growslice_fits hroom (by omega))
  rw [show k + (n + 1 - k) = n + 1 by omega, ← hG] at h
  rw [show (n : Int) + 1 - (k : Int) = ((n + 1 - k : Nat) : Int) by omega, h, hZ]
  congr 3
  simp
 have hGn : n + 1 ≤ G := by rw [hG]; exact grownCap_ge w _ _ _
 have hGm : G ≤ maxLen := by rw [hG]; exact grownCap_le_maxLen w _ _ _ (by unfold maxLen; omega)
 have hZl : k * 13 + Z.length = G * 13 := by
  rw [hZ]
  simp [Builtin.zeroCells, hzc]
  omega
 have hz2 : ¬ ((k : Int) = (n : Int)) := by omega
 have hw1 : IntKind.i64.wrap ((k : Int) + 1) = (k : Int) + 1 := by rw [IntKind.wrap_i64]; omega
 have hw2 : IntKind.i64.wrap ((n : Int) + 1) = (n : Int) + 1 := by rw [IntKind.wrap_i64]; omega
 have hw3 : IntKind.i64.wrap ((n : Int) + 1 - (k : Int)) = (n : Int) + 1 - (k : Int) := by rw [IntKind.wrap_i64]; omega
 have hb1 : (0 : Int) ≤ (k : Int) + 1 := by omega
 have hkn : (k : Int) ≤ (n : Int) := by omega
 have hin : k ≤ n := by omega
 have htn : ((k : Int) + 1).toNat = k + 1 := by omega
 have hb2 : ¬ (G = k + 1) := by omega
 have hb4 : ¬ (G = k) := by omega
 have hb9 : ¬ (cap = k) := by omega
 have hb3 : (k : Int) + 1 ≤ (n : Int) + 1 := by omega
 have hb5 : (k : Int) ≤ (n : Int) + 1 := by omega
 have hb7 : (cap : Int) < (n : Int) + 1 := by omega
 have hkc : k ≤ cap := by omega
 have hki : (k : Int) ≤ (cap : Int) := by omega
 obtain ⟨N, hN⟩ : ∃ N, w.heap.size = N := ⟨_, rfl⟩
 obtain ⟨W1, hW1⟩ : ∃ W1, w.drew.alloc (.cells (L.take (k * 13) ++ Z).toArray 25) = W1 := ⟨_, rfl⟩
 rw [hW1] at hrz
 have X1 : Ext w W1 := by rw [← hW1]; exact (Ext.refl w).drew.alloc _
 have R1 : W1.heap[N]? = some (.cells (L.take (k * 13) ++ Z).toArray 25 (0, 0)) := by rw [← hW1, ← hN]; exact heap_alloc_new w.drew _
 have V1 : W1.heap[vb]? = some (.cells X.toArray 25 (0, 0)) := (X1.block vb (Array.getElem?_eq_some_iff.1 hv).1).trans hv
 have hvN : vb < N := by rw [← hN]; exact (Array.getElem?_eq_some_iff.1 hv).1
 rw [hN] at hrz ⊢
 have L1 : ∀ j v, L[j]? = some v → W1.cell? ⟨g, j, none⟩ = some v := fun j v hj => (X1.cell g j none hgw).trans (hL j v hj)
 have hHX := Lib.hid (show ∀ j v, X[j]? = some v → W1.cell? ((⟨vb, 0, none⟩ : Addr).add j) = some v from fun j v hj => by
  rw [Addr.add_lit, cell_of_row W1 vb _ X.toArray _ (0, 0) V1]
  simpa using hj)
 have hgN : g < N := by omega
 have hm2 := Lib.hid (show Nat.min 1 (n + 1 - k) = 1 by simp only [Nat.min_def]; split <;> omega)
 have hm1 := Lib.hid (show Nat.min (n - k) (n + 1 - (k + 1)) = n - k by simp only [Nat.min_def]; split <;> omega)
 obtain ⟨C1, hC1⟩ : ∃ C1, L.take (k * 13) ++ Z = C1 := ⟨_, rfl⟩
 have hC1l : C1.length = G * 13 := by rw [← hC1, List.length_append, List.length_take]; omega
 rw [hC1] at R1
 have hfit1 := Lib.hid (show k * 13 + X.length ≤ C1.length by rw [hC1l, hX]; omega)
 obtain ⟨D, hD⟩ : ∃ D, L.drop (k * 13) = D := ⟨_, rfl⟩
 have hDl : D.length = (n - k) * 13 := by rw [← hD, List.length_drop, hLl]; omega
 have hD1 := Lib.hid (show ∀ u ∈ D, u.oneCell' = true from fun u hu => h1L u (by rw [← hD] at hu; exact List.mem_of_mem_drop hu))
 have HS := Lib.hid (show ∀ j v, D[j]? = some v → W1.cell? ⟨g, k * 13 + j, none⟩ = some v from fun j v hj => by
  rw [← hD, List.getElem?_drop] at hj
  exact L1 _ v hj)
 have F1 := Lib.hid R1
 have F2 := Lib.hid X1
 have F3 := Lib.hid hC1l
 have F4 := Lib.hid hC1
 have F5 := Lib.hid h1
 have F7 := Lib.hid hX
 have F8 := Lib.hid hLl
 have G1 := Lib.hid hD
 have G2 := Lib.hid hDl
 have G4 := Lib.hid hZl
 have G5 := Lib.hid hGm
 have G6 := Lib.hid hN
 have G7 := Lib.hid hGn
 have G8 := Lib.hid hbig
 clear hold hG hZ hi0 hz0 hzs hzb hzc hW1 R1 X1 V1 hv L1 hL hgw hC1 hC1l hD hDl hLl hX h1 h1L hZl hN
 go_enter Tryz.func44, Tryz.ntmps44
 go_wp2_with (first
  | (at_builtin; refine Lib.wpList_append_run _ rfl _ _ _ _ rfl _ _ rfl rfl _ _ (hrz _) ?_)
  | (refine wpl_copyK rfl (.tmp 43) (.tmp 44) 27 27 rfl 25 13 Tryz.underlying27 sr_size (dp := some ⟨N, k * 13, none⟩) (sp := some ⟨vb, 0, none⟩) (dLen := n + 1 - k) (dCap := G - k) (sLen := 1) (sCap := 1) rfl rfl N (k * 13) 1 C1 25 F1.out X hm2.out F7.out (fun _ => ⟨rfl, _, rfl, hHX.out⟩) hfit1.out F5.out ?_; intro w3 hg3 gr3))
 have HS3 : Hid (∀ j v, D[j]? = some v → w3.drew.cell? ((⟨g, k * 13, none⟩ : Addr).add j) = some v) := Lib.hid (fun j v hj => by
  rw [Addr.add_lit]
  exact gr3.cell (HS.out j v hj) (by simp; omega))
 have e1 := length_splice C1 (k * 13) X hfit1.out
 have hfit2 := Lib.hid (show (k + 1) * 13 + D.length ≤ (splice C1 (k * 13) X).length by rw [e1, G2.out, F3.out]; have := G7.out; omega)
 have GR := Lib.hid gr3
 obtain ⟨C2, hC2⟩ : ∃ C2, splice C1 (k * 13) X = C2 := ⟨_, rfl⟩
 rw [hC2] at hg3 hfit2 e1
 replace hC2 := Lib.hid hC2
 replace e1 := Lib.hid e1
 clear gr3
 go_region_law (refine step_copyK rfl (.tmp 50) (.tmp 53) 27 27 rfl 25 13 Tryz.underlying27 sr_size (dp := some ⟨N, (k + 1) * 13, none⟩) (sp := some ⟨g, k * 13, none⟩) (dLen := n + 1 - (k + 1)) (dCap := G - (k + 1)) (sLen := n - k) (sCap := cap - k) (by simp [Act.eval, Act.put]) (by simp [Act.eval, Act.put]) N ((k + 1) * 13) (n - k) C2 25 hg3.out D hm1.out G2.out (fun _ => ⟨rfl, _, rfl, HS3.out⟩) hfit2.out hD1.out ?_; intro w4 hg4 gr4)
 go_wp2_with fail
 go_ret
 refine ⟨G, by simp, G7.out, G5.out, ⟨_, hg4.out, ?_, ?_⟩, ?_⟩
 ·rw [length_splice _ _ _ hfit2.out, e1.out, F3.out]
 ·have h := ins_grow Z X L (k * 13) 13 (n * 13) (by omega) F7.out F8.out (by have := G4.out; have := G7.out; omega)
  rw [F4.out, hC2.out, G1.out, show k * 13 + 13 = (k + 1) * 13 by omega, show n * 13 + 13 = (n + 1) * 13 by omega] at h
  rw [h, G1.out]
 ·exact ((F2.out.grown GR.out (fun j e => by have := Option.some.inj e; have := G6.out; omega)).drew).grown gr4 (fun j e => by have := Option.some.inj e; have := G6.out; omega)
end Go.Proofs.YtjaponmpfdpemaaGreatDoor
set_option linter.unusedSimpArgs false
set_option linter.unusedVariables false
namespace Go.Proofs.YtjaponmpfdpemaaGreatDoor
open Go.RowKit
theorem srCells_take (l : List Sr) (k : Nat) : srCells (l.take k) = (srCells l).take (k * 13) := by
 induction l generalizing k with
 | nil => simp [srCells]
 | cons s l ih =>
  cases k with
  | zero => simp [srCells]
  | succ k =>
   have := ih k
   unfold srCells at this ⊢
   rw [List.take_succ_cons, List.flatMap_cons, List.flatMap_cons, this, List.take_append, (List.take_of_length_le (by show 13 ≤ _; omega) : (srL s).take ((k + 1) * 13) = srL s), show (srL s).length = 13 from rfl, show (k + 1) * 13 - 13 = k * 13 by omega]
theorem srCells_drop (l : List Sr) (k : Nat) : srCells (l.drop k) = (srCells l).drop (k * 13) := by
 induction l generalizing k with
 | nil => simp [srCells]
 | cons s l ih =>
  cases k with
  | zero => simp [srCells]
  | succ k =>
   have := ih k
   unfold srCells at this ⊢
   rw [List.drop_succ_cons, List.flatMap_cons, this, List.drop_append, (List.drop_eq_nil_of_le (by show 13 ≤ _; omega) : (srL s).drop ((k + 1) * 13) = []), List.nil_append, show (srL s).length = 13 from rfl, show (k + 1) * 13 - 13 = k * 13 by omega]
theorem srCells_app (l m : List Sr) : srCells (l ++ m) = srCells l ++ srCells m := by simp [srCells]
theorem srCells_ins (l : List Sr) (x : Sr) (k : Nat) : srCells (l.take k ++ x :: l.drop k) = (srCells l).take (k * 13) ++ srL x ++ (srCells l).drop (k * 13) := by
 rw [srCells_app, srCells_take, show x :: l.drop k = [x] ++ l.drop k from rfl, srCells_app, srCells_drop, List.append_assoc]
 simp [srCells]
set_option maxRecDepth 100000 in
set_option maxHeartbeats 4000000 in
theorem srinsert_any (l : List Sr) (x : Sr) (k n : Nat) (hn : l.length = n) (hk : k ≤ n) (A : Option Addr) (cap : Nat) (w0 w : World) (ho : w.ownsRow w0.heap.size 25 13 (.slice A n cap) n (srCells l)) (hx : Ext w0 w) (hbig : n ≤ 999)
  (vb : Nat) (hv : w.heap[vb]? = some (.cells (srC x) 25 (0, 0))) (hne : (Value.slice A n cap).ownBlock ≠ some vb) :
  Calls Tryz.prog 44 #[.slice A n cap, .int .i64 (k : Int), .slice (some ⟨vb, 0, none⟩) 1 1] w fun e w' => ∃ A' c', e = .returned (.slice A' (n + 1) c') ∧ w'.ownsRow w0.heap.size 25 13 (.slice A' (n + 1) c') (n + 1) (srCells (l.take k ++ x :: l.drop k)) ∧ Ext w0 w' := by
 have h1x : ∀ u ∈ srL x, u.oneCell' = true := fun u hu => sr_one [x] u (by simpa [srCells] using hu)
 by_cases hkn : k = n
 ·subst hkn
  have hl : l.take k ++ x :: l.drop k = l ++ [x] := by rw [List.take_of_length_le (by omega), List.drop_eq_nil_of_le (by omega)]
  rw [hl, srCells_app]
  have hR : Reads w w.heap.size 13 (some ⟨vb, 0, none⟩) 1 (srL x) := ⟨rfl, fun _ => ⟨vb, 0, rfl, (Array.getElem?_eq_some_iff.1 hv).1, fun j u hu => by
   rw [cell_of_row w vb _ (srC x) _ (0, 0) hv]
   simpa [srC, srL] using hu⟩⟩
  have hd : ((k : Int) == (k : Int)) = true := by simp
  have hki : (k : Int) ≤ (k : Int) := Int.le_refl _
  have HO := Lib.hid ho
  have HR := Lib.hid hR
  have HX := Lib.hid hx
  replace h1x := Lib.hid h1x
  clear ho hv hne hR hx hn hl
  go_enter Tryz.func44, Tryz.ntmps44
  go_wp2_with (at_builtin; refine wpl_app row_sr w0 w (.tmp 23) (.tmp 24) rfl rfl rfl HO.out HX.out rfl HR.out h1x.out (by omega) (by unfold maxLen; omega) ?_; intro v1 w1 hg; obtain ⟨A1, c1, rfl, _, _, _⟩ := own_slice hg.own)
  all_goals go_ret
  all_goals
   refine ⟨A1, c1, by simp, ?_, hg.ext⟩
   have := hg.own
   simpa [srCells] using this
 ·have hlt : k < n := by omega
  rcases ho.2 with ⟨_, h0⟩ | ⟨g, cap', cur, e, hbg, hg, hnc, hcm, hcs, htake⟩
  ·omega
  ·simp only [Value.slice.injEq, true_and] at e
   obtain ⟨rfl, rfl⟩ := e
   have hnv : vb ≠ g := fun e => hne (by simp [Value.ownBlock, e])
   have hLl : (srCells l).length = n * 13 := ho.1
   by_cases hroom : n + 1 ≤ cap
   ·refine (srins_room n k cap g vb cur.toList (srL x) (srCells l) w hlt hroom hcm hnv (by simpa using hg) (by simpa using hcs) htake hv rfl h1x (sr_one l)).mono ?_
    rintro e w' ⟨rfl, ⟨cur', hg', hl', ht'⟩, hgr⟩
    refine ⟨_, _, rfl, ⟨by rw [srCells_len]; simp; omega, .inr ⟨g, cap, cur'.toArray, rfl, hbg, hg', hroom, hcm, by simpa using hl', ?_⟩⟩, hx.grown hgr (fun j e => by have := Option.some.inj e; omega)⟩
    rw [srCells_ins, ← ht']
   ·refine (srins_grow n k cap g vb (srL x) (srCells l) w hlt hnc (by omega) (by omega) hnv hLl (fun j v hj => by
     rw [ho.cellAt j (by have := (List.getElem?_eq_some_iff.1 hj).1; omega)]; exact hj) (Array.getElem?_eq_some_iff.1 hg).1 hv rfl h1x (sr_one l)).mono ?_
    rintro e w' ⟨c', rfl, hc1, hc2, ⟨cur', hg', hl', ht'⟩, hgr⟩
    refine ⟨_, _, rfl, ⟨by rw [srCells_len]; simp; omega, .inr ⟨w.heap.size, c', cur'.toArray, rfl, hx.size, hg', hc1, hc2, by simpa using hl', ?_⟩⟩, hx.trans hgr⟩
    rw [srCells_ins, ← ht']
end Go.Proofs.YtjaponmpfdpemaaGreatDoor
set_option linter.unusedSimpArgs false
set_option linter.unusedVariables false
namespace Go.Proofs.YtjaponmpfdpemaaGreatDoor
open Go.RowKit Go.Maps
theorem laidStr : laidOutB Tryz.prog = true := by kernel_rfl
theorem lawStr : Keyed Tryz.prog 74 := Keyed.of_law (deep_law_laid laidStr (m := 2) (by decide) (of_decide_eq_true (by kernel_rfl)) (by kernel_rfl) (by rw [Tryz.underlying74]))
def strV (b : Bs) : Value := .string ⟨b.toArray⟩
def keyV (k : List Bs) : Value := .agg (k.map strV).toArray
def klK (k : List Bs) : Lit := .string (keyBytes (k.map fun b => .string b))
def OkK (k : List Bs) : Prop := k.length = 6 ∧ ∀ b ∈ k, b.length ≤ 100000
theorem klt_str : Tryz.prog.types.size + 1 = Tryz.prog.types.size - 1 + 1 + 1 := by
 have : 1 ≤ Tryz.prog.types.size := of_decide_eq_true (by kernel_rfl)
 omega
set_option maxRecDepth 100000 in
theorem keyStr (k : List Bs) (h : OkK k) : keyOf Tryz.prog 74 (keyV k) = some (klK k) := by
 obtain ⟨hl, hs⟩ := h
 match k, hl with
 | [a, b, c, d, e, f], _ =>
 have h1 : Tryz.prog.keyType 74 = true := by kernel_rfl
 have h2 : Tryz.prog.cellsOf 74 = 6 := by kernel_rfl
 have h3 : Tryz.prog.cellsOf 9 = 1 := by kernel_rfl
 have e1 : ∀ d (s : Bs), s.length ≤ 100000 → Tryz.prog.keyLits (d + 1) 9 [.string ⟨s.toArray⟩] = some [.string s] := by
  intro d s hn
  unfold Program.keyLits
  have : ByteArray.size ⟨s.toArray⟩ ≤ maxLen := by show s.toArray.size ≤ _; rw [List.size_toArray]; unfold maxLen; omega
  simp [Tryz.underlying9, this]
 unfold keyOf keyV
 rw [Tryz.underlying74]
 simp only [h1, Value.formed, Tryz.underlying74, h2, List.map_cons, List.map_nil, strV]
 rw [klt_str]
 generalize Tryz.prog.types.size - 1 = dp
 unfold Program.keyLits
 simp only [Tryz.underlying74, Value.cells, h2, h3]
 simp [List.range, List.range.loop, e1 _ a (hs a (by simp)), e1 _ b (hs b (by simp)), e1 _ c (hs c (by simp)), e1 _ d (hs _ (by simp)), e1 _ e (hs e (by simp)), e1 _ f (hs f (by simp)), klK]
theorem strV_inj {a b : Bs} (h : strV a = strV b) : a = b := by
 unfold strV at h
 have := congrArg (fun v => match v with | .string s => s.data.toList | _ => []) h
 simpa using this
theorem keyV_inj {k k' : List Bs} (h : keyV k = keyV k') : k = k' := by
 unfold keyV at h
 have h1 : (k.map strV) = (k'.map strV) := by
  have := Value.agg.inj h
  simpa using this
 exact List.map_inj_right (fun a b => strV_inj) |>.1 h1
theorem klK_inj {k k' : List Bs} (hk : OkK k) (hk' : OkK k') (h : klK k = klK k') : k = k' := by
 have h1 := keyStr k hk
 have h2 := keyStr k' hk'
 rw [← h] at h2
 exact keyV_inj (lawStr.inj h1 h2)
theorem klK_key (k : List Bs) : WideAt.IsKeyLit (klK k) := by trivial
def rowR : Value → Option (DataW Unit)
 | .slice none 0 0 => some .nil
 | .slice (some ⟨g, 0, none⟩) n c => some (.agg [.lit (.int .u64 (g : Int)), .lit (.int .u64 (n : Int)), .lit (.int .u64 (c : Int))])
 | _ => none
def twoR (v : Value) : Option (DataW Unit × List MemPlace) := match v with
 | .agg ⟨[a, b]⟩ => match rowR a, rowR b with
  | some x, some y => some (.agg [x, y], [])
  | _, _ => none
 | _ => none
theorem rowR_inj {v v' : Value} {d : DataW Unit} (h : rowR v = some d) (h' : rowR v' = some d) : v = v' := by
 unfold rowR at h h'
 split at h
 ·simp only [Option.some.injEq] at h
  split at h'
  ·rfl
  ·simp only [Option.some.injEq] at h'
   rw [← h] at h'
   cases h'
  ·cases h'
 ·simp only [Option.some.injEq] at h
  split at h'
  ·simp only [Option.some.injEq] at h'
   rw [← h] at h'
   cases h'
  ·simp only [Option.some.injEq] at h'
   rw [← h] at h'
   simp only [DataW.agg.injEq, List.cons.injEq, DataW.lit.injEq, Lit.int.injEq, true_and, and_true] at h'
   obtain ⟨a, b, c⟩ := h'
   rw [Int.ofNat.inj a, Int.ofNat.inj b, Int.ofNat.inj c]
  ·cases h'
 ·cases h
theorem own_rowR {w : World} {base : Nat} {e : TypeId} {size n : Nat} {v : Value} {xs : List Value} (h : w.ownsRow base e size v n xs) : ∃ d, rowR v = some d := by
 rcases h.2 with ⟨rfl, _⟩ | ⟨g, cap, cur, rfl, _⟩
 ·exact ⟨_, rfl⟩
 ·exact ⟨_, rfl⟩
theorem twoR_inv {v a b : Value} {x y : DataW Unit} {ps : List MemPlace} (ha : rowR a = some x) (hb : rowR b = some y) (h : twoR v = some (.agg [x, y], ps)) : v = .agg #[a, b] := by
 unfold twoR at h
 split at h
 ·rename_i a' b'
  split at h
  ·rename_i x' y' h1 h2
   simp only [Option.some.injEq, Prod.mk.injEq, DataW.agg.injEq, List.cons.injEq, and_true] at h
   obtain ⟨⟨rfl, rfl⟩, _⟩ := h
   rw [rowR_inj h1 ha, rowR_inj h2 hb]
  ·cases h
 ·cases h
structure TabAt (w0 W : World) (ml n : Nat) (T : List Bs → List Sr × List Sr) : Prop where
 ex : ∃ D : DataW Unit, W.ownsMap Tryz.prog 74 twoR ml n D ∧ ∀ k, OkK k → ∃ v0 v1 x y, rowR v0 = some x ∧ rowR v1 = some y ∧ D.atKey (klK k) (.agg [.nil, .nil]) = .agg [x, y] ∧
  W.ownsRow w0.heap.size 25 13 v0 (T k).1.length (srCells (T k).1) ∧ W.ownsRow w0.heap.size 25 13 v1 (T k).2.length (srCells (T k).2)
theorem TabAt.made (w0 w : World) : TabAt w0 (w.alloc (.map #[] 0)) w.heap.size 0 (fun _ => ([], [])) :=
 ⟨.map [], World.ownsMap_made _ _ _ _, fun k _ => ⟨.slice none 0 0, .slice none 0 0, .nil, .nil, rfl, rfl, rfl, World.ownsRow_nil _ _ _ _, World.ownsRow_nil _ _ _ _⟩⟩
theorem TabAt.lt {w0 W : World} {ml n : Nat} {T : List Bs → List Sr × List Sr} (h : TabAt w0 W ml n T) : ml < W.heap.size := by
 obtain ⟨D, hm, _⟩ := h.ex
 exact hm.lt
theorem TabAt.ext {w0 W W' : World} {ml n : Nat} {T : List Bs → List Sr × List Sr} (h : TabAt w0 W ml n T) (hx : Ext W W') : TabAt w0 W' ml n T := by
 obtain ⟨D, hm, hk⟩ := h.ex
 refine ⟨D, ?_, fun k hk' => ?_⟩
 ·obtain ⟨es', clock, hb, r⟩ := hm
  exact ⟨es', clock, (hx.block ml (Array.getElem?_eq_some_iff.1 hb).1).trans hb, r⟩
 ·obtain ⟨v0, v1, x, y, h1, h2, h3, h4, h5⟩ := hk k hk'
  exact ⟨v0, v1, x, y, h1, h2, h3, own_ext h4 hx, own_ext h5 hx⟩
theorem zeroT (w : World) : (zeroValue 72).run Tryz.prog w = .ok (.agg #[.slice none 0 0, .slice none 0 0]) w := by kernel_rfl
theorem own_notmap {w : World} {ml : Nat} {v : Value} {base n : Nat} {e : TypeId} {size : Nat} {xs : List Value} {es : Array MapEntry} {clock : Nat} (hb : w.heap[ml]? = some (.map es clock)) (h : w.ownsRow base e size v n xs) : v.ownBlock ≠ some ml := by
 intro he
 rcases h.2 with ⟨rfl, _⟩ | ⟨g, cap, cur, rfl, _, hg, _⟩
 ·cases he
 ·have : g = ml := Option.some.inj he
  subst this
  rw [hb] at hg
  cases hg
theorem TabAt.put {w0 W : World} {ml n : Nat} {T : List Bs → List Sr × List Sr} (h : TabAt w0 W ml n T) (hn : n < 100000) (k : List Bs) (hk : OkK k) (v0 v1 : Value) (l0 l1 : List Sr)
  (h0 : W.ownsRow w0.heap.size 25 13 v0 l0.length (srCells l0)) (h1 : W.ownsRow w0.heap.size 25 13 v1 l1.length (srCells l1)) :
  ∃ W', (Instr.mapUpdate 59 (.map (some ml)) (keyV k) (.agg #[v0, v1])).run Tryz.prog W = .ok () W' ∧ TabAt w0 W' ml (n + 1) (setT T k (l0, l1)) ∧ W.grownBy W' (some ml) := by
 obtain ⟨D, hm, hK⟩ := h.ex
 obtain ⟨x, hx⟩ := own_rowR h0
 obtain ⟨y, hy⟩ := own_rowR h1
 have hv : twoR (.agg #[v0, v1]) = some (.agg [x, y], []) := by simp [twoR, hx, hy]
 obtain ⟨W', hrun, hm', hg⟩ := hm.update lawStr Tryz.underlying59 (by unfold maxLen; omega) (keyStr k hk) hv
 have hnm : ∀ {v : Value} {m : Nat} {xs : List Value}, W.ownsRow w0.heap.size 25 13 v m xs → W'.ownsRow w0.heap.size 25 13 v m xs := fun ho => by
  obtain ⟨es, clock, hb, _⟩ := hm
  exact ho.kept hg (.inr (own_notmap hb ho))
 refine ⟨W', hrun, ⟨_, hm', fun k' hk' => ?_⟩, hg⟩
 by_cases e : k' = k
 ·subst e
  refine ⟨v0, v1, x, y, hx, hy, atKey_put_same hm.isMap (klK_key _) _ _, ?_, ?_⟩
  ·simpa [setT] using hnm h0
  ·simpa [setT] using hnm h1
 ·obtain ⟨u0, u1, a, b, q1, q2, q3, q4, q5⟩ := hK k' hk'
  refine ⟨u0, u1, a, b, q1, q2, ?_, ?_, ?_⟩
  ·rw [atKey_put_other (fun h => e (klK_inj hk' hk h))]
   exact q3
  ·simpa [setT, e] using hnm q4
  ·simpa [setT, e] using hnm q5
end Go.Proofs.YtjaponmpfdpemaaGreatDoor
set_option linter.unusedSimpArgs false
set_option linter.unusedVariables false
namespace Go.Proofs.YtjaponmpfdpemaaGreatDoor
open Go.RowKit Go.Maps
theorem srOk_fine {s : Sr} (h : s.check = 0) : s.fine = true := by
 unfold Sr.check at h
 cases hf : s.fine with
 | true => rfl
 | false => rw [hf] at h; simp at h
theorem TabAt.set {w0 W : World} {ml n : Nat} {T : List Bs → List Sr × List Sr} (h : TabAt w0 W ml n T) {f : Nat} {t : TypeId} {cs : Array Value} (hf : Blk W f t cs) (ht : 25 ≠ t) (o : Nat) (u : Value) : TabAt w0 (W.setCell ⟨f, o, none⟩ u) ml n T := by
 obtain ⟨D, hm, hk⟩ := h.ex
 refine ⟨D, hm.setCell (fun e => ?_) u, fun k hk' => ?_⟩
 ·have e : ml = f := e
  subst e
  obtain ⟨es, clock, hb, _⟩ := hm
  unfold Blk at hf
  rw [hb] at hf
  cases hf
 ·obtain ⟨v0, v1, x, y, h1, h2, h3, h4, h5⟩ := hk k hk'
  exact ⟨v0, v1, x, y, h1, h2, h3, own_set h4 (own_blk_ne h4 hf ht) u, own_set h5 (own_blk_ne h5 hf ht) u⟩
theorem TabAt.lookE {w0 W : World} {ml n : Nat} {T : List Bs → List Sr × List Sr} (h : TabAt w0 W ml n T) (k : List Bs) (hk : OkK k) : ∃ v0 v1, (∀ W', Ext W W' → (Instr.lookup 59 (.map (some ml)) (keyV k) false).run Tryz.prog W' = .ok (.agg #[v0, v1]) W') ∧
  W.ownsRow w0.heap.size 25 13 v0 (T k).1.length (srCells (T k).1) ∧ W.ownsRow w0.heap.size 25 13 v1 (T k).2.length (srCells (T k).2) := by
 obtain ⟨D, hm, hK⟩ := h.ex
 obtain ⟨v0, v1, x, y, h1, h2, h3, h4, h5⟩ := hK k hk
 refine ⟨v0, v1, fun W' hx => ?_, h4, h5⟩
 have hm' : W'.ownsMap Tryz.prog 74 twoR ml n D := by
  obtain ⟨es', clock, hb, r⟩ := hm
  exact ⟨es', clock, (hx.block ml (Array.getElem?_eq_some_iff.1 hb).1).trans hb, r⟩
 obtain ⟨v, ps, hrun, hv⟩ := hm'.lookup lawStr Tryz.underlying59 (zeroT W') (zd := .agg [.nil, .nil]) (zp := []) rfl (keyStr k hk)
 rw [h3] at hv
 rw [twoR_inv h1 h2 hv] at hrun
 exact hrun
theorem SrS.okK {s : Sr} (h : SrS s 1000) : OkK s.key := ⟨rfl, fun b hb => by
 simp only [Sr.key, List.mem_cons, List.not_mem_nil, or_false] at hb
 rcases hb with rfl | rfl | rfl | rfl | rfl | rfl
 ·have := h.state; omega
 ·have := h.city; omega
 ·have := h.pre; omega
 ·have := h.name; omega
 ·have := h.suf; omega
 ·have := h.post; omega⟩
abbrev KeyRun (W : World) (ml : Nat) (x : Sr) (v0 v1 : Value) : Prop := (Instr.lookup 59 (.map (some ml)) (.agg #[.string ⟨x.state.toArray⟩, .string ⟨x.city.toArray⟩, .string ⟨x.pre.toArray⟩, .string ⟨x.name.toArray⟩, .string ⟨x.suf.toArray⟩, .string ⟨x.post.toArray⟩]) false).run Tryz.prog W = .ok (.agg #[v0, v1]) W
def NwRel (w : World) (l : List Sr) (f tb ml : Nat) (i : Value) (wr : World) : Prop := ∃ (k : Nat) (T : STab) (c : Nat), k ≤ l.length ∧ i = .int .i64 (k : Int) ∧ tabP (l.take k) = some T ∧ Blk wr f 36 #[.int .i64 0, .int .i64 0] ∧
 Blk wr tb 61 #[.map (some ml), .int .i64 (l.length : Int), .bool true] ∧ c ≤ k ∧ TabAt w wr ml c T ∧ Ext w wr
def SdRel (w wa : World) (r0 r1 : List Sr) (x : Sr) (g8 : Nat) (i : Value) (wr : World) : Prop := ∃ (j : Nat) (a b : List Sr) (v0 v1 : Value), j ≤ 2 ∧ i = .int .i64 (j : Int) ∧ Blk wr g8 72 #[v0, v1] ∧
 wr.ownsRow w.heap.size 25 13 v0 a.length (srCells a) ∧ wr.ownsRow w.heap.size 25 13 v1 b.length (srCells b) ∧ (j = 0 → a = r0) ∧ (j ≤ 1 → b = r1) ∧ (1 ≤ j → sideP r0 x 0 = some a) ∧ (2 ≤ j → sideP r1 x 1 = some b) ∧ Ext wa wr
theorem SdRel.next {w wa W : World} {r0 r1 : List Sr} {x : Sr} {g8 j : Nat} (h : SdRel w wa r0 r1 x g8 (.int .i64 (j : Int)) W) (hj : j < 2) : ∃ (r : List Sr) (v : Value), W.cell? ⟨g8, j, none⟩ = some v ∧ g8 < W.heap.size ∧ W.ownsRow w.heap.size 25 13 v r.length (srCells r) ∧ (r = if j = 0 then r0 else r1) ∧
  (∃ cs, Blk W g8 72 cs) ∧ Ext wa W ∧
  (∀ W' v' r', Ext wa W' → (∀ cs, Blk W g8 72 cs → Blk W' g8 72 (cs.setIfInBounds j v')) → (∀ v n xs, W.ownsRow w.heap.size 25 13 v n xs → W'.ownsRow w.heap.size 25 13 v n xs) →
   W'.ownsRow w.heap.size 25 13 v' r'.length (srCells r') → sideP r x (j : Int) = some r' → SdRel w wa r0 r1 x g8 (.int .i64 ((j + 1 : Nat) : Int)) W') ∧
  (∀ W', Ext W W' → x.isQ (j : Int) = false → SdRel w wa r0 r1 x g8 (.int .i64 ((j + 1 : Nat) : Int)) W') := by
 obtain ⟨j', a, b, v0, v1, _, hjj, B8, ha, hb, e0, e1, e2, e3, X8⟩ := h
 have : j = j' := by
  have := Value.int.inj hjj
  omega
 subst this
 have hskip : ∀ l, x.isQ (j : Int) = false → sideP l x (j : Int) = some l := fun l hq => by unfold sideP; rw [if_pos hq]
 obtain rfl | rfl : j = 0 ∨ j = 1 := by omega
 ·have h0 := e0 rfl
  have h1 := e1 (by omega)
  subst h0 h1
  refine ⟨a, v0, B8.cell 0, B8.lt, ha, by simp, ⟨_, B8⟩, X8, fun W' v' r' hx hB hk ho hs => ?_, fun W' hx hq => ?_⟩
  ·exact ⟨1, r', b, v', v1, by omega, rfl, by simpa using hB _ B8, ho, hk _ _ _ hb, fun h => absurd h (by omega), fun _ => rfl, fun _ => hs, fun h => absurd h (by omega), hx⟩
  ·exact ⟨1, a, b, v0, v1, by omega, rfl, B8.ext hx, own_ext ha hx, own_ext hb hx, fun h => absurd h (by omega), fun _ => rfl, fun _ => hskip _ hq, fun h => absurd h (by omega), X8.trans hx⟩
 ·have h1 := e1 (by omega)
  subst h1
  have h2 := e2 (by omega)
  refine ⟨b, v1, B8.cell 1, B8.lt, hb, by simp, ⟨_, B8⟩, X8, fun W' v' r' hx hB hk ho hs => ?_, fun W' hx hq => ?_⟩
  ·exact ⟨2, a, r', v0, v', by omega, rfl, by simpa using hB _ B8, hk _ _ _ ha, ho, fun h => absurd h (by omega), fun h => absurd h (by omega), fun _ => h2, fun _ => hs, hx⟩
  ·exact ⟨2, a, b, v0, v1, by omega, rfl, B8.ext hx, own_ext ha hx, own_ext hb hx, fun h => absurd h (by omega), fun h => absurd h (by omega), fun _ => h2, fun _ => hskip _ hq, X8.trans hx⟩
theorem stepT_none {T : STab} {x : Sr} {j : Nat} (hj : j < 2) (h : sideP (if j = 0 then (T x.key).1 else (T x.key).2) x (j : Int) = none) : stepT T x = none := by
 unfold stepT
 obtain rfl | rfl : j = 0 ∨ j = 1 := by omega
 ·have h : sideP (T x.key).1 x 0 = none := h
  rw [h]
 ·have h : sideP (T x.key).2 x 1 = none := h
  rw [h]
  cases sideP (T x.key).1 x 0 <;> rfl
theorem newP_clash {l : List Sr} {k : Nat} {T : STab} (h5 : ¬ 500 < l.length) (hb : ¬ 0 ≤ srBad l) (hk : k < l.length) (hT : tabP (l.take k) = some T) (hs : stepT T l[k] = none) : newP l = (none, 7, (k : Int)) := by
 have h2 : tabP (l.take (k + 1)) = none := by rw [tabP_take hk, hT]; exact hs
 obtain ⟨a, b⟩ := clashK_is hk hT h2
 unfold newP
 rw [if_neg h5, if_neg hb, a]
 simp only [b]
structure StrAt (w0 W : World) (tb n : Nat) (T : STab) : Prop where
 ex : ∃ ml c, c ≤ n ∧ Blk W tb 61 #[.map (some ml), .int .i64 (n : Int), .bool true] ∧ TabAt w0 W ml c T ∧ w0.heap.size ≤ tb ∧ w0.heap.size ≤ ml
theorem own_ne_new {w : World} {base n : Nat} {e : TypeId} {size : Nat} {v : Value} {xs : List Value} (h : w.ownsRow base e size v n xs) : v.ownBlock ≠ some w.heap.size := by
 intro he
 rcases h.2 with ⟨rfl, _⟩ | ⟨g, cap, cur, rfl, _, hg, _⟩
 ·cases he
 ·have : g = w.heap.size := Option.some.inj he
  have := (Array.getElem?_eq_some_iff.1 hg).1
  omega
theorem own_ne_old {w : World} {base n g : Nat} {e : TypeId} {size : Nat} {v : Value} {xs : List Value} (h : w.ownsRow base e size v n xs) (hb : g < base) : v.ownBlock ≠ some g := by
 intro he
 rcases h.2 with ⟨rfl, _⟩ | ⟨g', cap, cur, rfl, h1, hg, _⟩
 ·cases he
 ·have : g' = g := Option.some.inj he
  omega
theorem Blk.sr {w : World} {g : Nat} {x : Sr} (h : Blk w g 25 #[.string ⟨x.state.toArray⟩, .string ⟨x.city.toArray⟩, .string ⟨x.pre.toArray⟩, .string ⟨x.name.toArray⟩, .string ⟨x.suf.toArray⟩, .string ⟨x.post.toArray⟩, .int .i64 x.fr, .int .i64 x.to_, .int .i64 x.side, .int .i64 x.ax, .int .i64 x.ay, .int .i64 x.bx, .int .i64 x.by_]) : w.heap[g]? = some (.cells (srC x) 25 (0, 0)) := h
theorem wp_last {P : Program} {c : Code} {Q : Exit → Act → World → Prop} {a : Act} {w : World} (h : ∀ K : Act → World → Prop, (∀ a w, Q .normal a w → K a w) → c.wp P (Exit.then K Q) a w) : c.wp P Q a w :=
 Code.wp_mono (Q := Exit.then (fun a w => Q .normal a w) Q) (fun e a w h => by cases e <;> exact h) (h _ (fun _ _ h => h))
end Go.Proofs.YtjaponmpfdpemaaGreatDoor
