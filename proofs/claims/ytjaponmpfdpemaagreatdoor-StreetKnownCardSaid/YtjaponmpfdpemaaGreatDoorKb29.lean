/-
  slices.Insert of one part where there is no room.
-/
import Derived.Test.YtjaponmpfdpemaaGreatDoorKb28
set_option linter.unusedVariables false
namespace Go.Proofs.YtjaponmpfdpemaaGreatDoor
open Go.RowKit

set_option maxRecDepth 100000 in
set_option maxHeartbeats 4000000 in
theorem srins_grow (n k cap g vb : Nat) (X L : List Value) (w : World) (hk : k < n) (hnc : n ≤ cap) (hroom : cap < n + 1) (hbig : n ≤ 1000) (hne : vb ≠ g)
    (hLl : L.length = n * 13) (hL : ∀ j v, L[j]? = some v → w.cell? ⟨g, j, none⟩ = some v) (hgw : g < w.heap.size) (hv : w.heap[vb]? = some (.cells X.toArray 25 (0, 0))) (hX : X.length = 13)
    (h1 : ∀ u ∈ X, u.oneCell' = true) (h1L : ∀ u ∈ L, u.oneCell' = true) :
    Calls Tryz.prog 44 #[.slice (some ⟨g, 0, none⟩) n cap, .int .i64 (k : Int), .slice (some ⟨vb, 0, none⟩) 1 1] w fun e w' => ∃ c',
      e = .returned (.slice (some ⟨w.heap.size, 0, none⟩) (n + 1) c') ∧ n + 1 ≤ c' ∧ c' ≤ maxLen ∧ (∃ cur', w'.heap[w.heap.size]? = some (.cells (List.toArray cur') 25 (0, 0)) ∧ cur'.length = c' * 13 ∧ cur'.take ((n + 1) * 13) = L.take (k * 13) ++ X ++ L.drop (k * 13)) ∧ Ext w w' := by
  obtain ⟨i0, hi0, hz0, hzs, hzb⟩ := row_sr.ex
  have hzc := row_sr.hz
  have hold : (Builtin.firstCells i0.size k (.slice (some ⟨g, 0, none⟩) k cap)).run Tryz.prog w.drew = .ok (L.take (k * 13)).toArray w.drew := by
    rw [hzs]
    exact run_firstCells_some w.drew 13 k ⟨g, 0, none⟩ k cap (L.take (k * 13)) (by rw [List.length_take]; omega) (fun j v hj => by
      rw [Addr.add_lit, Nat.zero_add]
      rw [List.getElem?_take] at hj
      split at hj
      · exact hL j v hj
      · cases hj)
  obtain ⟨G, hG⟩ : ∃ G, G = grownCap w (n + 1) cap 25 := ⟨_, rfl⟩
  obtain ⟨Z, hZ⟩ : ∃ Z : List Value, Z = (Builtin.zeroCells srZ.cells (n + 1 - k)).toList ++ (Builtin.zeroCells srZ.cells (G - (n + 1))).toList := ⟨_, rfl⟩
  have hrz : ∀ ty, (Builtin.append_ #[27, 3] ty #[.slice (some ⟨g, 0, none⟩) k cap, .int .i64 ((n : Int) + 1 - (k : Int))]).run Tryz.prog w =
      .ok (.slice (some ⟨w.heap.size, 0, none⟩) (n + 1) G) (w.drew.alloc (.cells (L.take (k * 13) ++ Z).toArray 25)) := fun ty => by
    have h := Lib.run_append_grow_zeros w 27 3 ty 25 i0 _ .i64 .i64 Tryz.underlying27 Tryz.underlying3 hi0 hz0 (some ⟨g, 0, none⟩) k cap (L.take (k * 13)) hold (n + 1 - k) (by omega) (by omega) (by omega) (by omega) (by rw [hzb]; omega) (by rw [hzb, show k + (n + 1 - k) = n + 1 by omega]; exact growslice_fits hroom (by omega))
    rw [show k + (n + 1 - k) = n + 1 by omega, ← hG] at h
    rw [show (n : Int) + 1 - (k : Int) = ((n + 1 - k : Nat) : Int) by omega, h, hZ]
    congr 3
    simp
  have hGn : n + 1 ≤ G := by rw [hG]; exact grownCap_ge w _ _ _
  have hGm : G ≤ maxLen := by rw [hG]; exact grownCap_le_maxLen w _ _ _ (by unfold maxLen; omega)
  have hZl : k * 13 + Z.length = G * 13 := by
    rw [hZ]
    simp [Builtin.zeroCells, hzc]
    omega
  have hz2 : ¬ ((k : Int) = (n : Int)) := by omega
  have hw1 : IntKind.i64.wrap ((k : Int) + 1) = (k : Int) + 1 := by rw [IntKind.wrap_i64]; omega
  have hw2 : IntKind.i64.wrap ((n : Int) + 1) = (n : Int) + 1 := by rw [IntKind.wrap_i64]; omega
  have hw3 : IntKind.i64.wrap ((n : Int) + 1 - (k : Int)) = (n : Int) + 1 - (k : Int) := by rw [IntKind.wrap_i64]; omega
  have hb1 : (0 : Int) ≤ (k : Int) + 1 := by omega
  have hkn : (k : Int) ≤ (n : Int) := by omega
  have hin : k ≤ n := by omega
  have htn : ((k : Int) + 1).toNat = k + 1 := by omega
  have hb2 : ¬ (G = k + 1) := by omega
  have hb4 : ¬ (G = k) := by omega
  have hb9 : ¬ (cap = k) := by omega
  have hb3 : (k : Int) + 1 ≤ (n : Int) + 1 := by omega
  have hb5 : (k : Int) ≤ (n : Int) + 1 := by omega
  have hb7 : (cap : Int) < (n : Int) + 1 := by omega
  have hkc : k ≤ cap := by omega
  have hki : (k : Int) ≤ (cap : Int) := by omega
  obtain ⟨N, hN⟩ : ∃ N, w.heap.size = N := ⟨_, rfl⟩
  obtain ⟨W1, hW1⟩ : ∃ W1, w.drew.alloc (.cells (L.take (k * 13) ++ Z).toArray 25) = W1 := ⟨_, rfl⟩
  rw [hW1] at hrz
  have X1 : Ext w W1 := by rw [← hW1]; exact (Ext.refl w).drew.alloc _
  have R1 : W1.heap[N]? = some (.cells (L.take (k * 13) ++ Z).toArray 25 (0, 0)) := by rw [← hW1, ← hN]; exact heap_alloc_new w.drew _
  have V1 : W1.heap[vb]? = some (.cells X.toArray 25 (0, 0)) := (X1.block vb (Array.getElem?_eq_some_iff.1 hv).1).trans hv
  have hvN : vb < N := by rw [← hN]; exact (Array.getElem?_eq_some_iff.1 hv).1
  rw [hN] at hrz ⊢
  have L1 : ∀ j v, L[j]? = some v → W1.cell? ⟨g, j, none⟩ = some v := fun j v hj => (X1.cell g j none hgw).trans (hL j v hj)
  have hHX := Lib.hid (show ∀ j v, X[j]? = some v → W1.cell? ((⟨vb, 0, none⟩ : Addr).add j) = some v from fun j v hj => by
    rw [Addr.add_lit, cell_of_row W1 vb _ X.toArray _ (0, 0) V1]
    simpa using hj)
  have hgN : g < N := by omega
  have hm2 := Lib.hid (show Nat.min 1 (n + 1 - k) = 1 by simp only [Nat.min_def]; split <;> omega)
  have hm1 := Lib.hid (show Nat.min (n - k) (n + 1 - (k + 1)) = n - k by simp only [Nat.min_def]; split <;> omega)
  obtain ⟨C1, hC1⟩ : ∃ C1, L.take (k * 13) ++ Z = C1 := ⟨_, rfl⟩
  have hC1l : C1.length = G * 13 := by rw [← hC1, List.length_append, List.length_take]; omega
  rw [hC1] at R1
  have hfit1 := Lib.hid (show k * 13 + X.length ≤ C1.length by rw [hC1l, hX]; omega)
  obtain ⟨D, hD⟩ : ∃ D, L.drop (k * 13) = D := ⟨_, rfl⟩
  have hDl : D.length = (n - k) * 13 := by rw [← hD, List.length_drop, hLl]; omega
  have hD1 := Lib.hid (show ∀ u ∈ D, u.oneCell' = true from fun u hu => h1L u (by rw [← hD] at hu; exact List.mem_of_mem_drop hu))
  have HS := Lib.hid (show ∀ j v, D[j]? = some v → W1.cell? ⟨g, k * 13 + j, none⟩ = some v from fun j v hj => by
    rw [← hD, List.getElem?_drop] at hj
    exact L1 _ v hj)
  have F1 := Lib.hid R1
  have F2 := Lib.hid X1
  have F3 := Lib.hid hC1l
  have F4 := Lib.hid hC1
  have F5 := Lib.hid h1
  have F7 := Lib.hid hX
  have F8 := Lib.hid hLl
  have G1 := Lib.hid hD
  have G2 := Lib.hid hDl
  have G4 := Lib.hid hZl
  have G5 := Lib.hid hGm
  have G6 := Lib.hid hN
  have G7 := Lib.hid hGn
  have G8 := Lib.hid hbig
  clear hold hG hZ hi0 hz0 hzs hzb hzc hW1 R1 X1 V1 hv L1 hL hgw hC1 hC1l hD hDl hLl hX h1 h1L hZl hN
  go_enter Tryz.func44, Tryz.ntmps44
  go_wp2_with (first
    | (at_builtin; refine Lib.wpList_append_run _ rfl _ _ _ _ rfl _ _ rfl rfl _ _ (hrz _) ?_)
    | (refine wpl_copyK rfl (.tmp 43) (.tmp 44) 27 27 rfl 25 13 Tryz.underlying27 sr_size (dp := some ⟨N, k * 13, none⟩) (sp := some ⟨vb, 0, none⟩) (dLen := n + 1 - k) (dCap := G - k) (sLen := 1) (sCap := 1) rfl rfl N (k * 13) 1 C1 25 F1.out X hm2.out F7.out (fun _ => ⟨rfl, _, rfl, hHX.out⟩) hfit1.out F5.out ?_; intro w3 hg3 gr3))
  have HS3 : Hid (∀ j v, D[j]? = some v → w3.drew.cell? ((⟨g, k * 13, none⟩ : Addr).add j) = some v) := Lib.hid (fun j v hj => by
    rw [Addr.add_lit]
    exact gr3.cell (HS.out j v hj) (by simp; omega))
  have e1 := length_splice C1 (k * 13) X hfit1.out
  have hfit2 := Lib.hid (show (k + 1) * 13 + D.length ≤ (splice C1 (k * 13) X).length by rw [e1, G2.out, F3.out]; have := G7.out; omega)
  have GR := Lib.hid gr3
  obtain ⟨C2, hC2⟩ : ∃ C2, splice C1 (k * 13) X = C2 := ⟨_, rfl⟩
  rw [hC2] at hg3 hfit2 e1
  replace hC2 := Lib.hid hC2
  replace e1 := Lib.hid e1
  clear gr3
  go_region_law (refine step_copyK rfl (.tmp 50) (.tmp 53) 27 27 rfl 25 13 Tryz.underlying27 sr_size (dp := some ⟨N, (k + 1) * 13, none⟩) (sp := some ⟨g, k * 13, none⟩) (dLen := n + 1 - (k + 1)) (dCap := G - (k + 1)) (sLen := n - k) (sCap := cap - k) (by simp [Act.eval, Act.put]) (by simp [Act.eval, Act.put]) N ((k + 1) * 13) (n - k) C2 25 hg3.out D hm1.out G2.out (fun _ => ⟨rfl, _, rfl, HS3.out⟩) hfit2.out hD1.out ?_; intro w4 hg4 gr4)
  go_wp2_with fail
  go_ret
  refine ⟨G, by simp, G7.out, G5.out, ⟨_, hg4.out, ?_, ?_⟩, ?_⟩
  · rw [length_splice _ _ _ hfit2.out, e1.out, F3.out]
  · have h := ins_grow Z X L (k * 13) 13 (n * 13) (by omega) F7.out F8.out (by have := G4.out; have := G7.out; omega)
    rw [F4.out, hC2.out, G1.out, show k * 13 + 13 = (k + 1) * 13 by omega, show n * 13 + 13 = (n + 1) * 13 by omega] at h
    rw [h, G1.out]
  · exact ((F2.out.grown GR.out (fun j e => by have := Option.some.inj e; have := G6.out; omega)).drew).grown gr4 (fun j e => by have := Option.some.inj e; have := G6.out; omega)
end Go.Proofs.YtjaponmpfdpemaaGreatDoor

set_option linter.unusedVariables false
namespace Go.Proofs.YtjaponmpfdpemaaGreatDoor
open Go.RowKit

theorem srCells_take (l : List Sr) (k : Nat) : srCells (l.take k) = (srCells l).take (k * 13) := by
  induction l generalizing k with
  | nil => simp [srCells]
  | cons s l ih =>
    cases k with
    | zero => simp [srCells]
    | succ k =>
      have := ih k
      unfold srCells at this ⊢
      rw [List.take_succ_cons, List.flatMap_cons, List.flatMap_cons, this, List.take_append, (List.take_of_length_le (by show 13 ≤ _; omega) : (srL s).take ((k + 1) * 13) = srL s), show (srL s).length = 13 from rfl, show (k + 1) * 13 - 13 = k * 13 by omega]
theorem srCells_drop (l : List Sr) (k : Nat) : srCells (l.drop k) = (srCells l).drop (k * 13) := by
  induction l generalizing k with
  | nil => simp [srCells]
  | cons s l ih =>
    cases k with
    | zero => simp [srCells]
    | succ k =>
      have := ih k
      unfold srCells at this ⊢
      rw [List.drop_succ_cons, List.flatMap_cons, this, List.drop_append, (List.drop_eq_nil_of_le (by show 13 ≤ _; omega) : (srL s).drop ((k + 1) * 13) = []), List.nil_append, show (srL s).length = 13 from rfl, show (k + 1) * 13 - 13 = k * 13 by omega]
theorem srCells_app (l m : List Sr) : srCells (l ++ m) = srCells l ++ srCells m := by simp [srCells]
theorem srCells_ins (l : List Sr) (x : Sr) (k : Nat) : srCells (l.take k ++ x :: l.drop k) = (srCells l).take (k * 13) ++ srL x ++ (srCells l).drop (k * 13) := by
  rw [srCells_app, srCells_take, show x :: l.drop k = [x] ++ l.drop k from rfl, srCells_app, srCells_drop, List.append_assoc]
  simp [srCells]
set_option maxRecDepth 100000 in
set_option maxHeartbeats 4000000 in
theorem srinsert_any (l : List Sr) (x : Sr) (k n : Nat) (hn : l.length = n) (hk : k ≤ n) (A : Option Addr) (cap : Nat) (w0 w : World) (ho : w.ownsRow w0.heap.size 25 13 (.slice A n cap) n (srCells l)) (hx : Ext w0 w) (hbig : n ≤ 999)
    (vb : Nat) (hv : w.heap[vb]? = some (.cells (srC x) 25 (0, 0))) (hne : (Value.slice A n cap).ownBlock ≠ some vb) :
    Calls Tryz.prog 44 #[.slice A n cap, .int .i64 (k : Int), .slice (some ⟨vb, 0, none⟩) 1 1] w fun e w' => ∃ A' c', e = .returned (.slice A' (n + 1) c') ∧ w'.ownsRow w0.heap.size 25 13 (.slice A' (n + 1) c') (n + 1) (srCells (l.take k ++ x :: l.drop k)) ∧ Ext w0 w' := by
  have h1x : ∀ u ∈ srL x, u.oneCell' = true := fun u hu => sr_one [x] u (by simpa [srCells] using hu)
  by_cases hkn : k = n
  · subst hkn
    have hl : l.take k ++ x :: l.drop k = l ++ [x] := by rw [List.take_of_length_le (by omega), List.drop_eq_nil_of_le (by omega)]
    rw [hl, srCells_app]
    have hR : Reads w w.heap.size 13 (some ⟨vb, 0, none⟩) 1 (srL x) := ⟨rfl, fun _ => ⟨vb, 0, rfl, (Array.getElem?_eq_some_iff.1 hv).1, fun j u hu => by
      rw [cell_of_row w vb _ (srC x) _ (0, 0) hv]
      simpa [srC, srL] using hu⟩⟩
    have hd : ((k : Int) == (k : Int)) = true := by simp
    have hki : (k : Int) ≤ (k : Int) := Int.le_refl _
    have HO := Lib.hid ho
    have HR := Lib.hid hR
    have HX := Lib.hid hx
    replace h1x := Lib.hid h1x
    clear ho hv hne hR hx hn hl
    go_enter Tryz.func44, Tryz.ntmps44
    go_wp2_with (at_builtin; refine wpl_app row_sr w0 w (.tmp 23) (.tmp 24) rfl rfl rfl HO.out HX.out rfl HR.out h1x.out (by omega) (by unfold maxLen; omega) ?_; intro v1 w1 hg; obtain ⟨A1, c1, rfl, _, _, _⟩ := own_slice hg.own)
    all_goals go_ret
    all_goals
      refine ⟨A1, c1, by simp, ?_, hg.ext⟩
      have := hg.own
      simpa [srCells] using this
  · have hlt : k < n := by omega
    rcases ho.2 with ⟨_, h0⟩ | ⟨g, cap', cur, e, hbg, hg, hnc, hcm, hcs, htake⟩
    · omega
    · simp only [Value.slice.injEq, true_and] at e
      obtain ⟨rfl, rfl⟩ := e
      have hnv : vb ≠ g := fun e => hne (by simp [Value.ownBlock, e])
      have hLl : (srCells l).length = n * 13 := ho.1
      by_cases hroom : n + 1 ≤ cap
      · refine (srins_room n k cap g vb cur.toList (srL x) (srCells l) w hlt hroom hcm hnv (by simpa using hg) (by simpa using hcs) htake hv rfl h1x (sr_one l)).mono ?_
        rintro e w' ⟨rfl, ⟨cur', hg', hl', ht'⟩, hgr⟩
        refine ⟨_, _, rfl, ⟨by rw [srCells_len]; simp; omega, .inr ⟨g, cap, cur'.toArray, rfl, hbg, hg', hroom, hcm, by simpa using hl', ?_⟩⟩, hx.grown hgr (fun j e => by have := Option.some.inj e; omega)⟩
        rw [srCells_ins, ← ht']
      · refine (srins_grow n k cap g vb (srL x) (srCells l) w hlt hnc (by omega) (by omega) hnv hLl (fun j v hj => by
          rw [ho.cellAt j (by have := (List.getElem?_eq_some_iff.1 hj).1; omega)]; exact hj) (Array.getElem?_eq_some_iff.1 hg).1 hv rfl h1x (sr_one l)).mono ?_
        rintro e w' ⟨c', rfl, hc1, hc2, ⟨cur', hg', hl', ht'⟩, hgr⟩
        refine ⟨_, _, rfl, ⟨by rw [srCells_len]; simp; omega, .inr ⟨w.heap.size, c', cur'.toArray, rfl, hx.size, hg', hc1, hc2, by simpa using hl', ?_⟩⟩, hx.trans hgr⟩
        rw [srCells_ins, ← ht']
end Go.Proofs.YtjaponmpfdpemaaGreatDoor
