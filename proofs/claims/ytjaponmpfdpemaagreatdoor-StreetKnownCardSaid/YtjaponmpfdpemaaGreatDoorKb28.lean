/-
  copy of elements of several cells, the row behind an insertion (no program in sight).
-/
import Derived.Test.YtjaponmpfdpemaaGreatDoorKb01
import Derived.Laws.CopyOwn
import Derived.Test.YtjaponmpfdpemaaGreatDoorKb27
import Derived.Lib.Overlaps
import Derived.Lib.AppendZerosOnto
set_option linter.unusedVariables false
namespace Go.Proofs.YtjaponmpfdpemaaGreatDoor
open Go.RowKit

theorem run_copyK0 {P : Program} (w : World) (dT sT ty elem : TypeId) (d a : Option Addr) (dLen dCap sLen sCap size : Nat) (hu : P.underlying dT = some (.slice elem)) (hs : (P.info? elem).map (·.size) = some size) (hn : Nat.min sLen dLen = 0) :
    (Builtin.copy_ #[dT, sT] ty #[.slice d dLen dCap, .slice a sLen sCap]).run P w = .ok (goInt 0) w := by
  cases hq : P.info? elem with
  | none => simp [hq] at hs
  | some i =>
    have hl : ∀ (x : Addr), (loadCells x 0).run P w = .ok #[] w := fun x => by simpa using run_loadCells_list (P := P) w x [] (by simp)
    cases d <;> cases a <;> simp [Builtin.copy_, run_underlying hu, Builtin.lenOf, Builtin.firstCells, sizeOf, typeInfo, hq, hn, storeCells, hl]
theorem run_copyK {P : Program} (w : World) (dT sT ty elem : TypeId) (g o dLen dCap : Nat) (a : Addr) (sLen sCap size m : Nat) (cur : Array Value) (t : TypeId) (cs : List Value)
    (hu : P.underlying dT = some (.slice elem)) (hs : (P.info? elem).map (·.size) = some size)
    (hg : w.heap[g]? = some (.cells cur t (0, 0))) (hm : Nat.min sLen dLen = m) (hn : cs.length = m * size)
    (hsrc : ∀ j v, cs[j]? = some v → w.cell? (a.add j) = some v) (hfit : o + cs.length ≤ cur.size) (h1 : ∀ v ∈ cs, v.oneCell' = true) :
    (Builtin.copy_ #[dT, sT] ty #[.slice (some ⟨g, o, none⟩) dLen dCap, .slice (some a) sLen sCap]).run P w =
      .ok (goInt m) (w.setRow g (cur.toList.take o ++ cs ++ cur.toList.drop (o + cs.length)).toArray) := by
  have hl := run_loadCells_list (P := P) w a cs hsrc
  have hst := run_storeCells_at P g o t cs 0 cur w hg (by simpa using hfit) h1
  cases hq : P.info? elem with
  | none => simp [hq] at hs
  | some i =>
    have hi : i.size = size := by simpa [hq] using hs
    simp [Builtin.copy_, run_underlying hu, Builtin.lenOf, Builtin.firstCells, sizeOf, typeInfo, hq, hi, hm, ← hn, hl, hst]
theorem grown_setRow (w : World) (g : Nat) (cs : Array Value) : w.grownBy (w.setRow g cs) (some g) := ⟨rfl, rfl, rfl, by simp [World.setRow], fun k _ hk => setRow_other w g k _ (fun e => hk (by simp [e]))⟩
theorem op_copyK {P : Program} {o : Oper} {a : Act} {w : World} {K : Act → World → Prop} {Q : Exit → Act → World → Prop} (d s : Operand) (dT sT : TypeId)
    (ho : o.op = .call { callee := .builtin .copy, args := #[d, s], argTypes := #[dT, sT] }) (elem : TypeId) (size : Nat) (hu : P.underlying dT = some (.slice elem)) (hsz : (P.info? elem).map (·.size) = some size)
    {dp sp : Option Addr} {dLen dCap sLen sCap : Nat} (hd : a.eval d = .slice dp dLen dCap) (hs : a.eval s = .slice sp sLen sCap)
    (g off m : Nat) (cur : List Value) (t : TypeId) (hg : w.heap[g]? = some (.cells cur.toArray t (0, 0))) (cs : List Value) (hm : Nat.min sLen dLen = m) (hn : cs.length = m * size)
    (hpos : 0 < m → dp = some ⟨g, off, none⟩ ∧ ∃ ad, sp = some ad ∧ ∀ j v, cs[j]? = some v → w.cell? (ad.add j) = some v)
    (hfit : off + cs.length ≤ cur.length) (h1 : ∀ v ∈ cs, v.oneCell' = true)
    (h : ∀ w', Hid (w'.heap[g]? = some (.cells (splice cur off cs).toArray t (0, 0))) → w.grownBy w' (some g) → K (a.put o.dst (goInt m)) w') : o.wp P a w K Q := by
  by_cases h0 : m = 0
  · subst h0
    obtain rfl : cs = [] := List.eq_nil_of_length_eq_zero (by simpa using hn)
    have hrun := run_copyK0 (P := P) w dT sT o.type elem dp sp dLen dCap sLen sCap size hu hsz hm
    unfold Oper.wp
    simp [execOp, ho, resolve, invoke, builtin, hd, hs, hrun, Result.andThen]
    exact h w (show _ = _ by simpa [splice] using hg) ⟨rfl, rfl, rfl, Nat.le_refl _, fun _ _ _ => rfl⟩
  · obtain ⟨rfl, ad, rfl, hsrc⟩ := hpos (by omega)
    have hrun := run_copyK (P := P) w dT sT o.type elem g off dLen dCap ad sLen sCap size m cur.toArray t cs hu hsz hg hm hn hsrc (by simpa using hfit) h1
    unfold Oper.wp
    simp [execOp, ho, resolve, invoke, builtin, hd, hs, hrun, Result.andThen]
    exact h _ (show _ = _ by simpa [splice] using setRow_heap w g _ _ t _ hg) (grown_setRow w g _)
theorem wpl_copyK {P : Program} {w : World} {ops : Array Oper} {rest : List Oper} {o : Oper} {a : Act} {Q : Exit → Act → World → Prop} (hgd : o.guard = none) (d s : Operand) (dT sT : TypeId)
    (ho : o.op = .call { callee := .builtin .copy, args := #[d, s], argTypes := #[dT, sT] }) (elem : TypeId) (size : Nat) (hu : P.underlying dT = some (.slice elem)) (hsz : (P.info? elem).map (·.size) = some size)
    {dp sp : Option Addr} {dLen dCap sLen sCap : Nat} (hd : a.eval d = .slice dp dLen dCap) (hs : a.eval s = .slice sp sLen sCap)
    (g off m : Nat) (cur : List Value) (t : TypeId) (hg : w.heap[g]? = some (.cells cur.toArray t (0, 0))) (cs : List Value) (hm : Nat.min sLen dLen = m) (hn : cs.length = m * size)
    (hpos : 0 < m → dp = some ⟨g, off, none⟩ ∧ ∃ ad, sp = some ad ∧ ∀ j v, cs[j]? = some v → w.cell? (ad.add j) = some v)
    (hfit : off + cs.length ≤ cur.length) (h1 : ∀ v ∈ cs, v.oneCell' = true)
    (h : ∀ w', Hid (w'.heap[g]? = some (.cells (splice cur off cs).toArray t (0, 0))) → w.grownBy w' (some g) → wpList P ops Q rest (a.put o.dst (goInt m)) w') : wpList P ops Q (o :: rest) a w :=
  wpList_plain hgd fun _ hK => op_copyK d s dT sT ho elem size hu hsz hd hs g off m cur t hg cs hm hn hpos hfit h1 fun w' a1 a2 => hK _ _ (h w' a1 a2)
theorem step_copyK {P : Program} {ops : Array Oper} {o : Oper} {a : Act} {w : World} {K : Act → World → Prop} {Q : Exit → Act → World → Prop} {E : Prop} (hgd : o.guard = none) (d s : Operand) (dT sT : TypeId)
    (ho : o.op = .call { callee := .builtin .copy, args := #[d, s], argTypes := #[dT, sT] }) (elem : TypeId) (size : Nat) (hu : P.underlying dT = some (.slice elem)) (hsz : (P.info? elem).map (·.size) = some size)
    {dp sp : Option Addr} {dLen dCap sLen sCap : Nat} (hd : a.eval d = .slice dp dLen dCap) (hs : a.eval s = .slice sp sLen sCap)
    (g off m : Nat) (cur : List Value) (t : TypeId) (hg : w.heap[g]? = some (.cells cur.toArray t (0, 0))) (cs : List Value) (hm : Nat.min sLen dLen = m) (hn : cs.length = m * size)
    (hpos : 0 < m → dp = some ⟨g, off, none⟩ ∧ ∃ ad, sp = some ad ∧ ∀ j v, cs[j]? = some v → w.cell? (ad.add j) = some v)
    (hfit : off + cs.length ≤ cur.length) (h1 : ∀ v ∈ cs, v.oneCell' = true)
    (h : ∀ w', Hid (w'.heap[g]? = some (.cells (splice cur off cs).toArray t (0, 0))) → w.grownBy w' (some g) → K (a.put o.dst (goInt m)) w') :
    if Region.wanted o (yielded ops a.tmps) = true then Oper.wp P o a w K Q else E := by
  have hw : Region.wanted o (yielded ops a.tmps) = true := by simp [Region.wanted, hgd]
  rw [if_pos hw]
  exact op_copyK d s dT sT ho elem size hu hsz hd hs g off m cur t hg cs hm hn hpos hfit h1 h
theorem splice_get {α : Type} (L : List α) (off : Nat) (cs : List α) (h : off + cs.length ≤ L.length) (j : Nat) : (splice L off cs)[j]? = if off ≤ j ∧ j < off + cs.length then cs[j - off]? else L[j]? := by
  unfold splice
  rw [List.getElem?_append, List.getElem?_append, List.length_take, Nat.min_eq_left (by omega)]
  by_cases h1 : j < off
  · rw [if_pos h1, if_neg (by omega), List.getElem?_take, if_pos h1]
  · rw [if_neg h1]
    by_cases h2 : j - off < cs.length
    · rw [if_pos h2, if_pos (by omega)]
    · rw [if_neg h2, if_neg (by omega), List.getElem?_drop]
      congr 1; omega
/-- The row behind an insertion in place. -/
theorem ins_room {α : Type} (cur X L : List α) (p c N : Nat) (hp : p ≤ N) (hX : X.length = c) (hL : cur.take N = L) (hN : N + c ≤ cur.length) :
    (splice (splice cur (p + c) (L.drop p)) p X).take (N + c) = L.take p ++ X ++ L.drop p := by
  have hLl : L.length = N := by rw [← hL, List.length_take]; omega
  have e1 : (splice cur (p + c) (L.drop p)).length = cur.length := length_splice _ _ _ (by rw [List.length_drop]; omega)
  apply List.ext_getElem?
  intro j
  rw [List.getElem?_take, splice_get _ _ _ (by omega), splice_get _ _ _ (by rw [List.length_drop]; omega)]
  rw [List.getElem?_append, List.getElem?_append, List.length_append, List.length_take, hX, List.length_drop, hLl, Nat.min_eq_left hp]
  have hc : ∀ i, i < N → cur[i]? = L[i]? := fun i hi => by rw [← hL, List.getElem?_take, if_pos hi]
  by_cases h1 : j < p
  · rw [if_pos (by omega), if_neg (by omega), if_neg (by omega), if_pos (by omega), if_pos h1, List.getElem?_take, if_pos h1, hc j (by omega)]
  · by_cases h2 : j < p + c
    · rw [if_pos (by omega), if_pos (by omega), if_pos (by omega), if_neg h1]
    · by_cases h3 : j < N + c
      · rw [if_pos h3, if_neg (by omega), if_pos (by omega), if_neg (by omega)]
      · rw [if_neg h3, if_neg (by omega), List.getElem?_eq_none (by rw [List.length_drop]; omega)]
/-- .. and in a new row. -/
theorem ins_grow {α : Type} (Z X L : List α) (p c N : Nat) (hp : p ≤ N) (hX : X.length = c) (hL : L.length = N) (hZ : N + c ≤ p + Z.length) :
    (splice (splice (L.take p ++ Z) p X) (p + c) (L.drop p)).take (N + c) = L.take p ++ X ++ L.drop p := by
  have e0 : (L.take p ++ Z).length = p + Z.length := by rw [List.length_append, List.length_take]; omega
  have e1 : (splice (L.take p ++ Z) p X).length = p + Z.length := by rw [length_splice _ _ _ (by omega), e0]
  apply List.ext_getElem?
  intro j
  have er : (L.take p ++ X ++ L.drop p)[j]? = if j < p + c then (if j < p then (L.take p)[j]? else X[j - p]?) else (L.drop p)[j - (p + c)]? := by
    rw [List.getElem?_append, List.getElem?_append, List.length_append, List.length_take, hX, hL, Nat.min_eq_left hp]
  have ez : j < p → (L.take p ++ Z)[j]? = (L.take p)[j]? := fun h => by rw [List.getElem?_append, List.length_take, Nat.min_eq_left (by omega), if_pos h]
  rw [er, List.getElem?_take, splice_get _ _ _ (by rw [List.length_drop]; omega), splice_get _ _ _ (by omega)]
  rw [hX, List.length_drop, hL]
  by_cases h1 : j < p
  · rw [if_pos (by omega), if_neg (by omega), if_neg (by omega), if_pos (by omega), if_pos h1, ez h1]
  · by_cases h2 : j < p + c
    · rw [if_pos (by omega), if_neg (by omega), if_pos (by omega), if_pos (by omega), if_neg h1]
    · by_cases h3 : j < N + c
      · rw [if_pos h3, if_pos (by omega), if_neg (by omega)]
      · rw [if_neg h3, if_neg (by omega), List.getElem?_eq_none (by rw [List.length_drop]; omega)]
end Go.Proofs.YtjaponmpfdpemaaGreatDoor

set_option linter.unusedVariables false
namespace Go.Proofs.YtjaponmpfdpemaaGreatDoor
open Go.RowKit

theorem sr_size : (Tryz.prog.info? 25).map (·.size) = some 13 := by kernel_rfl
theorem sr_sizeOf : ∀ w, (Go.sizeOf 25).run Tryz.prog w = .ok 13 w := fun w => by
  have h := sr_size
  cases hq : Tryz.prog.info? 25 with
  | none => simp [hq] at h
  | some i =>
    have hi : i.size = 13 := by simpa [hq] using h
    simp [Go.sizeOf, typeInfo, hq, hi]
theorem srover_any (w : World) (vb g : Nat) (offb : Nat) (lb cb : Nat) (X cur : Array Value) (hne : vb ≠ g) (hv : w.heap[vb]? = some (.cells X 25 (0, 0))) (hg : w.heap[g]? = some (.cells cur 25 (0, 0))) (hc : cur.size ≠ 0) :
    (callFunc 74 #[.slice (some ⟨vb, 0, none⟩) 1 1, .slice (some ⟨g, offb, none⟩) lb cb]).run Tryz.prog w = .ok (.value (.bool false)) w := by
  rw [run_callFunc_extern Tryz.func74 (by kernel_rfl) (by kernel_rfl) (by kernel_rfl) (e := Extern.SlicesOverlaps.overlaps #[27, 27] #[4]) (by kernel_rfl),
    Lib.run_overlaps_apart w 27 4 25 Tryz.underlying27 13 sr_sizeOf ⟨vb, 0, none⟩ ⟨g, offb, none⟩ 1 1 lb cb hne 25 25 X.size cur.size (by simp [World.shape?, hv]) (by simp [World.shape?, hg]) hc (by simp [World.frozen?, hv]) (by simp [World.frozen?, hv])]
  rfl

set_option maxRecDepth 100000 in
set_option maxHeartbeats 4000000 in
theorem srins_room (n k cap g vb : Nat) (cur X L : List Value) (w : World) (hk : k < n) (hroom : n + 1 ≤ cap) (hcm : cap ≤ maxLen) (hne : vb ≠ g)
    (hg : w.heap[g]? = some (.cells cur.toArray 25 (0, 0))) (hcur : cur.length = cap * 13) (hL : cur.take (n * 13) = L) (hv : w.heap[vb]? = some (.cells X.toArray 25 (0, 0))) (hX : X.length = 13)
    (h1 : ∀ u ∈ X, u.oneCell' = true) (h1L : ∀ u ∈ L, u.oneCell' = true) :
    Calls Tryz.prog 44 #[.slice (some ⟨g, 0, none⟩) n cap, .int .i64 (k : Int), .slice (some ⟨vb, 0, none⟩) 1 1] w fun e w' =>
      e = .returned (.slice (some ⟨g, 0, none⟩) (n + 1) cap) ∧ (∃ cur', w'.heap[g]? = some (.cells (List.toArray cur') 25 (0, 0)) ∧ cur'.length = cap * 13 ∧ cur'.take ((n + 1) * 13) = L.take (k * 13) ++ X ++ L.drop (k * 13)) ∧ w.grownBy w' (some g) := by
  have hLl : L.length = n * 13 := by rw [← hL, List.length_take]; omega
  have hov := fun ob lb cb => srover_any w vb g ob lb cb X.toArray cur.toArray hne hv hg (by rw [List.size_toArray]; omega)
  have hz2 : ¬ ((k : Int) = (n : Int)) := by omega
  have hw1 : IntKind.i64.wrap ((k : Int) + 1) = (k : Int) + 1 := by rw [IntKind.wrap_i64]; unfold maxLen at hcm; omega
  have hw2 : IntKind.i64.wrap ((n : Int) + 1) = (n : Int) + 1 := by rw [IntKind.wrap_i64]; unfold maxLen at hcm; omega
  have hb1 : (0 : Int) ≤ (k : Int) + 1 := by omega
  have hkn : (k : Int) ≤ (n : Int) := by omega
  have hin : k ≤ n := by omega
  have htn : ((k : Int) + 1).toNat = k + 1 := by omega
  have htm : ((n : Int) + 1).toNat = n + 1 := by omega
  have hb2 : ¬ (cap = k + 1) := by omega
  have hb4 : ¬ (cap = k) := by omega
  have hb3 : (k : Int) + 1 ≤ (n : Int) + 1 := by omega
  have hb5 : (k : Int) ≤ (n : Int) + 1 := by omega
  have hb6 : (n : Int) + 1 ≤ (cap : Int) := by omega
  have hb7 : ¬ ((cap : Int) < (n : Int) + 1) := by omega
  have hb8 : (0 : Int) ≤ (n : Int) + 1 := by omega
  have F1 := Lib.hid hg
  have F2 := Lib.hid hv
  have F3 := Lib.hid hcur
  have F4 := Lib.hid hL
  have F5 := Lib.hid h1
  have F6 := Lib.hid h1L
  have F7 := Lib.hid hX
  have F8 := Lib.hid hLl
  have F9 := Lib.hid hroom
  obtain ⟨D, hD⟩ : ∃ D, L.drop (k * 13) = D := ⟨_, rfl⟩
  have hDl : D.length = (n - k) * 13 := by rw [← hD, List.length_drop, hLl]; omega
  have hD1 : ∀ u ∈ D, u.oneCell' = true := fun u hu => h1L u (by rw [← hD] at hu; exact List.mem_of_mem_drop hu)
  have HS := Lib.hid (show ∀ j v, D[j]? = some v → w.cell? ⟨g, k * 13 + j, none⟩ = some v from fun j v hj => by
    rw [← hD, List.getElem?_drop] at hj
    have : cur[k * 13 + j]? = some v := by
      rw [← hL, List.getElem?_take] at hj
      split at hj
      · exact hj
      · cases hj
    rw [cell_of_row w g _ cur.toArray _ (0, 0) hg]
    simpa using this)
  have HS2 : Hid (∀ j v, D[j]? = some v → w.drew.cell? ((⟨g, k * 13, none⟩ : Addr).add j) = some v) := Lib.hid (fun j v hj => by rw [Addr.add_lit]; exact HS.out j v hj)
  have G1 := Lib.hid hD
  have G2 := Lib.hid hDl
  have G3 := Lib.hid hD1
  have hfit : (k + 1) * 13 + D.length ≤ cur.length := by rw [hDl, hcur]; omega
  replace hfit := Lib.hid hfit
  have hmin : Nat.min (n + 1 - k) (n + 1 - (k + 1)) = n - k := by simp only [Nat.min_def]; split <;> omega
  replace hmin := Lib.hid hmin
  clear hg hv hcur hL h1 h1L hX hLl hD hDl hD1
  go_enter Tryz.func44, Tryz.ntmps44
  go_wp2_with (simp only [hov])
  go_region_law (refine step_copyK rfl (.tmp 73) (.tmp 76) 27 27 rfl 25 13 Tryz.underlying27 sr_size (dp := some ⟨g, (k + 1) * 13, none⟩) (sp := some ⟨g, k * 13, none⟩) (dLen := n + 1 - (k + 1)) (dCap := cap - (k + 1)) (sLen := n + 1 - k) (sCap := cap - k) (by simp [Act.eval, Act.put]) (by simp [Act.eval, Act.put]) g ((k + 1) * 13) (n - k) cur 25 F1.out D hmin.out G2.out (fun _ => ⟨rfl, _, rfl, HS2.out⟩) hfit.out G3.out ?_; intro w4 hg4 gr4)
  have F2' : w4.heap[vb]? = some (.cells X.toArray 25 (0, 0)) := (gr4.block vb (by exact (Array.getElem?_eq_some_iff.1 F2.out).1) (by simp; omega)).trans F2.out
  have HX := Lib.hid (show ∀ j v, X[j]? = some v → w4.cell? ((⟨vb, 0, none⟩ : Addr).add j) = some v from fun j v hj => by
    rw [Addr.add_lit, cell_of_row w4 vb _ X.toArray _ (0, 0) F2']
    simpa using hj)
  have hm2 := Lib.hid (show Nat.min 1 (n + 1 - k) = 1 by simp only [Nat.min_def]; split <;> omega)
  have e1 := length_splice cur ((k + 1) * 13) D hfit.out
  have hfit2 := Lib.hid (show k * 13 + X.length ≤ (splice cur ((k + 1) * 13) D).length by rw [e1, F7.out, F3.out]; omega)
  have GR := Lib.hid gr4
  obtain ⟨C2, hC2⟩ : ∃ C2, splice cur ((k + 1) * 13) D = C2 := ⟨_, rfl⟩
  rw [hC2] at hg4 hfit2 e1
  replace hC2 := Lib.hid hC2
  replace e1 := Lib.hid e1
  clear F2' gr4
  go_wp2_with (refine wpl_copyK rfl (.tmp 80) (.tmp 81) 27 27 rfl 25 13 Tryz.underlying27 sr_size (dp := some ⟨g, k * 13, none⟩) (sp := some ⟨vb, 0, none⟩) (dLen := n + 1 - k) (dCap := cap - k) (sLen := 1) (sCap := 1) rfl rfl g (k * 13) 1 C2 25 hg4.out X hm2.out F7.out (fun _ => ⟨rfl, _, rfl, HX.out⟩) hfit2.out F5.out ?_; intro w5 hg5 gr5)
  go_ret
  refine ⟨by simp, ⟨_, hg5.out, ?_, ?_⟩, ?_⟩
  · rw [length_splice _ _ _ hfit2.out, e1.out, F3.out]
  · have h := ins_room cur X L (k * 13) 13 (n * 13) (by omega) F7.out F4.out (by rw [F3.out]; omega)
    rw [G1.out, show k * 13 + 13 = (k + 1) * 13 by omega, hC2.out, show n * 13 + 13 = (n + 1) * 13 by omega] at h
    rw [h, G1.out]
  · exact ⟨gr5.os.trans GR.out.os, gr5.tape.trans GR.out.tape, gr5.output.trans GR.out.output, Nat.le_trans GR.out.size gr5.size, fun j hj hne => (gr5.block j (Nat.lt_of_lt_of_le hj GR.out.size) hne).trans (GR.out.block j hj hne)⟩
end Go.Proofs.YtjaponmpfdpemaaGreatDoor
