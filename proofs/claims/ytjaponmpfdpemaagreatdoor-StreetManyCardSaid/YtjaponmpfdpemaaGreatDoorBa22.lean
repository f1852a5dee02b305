/-
  copy of elements of several cells, the row behind an insertion (no program in sight).
-/
import Derived.Test.YtjaponmpfdpemaaGreatDoorBa01
import Derived.Laws.CopyOwn
import Derived.Test.YtjaponmpfdpemaaGreatDoorBa21
import Derived.Lib.Overlaps
import Derived.Lib.AppendZerosOnto
set_option linter.unusedVariables false
namespace Go.Proofs.YtjaponmpfdpemaaGreatDoor
open Go.RowKit

theorem run_copyK0 {P : Program} (w : World) (dT sT ty elem : TypeId) (d a : Option Addr) (dLen dCap sLen sCap size : Nat) (hu : P.underlying dT = some (.slice elem)) (hs : (P.info? elem).map (·.size) = some size) (hn : Nat.min sLen dLen = 0) :
    (Builtin.copy_ #[dT, sT] ty #[.slice d dLen dCap, .slice a sLen sCap]).run P w = .ok (goInt 0) w := by
  cases hq : P.info? elem with
  | none => simp [hq] at hs
  | some i =>
    have hl : ∀ (x : Addr), (loadCells x 0).run P w = .ok #[] w := fun x => by simpa using run_loadCells_list (P := P) w x [] (by simp)
    cases d <;> cases a <;> simp [Builtin.copy_, run_underlying hu, Builtin.lenOf, Builtin.firstCells, sizeOf, typeInfo, hq, hn, storeCells, hl]
theorem run_copyK {P : Program} (w : World) (dT sT ty elem : TypeId) (g o dLen dCap : Nat) (a : Addr) (sLen sCap size m : Nat) (cur : Array Value) (t : TypeId) (cs : List Value)
    (hu : P.underlying dT = some (.slice elem)) (hs : (P.info? elem).map (·.size) = some size)
    (hg : w.heap[g]? = some (.cells cur t (0, 0))) (hm : Nat.min sLen dLen = m) (hn : cs.length = m * size)
    (hsrc : ∀ j v, cs[j]? = some v → w.cell? (a.add j) = some v) (hfit : o + cs.length ≤ cur.size) (h1 : ∀ v ∈ cs, v.oneCell' = true) :
    (Builtin.copy_ #[dT, sT] ty #[.slice (some ⟨g, o, none⟩) dLen dCap, .slice (some a) sLen sCap]).run P w =
      .ok (goInt m) (w.setRow g (cur.toList.take o ++ cs ++ cur.toList.drop (o + cs.length)).toArray) := by
  have hl := run_loadCells_list (P := P) w a cs hsrc
  have hst := run_storeCells_at P g o t cs 0 cur w hg (by simpa using hfit) h1
  cases hq : P.info? elem with
  | none => simp [hq] at hs
  | some i =>
    have hi : i.size = size := by simpa [hq] using hs
    simp [Builtin.copy_, run_underlying hu, Builtin.lenOf, Builtin.firstCells, sizeOf, typeInfo, hq, hi, hm, ← hn, hl, hst]
theorem grown_setRow (w : World) (g : Nat) (cs : Array Value) : w.grownBy (w.setRow g cs) (some g) := ⟨rfl, rfl, rfl, by simp [World.setRow], fun k _ hk => setRow_other w g k _ (fun e => hk (by simp [e]))⟩
theorem op_copyK {P : Program} {o : Oper} {a : Act} {w : World} {K : Act → World → Prop} {Q : Exit → Act → World → Prop} (d s : Operand) (dT sT : TypeId)
    (ho : o.op = .call { callee := .builtin .copy, args := #[d, s], argTypes := #[dT, sT] }) (elem : TypeId) (size : Nat) (hu : P.underlying dT = some (.slice elem)) (hsz : (P.info? elem).map (·.size) = some size)
    {dp sp : Option Addr} {dLen dCap sLen sCap : Nat} (hd : a.eval d = .slice dp dLen dCap) (hs : a.eval s = .slice sp sLen sCap)
    (g off m : Nat) (cur : List Value) (t : TypeId) (hg : w.heap[g]? = some (.cells cur.toArray t (0, 0))) (cs : List Value) (hm : Nat.min sLen dLen = m) (hn : cs.length = m * size)
    (hpos : 0 < m → dp = some ⟨g, off, none⟩ ∧ ∃ ad, sp = some ad ∧ ∀ j v, cs[j]? = some v → w.cell? (ad.add j) = some v)
    (hfit : off + cs.length ≤ cur.length) (h1 : ∀ v ∈ cs, v.oneCell' = true)
    (h : ∀ w', Hid (w'.heap[g]? = some (.cells (splice cur off cs).toArray t (0, 0))) → w.grownBy w' (some g) → K (a.put o.dst (goInt m)) w') : o.wp P a w K Q := by
  by_cases h0 : m = 0
  · subst h0
    obtain rfl : cs = [] := List.eq_nil_of_length_eq_zero (by simpa using hn)
    have hrun := run_copyK0 (P := P) w dT sT o.type elem dp sp dLen dCap sLen sCap size hu hsz hm
    unfold Oper.wp
    simp [execOp, ho, resolve, invoke, builtin, hd, hs, hrun, Result.andThen]
    exact h w (show _ = _ by simpa [splice] using hg) ⟨rfl, rfl, rfl, Nat.le_refl _, fun _ _ _ => rfl⟩
  · obtain ⟨rfl, ad, rfl, hsrc⟩ := hpos (by omega)
    have hrun := run_copyK (P := P) w dT sT o.type elem g off dLen dCap ad sLen sCap size m cur.toArray t cs hu hsz hg hm hn hsrc (by simpa using hfit) h1
    unfold Oper.wp
    simp [execOp, ho, resolve, invoke, builtin, hd, hs, hrun, Result.andThen]
    exact h _ (show _ = _ by simpa [splice] using setRow_heap w g _ _ t _ hg) (grown_setRow w g _)
theorem wpl_copyK {P : Program} {w : World} {ops : Array Oper} {rest : List Oper} {o : Oper} {a : Act} {Q : Exit → Act → World → Prop} (hgd : o.guard = none) (d s : Operand) (dT sT : TypeId)
    (ho : o.op = .call { callee := .builtin .copy, args := #[d, s], argTypes := #[dT, sT] }) (elem : TypeId) (size : Nat) (hu : P.underlying dT = some (.slice elem)) (hsz : (P.info? elem).map (·.size) = some size)
    {dp sp : Option Addr} {dLen dCap sLen sCap : Nat} (hd : a.eval d = .slice dp dLen dCap) (hs : a.eval s = .slice sp sLen sCap)
    (g off m : Nat) (cur : List Value) (t : TypeId) (hg : w.heap[g]? = some (.cells cur.toArray t (0, 0))) (cs : List Value) (hm : Nat.min sLen dLen = m) (hn : cs.length = m * size)
    (hpos : 0 < m → dp = some ⟨g, off, none⟩ ∧ ∃ ad, sp = some ad ∧ ∀ j v, cs[j]? = some v → w.cell? (ad.add j) = some v)
    (hfit : off + cs.length ≤ cur.length) (h1 : ∀ v ∈ cs, v.oneCell' = true)
    (h : ∀ w', Hid (w'.heap[g]? = some (.cells (splice cur off cs).toArray t (0, 0))) → w.grownBy w' (some g) → wpList P ops Q rest (a.put o.dst (goInt m)) w') : wpList P ops Q (o :: rest) a w :=
  wpList_plain hgd fun _ hK => op_copyK d s dT sT ho elem size hu hsz hd hs g off m cur t hg cs hm hn hpos hfit h1 fun w' a1 a2 => hK _ _ (h w' a1 a2)
theorem step_copyK {P : Program} {ops : Array Oper} {o : Oper} {a : Act} {w : World} {K : Act → World → Prop} {Q : Exit → Act → World → Prop} {E : Prop} (hgd : o.guard = none) (d s : Operand) (dT sT : TypeId)
    (ho : o.op = .call { callee := .builtin .copy, args := #[d, s], argTypes := #[dT, sT] }) (elem : TypeId) (size : Nat) (hu : P.underlying dT = some (.slice elem)) (hsz : (P.info? elem).map (·.size) = some size)
    {dp sp : Option Addr} {dLen dCap sLen sCap : Nat} (hd : a.eval d = .slice dp dLen dCap) (hs : a.eval s = .slice sp sLen sCap)
    (g off m : Nat) (cur : List Value) (t : TypeId) (hg : w.heap[g]? = some (.cells cur.toArray t (0, 0))) (cs : List Value) (hm : Nat.min sLen dLen = m) (hn : cs.length = m * size)
    (hpos : 0 < m → dp = some ⟨g, off, none⟩ ∧ ∃ ad, sp = some ad ∧ ∀ j v, cs[j]? = some v → w.cell? (ad.add j) = some v)
    (hfit : off + cs.length ≤ cur.length) (h1 : ∀ v ∈ cs, v.oneCell' = true)
    (h : ∀ w', Hid (w'.heap[g]? = some (.cells (splice cur off cs).toArray t (0, 0))) → w.grownBy w' (some g) → K (a.put o.dst (goInt m)) w') :
    if Region.wanted o (yielded ops a.tmps) = true then Oper.wp P o a w K Q else E := by
  have hw : Region.wanted o (yielded ops a.tmps) = true := by simp [Region.wanted, hgd]
  rw [if_pos hw]
  exact op_copyK d s dT sT ho elem size hu hsz hd hs g off m cur t hg cs hm hn hpos hfit h1 h
theorem splice_get {α : Type} (L : List α) (off : Nat) (cs : List α) (h : off + cs.length ≤ L.length) (j : Nat) : (splice L off cs)[j]? = if off ≤ j ∧ j < off + cs.length then cs[j - off]? else L[j]? := by
  unfold splice
  rw [List.getElem?_append, List.getElem?_append, List.length_take, Nat.min_eq_left (by omega)]
  by_cases h1 : j < off
  · rw [if_pos h1, if_neg (by omega), List.getElem?_take, if_pos h1]
  · rw [if_neg h1]
    by_cases h2 : j - off < cs.length
    · rw [if_pos h2, if_pos (by omega)]
    · rw [if_neg h2, if_neg (by omega), List.getElem?_drop]
      congr 1; omega
/-- The row behind an insertion in place. -/
theorem ins_room {α : Type} (cur X L : List α) (p c N : Nat) (hp : p ≤ N) (hX : X.length = c) (hL : cur.take N = L) (hN : N + c ≤ cur.length) :
    (splice (splice cur (p + c) (L.drop p)) p X).take (N + c) = L.take p ++ X ++ L.drop p := by
  have hLl : L.length = N := by rw [← hL, List.length_take]; omega
  have e1 : (splice cur (p + c) (L.drop p)).length = cur.length := length_splice _ _ _ (by rw [List.length_drop]; omega)
  apply List.ext_getElem?
  intro j
  rw [List.getElem?_take, splice_get _ _ _ (by omega), splice_get _ _ _ (by rw [List.length_drop]; omega)]
  rw [List.getElem?_append, List.getElem?_append, List.length_append, List.length_take, hX, List.length_drop, hLl, Nat.min_eq_left hp]
  have hc : ∀ i, i < N → cur[i]? = L[i]? := fun i hi => by rw [← hL, List.getElem?_take, if_pos hi]
  by_cases h1 : j < p
  · rw [if_pos (by omega), if_neg (by omega), if_neg (by omega), if_pos (by omega), if_pos h1, List.getElem?_take, if_pos h1, hc j (by omega)]
  · by_cases h2 : j < p + c
    · rw [if_pos (by omega), if_pos (by omega), if_pos (by omega), if_neg h1]
    · by_cases h3 : j < N + c
      · rw [if_pos h3, if_neg (by omega), if_pos (by omega), if_neg (by omega)]
      · rw [if_neg h3, if_neg (by omega), List.getElem?_eq_none (by rw [List.length_drop]; omega)]
/-- .. and in a new row. -/
theorem ins_grow {α : Type} (Z X L : List α) (p c N : Nat) (hp : p ≤ N) (hX : X.length = c) (hL : L.length = N) (hZ : N + c ≤ p + Z.length) :
    (splice (splice (L.take p ++ Z) p X) (p + c) (L.drop p)).take (N + c) = L.take p ++ X ++ L.drop p := by
  have e0 : (L.take p ++ Z).length = p + Z.length := by rw [List.length_append, List.length_take]; omega
  have e1 : (splice (L.take p ++ Z) p X).length = p + Z.length := by rw [length_splice _ _ _ (by omega), e0]
  apply List.ext_getElem?
  intro j
  have er : (L.take p ++ X ++ L.drop p)[j]? = if j < p + c then (if j < p then (L.take p)[j]? else X[j - p]?) else (L.drop p)[j - (p + c)]? := by
    rw [List.getElem?_append, List.getElem?_append, List.length_append, List.length_take, hX, hL, Nat.min_eq_left hp]
  have ez : j < p → (L.take p ++ Z)[j]? = (L.take p)[j]? := fun h => by rw [List.getElem?_append, List.length_take, Nat.min_eq_left (by omega), if_pos h]
  rw [er, List.getElem?_take, splice_get _ _ _ (by rw [List.length_drop]; omega), splice_get _ _ _ (by omega)]
  rw [hX, List.length_drop, hL]
  by_cases h1 : j < p
  · rw [if_pos (by omega), if_neg (by omega), if_neg (by omega), if_pos (by omega), if_pos h1, ez h1]
  · by_cases h2 : j < p + c
    · rw [if_pos (by omega), if_neg (by omega), if_pos (by omega), if_pos (by omega), if_neg h1]
    · by_cases h3 : j < N + c
      · rw [if_pos h3, if_pos (by omega), if_neg (by omega)]
      · rw [if_neg h3, if_neg (by omega), List.getElem?_eq_none (by rw [List.length_drop]; omega)]
end Go.Proofs.YtjaponmpfdpemaaGreatDoor

set_option linter.unusedVariables false
namespace Go.Proofs.YtjaponmpfdpemaaGreatDoor
open Go.RowKit

theorem sr_size : (Tryz.prog.info? 25).map (·.size) = some 13 := by kernel_rfl
theorem sr_sizeOf : ∀ w, (Go.sizeOf 25).run Tryz.prog w = .ok 13 w := fun w => by
  have h := sr_size
  cases hq : Tryz.prog.info? 25 with
  | none => simp [hq] at h
  | some i =>
    have hi : i.size = 13 := by simpa [hq] using h
    simp [Go.sizeOf, typeInfo, hq, hi]
theorem srover_any (w : World) (vb g : Nat) (offb : Nat) (lb cb : Nat) (X cur : Array Value) (hne : vb ≠ g) (hv : w.heap[vb]? = some (.cells X 25 (0, 0))) (hg : w.heap[g]? = some (.cells cur 25 (0, 0))) (hc : cur.size ≠ 0) :
    (callFunc 74 #[.slice (some ⟨vb, 0, none⟩) 1 1, .slice (some ⟨g, offb, none⟩) lb cb]).run Tryz.prog w = .ok (.value (.bool false)) w := by
  rw [run_callFunc_extern Tryz.func74 (by kernel_rfl) (by kernel_rfl) (by kernel_rfl) (e := Extern.SlicesOverlaps.overlaps #[27, 27] #[4]) (by kernel_rfl),
    Lib.run_overlaps_apart w 27 4 25 Tryz.underlying27 13 sr_sizeOf ⟨vb, 0, none⟩ ⟨g, offb, none⟩ 1 1 lb cb hne 25 25 X.size cur.size (by simp [World.shape?, hv]) (by simp [World.shape?, hg]) hc (by simp [World.frozen?, hv]) (by simp [World.frozen?, hv])]
  rfl

set_option maxRecDepth 100000 in
set_option maxHeartbeats 4000000 in
theorem srins_room (n k cap g vb : Nat) (cur X L : List Value) (w : World) (hk : k < n) (hroom : n + 1 ≤ cap) (hcm : cap ≤ maxLen) (hne : vb ≠ g)
    (hg : w.heap[g]? = some (.cells cur.toArray 25 (0, 0))) (hcur : cur.length = cap * 13) (hL : cur.take (n * 13) = L) (hv : w.heap[vb]? = some (.cells X.toArray 25 (0, 0))) (hX : X.length = 13)
    (h1 : ∀ u ∈ X, u.oneCell' = true) (h1L : ∀ u ∈ L, u.oneCell' = true) :
    Calls Tryz.prog 44 #[.slice (some ⟨g, 0, none⟩) n cap, .int .i64 (k : Int), .slice (some ⟨vb, 0, none⟩) 1 1] w fun e w' =>
      e = .returned (.slice (some ⟨g, 0, none⟩) (n + 1) cap) ∧ (∃ cur', w'.heap[g]? = some (.cells (List.toArray cur') 25 (0, 0)) ∧ cur'.length = cap * 13 ∧ cur'.take ((n + 1) * 13) = L.take (k * 13) ++ X ++ L.drop (k * 13)) ∧ w.grownBy w' (some g) := by
  have hLl : L.length = n * 13 := by rw [← hL, List.length_take]; omega
  have hov := fun ob lb cb => srover_any w vb g ob lb cb X.toArray cur.toArray hne hv hg (by rw [List.size_toArray]; omega)
  have hz2 : ¬ ((k : Int) = (n : Int)) := by omega
  have hw1 : IntKind.i64.wrap ((k : Int) + 1) = (k : Int) + 1 := by rw [IntKind.wrap_i64]; unfold maxLen at hcm; omega
  have hw2 : IntKind.i64.wrap ((n : Int) + 1) = (n : Int) + 1 := by rw [IntKind.wrap_i64]; unfold maxLen at hcm; omega
  have hb1 : (0 : Int) ≤ (k : Int) + 1 := by omega
  have hkn : (k : Int) ≤ (n : Int) := by omega
  have hin : k ≤ n := by omega
  have htn : ((k : Int) + 1).toNat = k + 1 := by omega
  have htm : ((n : Int) + 1).toNat = n + 1 := by omega
  have hb2 : ¬ (cap = k + 1) := by omega
  have hb4 : ¬ (cap = k) := by omega
  have hb3 : (k : Int) + 1 ≤ (n : Int) + 1 := by omega
  have hb5 : (k : Int) ≤ (n : Int) + 1 := by omega
  have hb6 : (n : Int) + 1 ≤ (cap : Int) := by omega
  have hb7 : ¬ ((cap : Int) < (n : Int) + 1) := by omega
  have hb8 : (0 : Int) ≤ (n : Int) + 1 := by omega
  have F1 := Lib.hid hg
  have F2 := Lib.hid hv
  have F3 := Lib.hid hcur
  have F4 := Lib.hid hL
  have F5 := Lib.hid h1
  have F6 := Lib.hid h1L
  have F7 := Lib.hid hX
  have F8 := Lib.hid hLl
  have F9 := Lib.hid hroom
  obtain ⟨D, hD⟩ : ∃ D, L.drop (k * 13) = D := ⟨_, rfl⟩
  have hDl : D.length = (n - k) * 13 := by rw [← hD, List.length_drop, hLl]; omega
  have hD1 : ∀ u ∈ D, u.oneCell' = true := fun u hu => h1L u (by rw [← hD] at hu; exact List.mem_of_mem_drop hu)
  have HS := Lib.hid (show ∀ j v, D[j]? = some v → w.cell? ⟨g, k * 13 + j, none⟩ = some v from fun j v hj => by
    rw [← hD, List.getElem?_drop] at hj
    have : cur[k * 13 + j]? = some v := by
      rw [← hL, List.getElem?_take] at hj
      split at hj
      · exact hj
      · cases hj
    rw [cell_of_row w g _ cur.toArray _ (0, 0) hg]
    simpa using this)
  have HS2 : Hid (∀ j v, D[j]? = some v → w.drew.cell? ((⟨g, k * 13, none⟩ : Addr).add j) = some v) := Lib.hid (fun j v hj => by rw [Addr.add_lit]; exact HS.out j v hj)
  have G1 := Lib.hid hD
  have G2 := Lib.hid hDl
  have G3 := Lib.hid hD1
  have hfit : (k + 1) * 13 + D.length ≤ cur.length := by rw [hDl, hcur]; omega
  replace hfit := Lib.hid hfit
  have hmin : Nat.min (n + 1 - k) (n + 1 - (k + 1)) = n - k := by simp only [Nat.min_def]; split <;> omega
  replace hmin := Lib.hid hmin
  clear hg hv hcur hL h1 h1L hX hLl hD hDl hD1
  go_enter Tryz.func44, Tryz.ntmps44
  go_wp2_with (simp only [hov])
  go_region_law (refine step_copyK rfl (.tmp 73) (.tmp 76) 27 27 rfl 25 13 Tryz.underlying27 sr_size (dp := some ⟨g, (k + 1) * 13, none⟩) (sp := some ⟨g, k * 13, none⟩) (dLen := n + 1 - (k + 1)) (dCap := cap - (k + 1)) (sLen := n + 1 - k) (sCap := cap - k) (by simp [Act.eval, Act.put]) (by simp [Act.eval, Act.put]) g ((k + 1) * 13) (n - k) cur 25 F1.out D hmin.out G2.out (fun _ => ⟨rfl, _, rfl, HS2.out⟩) hfit.out G3.out ?_; intro w4 hg4 gr4)
  have F2' : w4.heap[vb]? = some (.cells X.toArray 25 (0, 0)) := (gr4.block vb (by exact (Array.getElem?_eq_some_iff.1 F2.out).1) (by simp; omega)).trans F2.out
  have HX := Lib.hid (show ∀ j v, X[j]? = some v → w4.cell? ((⟨vb, 0, none⟩ : Addr).add j) = some v from fun j v hj => by
    rw [Addr.add_lit, cell_of_row w4 vb _ X.toArray _ (0, 0) F2']
    simpa using hj)
  have hm2 := Lib.hid (show Nat.min 1 (n + 1 - k) = 1 by simp only [Nat.min_def]; split <;> omega)
  have e1 := length_splice cur ((k + 1) * 13) D hfit.out
  have hfit2 := Lib.hid (show k * 13 + X.length ≤ (splice cur ((k + 1) * 13) D).length by rw [e1, F7.out, F3.out]; omega)
  have GR := Lib.hid gr4
  obtain ⟨C2, hC2⟩ : ∃ C2, splice cur ((k + 1) * 13) D = C2 := ⟨_, rfl⟩
  rw [hC2] at hg4 hfit2 e1
  replace hC2 := Lib.hid hC2
  replace e1 := Lib.hid e1
  clear F2' gr4
  go_wp2_with (refine wpl_copyK rfl (.tmp 80) (.tmp 81) 27 27 rfl 25 13 Tryz.underlying27 sr_size (dp := some ⟨g, k * 13, none⟩) (sp := some ⟨vb, 0, none⟩) (dLen := n + 1 - k) (dCap := cap - k) (sLen := 1) (sCap := 1) rfl rfl g (k * 13) 1 C2 25 hg4.out X hm2.out F7.out (fun _ => ⟨rfl, _, rfl, HX.out⟩) hfit2.out F5.out ?_; intro w5 hg5 gr5)
  go_ret
  refine ⟨by simp, ⟨_, hg5.out, ?_, ?_⟩, ?_⟩
  · rw [length_splice _ _ _ hfit2.out, e1.out, F3.out]
  · have h := ins_room cur X L (k * 13) 13 (n * 13) (by omega) F7.out F4.out (by rw [F3.out]; omega)
    rw [G1.out, show k * 13 + 13 = (k + 1) * 13 by omega, hC2.out, show n * 13 + 13 = (n + 1) * 13 by omega] at h
    rw [h, G1.out]
  · exact ⟨gr5.os.trans GR.out.os, gr5.tape.trans GR.out.tape, gr5.output.trans GR.out.output, Nat.le_trans GR.out.size gr5.size, fun j hj hne => (gr5.block j (Nat.lt_of_lt_of_le hj GR.out.size) hne).trans (GR.out.block j hj hne)⟩
end Go.Proofs.YtjaponmpfdpemaaGreatDoor

set_option linter.unusedVariables false
namespace Go.Proofs.YtjaponmpfdpemaaGreatDoor
open Go.RowKit

set_option maxRecDepth 100000 in
set_option maxHeartbeats 4000000 in
theorem srins_grow (n k cap g vb : Nat) (X L : List Value) (w : World) (hk : k < n) (hnc : n ≤ cap) (hroom : cap < n + 1) (hbig : n ≤ 1000) (hne : vb ≠ g)
    (hLl : L.length = n * 13) (hL : ∀ j v, L[j]? = some v → w.cell? ⟨g, j, none⟩ = some v) (hgw : g < w.heap.size) (hv : w.heap[vb]? = some (.cells X.toArray 25 (0, 0))) (hX : X.length = 13)
    (h1 : ∀ u ∈ X, u.oneCell' = true) (h1L : ∀ u ∈ L, u.oneCell' = true) :
    Calls Tryz.prog 44 #[.slice (some ⟨g, 0, none⟩) n cap, .int .i64 (k : Int), .slice (some ⟨vb, 0, none⟩) 1 1] w fun e w' => ∃ c',
      e = .returned (.slice (some ⟨w.heap.size, 0, none⟩) (n + 1) c') ∧ n + 1 ≤ c' ∧ c' ≤ maxLen ∧ (∃ cur', w'.heap[w.heap.size]? = some (.cells (List.toArray cur') 25 (0, 0)) ∧ cur'.length = c' * 13 ∧ cur'.take ((n + 1) * 13) = L.take (k * 13) ++ X ++ L.drop (k * 13)) ∧ Ext w w' := by
  obtain ⟨i0, hi0, hz0, hzs, hzb⟩ := row_sr.ex
  have hzc := row_sr.hz
  have hold : (Builtin.firstCells i0.size k (.slice (some ⟨g, 0, none⟩) k cap)).run Tryz.prog w.drew = .ok (L.take (k * 13)).toArray w.drew := by
    rw [hzs]
    exact run_firstCells_some w.drew 13 k ⟨g, 0, none⟩ k cap (L.take (k * 13)) (by rw [List.length_take]; omega) (fun j v hj => by
      rw [Addr.add_lit, Nat.zero_add]
      rw [List.getElem?_take] at hj
      split at hj
      · exact hL j v hj
      · cases hj)
  obtain ⟨G, hG⟩ : ∃ G, G = grownCap w (n + 1) cap 25 := ⟨_, rfl⟩
  obtain ⟨Z, hZ⟩ : ∃ Z : List Value, Z = (Builtin.zeroCells srZ.cells (n + 1 - k)).toList ++ (Builtin.zeroCells srZ.cells (G - (n + 1))).toList := ⟨_, rfl⟩
  have hrz : ∀ ty, (Builtin.append_ #[27, 3] ty #[.slice (some ⟨g, 0, none⟩) k cap, .int .i64 ((n : Int) + 1 - (k : Int))]).run Tryz.prog w =
      .ok (.slice (some ⟨w.heap.size, 0, none⟩) (n + 1) G) (w.drew.alloc (.cells (L.take (k * 13) ++ Z).toArray 25)) := fun ty => by
    have h := Lib.run_append_grow_zeros w 27 3 ty 25 i0 _ .i64 .i64 Tryz.underlying27 Tryz.underlying3 hi0 hz0 (some ⟨g, 0, none⟩) k cap (L.take (k * 13)) hold (n + 1 - k) (by omega) (by omega) (by omega) (by omega) (by rw [hzb]; omega) (by rw [hzb, show k + (n + 1 - k) = n + 1 by omega]; exact growslice_fits hroom (by omega))
    rw [show k + (n + 1 - k) = n + 1 by omega, ← hG] at h
    rw [show (n : Int) + 1 - (k : Int) = ((n + 1 - k : Nat) : Int) by omega, h, hZ]
    congr 3
    simp
  have hGn : n + 1 ≤ G := by rw [hG]; exact grownCap_ge w _ _ _
  have hGm : G ≤ maxLen := by rw [hG]; exact grownCap_le_maxLen w _ _ _ (by unfold maxLen; omega)
  have hZl : k * 13 + Z.length = G * 13 := by
    rw [hZ]
    simp [Builtin.zeroCells, hzc]
    omega
  have hz2 : ¬ ((k : Int) = (n : Int)) := by omega
  have hw1 : IntKind.i64.wrap ((k : Int) + 1) = (k : Int) + 1 := by rw [IntKind.wrap_i64]; omega
  have hw2 : IntKind.i64.wrap ((n : Int) + 1) = (n : Int) + 1 := by rw [IntKind.wrap_i64]; omega
  have hw3 : IntKind.i64.wrap ((n : Int) + 1 - (k : Int)) = (n : Int) + 1 - (k : Int) := by rw [IntKind.wrap_i64]; omega
  have hb1 : (0 : Int) ≤ (k : Int) + 1 := by omega
  have hkn : (k : Int) ≤ (n : Int) := by omega
  have hin : k ≤ n := by omega
  have htn : ((k : Int) + 1).toNat = k + 1 := by omega
  have hb2 : ¬ (G = k + 1) := by omega
  have hb4 : ¬ (G = k) := by omega
  have hb9 : ¬ (cap = k) := by omega
  have hb3 : (k : Int) + 1 ≤ (n : Int) + 1 := by omega
  have hb5 : (k : Int) ≤ (n : Int) + 1 := by omega
  have hb7 : (cap : Int) < (n : Int) + 1 := by omega
  have hkc : k ≤ cap := by omega
  have hki : (k : Int) ≤ (cap : Int) := by omega
  obtain ⟨N, hN⟩ : ∃ N, w.heap.size = N := ⟨_, rfl⟩
  obtain ⟨W1, hW1⟩ : ∃ W1, w.drew.alloc (.cells (L.take (k * 13) ++ Z).toArray 25) = W1 := ⟨_, rfl⟩
  rw [hW1] at hrz
  have X1 : Ext w W1 := by rw [← hW1]; exact (Ext.refl w).drew.alloc _
  have R1 : W1.heap[N]? = some (.cells (L.take (k * 13) ++ Z).toArray 25 (0, 0)) := by rw [← hW1, ← hN]; exact heap_alloc_new w.drew _
  have V1 : W1.heap[vb]? = some (.cells X.toArray 25 (0, 0)) := (X1.block vb (Array.getElem?_eq_some_iff.1 hv).1).trans hv
  have hvN : vb < N := by rw [← hN]; exact (Array.getElem?_eq_some_iff.1 hv).1
  rw [hN] at hrz ⊢
  have L1 : ∀ j v, L[j]? = some v → W1.cell? ⟨g, j, none⟩ = some v := fun j v hj => (X1.cell g j none hgw).trans (hL j v hj)
  have hHX := Lib.hid (show ∀ j v, X[j]? = some v → W1.cell? ((⟨vb, 0, none⟩ : Addr).add j) = some v from fun j v hj => by
    rw [Addr.add_lit, cell_of_row W1 vb _ X.toArray _ (0, 0) V1]
    simpa using hj)
  have hgN : g < N := by omega
  have hm2 := Lib.hid (show Nat.min 1 (n + 1 - k) = 1 by simp only [Nat.min_def]; split <;> omega)
  have hm1 := Lib.hid (show Nat.min (n - k) (n + 1 - (k + 1)) = n - k by simp only [Nat.min_def]; split <;> omega)
  obtain ⟨C1, hC1⟩ : ∃ C1, L.take (k * 13) ++ Z = C1 := ⟨_, rfl⟩
  have hC1l : C1.length = G * 13 := by rw [← hC1, List.length_append, List.length_take]; omega
  rw [hC1] at R1
  have hfit1 := Lib.hid (show k * 13 + X.length ≤ C1.length by rw [hC1l, hX]; omega)
  obtain ⟨D, hD⟩ : ∃ D, L.drop (k * 13) = D := ⟨_, rfl⟩
  have hDl : D.length = (n - k) * 13 := by rw [← hD, List.length_drop, hLl]; omega
  have hD1 := Lib.hid (show ∀ u ∈ D, u.oneCell' = true from fun u hu => h1L u (by rw [← hD] at hu; exact List.mem_of_mem_drop hu))
  have HS := Lib.hid (show ∀ j v, D[j]? = some v → W1.cell? ⟨g, k * 13 + j, none⟩ = some v from fun j v hj => by
    rw [← hD, List.getElem?_drop] at hj
    exact L1 _ v hj)
  have F1 := Lib.hid R1
  have F2 := Lib.hid X1
  have F3 := Lib.hid hC1l
  have F4 := Lib.hid hC1
  have F5 := Lib.hid h1
  have F7 := Lib.hid hX
  have F8 := Lib.hid hLl
  have G1 := Lib.hid hD
  have G2 := Lib.hid hDl
  have G4 := Lib.hid hZl
  have G5 := Lib.hid hGm
  have G6 := Lib.hid hN
  have G7 := Lib.hid hGn
  have G8 := Lib.hid hbig
  clear hold hG hZ hi0 hz0 hzs hzb hzc hW1 R1 X1 V1 hv L1 hL hgw hC1 hC1l hD hDl hLl hX h1 h1L hZl hN
  go_enter Tryz.func44, Tryz.ntmps44
  go_wp2_with (first
    | (at_builtin; refine Lib.wpList_append_run _ rfl _ _ _ _ rfl _ _ rfl rfl _ _ (hrz _) ?_)
    | (refine wpl_copyK rfl (.tmp 43) (.tmp 44) 27 27 rfl 25 13 Tryz.underlying27 sr_size (dp := some ⟨N, k * 13, none⟩) (sp := some ⟨vb, 0, none⟩) (dLen := n + 1 - k) (dCap := G - k) (sLen := 1) (sCap := 1) rfl rfl N (k * 13) 1 C1 25 F1.out X hm2.out F7.out (fun _ => ⟨rfl, _, rfl, hHX.out⟩) hfit1.out F5.out ?_; intro w3 hg3 gr3))
  have HS3 : Hid (∀ j v, D[j]? = some v → w3.drew.cell? ((⟨g, k * 13, none⟩ : Addr).add j) = some v) := Lib.hid (fun j v hj => by
    rw [Addr.add_lit]
    exact gr3.cell (HS.out j v hj) (by simp; omega))
  have e1 := length_splice C1 (k * 13) X hfit1.out
  have hfit2 := Lib.hid (show (k + 1) * 13 + D.length ≤ (splice C1 (k * 13) X).length by rw [e1, G2.out, F3.out]; have := G7.out; omega)
  have GR := Lib.hid gr3
  obtain ⟨C2, hC2⟩ : ∃ C2, splice C1 (k * 13) X = C2 := ⟨_, rfl⟩
  rw [hC2] at hg3 hfit2 e1
  replace hC2 := Lib.hid hC2
  replace e1 := Lib.hid e1
  clear gr3
  go_region_law (refine step_copyK rfl (.tmp 50) (.tmp 53) 27 27 rfl 25 13 Tryz.underlying27 sr_size (dp := some ⟨N, (k + 1) * 13, none⟩) (sp := some ⟨g, k * 13, none⟩) (dLen := n + 1 - (k + 1)) (dCap := G - (k + 1)) (sLen := n - k) (sCap := cap - k) (by simp [Act.eval, Act.put]) (by simp [Act.eval, Act.put]) N ((k + 1) * 13) (n - k) C2 25 hg3.out D hm1.out G2.out (fun _ => ⟨rfl, _, rfl, HS3.out⟩) hfit2.out hD1.out ?_; intro w4 hg4 gr4)
  go_wp2_with fail
  go_ret
  refine ⟨G, by simp, G7.out, G5.out, ⟨_, hg4.out, ?_, ?_⟩, ?_⟩
  · rw [length_splice _ _ _ hfit2.out, e1.out, F3.out]
  · have h := ins_grow Z X L (k * 13) 13 (n * 13) (by omega) F7.out F8.out (by have := G4.out; have := G7.out; omega)
    rw [F4.out, hC2.out, G1.out, show k * 13 + 13 = (k + 1) * 13 by omega, show n * 13 + 13 = (n + 1) * 13 by omega] at h
    rw [h, G1.out]
  · exact ((F2.out.grown GR.out (fun j e => by have := Option.some.inj e; have := G6.out; omega)).drew).grown gr4 (fun j e => by have := Option.some.inj e; have := G6.out; omega)
end Go.Proofs.YtjaponmpfdpemaaGreatDoor

set_option linter.unusedVariables false
namespace Go.Proofs.YtjaponmpfdpemaaGreatDoor
open Go.RowKit

theorem srCells_take (l : List Sr) (k : Nat) : srCells (l.take k) = (srCells l).take (k * 13) := by
  induction l generalizing k with
  | nil => simp [srCells]
  | cons s l ih =>
    cases k with
    | zero => simp [srCells]
    | succ k =>
      have := ih k
      unfold srCells at this ⊢
      rw [List.take_succ_cons, List.flatMap_cons, List.flatMap_cons, this, List.take_append, (List.take_of_length_le (by show 13 ≤ _; omega) : (srL s).take ((k + 1) * 13) = srL s), show (srL s).length = 13 from rfl, show (k + 1) * 13 - 13 = k * 13 by omega]
theorem srCells_drop (l : List Sr) (k : Nat) : srCells (l.drop k) = (srCells l).drop (k * 13) := by
  induction l generalizing k with
  | nil => simp [srCells]
  | cons s l ih =>
    cases k with
    | zero => simp [srCells]
    | succ k =>
      have := ih k
      unfold srCells at this ⊢
      rw [List.drop_succ_cons, List.flatMap_cons, this, List.drop_append, (List.drop_eq_nil_of_le (by show 13 ≤ _; omega) : (srL s).drop ((k + 1) * 13) = []), List.nil_append, show (srL s).length = 13 from rfl, show (k + 1) * 13 - 13 = k * 13 by omega]
theorem srCells_app (l m : List Sr) : srCells (l ++ m) = srCells l ++ srCells m := by simp [srCells]
theorem srCells_ins (l : List Sr) (x : Sr) (k : Nat) : srCells (l.take k ++ x :: l.drop k) = (srCells l).take (k * 13) ++ srL x ++ (srCells l).drop (k * 13) := by
  rw [srCells_app, srCells_take, show x :: l.drop k = [x] ++ l.drop k from rfl, srCells_app, srCells_drop, List.append_assoc]
  simp [srCells]
set_option maxRecDepth 100000 in
set_option maxHeartbeats 4000000 in
theorem srinsert_any (l : List Sr) (x : Sr) (k n : Nat) (hn : l.length = n) (hk : k ≤ n) (A : Option Addr) (cap : Nat) (w0 w : World) (ho : w.ownsRow w0.heap.size 25 13 (.slice A n cap) n (srCells l)) (hx : Ext w0 w) (hbig : n ≤ 999)
    (vb : Nat) (hv : w.heap[vb]? = some (.cells (srC x) 25 (0, 0))) (hne : (Value.slice A n cap).ownBlock ≠ some vb) :
    Calls Tryz.prog 44 #[.slice A n cap, .int .i64 (k : Int), .slice (some ⟨vb, 0, none⟩) 1 1] w fun e w' => ∃ A' c', e = .returned (.slice A' (n + 1) c') ∧ w'.ownsRow w0.heap.size 25 13 (.slice A' (n + 1) c') (n + 1) (srCells (l.take k ++ x :: l.drop k)) ∧ Ext w0 w' := by
  have h1x : ∀ u ∈ srL x, u.oneCell' = true := fun u hu => sr_one [x] u (by simpa [srCells] using hu)
  by_cases hkn : k = n
  · subst hkn
    have hl : l.take k ++ x :: l.drop k = l ++ [x] := by rw [List.take_of_length_le (by omega), List.drop_eq_nil_of_le (by omega)]
    rw [hl, srCells_app]
    have hR : Reads w w.heap.size 13 (some ⟨vb, 0, none⟩) 1 (srL x) := ⟨rfl, fun _ => ⟨vb, 0, rfl, (Array.getElem?_eq_some_iff.1 hv).1, fun j u hu => by
      rw [cell_of_row w vb _ (srC x) _ (0, 0) hv]
      simpa [srC, srL] using hu⟩⟩
    have hd : ((k : Int) == (k : Int)) = true := by simp
    have hki : (k : Int) ≤ (k : Int) := Int.le_refl _
    have HO := Lib.hid ho
    have HR := Lib.hid hR
    have HX := Lib.hid hx
    replace h1x := Lib.hid h1x
    clear ho hv hne hR hx hn hl
    go_enter Tryz.func44, Tryz.ntmps44
    go_wp2_with (at_builtin; refine wpl_app row_sr w0 w (.tmp 23) (.tmp 24) rfl rfl rfl HO.out HX.out rfl HR.out h1x.out (by omega) (by unfold maxLen; omega) ?_; intro v1 w1 hg; obtain ⟨A1, c1, rfl, _, _, _⟩ := own_slice hg.own)
    all_goals go_ret
    all_goals
      refine ⟨A1, c1, by simp, ?_, hg.ext⟩
      have := hg.own
      simpa [srCells] using this
  · have hlt : k < n := by omega
    rcases ho.2 with ⟨_, h0⟩ | ⟨g, cap', cur, e, hbg, hg, hnc, hcm, hcs, htake⟩
    · omega
    · simp only [Value.slice.injEq, true_and] at e
      obtain ⟨rfl, rfl⟩ := e
      have hnv : vb ≠ g := fun e => hne (by simp [Value.ownBlock, e])
      have hLl : (srCells l).length = n * 13 := ho.1
      by_cases hroom : n + 1 ≤ cap
      · refine (srins_room n k cap g vb cur.toList (srL x) (srCells l) w hlt hroom hcm hnv (by simpa using hg) (by simpa using hcs) htake hv rfl h1x (sr_one l)).mono ?_
        rintro e w' ⟨rfl, ⟨cur', hg', hl', ht'⟩, hgr⟩
        refine ⟨_, _, rfl, ⟨by rw [srCells_len]; simp; omega, .inr ⟨g, cap, cur'.toArray, rfl, hbg, hg', hroom, hcm, by simpa using hl', ?_⟩⟩, hx.grown hgr (fun j e => by have := Option.some.inj e; omega)⟩
        rw [srCells_ins, ← ht']
      · refine (srins_grow n k cap g vb (srL x) (srCells l) w hlt hnc (by omega) (by omega) hnv hLl (fun j v hj => by
          rw [ho.cellAt j (by have := (List.getElem?_eq_some_iff.1 hj).1; omega)]; exact hj) (Array.getElem?_eq_some_iff.1 hg).1 hv rfl h1x (sr_one l)).mono ?_
        rintro e w' ⟨c', rfl, hc1, hc2, ⟨cur', hg', hl', ht'⟩, hgr⟩
        refine ⟨_, _, rfl, ⟨by rw [srCells_len]; simp; omega, .inr ⟨w.heap.size, c', cur'.toArray, rfl, hx.size, hg', hc1, hc2, by simpa using hl', ?_⟩⟩, hx.trans hgr⟩
        rw [srCells_ins, ← ht']
end Go.Proofs.YtjaponmpfdpemaaGreatDoor
