/-
  Plain: the dues as the reference tells them.
-/
import Derived.Test.YtokakpbpenndlaaGreatDoorRt40
import Derived.Test.YtokakpbpenndlaaGreatDoorRt23
import Derived.Test.YtokakpbpenndlaaGreatDoorRt02
import Derived.StillTailTactics
import Derived.Laws.BytesArg
import Derived.Deep.QuietTactic
import Derived.IntWalk
import Derived.Outline
import Derived.Test.YtokakpbpenndlaaGreatDoorRt38
import Derived.Lib.ItoaLen
import Derived.Lib.AppendIntMem
set_option linter.unusedVariables false
namespace Go.Proofs.YtokakpbpenndlaaGreatDoor
open Go.Sort Go.Shelf

def tWP (l : List Int) (p : Int) : List Int := l.takeWhile fun q => decide (q < p)
def dWP (l : List Int) (p : Int) : List Int := l.dropWhile fun q => decide (q < p)
/-- A period put among others, in order, once. -/
def insP (l : List Int) (p : Int) : List Int := if (dWP l p).head? = some p then l else tWP l p ++ p :: dWP l p
theorem tdWP (l : List Int) (p : Int) : tWP l p ++ dWP l p = l := List.takeWhile_append_dropWhile
/-- Where it is put. -/
theorem tdWP_at {l : List Int} {p : Int} : ∀ {k : Nat}, k ≤ l.length → (∀ j (hj : j < l.length), j < k → l[j] < p) → (∀ hk : k < l.length, ¬ l[k] < p) → tWP l p = l.take k ∧ dWP l p = l.drop k := by
  induction l with
  | nil => intro k hk _ _; simp [tWP, dWP]
  | cons q l ih =>
    intro k hk h1 h2
    cases k with
    | zero =>
      have h := h2 (by simp)
      simp at h
      simp [tWP, dWP, show ¬ q < p by omega]
    | succ k =>
      have h := h1 0 (by simp) (by omega)
      simp at h
      obtain ⟨a, b⟩ := ih (k := k) (by simpa using hk) (fun j hj hjk => h1 (j + 1) (by simpa using hj) (by omega)) (fun hk => h2 (by simpa using hk))
      unfold tWP at a
      unfold dWP at b
      unfold tWP dWP
      simp [h, a, b]
theorem dWP_ge {l : List Int} {p : Int} (hs : l.Pairwise (· < ·)) : ∀ x ∈ dWP l p, p ≤ x := by
  induction l with
  | nil => intro x hx; simp [dWP] at hx
  | cons q l ih =>
    rw [List.pairwise_cons] at hs
    intro x hx
    unfold dWP at hx
    by_cases h : q < p
    · rw [List.dropWhile_cons_of_pos (by simpa using h)] at hx
      exact ih hs.2 x hx
    · rw [List.dropWhile_cons_of_neg (by simpa using h)] at hx
      rcases List.mem_cons.1 hx with rfl | hx
      · omega
      · have := hs.1 x hx; omega
theorem tWP_lt {l : List Int} {p : Int} : ∀ x ∈ tWP l p, x < p := by
  induction l with
  | nil => intro x hx; simp [tWP] at hx
  | cons q l ih =>
    intro x hx
    unfold tWP at hx
    by_cases h : q < p
    · rw [List.takeWhile_cons_of_pos (by simpa using h)] at hx
      rcases List.mem_cons.1 hx with rfl | hx
      · exact h
      · exact ih x hx
    · rw [List.takeWhile_cons_of_neg (by simpa using h)] at hx
      cases hx
theorem insP_mem {l : List Int} {p x : Int} : x ∈ insP l p ↔ x ∈ l ∨ x = p := by
  unfold insP
  by_cases h : (dWP l p).head? = some p
  · rw [if_pos h]
    constructor
    · exact .inl
    · rintro (h1 | rfl)
      · exact h1
      · rw [← tdWP l x]
        exact List.mem_append_right _ (List.mem_of_mem_head? h)
  · rw [if_neg h]
    constructor
    · intro hx
      rcases List.mem_append.1 hx with hx | hx
      · exact .inl (by rw [← tdWP l p]; exact List.mem_append_left _ hx)
      · rcases List.mem_cons.1 hx with hx | hx
        · exact .inr hx
        · exact .inl (by rw [← tdWP l p]; exact List.mem_append_right _ hx)
    · rintro (hx | rfl)
      · rw [← tdWP l p] at hx
        rcases List.mem_append.1 hx with hx | hx
        · exact List.mem_append_left _ hx
        · exact List.mem_append_right _ (List.mem_cons_of_mem _ hx)
      · exact List.mem_append_right _ (by simp)
theorem insP_lt {l : List Int} {p : Int} (hs : l.Pairwise (· < ·)) : (insP l p).Pairwise (· < ·) := by
  unfold insP
  by_cases h : (dWP l p).head? = some p
  · rw [if_pos h]; exact hs
  · rw [if_neg h]
    have hs2 := hs
    rw [← tdWP l p, List.pairwise_append] at hs2
    obtain ⟨a, b, c⟩ := hs2
    rw [List.pairwise_append]
    refine ⟨a, ?_, fun x hx y hy => ?_⟩
    · rw [List.pairwise_cons]
      refine ⟨fun y hy => ?_, b⟩
      have h1 := dWP_ge hs y hy
      rcases Int.lt_or_eq_of_le h1 with h2 | h2
      · exact h2
      · exfalso
        cases hd : dWP l p with
        | nil => rw [hd] at hy; cases hy
        | cons z r =>
          have hz : p ≤ z := dWP_ge hs z (by rw [hd]; simp)
          rw [hd] at hy b
          rw [List.pairwise_cons] at b
          rcases List.mem_cons.1 hy with rfl | hy
          · exact h (by rw [hd, h2]; rfl)
          · have := b.1 y hy; omega
    · have h1 := tWP_lt x hx
      rcases List.mem_cons.1 hy with rfl | hy
      · exact h1
      · have := dWP_ge hs y hy; omega
/-- The periods of moves. -/
noncomputable def perL (f : Int) (ms : List Mv) : List Int := ms.foldl (fun l m => insP l (ofI f m.day)) []
theorem perL_snoc (f : Int) (ms : List Mv) (m : Mv) : perL f (ms ++ [m]) = insP (perL f ms) (ofI f m.day) := by simp [perL, List.foldl_append]
theorem foldP_ok (f : Int) : ∀ (ms : List Mv) (l : List Int), l.Pairwise (· < ·) → (ms.foldl (fun l m => insP l (ofI f m.day)) l).Pairwise (· < ·) ∧ ∀ x, x ∈ ms.foldl (fun l m => insP l (ofI f m.day)) l ↔ x ∈ l ∨ ∃ m ∈ ms, x = ofI f m.day
  | [], l, hs => ⟨hs, fun x => by simp⟩
  | m :: ms, l, hs => by
    obtain ⟨a, b⟩ := foldP_ok f ms (insP l (ofI f m.day)) (insP_lt hs)
    refine ⟨a, fun x => ?_⟩
    rw [List.foldl_cons, b x, insP_mem]
    simp only [List.mem_cons]
    constructor
    · rintro ((h | h) | ⟨m', h, e⟩)
      · exact .inl h
      · exact .inr ⟨m, .inl rfl, h⟩
      · exact .inr ⟨m', .inr h, e⟩
    · rintro (h | ⟨m', rfl | h, e⟩)
      · exact .inl (.inl h)
      · exact .inl (.inr e)
      · exact .inr ⟨m', h, e⟩
/-- The dues, as the reference tells them. -/
noncomputable def Bk.dueR (B : Bk) (js : List Jur) : List (Int × Int) := js.flatMap fun j => (perL j.f (B.moves j.id)).map fun p => (j.id, p)
/-- Strictly rising lists of the same members are one. -/
theorem sorted_one {lt : Int × Int → Int × Int → Prop} (hir : ∀ x, ¬ lt x x) (has : ∀ x y, lt x y → lt y x → False) : ∀ {a b : List (Int × Int)}, a.Pairwise lt → b.Pairwise lt → (∀ x, x ∈ a ↔ x ∈ b) → a = b
  | [], [], _, _, _ => rfl
  | [], y :: b, _, _, h => absurd ((h y).2 (by simp)) (by simp)
  | x :: a, [], _, _, h => absurd ((h x).1 (by simp)) (by simp)
  | x :: a, y :: b, ha, hb, h => by
    rw [List.pairwise_cons] at ha hb
    have hxy : x = y := by
      rcases List.mem_cons.1 ((h x).1 (by simp)) with e | e
      · exact e
      · rcases List.mem_cons.1 ((h y).2 (by simp)) with e' | e'
        · exact e'.symm
        · exact absurd (hb.1 x e) (fun h1 => has _ _ h1 (ha.1 y e'))
    subst hxy
    congr 1
    refine sorted_one hir has ha.2 hb.2 fun z => ?_
    have hz := h z
    simp only [List.mem_cons] at hz
    constructor
    · intro h1
      rcases hz.1 (.inr h1) with e | e
      · subst e; exact absurd (ha.1 z h1) (hir z)
      · exact e
    · intro h1
      rcases hz.2 (.inr h1) with e | e
      · subst e; exact absurd (hb.1 z h1) (hir z)
      · exact e
theorem flat_lt : ∀ {js : List Jur} (g : Jur → List Int), (js.map Jur.id).Pairwise (· < ·) → (∀ j ∈ js, (g j).Pairwise (· < ·)) → (js.flatMap fun j => (g j).map fun p => (j.id, p)).Pairwise fun x y => ltDue x y = true
  | [], _, _, _ => .nil
  | j :: js, g, h1, h2 => by
    rw [List.map_cons, List.pairwise_cons] at h1
    rw [List.flatMap_cons, List.pairwise_append]
    refine ⟨?_, flat_lt g h1.2 fun k hk => h2 k (by simp [hk]), fun x hx y hy => ?_⟩
    · rw [List.pairwise_map]
      exact (h2 j (by simp)).imp fun {a b} hab => by unfold ltDue; simp; omega
    · obtain ⟨p, _, rfl⟩ := List.mem_map.1 hx
      obtain ⟨k, hk, hy⟩ := List.mem_flatMap.1 hy
      obtain ⟨q, _, rfl⟩ := List.mem_map.1 hy
      have := h1.1 k.id (List.mem_map_of_mem hk)
      unfold ltDue
      simp
      omega
theorem dueR_eq {B : Bk} {js : List Jur} {ss : List (Int × Int)} (hc : (checkJ js).1 = 0) (h : DueAll (B.dues js) ss) : B.dueR js = sortD ss := by
  have hD := dueOf hc h
  refine sorted_one (lt := fun x y => ltDue x y = true) (fun x => by unfold ltDue; simp) (fun x y h1 h2 => by unfold ltDue at h1 h2; simp at h1 h2; omega) (flat_lt (fun j => perL j.f (B.moves j.id)) (ids_rise hc) fun j _ => (foldP_ok j.f (B.moves j.id) [] .nil).1) hD.lt fun q => ?_
  rw [hD.mem q]
  unfold Bk.dueR
  simp only [List.mem_flatMap, List.mem_map]
  constructor
  · rintro ⟨j, hj, p, hp, rfl⟩
    rcases ((foldP_ok j.f (B.moves j.id) [] .nil).2 p).1 hp with h1 | ⟨m, hm, e⟩
    · cases h1
    · exact ⟨j, hj, m, hm, by rw [e]⟩
  · rintro ⟨j, hj, m, hm, rfl⟩
    exact ⟨j, hj, _, ((foldP_ok j.f (B.moves j.id) [] .nil).2 _).2 (.inr ⟨m, hm, rfl⟩), rfl⟩
end Go.Proofs.YtokakpbpenndlaaGreatDoor

set_option linter.unusedVariables false
namespace Go.Proofs.YtokakpbpenndlaaGreatDoor
open Go.RowKit

set_option maxRecDepth 100000 in
set_option maxHeartbeats 2000000 in
theorem rrcheck_any (r : Rep) (hk : i64 r.k) (w : World) : Calls Tryz.prog 18 #[r.V] w fun e w' => e = .returned (.int .i64 r.check) ∧ Ext w w' := by
  obtain ⟨j, k, p, t, x, v, s, b⟩ := r
  simp only at hk
  have X0 := (Ext.refl w).alloc (.cells #[.int .i64 j, .int .i64 k, .int .i64 p, .int .i64 t, .int .i64 x, .int .i64 v, .int .i64 s, .int .i64 b] 23)
  have B0 := Blk.new w 23 #[.int .i64 j, .int .i64 k, .int .i64 p, .int .i64 t, .int .i64 x, .int .i64 v, .int .i64 s, .int .i64 b]
  have HP := Lib.hid (pfirst_any k p hk)
  obtain ⟨C, hC⟩ : ∃ C, (⟨j, k, p, t, x, v, s, b⟩ : Rep).check = C := ⟨_, rfl⟩
  rw [hC]
  unfold Rep.check at hC
  simp only at hC
  obtain ⟨E, hE⟩ : ∃ E, perE k p = E := ⟨_, rfl⟩
  rw [hE] at hC HP
  replace hE := Lib.hid hE
  by_cases h0 : E = 0
  case neg =>
    rw [if_pos (.inl h0)] at hC
    have hb : (E != 0) = true := by simpa using h0
    subst hC
    clear h0
    go_enter Tryz.func18, Tryz.ntmps18
    go_wp2_with fail
    refine (HP.out _).mono ?_
    rintro e w1 ⟨n, rfl, hx⟩
    go_wp2_with fail
    go_ret
    exact ⟨rfl, X0.trans hx⟩
  have hb : (E != 0) = false := by simp [h0]
  by_cases hbad : j < 1 ∨ 1099511627775 < j ∨ s < 0 ∨ 2147483647 < s ∨ b < 0 ∨ 2147483647 < b
  · rw [if_pos (.inr hbad)] at hC
    subst hC
    replace h0 := Lib.hid h0
    rcases (show decide (j < 1) = true ∨ (decide (j < 1) = false ∧ decide (1099511627775 < j) = true) ∨ (decide (j < 1) = false ∧ decide (1099511627775 < j) = false ∧ decide (s < 0) = true) ∨ (decide (j < 1) = false ∧ decide (1099511627775 < j) = false ∧ decide (s < 0) = false ∧ decide (2147483647 < s) = true) ∨
      (decide (j < 1) = false ∧ decide (1099511627775 < j) = false ∧ decide (s < 0) = false ∧ decide (2147483647 < s) = false ∧ decide (b < 0) = true) ∨ (decide (j < 1) = false ∧ decide (1099511627775 < j) = false ∧ decide (s < 0) = false ∧ decide (2147483647 < s) = false ∧ decide (b < 0) = false ∧ decide (2147483647 < b) = true) by
      simp only [decide_eq_true_eq, decide_eq_false_iff_not]; omega) with h1 | ⟨h1, h2⟩ | ⟨h1, h2, h3⟩ | ⟨h1, h2, h3, h4⟩ | ⟨h1, h2, h3, h4, h5⟩ | ⟨h1, h2, h3, h4, h5, h6⟩
    all_goals
      clear hbad
      go_enter Tryz.func18, Tryz.ntmps18
      go_wp2_with fail
      refine (HP.out _).mono ?_
      rintro e w1 ⟨n, rfl, hx⟩
      have B1 := B0.ext hx
      obtain ⟨q, q'⟩ := B1.cells
      go_wp2_with fail
      go_ret
      exact ⟨rfl, X0.trans hx⟩
  · rw [if_neg (by omega)] at hC
    subst hC
    have h1 : decide (j < 1) = false := by simp; omega
    have h2 : decide (1099511627775 < j) = false := by simp; omega
    have h3 : decide (s < 0) = false := by simp; omega
    have h4 : decide (2147483647 < s) = false := by simp; omega
    have h5 : decide (b < 0) = false := by simp; omega
    have h6 : decide (2147483647 < b) = false := by simp; omega
    replace h0 := Lib.hid h0
    clear hbad
    go_enter Tryz.func18, Tryz.ntmps18
    go_wp2_with fail
    refine (HP.out _).mono ?_
    rintro e w1 ⟨n, rfl, hx⟩
    have B1 := B0.ext hx
    obtain ⟨q, q'⟩ := B1.cells
    go_wp2_with fail
    go_ret
    exact ⟨rfl, X0.trans hx⟩
abbrev fldsV (g : Nat) : Value := .agg #[.pointer (some ⟨g, 0, none⟩), .pointer (some ⟨g, 1, none⟩), .pointer (some ⟨g, 2, none⟩), .pointer (some ⟨g, 3, none⟩), .pointer (some ⟨g, 4, none⟩), .pointer (some ⟨g, 5, none⟩), .pointer (some ⟨g, 6, none⟩), .pointer (some ⟨g, 7, none⟩)]
theorem flds_at (g : Nat) : ∀ k : Nat, k < 8 → ∀ W, (Instr.index 88 (fldsV g) (.int .i64 (k : Int))).run Tryz.prog W = .ok (.pointer (some ⟨g, k, none⟩)) W
  | 0, _, _ => by kernel_rfl
  | 1, _, _ => by kernel_rfl
  | 2, _, _ => by kernel_rfl
  | 3, _, _ => by kernel_rfl
  | 4, _, _ => by kernel_rfl
  | 5, _, _ => by kernel_rfl
  | 6, _, _ => by kernel_rfl
  | 7, _, _ => by kernel_rfl
  | k + 8, h, _ => absurd h (by omega)
theorem ld_flds {w : World} {g : Nat} {a b c d e f i j : Value} (h : Blk w g 88 #[a, b, c, d, e, f, i, j]) : (loadVar 88 ⟨g, 0, none⟩).run Tryz.prog w = .ok (.agg #[a, b, c, d, e, f, i, j]) w := by
  have q := h.cell
  simp [go_sem, q]
set_option maxRecDepth 100000 in
set_option maxHeartbeats 400000 in
theorem rfields_any (g : Nat) (w : World) : Calls Tryz.prog 42 #[.pointer (some ⟨g, 0, none⟩)] w fun e w' => e = .returned (fldsV g) ∧ Ext w w' := by
  have X0 := (Ext.refl w).alloc (.cells #[.pointer none, .pointer none, .pointer none, .pointer none, .pointer none, .pointer none, .pointer none, .pointer none] 88)
  have B0 := Blk.new w 88 #[.pointer none, .pointer none, .pointer none, .pointer none, .pointer none, .pointer none, .pointer none, .pointer none]
  have hge := Nat.le_refl w.heap.size
  go_enter Tryz.func42, Tryz.ntmps42
  go_wp2_with fail
  generalize hg2 : w.heap.size = g2 at *
  generalize w.alloc (.cells #[.pointer none, .pointer none, .pointer none, .pointer none, .pointer none, .pointer none, .pointer none, .pointer none] 88) = W1 at *
  have hg3 : w.heap.size ≤ g2 := by omega
  replace hg2 := Lib.hid hg2
  obtain ⟨q, q'⟩ := B0.cells
  have lg := B0.lt
  go_still_tail 24, (by kernel_rfl)
  go_wp2_with fail
  exact bodyPost_ret (results_c rfl rfl (ld_flds (Blk.ext (put8 B0) (Ext.refl _).drew))) rfl ⟨rfl, (ext8 X0 hg3 _ _ _ _ _ _ _ _).drew⟩
end Go.Proofs.YtokakpbpenndlaaGreatDoor

set_option linter.unusedVariables false
namespace Go.Proofs.YtokakpbpenndlaaGreatDoor
open Go.RowKit

/-- A number below 10,000 in two digits. -/
def twoL (n : Int) : List UInt8 := [UInt8.ofNat (48 + n / 10 % 10).toNat, UInt8.ofNat (48 + n % 10).toNat]
set_option maxRecDepth 100000 in
theorem ptwo_any (n : Int) (hn : 0 ≤ n ∧ n ≤ 9999) (w : World) : Calls Tryz.prog 129 #[.int .i64 n] w fun e w' => e = .returned (.string ⟨(twoL n).toArray⟩) ∧ Ext w w' := by
  obtain ⟨n0, n1⟩ := hn
  have B := Blk.new w 5 #[.int .u8 (48 + n / 10 % 10), .int .u8 (48 + n % 10)]
  have hcv := run_convert_bytes_arg (P := Tryz.prog) (w.alloc (.cells #[.int .u8 (48 + n / 10 % 10), .int .u8 (48 + n % 10)] 5)) 24 5 Tryz.underlying24 Tryz.underlying5 w.heap.size 0 2 2 [48 + n / 10 % 10, 48 + n % 10] rfl (fun i hi => by
    rw [Nat.zero_add, B.cell]
    have : i = 0 ∨ i = 1 := by omega
    rcases this with rfl | rfl <;> rfl) 9 Tryz.underlying9
  clear B
  go_enter Tryz.func129, Tryz.ntmps129
  go_wp2_with fail
  go_ret
  exact ⟨by simp only [strOfNums, twoL, List.map, Array.getD]; rfl, (Ext.refl w).alloc _⟩
theorem ret_str {a b : ByteArray} (h : a = b) : Ending.returned (.string a) = .returned (.string b) := by rw [h]
/-- P4.2: a period's text (of a period that may be). -/
def perTextN (k m n : Int) : List UInt8 :=
  twoL ((m / 12 + 1) / 100) ++ twoL (m / 12 + 1) ++
    (if k = 1 then [45, 77] ++ twoL (m % 12 / n + 1) else if k = 2 then [45, 81] ++ (twoL (m % 12 / n + 1)).drop 1 else if k = 3 then [45, 72] ++ (twoL (m % 12 / n + 1)).drop 1 else [])
def perText (k p : Int) : List UInt8 := perTextN k (p * longI k) (longI k)
set_option maxRecDepth 100000 in
set_option maxHeartbeats 1000000 in
theorem pstring_any (k p : Int) (hk : i64 k) (h : perE k p = 0) (w : World) : Calls Tryz.prog 89 #[.agg #[.int .i64 k, .int .i64 p]] w fun e w' => e = .returned (.string ⟨(perText k p).toArray⟩) ∧ Ext w w' := by
  obtain ⟨hn, p0, p1, hs, h1, h2⟩ := span_ok h
  have hk4 : k = 1 ∨ k = 2 ∨ k = 3 ∨ k = 4 := by
    unfold perE longI at h
    by_cases e1 : k = 1
    · omega
    by_cases e2 : k = 2
    · omega
    by_cases e3 : k = 3
    · omega
    by_cases e4 : k = 4
    · omega
    rw [if_neg e1, if_neg e2, if_neg e3, if_neg e4, if_pos rfl] at h
    cases h
  have hs2 : (spanI k p).2 = longI k := by unfold spanI; rw [if_pos h]
  have HS := Lib.hid (pspan_any k p hk)
  rw [hs, hs2, h] at HS
  have HT := Lib.hid (show perText k p = perTextN k (p * longI k) (longI k) from rfl)
  have X0 := (Ext.refl w).alloc (.cells #[.int .i64 k, .int .i64 p] 161)
  generalize p * longI k = m at *
  clear hs hs2 h hn
  rcases hk4 with rfl | rfl | rfl | rfl
  · have HT2 := Lib.hid (HT.out.trans (show perTextN 1 m (longI 1) = twoL ((m / 12 + 1) / 100) ++ twoL (m / 12 + 1) ++ ([45, 77] ++ twoL (m % 12 + 1)) from by unfold perTextN; rw [show longI 1 = 1 from rfl, Int.ediv_one]; rfl))
    have HS2 := Lib.hid (show ∀ w, Calls Tryz.prog 88 #[.int .i64 1, .int .i64 p] w fun e w' => e = .returned (.tuple #[.int .i64 m, .int .i64 1, .int .i64 0]) ∧ Ext w w' from HS.out)
    have B0 := Blk.new w 161 #[.int .i64 1, .int .i64 p]
    have hy : 1 ≤ m / 12 + 1 ∧ m / 12 + 1 ≤ 9999 := by omega
    have ha : 1 ≤ m % 12 + 1 ∧ m % 12 + 1 ≤ 12 := by omega
    clear HT HS
    go_enter Tryz.func89, Tryz.ntmps89
    go_wp2_with fail
    refine (HS2.out _).mono ?_
    rintro e w1 ⟨rfl, hx⟩
    have X1 := X0.trans hx
    have B1 := B0.ext hx
    obtain ⟨q, q'⟩ := B1.cells
    go_wp2_with fail
    go_quiet (fail)
    generalize m / 12 + 1 = y at *
    generalize m % 12 + 1 = a at *
    obtain ⟨y1, y2⟩ := hy
    obtain ⟨a1, a2⟩ := ha
    go_wp2_with fail
    refine (ptwo_any (y / 100) (by omega) _).mono ?_
    rintro e w2 ⟨rfl, hx2⟩
    go_wp2_with fail
    refine (ptwo_any y (by omega) _).mono ?_
    rintro e w3 ⟨rfl, hx3⟩
    have X3 := ((X1.drewN _).trans hx2).trans hx3
    have B3 := ((B1.drewN _).ext hx2).ext hx3
    clear q q' B0 B1 X0 X1 hx hx2 hx3
    obtain ⟨q, q'⟩ := B3.cells
    go_wp2_with fail
    refine (ptwo_any a (by omega) _).mono ?_
    rintro e w4 ⟨rfl, hx4⟩
    have htl : (twoL a).length = 2 := rfl
    go_wp2_with fail
    go_ret
    exact ⟨ret_str (by rw [HT2.out]; apply ByteArray.ext; simp [ByteArray.data_append, twoL]), X3.trans hx4⟩
  · have HT2 := Lib.hid (HT.out.trans (show perTextN 2 m (longI 2) = twoL ((m / 12 + 1) / 100) ++ twoL (m / 12 + 1) ++ ([45, 81] ++ (twoL (m % 12 / 3 + 1)).drop 1) from rfl))
    have HS2 := Lib.hid (show ∀ w, Calls Tryz.prog 88 #[.int .i64 2, .int .i64 p] w fun e w' => e = .returned (.tuple #[.int .i64 m, .int .i64 3, .int .i64 0]) ∧ Ext w w' from HS.out)
    have B0 := Blk.new w 161 #[.int .i64 2, .int .i64 p]
    have hy : 1 ≤ m / 12 + 1 ∧ m / 12 + 1 ≤ 9999 := by omega
    have ha : 1 ≤ m % 12 / 3 + 1 ∧ m % 12 / 3 + 1 ≤ 12 := by omega
    clear HT HS
    go_enter Tryz.func89, Tryz.ntmps89
    go_wp2_with fail
    refine (HS2.out _).mono ?_
    rintro e w1 ⟨rfl, hx⟩
    have X1 := X0.trans hx
    have B1 := B0.ext hx
    obtain ⟨q, q'⟩ := B1.cells
    go_wp2_with fail
    go_quiet (fail)
    generalize m / 12 + 1 = y at *
    generalize m % 12 / 3 + 1 = a at *
    obtain ⟨y1, y2⟩ := hy
    obtain ⟨a1, a2⟩ := ha
    go_wp2_with fail
    refine (ptwo_any (y / 100) (by omega) _).mono ?_
    rintro e w2 ⟨rfl, hx2⟩
    go_wp2_with fail
    refine (ptwo_any y (by omega) _).mono ?_
    rintro e w3 ⟨rfl, hx3⟩
    have X3 := ((X1.drewN _).trans hx2).trans hx3
    have B3 := ((B1.drewN _).ext hx2).ext hx3
    clear q q' B0 B1 X0 X1 hx hx2 hx3
    obtain ⟨q, q'⟩ := B3.cells
    go_wp2_with fail
    refine (ptwo_any a (by omega) _).mono ?_
    rintro e w4 ⟨rfl, hx4⟩
    have htl : (twoL a).length = 2 := rfl
    go_wp2_with fail
    go_ret
    exact ⟨ret_str (by rw [HT2.out]; apply ByteArray.ext; simp [ByteArray.data_append, ByteArray.data_extract, twoL]), X3.trans hx4⟩
  · have HT2 := Lib.hid (HT.out.trans (show perTextN 3 m (longI 3) = twoL ((m / 12 + 1) / 100) ++ twoL (m / 12 + 1) ++ ([45, 72] ++ (twoL (m % 12 / 6 + 1)).drop 1) from rfl))
    have HS2 := Lib.hid (show ∀ w, Calls Tryz.prog 88 #[.int .i64 3, .int .i64 p] w fun e w' => e = .returned (.tuple #[.int .i64 m, .int .i64 6, .int .i64 0]) ∧ Ext w w' from HS.out)
    have B0 := Blk.new w 161 #[.int .i64 3, .int .i64 p]
    have hy : 1 ≤ m / 12 + 1 ∧ m / 12 + 1 ≤ 9999 := by omega
    have ha : 1 ≤ m % 12 / 6 + 1 ∧ m % 12 / 6 + 1 ≤ 12 := by omega
    clear HT HS
    go_enter Tryz.func89, Tryz.ntmps89
    go_wp2_with fail
    refine (HS2.out _).mono ?_
    rintro e w1 ⟨rfl, hx⟩
    have X1 := X0.trans hx
    have B1 := B0.ext hx
    obtain ⟨q, q'⟩ := B1.cells
    go_wp2_with fail
    go_quiet (fail)
    generalize m / 12 + 1 = y at *
    generalize m % 12 / 6 + 1 = a at *
    obtain ⟨y1, y2⟩ := hy
    obtain ⟨a1, a2⟩ := ha
    go_wp2_with fail
    refine (ptwo_any (y / 100) (by omega) _).mono ?_
    rintro e w2 ⟨rfl, hx2⟩
    go_wp2_with fail
    refine (ptwo_any y (by omega) _).mono ?_
    rintro e w3 ⟨rfl, hx3⟩
    have X3 := ((X1.drewN _).trans hx2).trans hx3
    have B3 := ((B1.drewN _).ext hx2).ext hx3
    clear q q' B0 B1 X0 X1 hx hx2 hx3
    obtain ⟨q, q'⟩ := B3.cells
    go_wp2_with fail
    refine (ptwo_any a (by omega) _).mono ?_
    rintro e w4 ⟨rfl, hx4⟩
    have htl : (twoL a).length = 2 := rfl
    go_wp2_with fail
    go_ret
    exact ⟨ret_str (by rw [HT2.out]; apply ByteArray.ext; simp [ByteArray.data_append, ByteArray.data_extract, twoL]), X3.trans hx4⟩
  · have HT2 := Lib.hid (HT.out.trans (show perTextN 4 m (longI 4) = twoL ((m / 12 + 1) / 100) ++ twoL (m / 12 + 1) ++ [] from rfl))
    have HS2 := Lib.hid (show ∀ w, Calls Tryz.prog 88 #[.int .i64 4, .int .i64 p] w fun e w' => e = .returned (.tuple #[.int .i64 m, .int .i64 12, .int .i64 0]) ∧ Ext w w' from HS.out)
    have B0 := Blk.new w 161 #[.int .i64 4, .int .i64 p]
    have hy : 1 ≤ m / 12 + 1 ∧ m / 12 + 1 ≤ 9999 := by omega
    have ha : 1 ≤ m % 12 / 12 + 1 ∧ m % 12 / 12 + 1 ≤ 12 := by omega
    clear HT HS
    go_enter Tryz.func89, Tryz.ntmps89
    go_wp2_with fail
    refine (HS2.out _).mono ?_
    rintro e w1 ⟨rfl, hx⟩
    have X1 := X0.trans hx
    have B1 := B0.ext hx
    obtain ⟨q, q'⟩ := B1.cells
    go_wp2_with fail
    go_quiet (fail)
    generalize m / 12 + 1 = y at *
    generalize m % 12 / 12 + 1 = a at *
    obtain ⟨y1, y2⟩ := hy
    obtain ⟨a1, a2⟩ := ha
    go_wp2_with fail
    refine (ptwo_any (y / 100) (by omega) _).mono ?_
    rintro e w2 ⟨rfl, hx2⟩
    go_wp2_with fail
    refine (ptwo_any y (by omega) _).mono ?_
    rintro e w3 ⟨rfl, hx3⟩
    have X3 := ((X1.drewN _).trans hx2).trans hx3
    have B3 := ((B1.drewN _).ext hx2).ext hx3
    clear q q' B0 B1 X0 X1 hx hx2 hx3
    obtain ⟨q, q'⟩ := B3.cells
    go_wp2_with fail
    go_ret
    exact ⟨ret_str (by rw [HT2.out]; apply ByteArray.ext; simp [ByteArray.data_append, twoL]), X3⟩
theorem ptext_any (k p : Int) (hk : i64 k) (h : perE k p = 0) (w : World) : Calls Tryz.prog 46 #[.int .i64 k, .int .i64 p] w fun e w' => e = .returned (.tuple #[.string ⟨(perText k p).toArray⟩, .int .i64 0]) ∧ Ext w w' := by
  have HS := Lib.hid (pspan_any k p hk)
  rw [h] at HS
  have HP := Lib.hid (pstring_any k p hk h)
  clear h
  go_enter Tryz.func46, Tryz.ntmps46
  go_wp2_with fail
  refine (HS.out _).mono ?_
  rintro e w1 ⟨rfl, hx⟩
  go_wp2_with fail
  refine (HP.out _).mono ?_
  rintro e w2 ⟨rfl, hx2⟩
  go_wp2_with fail
  go_ret2
  exact ⟨rfl, Ext.trans hx hx2⟩
end Go.Proofs.YtokakpbpenndlaaGreatDoor

set_option linter.unusedVariables false
namespace Go.Proofs.YtokakpbpenndlaaGreatDoor
open Go.RowKit

/-- The library's table of powers, as the program's text lays it. -/
def Tab10 (w : World) : Prop := Lib.TabIs Tryz.prog w "internal/strconv.uint64pow10" .u64 Lib.pow10Tab
theorem Tab10.ext {w w' : World} (h : Tab10 w) (hx : Ext w w') : Tab10 w' := Lib.tabBelow_of_tabIs h w' hx
theorem itoa_any (n : Int) (h : i64 n) (w : World) (ht : Tab10 w) : Calls Tryz.prog 47 #[.int .i64 n] w fun e w' => e = .returned (.string ⟨(Lib.itoa n).toArray⟩) ∧ Ext w w' := by
  refine (Tryz.strconv_Itoa n h.1 h.2 w ht).mono ?_
  rintro e w' ⟨rfl, k, os, rfl⟩
  exact ⟨rfl, Lib.below_grow _ w (Nat.le_refl _) k os⟩
theorem row_str : RowT Tryz.prog 95 9 1 16 (.string ByteArray.empty) := rowT_mk Tryz.underlying95 (by kernel_rfl) rfl (by decide)
def sV (l : List (List UInt8)) : List Value := l.map fun b => .string ⟨b.toArray⟩
/-- The texts of a report, the first k numbers gone through. -/
def repTexts (r : Rep) (k : Nat) : List (List UInt8) := [Lib.itoa r.j, perText r.k r.p] ++ ((r.ints.take k).drop 3).map Lib.itoa
/-- P30.2. -/
def Rep.text (r : Rep) : List UInt8 := Lib.join (repTexts r 8) [32]
structure Rep.i64s (r : Rep) : Prop where
  j : i64 r.j
  k : i64 r.k
  p : i64 r.p
  t : i64 r.t
  x : i64 r.x
  v : i64 r.v
  s : i64 r.s
  r : i64 r.r
theorem Rep.i64s.at_ {r : Rep} (h : r.i64s) : ∀ k (hk : k < r.ints.length), i64 r.ints[k]
  | 0, _ => h.j
  | 1, _ => h.k
  | 2, _ => h.p
  | 3, _ => h.t
  | 4, _ => h.x
  | 5, _ => h.v
  | 6, _ => h.s
  | 7, _ => h.r
  | k + 8, hk => absurd hk (by simp [Rep.ints])
theorem Rep.cs_at (r : Rep) : ∀ k (hk : k < r.ints.length), (#[.int .i64 r.j, .int .i64 r.k, .int .i64 r.p, .int .i64 r.t, .int .i64 r.x, .int .i64 r.v, .int .i64 r.s, .int .i64 r.r] : Array Value)[k]? = some (.int .i64 r.ints[k])
  | 0, _ => rfl
  | 1, _ => rfl
  | 2, _ => rfl
  | 3, _ => rfl
  | 4, _ => rfl
  | 5, _ => rfl
  | 6, _ => rfl
  | 7, _ => rfl
  | k + 8, hk => absurd hk (by simp [Rep.ints])
theorem repTexts_lo (r : Rep) {k : Nat} (h : k < 3) : repTexts r (k + 1) = repTexts r k := by
  unfold repTexts
  congr 2
  rw [List.drop_eq_nil_of_le (by simp; omega), List.drop_eq_nil_of_le (by simp; omega)]
theorem repTexts_hi (r : Rep) {k : Nat} (h : 3 ≤ k) (hk : k < r.ints.length) : repTexts r (k + 1) = repTexts r k ++ [Lib.itoa r.ints[k]] := by
  unfold repTexts
  rw [List.take_succ_eq_append_getElem hk, List.drop_append, List.map_append, List.append_assoc]
  congr 2
  have : 3 - (r.ints.take k).length = 0 := by simp; omega
  rw [this]
  rfl
theorem repTexts_len (r : Rep) (k : Nat) (h : k ≤ 8) : (repTexts r k).length = 2 + (k - 3) := by
  have : r.ints.length = 8 := rfl
  simp [repTexts]
  omega
/-- Where Text's loop stands. -/
def TxRel (w w5 : World) (g1 : Nat) (r : Rep) (v7 v29 : Value) (wr : World) : Prop :=
  ∃ k : Nat, k ≤ 8 ∧ v29 = .int .i64 (k : Int) ∧ wr.ownsRow w5.heap.size 9 1 v7 (repTexts r k).length (sV (repTexts r k)) ∧ Ext w5 wr
theorem TxRel.next {w w5 W : World} {g1 : Nat} {r : Rep} {k m : Nat} {v : Value} {n : Nat} {xs : List Value} (hk : k < 8) (hn : n = (repTexts r (k + 1)).length) (hxs : xs = sV (repTexts r (k + 1))) (ho : W.ownsRow w5.heap.size 9 1 v n xs) (hx : Ext w5 W) (e : m = k + 1) :
    TxRel w w5 g1 r v (.int .i64 (m : Int)) W := by
  subst e hn hxs
  exact ⟨k + 1, by omega, rfl, ho, hx⟩
theorem join_any (l : List (List UInt8)) (sep : List UInt8) (A : Option Addr) (c n : Nat) (w : World) (hn : l.length = n) (h0 : 0 < n) (h1 : n ≤ 1000) (hr : Reads w w.heap.size 1 A n (sV l)) (hc : n ≤ c) (hall : ∀ b ∈ l, b.length ≤ 1000) (hs : sep.length ≤ 1000) :
    Calls Tryz.prog 48 #[.slice A n c, .string ⟨sep.toArray⟩] w fun e w' => e = .returned (.string ⟨(Lib.join l sep).toArray⟩) ∧ Ext w w' := by
  subst hn
  have hm : (l.map fun b : List UInt8 => (⟨b.toArray⟩ : ByteArray)).map (·.data.toList) = l := by simp [Function.comp_def]
  have hlen : (l.map fun b : List UInt8 => (⟨b.toArray⟩ : ByteArray)).length = l.length := by simp
  obtain ⟨g, off, hA, hg, hcl⟩ := hr.cellAt h0
  subst hA
  have hL : (Lib.join l sep).length ≤ 140737488355328 := by
    have hle : ∀ l : List (List UInt8), (∀ b ∈ l, b.length ≤ 1000) → Lib.lens l ≤ 1000 * l.length := by
      intro l
      induction l with
      | nil => intro _; simp [Lib.lens]
      | cons b l ih =>
        intro h
        have h1 := h b (by simp)
        have h2 := ih fun x hx => h x (by simp [hx])
        simp only [Lib.lens, List.map_cons, List.sum_cons, List.length_cons] at h2 ⊢
        omega
    cases l with
    | nil => simp at h0
    | cons b l =>
      rw [Lib.join_length]
      have h2 := hle (b :: l) hall
      simp only [List.length_cons] at h1 h2
      have : sep.length * l.length ≤ 1000 * 1000 := Nat.mul_le_mul hs (by omega)
      omega
  have := Tryz.strings_Join g off c (l.map fun b : List UInt8 => (⟨b.toArray⟩ : ByteArray)) ⟨sep.toArray⟩ w (fun j x hx => by
    apply hcl
    rw [List.getElem?_map] at hx
    unfold sV
    rw [List.getElem?_map]
    cases hj : l[j]? with
    | none => rw [hj] at hx; cases hx
    | some b => rw [hj] at hx; simp only [Option.map] at hx ⊢; rw [← Option.some.inj hx]) hg (by rw [hlen]; omega) (by rw [hlen]; exact hc) (by rw [hm]; exact hL)
  rw [hm, hlen] at this
  exact this
def Rep.textO (r : Rep) : List UInt8 := if r.check = 0 then r.text else []
set_option maxRecDepth 100000 in
set_option maxHeartbeats 2000000 in
theorem rtext_any (r : Rep) (hi : r.i64s) (w : World) (ht : Tab10 w) : Calls Tryz.prog 14 #[r.V] w fun e w' => e = .returned (.tuple #[.string ⟨r.textO.toArray⟩, .int .i64 r.check]) ∧ Ext w w' := by
  have X0 := (Ext.refl w).alloc (.cells #[.int .i64 r.j, .int .i64 r.k, .int .i64 r.p, .int .i64 r.t, .int .i64 r.x, .int .i64 r.v, .int .i64 r.s, .int .i64 r.r] 23)
  have B0 := Blk.new w 23 #[.int .i64 r.j, .int .i64 r.k, .int .i64 r.p, .int .i64 r.t, .int .i64 r.x, .int .i64 r.v, .int .i64 r.s, .int .i64 r.r]
  have HT := Lib.hid (fun W (hx : Ext w W) => ht.ext hx)
  have HI := Lib.hid hi
  have HC := Lib.hid (rrcheck_any r hi.k)
  have hki := hi.k
  clear ht hi
  obtain ⟨C, hC⟩ : ∃ C, r.check = C := ⟨_, rfl⟩
  by_cases h0 : C = 0
  case neg =>
    have hb : (C != 0) = true := by simpa using h0
    have HO := Lib.hid (show r.textO = [] by unfold Rep.textO; rw [hC, if_neg h0])
    rw [hC] at HC ⊢
    replace hC := Lib.hid hC
    clear h0
    go_enter Tryz.func14, Tryz.ntmps14
    go_wp2_with fail
    refine (HC.out _).mono ?_
    rintro e w1 ⟨rfl, hx⟩
    go_wp2_with fail
    go_ret2
    exact ⟨by rw [HO.out]; rfl, X0.trans hx⟩
  subst h0
  have hpe := (Rep.bd hC).2.2.2.2.2
  have HO := Lib.hid (show r.textO = r.text by unfold Rep.textO; rw [if_pos hC])
  have HP := Lib.hid (ptext_any r.k r.p hki hpe)
  rw [hC] at HC ⊢
  replace hC := Lib.hid hC
  clear hpe
  obtain ⟨q, q'⟩ := B0.cells
  go_enter Tryz.func14, Tryz.ntmps14
  go_wp2_with fail
  refine (HC.out _).mono ?_
  rintro e w1 ⟨rfl, hx⟩
  have X1 := X0.trans hx
  have B1 := B0.ext hx
  clear q q' X0 B0 hx
  obtain ⟨q, q'⟩ := B1.cells
  go_wp2_with fail
  refine (HP.out _).mono ?_
  rintro e w2 ⟨rfl, hx⟩
  have X2 := X1.trans hx
  have B2 := B1.ext hx
  clear q q' X1 B1 hx
  obtain ⟨q, q'⟩ := B2.cells
  go_wp2_with fail
  refine (itoa_any r.j HI.out.j _ (HT.out _ X2)).mono ?_
  rintro e w3 ⟨rfl, hx⟩
  have X3 := X2.trans hx
  have B3 := B2.ext hx
  clear q q' X2 B2 hx
  obtain ⟨q, q'⟩ := B3.cells
  go_wp2_with fail
  have O4 := own_lit (Ext.refl w3) #[.string ⟨(Lib.itoa r.j).toArray⟩, .string ⟨(perText r.k r.p).toArray⟩] 9 2 1 rfl (by simp [maxLen]) rfl
  have X4 := (Ext.refl w3).alloc (.cells #[.string ⟨(Lib.itoa r.j).toArray⟩, .string ⟨(perText r.k r.p).toArray⟩] 9)
  generalize hg0 : w.heap.size = g1 at *
  generalize w3.alloc (.cells #[.string ⟨(Lib.itoa r.j).toArray⟩, .string ⟨(perText r.k r.p).toArray⟩] 9) = w4 at *
  clear q q'
  refine (rfields_any g1 _).mono ?_
  rintro e w5 ⟨rfl, hx⟩
  have H0 := Lib.hid (show TxRel w w3 g1 r (.slice (some ⟨w3.heap.size, 0, none⟩) 2 2) (.int .i64 ((0 : Nat) : Int)) w5 from ⟨0, by omega, rfl, own_ext O4 hx, X4.trans hx⟩)
  clear O4 X4 hx
  go_wp2_with fail
  go_loopw [7, 29] (fun v7 v29 wr => TxRel w w3 g1 r v7 v29 wr) (fun _ v29 _ => 8 - (intOf v29).toNat)
  case atStart => exact H0.out
  case round =>
    clear H0
    obtain ⟨k, hk, rfl, ho, hx⟩ := hrel
    have hl8 : r.ints.length = 8 := rfl
    by_cases hlt : k < 8
    · have hd : decide ((k : Int) < 8) = true := by simp; omega
      have hix := flds_at g1 k hlt
      have hc := ((B3.ext hx).cell k).trans (r.cs_at k (by omega))
      have hni := HI.out.at_ k (by omega)
      have hlen := repTexts_len r k (by omega)
      by_cases h3 : k < 3
      · have hd2 : decide ((2 : Int) < (k : Int)) = false := by simp; omega
        have HN := Lib.hid (TxRel.next (w := w) (g1 := g1) (m := k + 1) hlt (by rw [repTexts_lo r h3]) (by rw [repTexts_lo r h3]) ho hx rfl)
        clear ho hlen
        go_wp2_with fail
        go_roundw
        case rel => exact HN.out
        case measure => simp [intOf]; omega
      · have hd2 : decide ((2 : Int) < (k : Int)) = true := by simp; omega
        have hk8 : k < r.ints.length := by omega
        have hhi := repTexts_hi r (k := k) (by omega) hk8
        have HN := Lib.hid (fun (W : World) (v : Value) ho hx => TxRel.next (w := w) (w5 := w3) (W := W) (g1 := g1) (r := r) (m := k + 1) (v := v) (n := (repTexts r k).length + 1) (xs := sV (repTexts r k) ++ [.string ⟨(Lib.itoa (r.ints[k]'hk8)).toArray⟩]) hlt (by rw [hhi, List.length_append]; rfl) (by rw [hhi]; simp [sV]) ho hx rfl)
        replace hhi := Lib.hid hhi
        have hnl : (repTexts r k).length ≤ 100 := by omega
        replace hlen := Lib.hid hlen
        have HTW := Lib.hid (HT.out _ (X3.trans hx))
        have HO2 := Lib.hid ho
        have HX2 := Lib.hid hx
        generalize r.ints[k] = n at *
        obtain ⟨A7, c7, rfl, _, _, _⟩ := own_slice ho
        clear ho hx
        go_wp2_with (first
          | (go_at_call 47; refine (itoa_any n hni _ HTW.out).mono ?_; rintro e w6 ⟨rfl, hx6⟩; have HX6 := Lib.hid (HX2.out.trans hx6); have HO6 := Lib.hid (own_ext HO2.out hx6); clear hx6)
          | (at_builtin; refine wpl_app1 row_str w3 w6 (.tmp 35) (.tmp 40) rfl rfl rfl HO6.out HX6.out rfl rfl rfl (by simp [Value.oneCell']) (by omega) (by unfold maxLen; omega) ?_; intro v9 w9 hg9))
        go_roundw
        case rel => exact HN.out w9 _ hg9.own hg9.ext
        case measure => simp [intOf]; omega
    · have hk8 : k = 8 := by omega
      subst hk8
      obtain ⟨A7, c7, rfl, lc, _, hr7⟩ := own_slice ho
      have hlen := repTexts_len r 8 (by omega)
      have hall : ∀ b ∈ repTexts r 8, b.length ≤ 30 := by
        intro b hb
        unfold repTexts at hb
        rcases List.mem_append.1 hb with hb | hb
        · simp only [List.mem_cons, List.not_mem_nil, or_false] at hb
          rcases hb with rfl | rfl
          · have := Lib.itoa_length_le r.j HI.out.j.1 HI.out.j.2
            omega
          · have : (perText r.k r.p).length ≤ 8 := by
              unfold perText perTextN twoL
              repeat' split
              all_goals simp
            omega
        · obtain ⟨n, hn, rfl⟩ := List.mem_map.1 hb
          obtain ⟨i, h1, rfl⟩ := List.mem_iff_getElem.1 (List.mem_of_mem_take (List.mem_of_mem_drop hn))
          have := Lib.itoa_length_le _ (HI.out.at_ i h1).1 (HI.out.at_ i h1).2
          omega
      have hlp : (repTexts r 8).length = 7 := hlen
      rw [hlp] at hr7 lc ⊢
      have HJ := Lib.hid (join_any (repTexts r 8) [32] A7 c7 7 _ hlp (by omega) (by omega) hr7 lc (fun b hb => Nat.le_trans (hall b hb) (by omega)) (by simp))
      clear hall hr7 hlen hlp ho
      go_wp2_with fail
      refine HJ.out.mono ?_
      rintro e w6 ⟨rfl, hx6⟩
      go_wp2_with fail
      go_ret2
      exact ⟨by rw [HO.out]; rfl, (X3.trans hx).trans hx6⟩
end Go.Proofs.YtokakpbpenndlaaGreatDoor
