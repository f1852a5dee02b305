/-
  The reference's book in memory; At, sale, Voided, back.
-/
import Derived.Test.YtokakpbpenndlaaGreatDoorRt24
import Derived.Test.YtokakpbpenndlaaGreatDoorRt28
import Derived.Test.YtokakpbpenndlaaGreatDoorRt29
set_option linter.unusedVariables false
namespace Go.Proofs.YtokakpbpenndlaaGreatDoor
open Go.RowKit Go.Maps

/-- The place of a number; -1: it is not there. -/
def placeI : List Int → Int → Int
  | [], _ => -1
  | n :: l, id => if n = id then 0 else if placeI l id < 0 then -1 else placeI l id + 1
theorem placeI_none {l : List Int} {id : Int} (h : ∀ i (hi : i < l.length), l[i] ≠ id) : placeI l id = -1 := by
  induction l with
  | nil => rfl
  | cons j l ih =>
    have h0 : j ≠ id := h 0 (by simp)
    have a := ih fun i hi => h (i + 1) (by simpa using hi)
    unfold placeI
    rw [if_neg h0, a]
    rfl
theorem placeI_at {l : List Int} {id : Int} {k : Nat} (hk : k < l.length) (h : ∀ i (hi : i < l.length), i < k → l[i] ≠ id) (hi : l[k] = id) : placeI l id = (k : Int) := by
  induction l generalizing k with
  | nil => simp at hk
  | cons j l ih =>
    cases k with
    | zero =>
      have h0 : j = id := hi
      unfold placeI
      rw [if_pos h0]
      rfl
    | succ k =>
      have h0 : j ≠ id := h 0 (by simp) (by omega)
      have a := ih (k := k) (by simpa using hk) (fun i hi2 hik => h (i + 1) (by simpa using hi2) (by omega)) (by simpa using hi)
      unfold placeI
      rw [if_neg h0, a, if_neg (by omega)]
      omega
/-- Where an entry is found in a book. -/
theorem find_cases (B : Bk) (id : Int) : (placeI B.ids id = -1 ∧ B.find id = none) ∨ ∃ k, ∃ h : k < B.length, placeI B.ids id = (k : Int) ∧ B.find id = some B[k] ∧ B[k].e.id = id := by
  induction B with
  | nil => exact .inl ⟨rfl, rfl⟩
  | cons x l ih =>
    by_cases h0 : x.e.id = id
    · refine .inr ⟨0, by simp, ?_, ?_, h0⟩
      · show placeI (x.e.id :: Bk.ids l) id = _
        unfold placeI
        rw [if_pos h0]
        rfl
      · unfold Bk.find
        rw [List.find?_cons]
        simp [h0]
    · rcases ih with ⟨a, b⟩ | ⟨k, hk, a, b, c⟩
      · refine .inl ⟨?_, ?_⟩
        · show placeI (x.e.id :: Bk.ids l) id = _
          unfold placeI
          rw [if_neg h0, a]
          rfl
        · unfold Bk.find at b ⊢
          rw [List.find?_cons]
          simp [h0, b]
      · refine .inr ⟨k + 1, by simpa using hk, ?_, ?_, by simpa using c⟩
        · show placeI (x.e.id :: Bk.ids l) id = _
          unfold placeI
          rw [if_neg h0, a, if_neg (by omega)]
          omega
        · unfold Bk.find at b ⊢
          rw [List.find?_cons]
          simp [h0, b]
/-- An entry of the reference's book, and its two slices. -/
structure RE where
  e : Ent
  va : Value
  vt : Value
def RE.cl (x : RE) : List Value := [.int .i64 x.e.k, .int .i64 x.e.id, .int .i64 x.e.of_, .int .i64 x.e.day, x.va, x.vt]
theorem RE.cl_len (x : RE) : x.cl.length = 6 := rfl
def reCells (l : List RE) : List Value := l.flatMap RE.cl
theorem reCells_at (l : List RE) (k : Nat) (h : k < l.length) : (reCells l)[k * 6]? = some (.int .i64 l[k].e.k) ∧ (reCells l)[k * 6 + 1]? = some (.int .i64 l[k].e.id) ∧ (reCells l)[k * 6 + 2]? = some (.int .i64 l[k].e.of_) ∧
    (reCells l)[k * 6 + 3]? = some (.int .i64 l[k].e.day) ∧ (reCells l)[k * 6 + 4]? = some l[k].va ∧ (reCells l)[k * 6 + 5]? = some l[k].vt :=
  ⟨flat_get RE.cl_len l k 0 h (by decide), flat_get RE.cl_len l k 1 h (by decide), flat_get RE.cl_len l k 2 h (by decide), flat_get RE.cl_len l k 3 h (by decide), flat_get RE.cl_len l k 4 h (by decide), flat_get RE.cl_len l k 5 h (by decide)⟩
/-- The reference's book in memory. -/
structure RBook (w0 W : World) (rb : Nat) (v : Value) (R : List RE) : Prop where
  blk : Blk W rb 46 #[v]
  row : W.ownsRow w0.heap.size 52 6 v R.length (reCells R)
  oa : ∀ x ∈ R, W.ownsRow w0.heap.size 3 1 x.va x.e.am.length (iV x.e.am)
  ot : ∀ x ∈ R, W.ownsRow w0.heap.size 117 6 x.vt x.e.tax.length (txCells x.e.tax)
  ge : w0.heap.size ≤ rb
theorem RBook.to {w0 W W' : World} {rb : Nat} {v : Value} {R : List RE} (h : RBook w0 W rb v R) (hx : Ext W W') : RBook w0 W' rb v R :=
  ⟨h.blk.ext hx, own_ext h.row hx, fun x hm => own_ext (h.oa x hm) hx, fun x hm => own_ext (h.ot x hm) hx, h.ge⟩
/-- What the book is. -/
structure RP (R : List RE) (B : Bk) : Prop where
  e : R.map RE.e = B.map Kp.e
  ri : B.ri
  ok : ∀ x ∈ B, x.ok
  nodup : B.ids.Nodup
theorem RP.len {R : List RE} {B : Bk} (h : RP R B) : R.length = B.length := by have := congrArg List.length h.e; simpa using this
theorem RP.at_ {R : List RE} {B : Bk} (h : RP R B) {k : Nat} (hk : k < R.length) (hk' : k < B.length) : R[k].e = B[k].e := by
  have : (R.map RE.e)[k]? = (B.map Kp.e)[k]? := by rw [h.e]
  simpa [hk, hk'] using this
theorem RP.ids {R : List RE} {B : Bk} (h : RP R B) : R.map (fun x => x.e.id) = B.ids := by
  have : (R.map RE.e).map Ent.id = (B.map Kp.e).map Ent.id := by rw [h.e]
  simpa [Bk.ids, Function.comp_def] using this
/-- An entry's cells. -/
structure REAt (W : World) (R : List RE) (k : Nat) (hk : k < R.length) (g off : Nat) : Prop where
  lt : g < W.heap.size
  c0 : W.cell? ⟨g, off + k * 6, none⟩ = some (.int .i64 R[k].e.k)
  c1 : W.cell? ⟨g, off + k * 6 + 1, none⟩ = some (.int .i64 R[k].e.id)
  c2 : W.cell? ⟨g, off + k * 6 + 2, none⟩ = some (.int .i64 R[k].e.of_)
  c3 : W.cell? ⟨g, off + k * 6 + 3, none⟩ = some (.int .i64 R[k].e.day)
  c4 : W.cell? ⟨g, off + k * 6 + 4, none⟩ = some R[k].va
  c5 : W.cell? ⟨g, off + k * 6 + 5, none⟩ = some R[k].vt
theorem RBook.sl {w0 W : World} {rb : Nat} {v : Value} {R : List RE} (h : RBook w0 W rb v R) : ∃ A c, v = .slice A R.length c ∧ R.length ≤ maxLen ∧ ∀ k (hk : k < R.length), ∃ g off, A = some ⟨g, off, none⟩ ∧ REAt W R k hk g off := by
  obtain ⟨A, c, rfl, l, m, rr⟩ := own_slice h.row
  refine ⟨A, c, rfl, Nat.le_trans l m, fun k hk => ?_⟩
  obtain ⟨g, off, rfl, hg, hc⟩ := rr.cellAt hk
  obtain ⟨e0, e1, e2, e3, e4, e5⟩ := reCells_at R k hk
  exact ⟨g, off, rfl, hg, hc _ _ e0, hc _ _ e1, hc _ _ e2, hc _ _ e3, hc _ _ e4, hc _ _ e5⟩

def AtRel (W : World) (n : Nat) (P : Nat → Prop) (i : Value) (wr : World) : Prop := ∃ k : Nat, k ≤ n ∧ i = .int .i64 (k : Int) ∧ (∀ j, j < k → P j) ∧ W = wr
theorem AtRel.next {W : World} {n k m : Nat} {P : Nat → Prop} (hk : k < n) (hP : ∀ j, j < k → P j) (h : P k) (e : m = k + 1) : AtRel W n P (.int .i64 (m : Int)) W := by
  subst e
  exact ⟨k + 1, by omega, rfl, fun j hj => by
    by_cases e : j = k
    · rw [e]; exact h
    · exact hP j (by omega), rfl⟩
set_option maxRecDepth 100000 in
set_option maxHeartbeats 1000000 in
theorem rat29_any {w0 W : World} {rb : Nat} {v : Value} {R : List RE} (h : RBook w0 W rb v R) (id : Int) :
    Calls Tryz.prog 65 #[.pointer (some ⟨rb, 0, none⟩), .int .i64 id] W fun r w' => r = .returned (.int .i64 (placeI (R.map fun x => x.e.id) id)) ∧ W = w' := by
  obtain ⟨q, q'⟩ := h.blk.cells
  have lb := h.blk.lt
  obtain ⟨A, c, rfl, hm, HS⟩ := h.sl
  replace HS := Lib.hid HS
  unfold maxLen at hm
  clear h
  obtain ⟨T, hT⟩ : ∃ T, placeI (R.map fun x => x.e.id) id = T := ⟨_, rfl⟩
  rw [hT]
  replace hT := Lib.hid hT
  go_enter Tryz.func65, Tryz.ntmps65
  go_wp2_with fail
  go_loopw [5] (fun i wr => AtRel W R.length (fun j => ∀ hj : j < R.length, R[j].e.id ≠ id) i wr) (fun i _ => R.length - (intOf i).toNat)
  case atStart => exact ⟨0, by omega, rfl, fun j hj => by omega, rfl⟩
  case round =>
    obtain ⟨k, hk, rfl, hP, rfl⟩ := hrel
    by_cases hlt : k < R.length
    · have hd : decide ((k : Int) < (R.length : Int)) = true := by simp; omega
      obtain ⟨g, off, rfl, H⟩ := HS.out k hlt
      have kl : (k : Int) < (R.length : Int) := by omega
      have kz : (0 : Int) ≤ (k : Int) := by omega
      have hgl := H.lt
      have c1 := H.c1
      have HI := Lib.hid (fun (h : R[k].e.id = id) => (show T = (k : Int) from by
        rw [← hT.out]
        exact placeI_at (by simpa using hlt) (fun i hi hik => by rw [List.getElem_map]; exact hP i hik (by simpa using hi)) (by simpa using h)))
      have HN := Lib.hid (fun (h : R[k].e.id ≠ id) => AtRel.next (W := W) (P := fun j => ∀ hj : j < R.length, R[j].e.id ≠ id) (m := k + 1) hlt hP (fun _ => h) rfl)
      clear hP H
      generalize R[k].e.id = x at *
      by_cases hi : x = id
      · have HI2 := Lib.hid (HI.out hi)
        have hb : (x == id) = true := by simpa using hi
        clear HI HN hi
        go_wp2_with fail
        go_ret
        exact ⟨by rw [HI2.out]; rfl, rfl⟩
      · have HN2 := Lib.hid (HN.out hi)
        have hb : (x == id) = false := by simpa using hi
        clear HI HN hi
        go_wp2_with fail
        go_roundw
        case rel => exact HN2.out
        case measure => simp [intOf]; omega
    · have hd : decide ((k : Int) < (R.length : Int)) = false := by simp; omega
      have HA := Lib.hid (show T = -1 from by
        rw [← hT.out]
        exact placeI_none fun i hi => by rw [List.getElem_map]; exact hP i (by simp at hi; omega) (by simpa using hi))
      clear hP
      go_wp2_with fail
      go_ret
      exact ⟨by rw [HA.out]; rfl, rfl⟩
theorem RBook.at_ {w0 W : World} {rb : Nat} {v : Value} {R : List RE} {B : Bk} (h : RBook w0 W rb v R) (hp : RP R B) (id : Int) :
    Calls Tryz.prog 65 #[.pointer (some ⟨rb, 0, none⟩), .int .i64 id] W fun r w' => r = .returned (.int .i64 (placeI B.ids id)) ∧ W = w' := by
  rw [← hp.ids]
  exact rat29_any h id
set_option maxRecDepth 100000 in
set_option maxHeartbeats 1000000 in
theorem rsale29_any {w0 W : World} {rb : Nat} {v : Value} {R : List RE} {B : Bk} (h : RBook w0 W rb v R) (hp : RP R B) (id : Int) :
    Calls Tryz.prog 107 #[.pointer (some ⟨rb, 0, none⟩), .int .i64 id] W fun r w' => r = .returned (.bool (B.sale id).isSome) ∧ W = w' := by
  obtain ⟨q, q'⟩ := h.blk.cells
  have lb := h.blk.lt
  have HC := Lib.hid (h.at_ hp id)
  obtain ⟨A, c, rfl, hm, HS⟩ := h.sl
  replace HS := Lib.hid HS
  unfold maxLen at hm
  clear h
  rcases find_cases B id with ⟨a, b⟩ | ⟨k, hk, a, b, _⟩
  · have HE := Lib.hid (show (B.sale id).isSome = false by unfold Bk.sale; rw [b]; rfl)
    rw [a] at HC
    clear a b
    go_enter Tryz.func107, Tryz.ntmps107
    go_wp2_with fail
    refine HC.out.mono ?_
    rintro e w1 ⟨rfl, rfl⟩
    go_wp2_with fail
    go_ret
    exact ⟨by rw [HE.out]; rfl, rfl⟩
  · have hkR : k < R.length := by rw [hp.len]; exact hk
    have HE := Lib.hid (show (B.sale id).isSome = decide (B[k].e.k = 1) by unfold Bk.sale; rw [b]; cases hq : decide (B[k].e.k = 1) <;> simp [Option.filter, hq])
    rw [a] at HC
    obtain ⟨g, off, rfl, H⟩ := HS.out k hkR
    have kl : (k : Int) < (R.length : Int) := by omega
    have kz : (0 : Int) ≤ (k : Int) := by omega
    have hgl := H.lt
    have c0 := H.c0
    rw [hp.at_ hkR hk] at c0
    have kd : decide ((k : Int) ≥ 0) = true := by simp
    clear a b H
    generalize B[k].e.k = x at *
    go_enter Tryz.func107, Tryz.ntmps107
    go_wp2_with fail
    refine HC.out.mono ?_
    rintro e w1 ⟨rfl, rfl⟩
    by_cases h1 : x = 1
    · have hb : (x == 1) = true := by simpa using h1
      have HE2 := Lib.hid (HE.out.trans (decide_eq_true h1))
      clear HE h1
      go_wp2_with fail
      go_ret
      exact ⟨by rw [HE2.out]; rfl, rfl⟩
    · have hb : (x == 1) = false := by simpa using h1
      have HE2 := Lib.hid (HE.out.trans (decide_eq_false h1))
      clear HE h1
      go_wp2_with fail
      go_ret
      exact ⟨by rw [HE2.out]; rfl, rfl⟩
set_option maxRecDepth 100000 in
set_option maxHeartbeats 1000000 in
theorem rvoided29_any {w0 W : World} {rb : Nat} {v : Value} {R : List RE} (h : RBook w0 W rb v R) (id : Int) :
    Calls Tryz.prog 109 #[.pointer (some ⟨rb, 0, none⟩), .int .i64 id] W fun r w' => r = .returned (.bool (R.any fun x => decide (x.e.k = 3 ∧ x.e.of_ = id))) ∧ W = w' := by
  obtain ⟨q, q'⟩ := h.blk.cells
  have lb := h.blk.lt
  obtain ⟨A, c, rfl, hm, HS⟩ := h.sl
  replace HS := Lib.hid HS
  unfold maxLen at hm
  clear h
  obtain ⟨T, hT⟩ : ∃ T, (R.any fun x => decide (x.e.k = 3 ∧ x.e.of_ = id)) = T := ⟨_, rfl⟩
  rw [hT]
  replace hT := Lib.hid hT
  go_enter Tryz.func109, Tryz.ntmps109
  go_wp2_with fail
  go_loopw [5] (fun i wr => AtRel W R.length (fun j => ∀ hj : j < R.length, ¬ (R[j].e.k = 3 ∧ R[j].e.of_ = id)) i wr) (fun i _ => R.length - (intOf i).toNat)
  case atStart => exact ⟨0, by omega, rfl, fun j hj => by omega, rfl⟩
  case round =>
    obtain ⟨k, hk, rfl, hP, rfl⟩ := hrel
    by_cases hlt : k < R.length
    · have hd : decide ((k : Int) < (R.length : Int)) = true := by simp; omega
      obtain ⟨g, off, rfl, H⟩ := HS.out k hlt
      have kl : (k : Int) < (R.length : Int) := by omega
      have kz : (0 : Int) ≤ (k : Int) := by omega
      have hgl := H.lt
      have c0 := H.c0
      have c2 := H.c2
      have HI := Lib.hid (fun (h : R[k].e.k = 3 ∧ R[k].e.of_ = id) => (show T = true from by
        rw [← hT.out, List.any_eq_true]
        exact ⟨_, List.getElem_mem hlt, decide_eq_true h⟩))
      have HN := Lib.hid (fun (h : ¬ (R[k].e.k = 3 ∧ R[k].e.of_ = id)) => AtRel.next (W := W) (P := fun j => ∀ hj : j < R.length, ¬ (R[j].e.k = 3 ∧ R[j].e.of_ = id)) (m := k + 1) hlt hP (fun _ => h) rfl)
      clear hP H
      generalize R[k].e.k = x at *
      generalize R[k].e.of_ = y at *
      by_cases h3 : x = 3
      · have b3 : (x == 3) = true := by simpa using h3
        by_cases hi : y = id
        · have HI2 := Lib.hid (HI.out ⟨h3, hi⟩)
          have hb : (y == id) = true := by simpa using hi
          clear HI HN hi h3
          go_wp2_with fail
          go_ret
          exact ⟨by rw [HI2.out]; rfl, rfl⟩
        · have HN2 := Lib.hid (HN.out fun h => hi h.2)
          have hb : (y == id) = false := by simpa using hi
          clear HI HN hi h3
          go_wp2_with fail
          go_roundw
          case rel => exact HN2.out
          case measure => simp [intOf]; omega
      · have b3 : (x == 3) = false := by simpa using h3
        have HN2 := Lib.hid (HN.out fun h => h3 h.1)
        clear HI HN h3
        go_wp2_with fail
        go_roundw
        case rel => exact HN2.out
        case measure => simp [intOf]; omega
    · have hd : decide ((k : Int) < (R.length : Int)) = false := by simp; omega
      have HA := Lib.hid (show T = false from by
        rw [← hT.out, List.any_eq_false]
        intro x hx
        obtain ⟨j, hj, rfl⟩ := List.mem_iff_getElem.1 hx
        simpa using hP j (by omega) hj)
      clear hP
      go_wp2_with fail
      go_ret
      exact ⟨by rw [HA.out]; rfl, rfl⟩
/-- Where the sum of what came back stands. -/
def RbRel (W : World) (L : List Ent) (n : Nat) (id : Int) (line : Nat) (s i : Value) (wr : World) : Prop :=
  ∃ (k : Nat) (S : Int), k ≤ n ∧ i = .int .i64 (k : Int) ∧ s = .int .i64 S ∧ S = RowKit.wrap64 (backR id line (L.take k)) ∧ W = wr
theorem backR_take {L : List Ent} {k : Nat} (hk : k < L.length) (id : Int) (line : Nat) : backR id line (L.take (k + 1)) = backR id line (L.take k) + (if L[k].k = 2 ∧ L[k].of_ = id then L[k].am.getD line 0 else 0) := by
  rw [List.take_succ_eq_append_getElem hk, backR_app]
  simp [backR]
set_option maxRecDepth 100000 in
set_option maxHeartbeats 1000000 in
theorem rback29_any {w0 W : World} {rb : Nat} {v : Value} {R : List RE} (h : RBook w0 W rb v R) (id : Int) (line first : Nat) (hf : first ≤ R.length) (hl : ∀ x ∈ R, x.e.k = 2 → x.e.of_ = id → line < x.e.am.length) :
    Calls Tryz.prog 108 #[.pointer (some ⟨rb, 0, none⟩), .int .i64 id, .int .i64 (line : Int), .int .i64 (first : Int)] W fun r w' => r = .returned (.int .i64 (RowKit.wrap64 (backR id line ((R.map RE.e).take first)))) ∧ W = w' := by
  obtain ⟨q, q'⟩ := h.blk.cells
  have lb := h.blk.lt
  have HO := Lib.hid h.oa
  obtain ⟨A, c, rfl, hm, HS⟩ := h.sl
  replace HS := Lib.hid HS
  replace hl := Lib.hid hl
  unfold maxLen at hm
  clear h
  have HW := Lib.hid (show Nat.succ 0 = 1 from rfl)
  go_enter Tryz.func108, Tryz.ntmps108
  go_wp2_with fail
  go_loopw [9, 10] (fun s i wr => RbRel W (R.map RE.e) first id line s i wr) (fun _ i _ => first - (intOf i).toNat)
  case atStart => exact ⟨0, 0, by omega, rfl, rfl, by simp [backR, RowKit.wrap64], rfl⟩
  case round =>
    obtain ⟨k, S, hk, rfl, rfl, hS, rfl⟩ := hrel
    by_cases hlt : k < first
    · have hd : decide ((k : Int) < (first : Int)) = true := by simp; omega
      have hkR : k < R.length := by omega
      obtain ⟨g, off, rfl, H⟩ := HS.out k hkR
      have kl : (k : Int) < (R.length : Int) := by omega
      have kz : (0 : Int) ≤ (k : Int) := by omega
      have hgl := H.lt
      have c0 := H.c0
      have c2 := H.c2
      have c4 := H.c4
      have HN := Lib.hid (fun (S' : Int) (hS' : S' = RowKit.wrap64 (S + (if R[k].e.k = 2 ∧ R[k].e.of_ = id then R[k].e.am.getD line 0 else 0))) => (show RbRel W (R.map RE.e) first id line (.int .i64 S') (.int .i64 ((k + 1 : Nat) : Int)) W from ⟨k + 1, S', by omega, rfl, rfl, by
        rw [backR_take (by simpa using hkR), hS', hS, List.getElem_map]
        unfold RowKit.wrap64
        omega, rfl⟩))
      have HO2 := HO.out R[k] (List.getElem_mem hkR)
      have HL2 := hl.out R[k] (List.getElem_mem hkR)
      have hSw : RowKit.wrap64 (S + 0) = S := by rw [hS]; unfold RowKit.wrap64; omega
      clear hS H
      generalize R[k] = x at *
      obtain ⟨⟨xk, xi, xo, xd, am, tx⟩, va, vt⟩ := x
      simp only at c0 c2 c4 HN HO2 HL2
      obtain ⟨Aa, ca, rfl, ma, na, ra⟩ := own_slice HO2
      clear HO2
      by_cases h2 : xk = 2
      · have b2 : (xk == 2) = true := by simpa using h2
        by_cases hi : xo = id
        · have bi : (xo == id) = true := by simpa using hi
          have hla := HL2 h2 hi
          obtain ⟨ga, oa, rfl, hga, ca1⟩ := reads_int ra hla rfl
          have ll : (line : Int) < (am.length : Int) := by omega
          have lz : (0 : Int) ≤ (line : Int) := by omega
          have HN2 := HN.out (RowKit.wrap64 (S + am[line])) (by rw [if_pos ⟨h2, hi⟩]; simp [List.getD, hla])
          replace HN2 := Lib.hid HN2
          unfold maxLen at na
          clear HN HL2 h2 hi ra hSw
          generalize am[line] = m at *
          go_wp2_with fail
          go_roundw
          case rel => exact HN2.out
          case measure => simp [intOf]; omega
        · have bi : (xo == id) = false := by simpa using hi
          have HN2 := HN.out S (by rw [if_neg (fun h => hi h.2), hSw])
          replace HN2 := Lib.hid HN2
          clear HN HL2 h2 hi ra hSw
          go_wp2_with fail
          go_roundw
          case rel => exact HN2.out
          case measure => simp [intOf]; omega
      · have b2 : (xk == 2) = false := by simpa using h2
        have HN2 := HN.out S (by rw [if_neg (fun h => h2 h.1), hSw])
        replace HN2 := Lib.hid HN2
        clear HN HL2 h2 ra hSw
        go_wp2_with fail
        go_roundw
        case rel => exact HN2.out
        case measure => simp [intOf]; omega
    · obtain rfl : k = first := by omega
      have hd : decide ((k : Int) < (k : Int)) = false := by simp
      go_wp2_with fail
      go_ret
      exact ⟨by subst hS; rfl, rfl⟩
end Go.Proofs.YtokakpbpenndlaaGreatDoor
