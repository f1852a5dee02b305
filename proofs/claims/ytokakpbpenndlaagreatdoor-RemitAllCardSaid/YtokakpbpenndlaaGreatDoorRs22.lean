/-
  Plain: when all came back of a sale its moves come to nothing, but for the tax of lines of nothing.
-/
import Derived.Test.YtokakpbpenndlaaGreatDoorRs21
set_option linter.unusedVariables false
namespace Go.Proofs.YtokakpbpenndlaaGreatDoor

def Bk.ofOf (B : Bk) (id : Int) : Int := match B.find id with | some p => p.e.of_ | none => 0
/-- What a move counts. -/
def mval (B : Bk) (id : Int) (sel : Int → Int → Int → Int) (m : Mv) : Int := if m.id ≠ id ∧ B.ofOf m.id ≠ id then 0 else if m.back then -(sel m.t m.x m.v) else sel m.t m.x m.v
def msum (f : Mv → Int) : List Mv → Int
  | [] => 0
  | m :: r => f m + msum f r
theorem msum_app (f : Mv → Int) : ∀ a b : List Mv, msum f (a ++ b) = msum f a + msum f b
  | [], b => by simp [msum]
  | y :: a, b => by rw [List.cons_append, msum, msum, msum_app f a b]; omega
theorem msum_take (f : Mv → Int) (l : List Mv) (k : Nat) (h : k < l.length) : msum f (l.take (k + 1)) = msum f (l.take k) + f l[k] := by
  rw [List.take_succ_eq_append_getElem h, msum_app]
  simp [msum]
theorem msum_lines (f : Mv → Int) (mk : Tx → Mv) (c : Tx → Int) (j s : Int) (hf : ∀ y, f (mk y) = s * c y) : ∀ l : List Tx, msum f ((l.filter fun y => decide (y.j = j)).map mk) = s * jsum c j l
  | [] => by simp [msum, jsum]
  | y :: l => by
    have ih := msum_lines f mk c j s hf l
    rw [List.filter_cons, jsum]
    by_cases hj : y.j = j
    · rw [if_pos (by simpa using hj), if_pos hj, List.map_cons, msum, hf, ih, Int.mul_add]
    · rw [if_neg (by simpa using hj), if_neg hj, ih]; simp
def idS (c : Tx → Int) (j id : Int) : Bk → Int
  | [] => 0
  | p :: B => (if p.e.id = id then jsum c j p.lines else 0) + idS c j id B
theorem idS_none {c : Tx → Int} {j id : Int} : ∀ {B : Bk}, id ∉ B.ids → idS c j id B = 0
  | [], _ => rfl
  | p :: B, h => by
    have h1 : p.e.id ≠ id := fun e => h (by simp [Bk.ids, e])
    have h2 : id ∉ Bk.ids B := fun hm => h (by unfold Bk.ids at hm ⊢; rw [List.map_cons]; exact List.mem_cons_of_mem _ hm)
    rw [idS, if_neg h1, idS_none h2]; rfl
theorem idS_one {c : Tx → Int} {j : Int} {s : Kp} : ∀ {B : Bk}, B.ids.Nodup → s ∈ B → idS c j s.e.id B = jsum c j s.lines
  | [], _, h => absurd h (by simp)
  | p :: B, hn, h => by
    have hn' : p.e.id ∉ Bk.ids B ∧ (Bk.ids B).Nodup := by
      unfold Bk.ids at hn ⊢
      rw [List.map_cons, List.nodup_cons] at hn
      exact hn
    rw [idS]
    rcases List.mem_cons.1 h with h | h
    · subst h
      rw [if_pos rfl, idS_none hn'.1]; simp
    · have : p.e.id ≠ s.e.id := fun e => hn'.1 (by rw [e]; exact mem_ids h)
      rw [if_neg this, idS_one hn'.2 h]; simp
theorem find_self {B : Bk} (hn : B.ids.Nodup) {p : Kp} (hp : p ∈ B) : B.find p.e.id = some p := by
  unfold Bk.find
  cases hf : B.find? (fun x => decide (x.e.id = p.e.id)) with
  | none => exact absurd (List.find?_eq_none.1 hf p hp) (by simp)
  | some q =>
    have h1 := List.mem_of_find?_eq_some hf
    have h2 := List.find?_some hf
    rw [nodup_at hn h1 hp (by simpa using h2)]
theorem moves_part {B : Bk} (hok : ∀ p ∈ B, p.ok) (hn : B.ids.Nodup) (hi : B.inv) {s : Kp} (hs : s ∈ B) (hk : s.e.k = 1) (hv : s.voided = false) (sel : Int → Int → Int → Int) (j : Int) :
    ∀ B1 : Bk, (∀ p ∈ B1, p ∈ B) → msum (mval B s.e.id sel) (B1.flatMap fun x => x.moves j) = idS (fun y => sel y.t y.x y.v) j s.e.id B1 - rfS (fun y => sel y.t y.x y.v) j s.e.id B1
  | [], _ => by simp [msum, idS, rfS]
  | p :: B1, h => by
    have ih := moves_part hok hn hi hs hk hv sel j B1 (fun q hq => h q (by simp [hq]))
    have hpB := h p (by simp)
    have hpok := hok p hpB
    have hid1 := Kp.ok_id (hok s hs)
    rw [List.flatMap_cons, msum_app, ih, idS, rfS]
    have hfind := find_self hn hpB
    have key : msum (mval B s.e.id sel) (p.moves j) = (if p.e.id = s.e.id then jsum (fun y => sel y.t y.x y.v) j p.lines else 0) - (if p.e.k = 2 ∧ p.e.of_ = s.e.id then jsum (fun y => sel y.t y.x y.v) j p.lines else 0) := by
      by_cases hpv : p.voided = true
      · have hm : p.moves j = [] := by unfold Kp.moves; rw [if_pos hpv]
        have hp1 : p.e.k = 1 := by
          by_cases h1 : p.e.k = 1
          · exact h1
          · have := (hpok.oth h1).2; rw [this] at hpv; cases hpv
        have hne : p.e.id ≠ s.e.id := fun e => by
          have := nodup_at hn hpB hs e
          rw [this, hv] at hpv; cases hpv
        rw [hm, if_neg hne, if_neg (by omega)]; rfl
      have hmv : p.moves j = (p.lines.filter fun l => decide (l.j = j)).map fun l => ⟨p.e.id, p.e.day, decide (p.e.k = 2), l.t, l.x, l.v⟩ := by unfold Kp.moves; rw [if_neg hpv]
      rw [hmv]
      have hof : B.ofOf p.e.id = p.e.of_ := by unfold Bk.ofOf; rw [hfind]
      by_cases h1 : p.e.k = 1
      · have hof0 := (sale_lines hpok h1).2
        by_cases he : p.e.id = s.e.id
        · rw [if_pos he, if_neg (by omega), msum_lines _ _ (fun y => sel y.t y.x y.v) j 1 (fun y => by unfold mval; rw [if_neg (by simp [he])]; simp [h1])]
          omega
        · rw [if_neg he, if_neg (by omega), msum_lines _ _ (fun y => sel y.t y.x y.v) j 0 (fun y => by unfold mval; rw [if_pos ⟨he, by rw [hof]; omega⟩]; simp)]
          simp
      have hne : p.e.id ≠ s.e.id := fun e => h1 (by rw [nodup_at hn hpB hs e]; exact hk)
      by_cases h2 : p.e.k = 2
      · by_cases he : p.e.of_ = s.e.id
        · rw [if_neg hne, if_pos ⟨h2, he⟩, msum_lines _ _ (fun y => sel y.t y.x y.v) j (-1) (fun y => by unfold mval; rw [if_neg (by rw [hof]; simp [he])]; simp [h2])]
          omega
        · rw [if_neg hne, if_neg (fun hh => he hh.2), msum_lines _ _ (fun y => sel y.t y.x y.v) j 0 (fun y => by unfold mval; rw [if_pos ⟨hne, by rw [hof]; exact he⟩]; simp)]
          simp
      · have hl : p.lines = [] := by
          have hf := (Ent.check_ok hpok.chk).2.2
          unfold Ent.fine at hf
          rw [if_neg h1, if_neg h2] at hf
          by_cases h3 : p.e.k = 3
          · exact hi.void p hpB h3
          · rw [if_neg h3] at hf; cases hf
        rw [hl, if_neg hne, if_neg (fun hh => h2 hh.1)]; rfl
    rw [key]
    omega
theorem moves_sum {B : Bk} (hok : ∀ p ∈ B, p.ok) (hn : B.ids.Nodup) (hi : B.inv) {s : Kp} (hs : s ∈ B) (hk : s.e.k = 1) (hv : s.voided = false) (sel : Int → Int → Int → Int) (j : Int) :
    msum (mval B s.e.id sel) (B.moves j) = jsum (fun y => sel y.t y.x y.v) j s.lines - rfS (fun y => sel y.t y.x y.v) j s.e.id B := by
  unfold Bk.moves
  rw [moves_part hok hn hi hs hk hv sel j B (fun p hp => hp), idS_one hn hs]
/-- The tax of a line of nothing. -/
def frv (y : Tx) : Int := if y.t + y.x = 0 then y.v else 0
theorem sh_full (g : Tx → Int → Int) (j : Int) (back am : List Int) (hb : ∀ i, i < am.length → back.getD i 0 = am.getD i 0) : ∀ l : List Tx, (∀ y ∈ l, y.ok = true ∧ y.l.toNat < am.length ∧ y.t + y.x = am.getD y.l.toNat 0) → shS g j back l = jsum (fun y => g y (y.t + y.x)) j l
  | [], _ => rfl
  | y :: l, h => by
    obtain ⟨_, h2, h3⟩ := h y (by simp)
    rw [shS, jsum, sh_full g j back am hb l (fun z hz => h z (by simp [hz])), hb _ h2, ← h3]
theorem jsum_sub {c d f : Tx → Int} {j : Int} : ∀ {l : List Tx}, (∀ y ∈ l, c y - d y = f y) → jsum c j l - jsum d j l = jsum f j l
  | [], _ => rfl
  | y :: l, h => by
    have h1 := h y (by simp)
    have h2 := jsum_sub (j := j) (l := l) (fun z hz => h z (by simp [hz]))
    rw [jsum, jsum, jsum]
    split <;> omega
theorem jsum_zero {j : Int} : ∀ l : List Tx, jsum (fun _ => 0) j l = 0
  | [] => rfl
  | y :: l => by rw [jsum, jsum_zero l]; simp
/-- P29.5: what the moves come to. -/
theorem nothing_left {B : Bk} (hok : ∀ p ∈ B, p.ok) (hn : B.ids.Nodup) (hi : B.inv) {s : Kp} (hs : s ∈ B) (hk : s.e.k = 1) (hv : s.voided = false) (hb : ∀ i, i < s.e.am.length → s.back.getD i 0 = s.e.am.getD i 0) (j : Int) :
    msum (mval B s.e.id fun t _ _ => t) (B.moves j) = 0 ∧ msum (mval B s.e.id fun _ x _ => x) (B.moves j) = 0 ∧ msum (mval B s.e.id fun _ _ v => v) (B.moves j) = jsum frv j s.e.tax := by
  have hl := (sale_lines (hok s hs) hk).1
  have key : ∀ y ∈ s.lines, (y.t - shI y.t (y.t + y.x) (y.t + y.x) = 0) ∧ (y.x - ((y.t + y.x) - shI y.t (y.t + y.x) (y.t + y.x)) = 0) ∧ y.v - shI y.v (y.t + y.x) (y.t + y.x) = frv y := by
    intro y hy
    obtain ⟨_, _, b3, b4, _, b6⟩ := Tx.ok_bd (hl y hy).1
    unfold frv
    by_cases hW : y.t + y.x = 0
    · rw [if_pos hW]
      have e1 : ∀ t, shI t (y.t + y.x) (y.t + y.x) = 0 := fun t => by unfold shI; rw [if_pos hW]
      rw [e1, e1]; omega
    · rw [if_neg hW, shI_all b3.1 (by omega), shI_all b6.1 (by omega)]; omega
  refine ⟨?_, ?_, ?_⟩
  · rw [moves_sum hok hn hi hs hk hv, show (fun y : Tx => y.t) = Tx.t from rfl, hi.sum Tx.t _ gd_t s hs hk j, sh_full _ j s.back s.e.am hb s.lines hl, jsum_sub (f := fun _ => 0) (fun y hy => (key y hy).1), jsum_zero]
  · rw [moves_sum hok hn hi hs hk hv, show (fun y : Tx => y.x) = Tx.x from rfl, hi.sum Tx.x _ gd_x s hs hk j, sh_full _ j s.back s.e.am hb s.lines hl, jsum_sub (f := fun _ => 0) (fun y hy => (key y hy).2.1), jsum_zero]
  · rw [moves_sum hok hn hi hs hk hv, show (fun y : Tx => y.v) = Tx.v from rfl, hi.sum Tx.v _ gd_v s hs hk j, sh_full _ j s.back s.e.am hb s.lines hl, jsum_sub (f := frv) (fun y hy => (key y hy).2.2), (hok s hs).lns hk]

/-! ### What is left, given back -/
def leftL (s : Kp) (k : Nat) : List Int := (List.range k).map fun i => s.e.am.getD i 0 - s.back.getD i 0
theorem leftL_len (s : Kp) (k : Nat) : (leftL s k).length = k := by simp [leftL]
theorem leftL_succ (s : Kp) (k : Nat) : leftL s (k + 1) = leftL s k ++ [s.e.am.getD k 0 - s.back.getD k 0] := by simp [leftL, List.range_succ]
theorem leftL_at (s : Kp) (k i : Nat) (h : i < (leftL s k).length) : (leftL s k)[i] = s.e.am.getD i 0 - s.back.getD i 0 := by simp [leftL]
def restE (id : Int) (s : Kp) : Ent := ⟨2, 1099511627775, id, 3652058, leftL s s.e.am.length, []⟩
theorem overB_no : ∀ {n a b : List Int}, (∀ i (h1 : i < n.length) (h2 : i < a.length) (h3 : i < b.length), n[i] ≤ a[i] - b[i]) → overB n a b = false
  | [], _, _, _ => by simp [overB]
  | _ :: _, [], _, _ => by simp [overB]
  | _ :: _, _ :: _, [], _ => by simp [overB]
  | n :: r, a :: ra, b :: rb, h => by
    have h0 := h 0 (by simp) (by simp) (by simp)
    simp only [List.getElem_cons_zero] at h0
    have ih := overB_no (n := r) (a := ra) (b := rb) fun i h1 h2 h3 => by
      have := h (i + 1) (by simpa using h1) (by simpa using h2) (by simpa using h3)
      simpa using this
    unfold overB
    rw [ih]
    simp
    omega
theorem left_bd {s : Kp} (h : s.ok) (hk : s.e.k = 1) (i : Nat) (hi : i < s.e.am.length) : 0 ≤ s.e.am.getD i 0 - s.back.getD i 0 ∧ s.e.am.getD i 0 - s.back.getD i 0 ≤ s.e.am.getD i 0 ∧ 0 ≤ s.e.am.getD i 0 ∧ s.e.am.getD i 0 ≤ 4611686018427387904 := by
  have h1 := h.bbd hk i hi
  have h2 := Ent.am_bd h.chk i hi
  have g2 : s.e.am.getD i 0 = s.e.am[i] := by simp [List.getD, hi]
  omega
theorem rest_may {B : Bk} (hok : ∀ p ∈ B, p.ok) {s : Kp} {id : Int} (hs : B.sale id = some s) (hv : s.voided = false) (hmax : B.find 1099511627775 = none) :
    B.may (restE id s) = if (leftL s s.e.am.length).any (fun n => decide (n ≠ 0)) then 0 else 2 := by
  obtain ⟨m0, i0, k0⟩ := sale_mem' hs
  have hsok := hok s m0
  have hidb := Kp.ok_id hsok
  have hck := Ent.check_ok hsok.chk
  have hhead := hck.1
  unfold Ent.head at hhead
  simp only [Bool.and_eq_true] at hhead
  have hday := win_bd hhead.2
  have hmany : manyI s.e.am.length = true := by
    have hf := hck.2.2
    unfold Ent.fine at hf
    rw [if_pos k0] at hf
    unfold Ent.saleFine at hf
    simp only [Bool.and_eq_true] at hf
    exact hf.1.2
  have hh : (restE id s).head = true := by
    unfold Ent.head restE
    simp only [Bool.and_eq_true]
    exact ⟨⟨win_mk (by omega) (by omega), win_mk (by omega) (by omega)⟩, win_mk (by omega) (by omega)⟩
  have ha : (restE id s).ams = true := by
    unfold Ent.ams restE
    rw [List.all_eq_true]
    intro n hn
    simp only [leftL, List.mem_map, List.mem_range] at hn
    obtain ⟨i, hi, rfl⟩ := hn
    have := left_bd hsok k0 i hi
    exact win_mk this.1 (by omega)
  have hfine : (restE id s).fine = (leftL s s.e.am.length).any (fun n => decide (n ≠ 0)) := by
    unfold Ent.fine restE
    simp only
    rw [if_neg (by decide), if_pos trivial]
    unfold Ent.refundFine
    simp only [leftL_len]
    rw [hmany]
    have : decide (id ≠ 0) = true := by simp; omega
    rw [this]
    simp
  have hc : (restE id s).check = if (leftL s s.e.am.length).any (fun n => decide (n ≠ 0)) then 0 else 2 := by
    unfold Ent.check
    rw [if_neg (by simp [hh, ha]), hfine]
    cases (leftL s s.e.am.length).any (fun n => decide (n ≠ 0)) <;> rfl
  unfold Bk.may
  rw [hc]
  cases hany : (leftL s s.e.am.length).any (fun n => decide (n ≠ 0))
  · have e : (if (false = true) then (0 : Int) else 2) = 2 := rfl
    rw [e, if_pos (by decide)]
  · rw [if_pos rfl, if_neg (by simp)]
    have e1 : (restE id s).id = 1099511627775 := rfl
    have e2 : (restE id s).k = 2 := rfl
    have e3 : (restE id s).of_ = id := rfl
    rw [e1, e2, e3, hmax, if_neg (by simp), if_pos rfl, hs]
    simp only
    unfold Kp.refMay
    rw [if_neg (by simp [hv]), if_neg]
    · have : overB (restE id s).am s.e.am s.back = false := overB_no fun i h1 h2 h3 => by
        have : (restE id s).am[i] = s.e.am.getD i 0 - s.back.getD i 0 := leftL_at s _ i h1
        rw [this]
        have g2 : s.e.am.getD i 0 = s.e.am[i] := by simp [List.getD, h2]
        have g3 : s.back.getD i 0 = s.back[i] := by simp [List.getD, h3]
        omega
      rw [this]; rfl
    · rintro (h | h)
      · exact h (leftL_len s _)
      · have : (restE id s).day = 3652058 := rfl
        omega
theorem find_upd (B : Bk) (i : Int) (f : Kp → Kp) (he : ∀ x, (f x).e = x.e) (id : Int) : Bk.find (B.upd i f) id = (B.find id).map fun x => if x.e.id = i then f x else x := by
  unfold Bk.find Bk.upd
  rw [List.find?_map]
  congr 1
  congr 1
  funext x
  show decide ((if x.e.id = i then f x else x).e.id = id) = decide (x.e.id = id)
  split
  · rw [he]
  · rfl
/-- Behind it all has come back. -/
theorem rest_all {B : Bk} (hok : ∀ p ∈ B, p.ok) {s : Kp} {id : Int} (hs : B.sale id = some s) (hv : s.voided = false) (hmax : B.find 1099511627775 = none) :
    ∃ s', Bk.sale (B.add (restE id s)).1 id = some s' ∧ s'.e = s.e ∧ s'.voided = false ∧ ∀ i, i < s.e.am.length → s'.back.getD i 0 = s.e.am.getD i 0 := by
  have hm := rest_may hok hs hv hmax
  obtain ⟨m0, i0, k0⟩ := sale_mem' hs
  have hsok := hok s m0
  cases hany : (leftL s s.e.am.length).any (fun n => decide (n ≠ 0))
  · rw [hany] at hm
    rw [add_no (by rw [hm]; decide)]
    refine ⟨s, hs, rfl, hv, fun i hi => ?_⟩
    rw [List.any_eq_false] at hany
    have := hany (s.e.am.getD i 0 - s.back.getD i 0) (by simp only [leftL, List.mem_map, List.mem_range]; exact ⟨i, hi, rfl⟩)
    have h2 : s.e.am.getD i 0 - s.back.getD i 0 = 0 := by
      by_cases h3 : s.e.am.getD i 0 - s.back.getD i 0 = 0
      · exact h3
      · exact absurd (decide_eq_true h3) (by simpa using this)
    omega
  · rw [hany, if_pos rfl] at hm
    unfold Bk.add
    rw [if_pos hm]
    unfold Bk.put
    have e2 : (restE id s).k = 2 := rfl
    have e3 : (restE id s).of_ = id := rfl
    rw [if_neg (by rw [e2]; decide), if_pos e2, e3, hs]
    simp only
    refine ⟨{ s with back := addL s.back (restE id s).am }, ?_, rfl, hv, fun i hi => ?_⟩
    · unfold Bk.sale
      have hf : B.find id = some s := by
        unfold Bk.sale at hs
        rw [Option.filter_eq_some_iff] at hs
        exact hs.1
      have : Bk.find (B.upd id (fun x => { x with back := addL x.back (restE id s).am }) ++ [⟨restE id s, s.refLines (restE id s).am, [], false⟩]) id = some { s with back := addL s.back (restE id s).am } := by
        have h1 := find_upd B id (fun x => { x with back := addL x.back (restE id s).am }) (fun _ => rfl) id
        rw [hf] at h1
        simp only [Option.map_some, i0, if_true] at h1
        unfold Bk.find at h1 ⊢
        rw [List.find?_append, h1]
        rfl
      rw [this]
      simp [Option.filter, k0]
    · have hbl := hsok.bln k0
      simp only
      rw [addL_getD _ _ i (by omega) (by show i < (leftL s s.e.am.length).length; rw [leftL_len]; exact hi)]
      have : (restE id s).am.getD i 0 = s.e.am.getD i 0 - s.back.getD i 0 := by
        show (leftL s s.e.am.length).getD i 0 = _
        have hl : i < (leftL s s.e.am.length).length := by rw [leftL_len]; exact hi
        simp only [List.getD, List.getElem?_eq_getElem hl, Option.getD_some]
        exact leftL_at s _ i hl
      rw [this]
      omega
theorem left_any_sum {s : Kp} (h : s.ok) (hk : s.e.k = 1) : ∀ k, k ≤ s.e.am.length → 0 ≤ sumL (leftL s k) ∧ (decide (0 < sumL (leftL s k)) = (leftL s k).any fun n => decide (n ≠ 0)) := by
  intro k
  induction k with
  | zero => intro _; simp [leftL, sumL]
  | succ k ih =>
    intro hk'
    obtain ⟨h1, h2⟩ := ih (by omega)
    have hb := left_bd h hk k (by omega)
    rw [leftL_succ, sumL_snoc, List.any_append, ← h2]
    refine ⟨by omega, ?_⟩
    simp only [List.any_cons, List.any_nil, Bool.or_false]
    rw [Bool.eq_iff_iff]
    simp only [Bool.or_eq_true, decide_eq_true_eq]
    omega
end Go.Proofs.YtokakpbpenndlaaGreatDoor
