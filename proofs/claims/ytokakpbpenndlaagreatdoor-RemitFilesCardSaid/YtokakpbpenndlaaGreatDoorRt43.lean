/-
  apportionref30: All.
-/
import Derived.Test.YtokakpbpenndlaaGreatDoorRt37
import Derived.Test.YtokakpbpenndlaaGreatDoorRt41
import Derived.Test.YtokakpbpenndlaaGreatDoorRt42
import Derived.Deep.RegionHeld3
set_option linter.unusedVariables false
namespace Go.Proofs.YtokakpbpenndlaaGreatDoor
open Go.RowKit Go.Maps Go.Sort Go.Shelf

theorem row_du : RowT Tryz.prog 56 62 2 16 (.agg #[.int .i64 0, .int .i64 0]) := rowT_mk Tryz.underlying56 (by kernel_rfl) rfl (by decide)
theorem dueCl_one (l : List (Int × Int)) : ∀ u ∈ dueCl l, u.oneCell' = true := by
  intro u hu
  simp only [dueCl, List.mem_flatMap] at hu
  obtain ⟨x, _, hx⟩ := hu
  simp at hx
  rcases hx with rfl | rfl <;> rfl
theorem dueCl_take (a : List (Int × Int)) (k : Nat) : (dueCl a).take (k * 2) = dueCl (a.take k) := by
  induction a generalizing k with
  | nil => simp [dueCl]
  | cons p a ih =>
    cases k with
    | zero => simp [dueCl]
    | succ k =>
      have e : (k + 1) * 2 = k * 2 + 1 + 1 := by omega
      rw [e]
      show (.int .i64 p.1 :: .int .i64 p.2 :: dueCl a).take (k * 2 + 1 + 1) = .int .i64 p.1 :: .int .i64 p.2 :: dueCl (a.take k)
      rw [List.take_succ_cons, List.take_succ_cons, ih]
theorem dueCl_drop (a : List (Int × Int)) (k : Nat) : (dueCl a).drop (k * 2) = dueCl (a.drop k) := by
  induction a generalizing k with
  | nil => simp [dueCl]
  | cons p a ih =>
    cases k with
    | zero => simp [dueCl]
    | succ k =>
      have e : (k + 1) * 2 = k * 2 + 1 + 1 := by omega
      rw [e]
      show (.int .i64 p.1 :: .int .i64 p.2 :: dueCl a).drop (k * 2 + 1 + 1) = dueCl (a.drop k)
      rw [List.drop_succ_cons, List.drop_succ_cons, ih]
def pairJ (i : Int) (P : List Int) : List (Int × Int) := P.map fun p => (i, p)
theorem pairJ_len (i : Int) (P : List Int) : (pairJ i P).length = P.length := by simp [pairJ]
theorem dueR_take {B : Bk} {js : List Jur} {k : Nat} (hk : k < js.length) : B.dueR (js.take (k + 1)) = B.dueR (js.take k) ++ pairJ js[k].id (perL js[k].f (B.moves js[k].id)) := by
  unfold Bk.dueR
  rw [List.take_succ_eq_append_getElem hk, List.flatMap_append]
  simp [pairJ]
theorem insP_len (l : List Int) (p : Int) : (insP l p).length ≤ l.length + 1 := by
  unfold insP
  split
  · omega
  · have := congrArg List.length (tdWP l p)
    rw [List.length_append] at this
    simp only [List.length_append, List.length_cons]
    omega
theorem perL_len (f : Int) (ms : List Mv) : (perL f ms).length ≤ ms.length := by
  have gen : ∀ (ms : List Mv) (l : List Int), (ms.foldl (fun l m => insP l (ofI f m.day)) l).length ≤ l.length + ms.length := by
    intro ms
    induction ms with
    | nil => intro l; simp
    | cons m ms ih =>
      intro l
      rw [List.foldl_cons]
      have := ih (insP l (ofI f m.day))
      have h2 := insP_len l (ofI f m.day)
      simp only [List.length_cons]
      omega
  simpa [perL] using gen ms []
theorem perL_take {f : Int} {ms : List Mv} {k : Nat} (hk : k < ms.length) : perL f (ms.take (k + 1)) = insP (perL f (ms.take k)) (ofI f ms[k].day) := by
  rw [List.take_succ_eq_append_getElem hk, perL_snoc]
theorem dueR_len {B : Bk} (hs : B.small) (l : List Jur) : (B.dueR l).length ≤ l.length * (6400 * B.length) := by
  unfold Bk.dueR
  induction l with
  | nil => simp
  | cons j l ih =>
    rw [List.flatMap_cons, List.length_append, List.length_cons, Nat.add_mul]
    have := moves_le hs j.id
    have h2 := perL_len j.f (B.moves j.id)
    rw [List.length_map]
    omega
noncomputable def Bk.dueF (B : Bk) (js : List Jur) : List (Int × Int) := if (checkJ js).1 ≠ 0 then [] else B.dueR js
/-- Where All's three loops stand. -/
def RAo (W : World) (B : Bk) (js : List Jur) (i v : Value) (wr : World) : Prop :=
  ∃ k : Nat, k ≤ js.length ∧ i = .int .i64 (k : Int) ∧ wr.ownsRow W.heap.size 62 2 v (B.dueR (js.take k)).length (dueCl (B.dueR (js.take k))) ∧ Ext W wr
def RAm (W : World) (bse : Nat) (A9 : Option Addr) (c9 : Nat) (D : List (Int × Int)) (j : Jur) (ms : List Mv) (i v : Value) (wr : World) : Prop :=
  ∃ t : Nat, t ≤ ms.length ∧ i = .int .i64 (t : Int) ∧ wr.ownsRow W.heap.size 62 2 v (D ++ pairJ j.id (perL j.f (ms.take t))).length (dueCl (D ++ pairJ j.id (perL j.f (ms.take t)))) ∧
    wr.ownsRow bse 85 6 (.slice A9 ms.length c9) ms.length (mvCells ms) ∧ Ext W wr
def RAi (W : World) (n : Nat) (P : List Int) (p : Int) (i : Value) (wr : World) : Prop :=
  ∃ q z : Nat, q ≤ P.length ∧ z = n + q ∧ i = .int .i64 (z : Int) ∧ (∀ j (hj : j < P.length), j < q → P[j] < p) ∧ W = wr
theorem RAi.next {W : World} {n q z y : Nat} {P : List Int} {p : Int} (hq : q < P.length) (hz : z = n + q) (h : ∀ j (hj : j < P.length), j < q → P[j] < p) (h1 : P[q] < p) (hy : y = z + 1) : RAi W n P p (.int .i64 (y : Int)) W := by
  subst hy
  refine ⟨q + 1, z + 1, by omega, by omega, rfl, fun j hj hjq => ?_, rfl⟩
  by_cases e : j = q
  · subst e; exact h1
  · exact h j hj (by omega)
theorem pairJ_at {D : List (Int × Int)} {i : Int} {P : List Int} {q : Nat} (hq : q < P.length) (h : D.length + q < (D ++ pairJ i P).length) : (D ++ pairJ i P)[D.length + q] = (i, P[q]) := by
  rw [List.getElem_append_right (by omega)]
  simp [pairJ]
theorem rdue_at {w : World} {B0 N : Nat} {A : Option Addr} {D : List (Int × Int)} {i : Int} {P : List Int} (h : Reads w B0 2 A N (dueCl (D ++ pairJ i P))) (hN : (D ++ pairJ i P).length = N) {q : Nat} (hq : q < P.length) :
    ∃ g o, A = some ⟨g, o, none⟩ ∧ g < B0 ∧ w.cell? ⟨g, o + (D.length + q) * 2 + 1, none⟩ = some (.int .i64 P[q]) := by
  have hl : D.length + q < (D ++ pairJ i P).length := by rw [List.length_append, pairJ_len]; omega
  subst hN
  obtain ⟨g, o, e, hg, hc⟩ := h.cellAt hl
  obtain ⟨_, d2⟩ := dueCl_at (D ++ pairJ i P) (D.length + q) hl
  rw [pairJ_at hq hl] at d2
  exact ⟨g, o, e, hg, hc _ _ d2⟩
theorem insP_at {P : List Int} {p : Int} {q : Nat} (hq : q ≤ P.length) (hlo : ∀ j (hj : j < P.length), j < q → P[j] < p) (hge : ∀ hk : q < P.length, p < P[q]) : insP P p = P.take q ++ p :: P.drop q := by
  obtain ⟨a, b⟩ := tdWP_at hq hlo (fun hk => by have := hge hk; omega)
  unfold insP
  rw [a, b, if_neg]
  intro h
  rw [List.head?_drop] at h
  obtain ⟨hk, e⟩ := List.getElem?_eq_some_iff.1 h
  have := hge hk
  omega
theorem insP_same {P : List Int} {p : Int} {q : Nat} (hk : q < P.length) (hlo : ∀ j (hj : j < P.length), j < q → P[j] < p) (he : P[q] = p) : insP P p = P := by
  obtain ⟨a, b⟩ := tdWP_at (Nat.le_of_lt hk) hlo (fun hk => by omega)
  unfold insP
  rw [b, if_pos]
  rw [List.head?_drop, List.getElem?_eq_getElem hk, he]
/-- Where a slice from k on lies. -/
def cutS (A : Option Addr) (cap k size : Nat) : Option Addr := if cap = k then A else A.map (·.add (k * size))
theorem Reads.cutS {w : World} {B size n cap : Nat} {A : Option Addr} {xs : List Value} (h : Reads w B size A n xs) {k : Nat} (hk : k ≤ n) (hc : n ≤ cap) : Reads w B size (cutS A cap k size) (n - k) (xs.drop (k * size)) := h.cut hk hc
/-- A due put among others. -/
theorem all_put {w : World} {base base' N z q n : Nat} {D : List (Int × Int)} {P : List Int} {i p : Int} {v : Value} {xs : List Value} (hz : z = D.length + q) (hq : q ≤ P.length) (hlo : ∀ j (hj : j < P.length), j < q → P[j] < p) (hge : ∀ hk : q < P.length, p < P[q])
    (hN : (D ++ pairJ i P).length = N) (ho : w.ownsRow base 62 2 v n xs) (hn : n = z + 1 + (N - z)) (hxs : xs = (dueCl (D ++ pairJ i P)).take (z * 2) ++ [.int .i64 i, .int .i64 p] ++ (dueCl (D ++ pairJ i P)).drop (z * 2)) (hb : base' ≤ base) :
    w.ownsRow base' 62 2 v (D ++ pairJ i (insP P p)).length (dueCl (D ++ pairJ i (insP P p))) := by
  rw [insP_at hq hlo hge]
  rw [List.length_append, pairJ_len] at hN
  have e1 : (D ++ pairJ i (P.take q ++ p :: P.drop q)).length = n := by
    rw [List.length_append, pairJ_len, List.length_append, List.length_cons, List.length_take, List.length_drop]
    omega
  have e2 : dueCl (D ++ pairJ i (P.take q ++ p :: P.drop q)) = xs := by
    have h1 : (D ++ pairJ i P).take z = D ++ pairJ i (P.take q) := by
      rw [hz, List.take_append, List.take_of_length_le (by omega)]
      simp [pairJ]
    have h2 : (D ++ pairJ i P).drop z = pairJ i (P.drop q) := by
      rw [hz, List.drop_append, List.drop_eq_nil_of_le (by omega)]
      simp [pairJ]
    rw [hxs, dueCl_take, dueCl_drop, h1, h2]
    simp [dueCl, pairJ]
  rw [e1, e2]
  exact own_base ho hb
theorem reads_blk {w : World} {g : Nat} {t : TypeId} {cs : Array Value} {m size : Nat} (hb : Blk w g t cs) (h : cs.size = m * size) : Reads w w.heap.size size (some ⟨g, 0, none⟩) m cs.toList :=
  ⟨by simpa using h, fun _ => ⟨g, 0, rfl, hb.lt, fun j u hu => by rw [hb.cell]; simpa using hu⟩⟩
set_option maxRecDepth 100000 in
set_option maxHeartbeats 4000000 in
theorem rall30_any {w0 W : World} {rb : Nat} {vb : Value} {RB : List RE} {B : Bk} (h : RBook w0 W rb vb RB) (hp : RP RB B) (hs : B.small) (hml : B.length ≤ 1000)
    (l : List JV) (A : Option Addr) (cap : Nat) (hr : Reads W W.heap.size 5 A l.length (jvCells l)) (hm : l.length ≤ maxLen) :
    Calls Tryz.prog 32 #[.pointer (some ⟨rb, 0, none⟩), .slice A l.length cap] W fun e w' => ∃ v, e = .returned v ∧ w'.ownsRow W.heap.size 62 2 v (B.dueF (jsOf l)).length (dueCl (B.dueF (jsOf l))) ∧ Ext W w' := by
  obtain ⟨D0, hD0⟩ : ∃ D, B.dueF (jsOf l) = D := ⟨_, rfl⟩
  rw [hD0]
  unfold Bk.dueF at hD0
  have HJA := Lib.hid (fun k (hk : k < l.length) => jv_at hr hk)
  have HC := Lib.hid (rcheck20_any l A cap W hr hm)
  by_cases h0 : (checkJ (jsOf l)).1 = 0
  case neg =>
    rw [if_pos h0] at hD0
    subst hD0
    have hb : ((checkJ (jsOf l)).1 == 0) = false := by simpa using h0
    clear h0 HJA h hp hs hml hr
    unfold maxLen at hm
    generalize checkJ (jsOf l) = C at *
    go_enter Tryz.func32, Tryz.ntmps32
    go_wp2_with fail
    refine HC.out.mono ?_
    rintro e w1 ⟨rfl, hx⟩
    have HX := Lib.hid hx
    clear HC hx
    go_wp2_with fail
    go_loopw [8, 7] (fun i v wr => i = .int .i64 0 ∧ v = .slice none 0 0 ∧ wr = w1) (fun _ _ _ => 0)
    case atStart => exact ⟨rfl, rfl, rfl⟩
    case round =>
      obtain ⟨rfl, rfl, rfl⟩ := hrel
      by_cases hl0 : (0 : Int) < (l.length : Int)
      · have hd : decide ((0 : Int) < (l.length : Int)) = true := decide_eq_true hl0
        have hd2 : decide (0 < l.length) = true := decide_eq_true (by omega)
        go_wp2_with fail
        go_ret
        exact ⟨.slice none 0 0, rfl, by simpa [dueCl] using World.ownsRow_nil _ W.heap.size 62 2, HX.out⟩
      · have hd : decide ((0 : Int) < (l.length : Int)) = false := decide_eq_false hl0
        have hd2 : decide (0 < l.length) = false := decide_eq_false (by omega)
        go_wp2_with fail
        go_ret
        exact ⟨.slice none 0 0, rfl, by simpa [dueCl] using World.ownsRow_nil _ W.heap.size 62 2, HX.out⟩
  rw [if_neg (by simp [h0])] at hD0
  replace hD0 := Lib.hid hD0
  obtain ⟨hl64, hJ, _⟩ := checkJ_ok h0
  rw [jsOf_len] at hl64
  have HJb := Lib.hid (fun k (hk : k < l.length) => (show (1 ≤ l[k].j.id ∧ l[k].j.id ≤ 1099511627775) ∧ (1 ≤ l[k].j.f ∧ l[k].j.f ≤ 4) from by
    have := hJ k (by rw [jsOf_len]; exact hk)
    rwa [jsOf_at l k hk] at this))
  have hb : ((checkJ (jsOf l)).1 == 0) = true := by simp [h0]
  have HDl := Lib.hid (fun (js : List Jur) => dueR_len hs js)
  have HMB := Lib.hid (fun j => hp.moves_pos (j := j))
  have HML := Lib.hid (fun j => (show (B.moves j).length ≤ 6400000 from by have := moves_le hs j; omega))
  have HMV := Lib.hid (fun W2 (hx : Ext W W2) j => rmoves29_any (h.to hx) hp hs (by omega) j)
  replace h0 := Lib.hid h0
  clear hJ h hp hs hr
  unfold maxLen at hm
  generalize hCq : checkJ (jsOf l) = C at *
  clear hCq
  go_enter Tryz.func32, Tryz.ntmps32
  go_wp2_with fail
  refine HC.out.mono ?_
  rintro e w1 ⟨rfl, X1⟩
  clear HC
  have H0 := Lib.hid (show RAo W B (jsOf l) (.int .i64 ((0 : Nat) : Int)) (.slice none 0 0) w1 from ⟨0, by omega, rfl, by simpa [Bk.dueR, dueCl] using World.ownsRow_nil w1 W.heap.size 62 2, X1⟩)
  clear X1
  go_wp2_with fail
  go_loopw [8, 7] (fun i v wr => RAo W B (jsOf l) i v wr) (fun i _ _ => l.length - (intOf i).toNat)
  case atStart => exact H0.out
  case round =>
    clear H0
    obtain ⟨k, hk, rfl, hO, hX⟩ := hrel
    obtain ⟨w3, rfl⟩ : ∃ w3, w3 = wr := ⟨_, rfl⟩
    rw [jsOf_len] at hk
    by_cases hlt : k < l.length
    · have hd : decide ((k : Int) < (l.length : Int)) = true := by simp; omega
      have kl : (k : Int) < (l.length : Int) := by omega
      have kz : (0 : Int) ≤ (k : Int) := by omega
      obtain ⟨g, off, rfl, hg, hc⟩ := HJA.out k hlt
      obtain ⟨c0, _, _, c3, _⟩ := hc w3 hX
      have hgl : g < w3.heap.size := Nat.lt_of_lt_of_le hg hX.size
      obtain ⟨j1, jf⟩ := HJb.out k hlt
      have HT := Lib.hid (show B.dueR ((jsOf l).take (k + 1)) = B.dueR ((jsOf l).take k) ++ pairJ l[k].j.id (perL l[k].j.f (B.moves l[k].j.id)) from by
        have := dueR_take (B := B) (js := jsOf l) (k := k) (by rw [jsOf_len]; exact hlt)
        rwa [show (jsOf l)[k]'(by rw [jsOf_len]; exact hlt) = l[k].j by simp [jsOf]] at this)
      have hDk : (B.dueR ((jsOf l).take k)).length ≤ 409600000 := by
        have h1 := HDl.out ((jsOf l).take k)
        have h2 : ((jsOf l).take k).length ≤ 64 := by rw [List.length_take]; omega
        have h3 : ((jsOf l).take k).length * (6400 * B.length) ≤ 64 * 6400000 := Nat.mul_le_mul h2 (by omega)
        omega
      have HCL := Lib.hid (fun w' (hx : Ext w3 w') => (show w'.cell? ⟨g, off + k * 5, none⟩ = some (.int .i64 l[k].j.id) ∧ w'.cell? ⟨g, off + k * 5 + 3, none⟩ = some (.int .i64 l[k].j.f) from ⟨(hc w' (hX.trans hx)).1, (hc w' (hX.trans hx)).2.2.2.1⟩))
      have HN := Lib.hid (fun (v : Value) (W2 : World) (ho : W2.ownsRow W.heap.size 62 2 v (B.dueR ((jsOf l).take k) ++ pairJ l[k].j.id (perL l[k].j.f (B.moves l[k].j.id))).length (dueCl (B.dueR ((jsOf l).take k) ++ pairJ l[k].j.id (perL l[k].j.f (B.moves l[k].j.id))))) (hx : Ext W W2) => (show RAo W B (jsOf l) (.int .i64 ((k + 1 : Nat) : Int)) v W2 from ⟨k + 1, by rw [jsOf_len]; omega, rfl, by rw [HT.out]; exact ho, hx⟩))
      have hmp := Lib.hid (HMB.out l[k].j.id)
      have hmlen := HML.out l[k].j.id
      have HMq := Lib.hid (HMV.out w3 hX l[k].j.id)
      clear hc HT HJA HJb HDl HMB HML HMV j1
      generalize l[k].j = j at *
      generalize B.dueR ((jsOf l).take k) = D at *
      generalize B.moves j.id = ms at *
      obtain ⟨A7, c7, rfl, hD1, hD2, _⟩ := own_slice hO
      have HO := Lib.hid hO
      have HX := Lib.hid hX
      clear hO hX c3 hD1 hD2
      go_wp2_with fail
      refine HMq.out.mono ?_
      rintro e w5 ⟨A9, c9, rfl, ho5, hx5⟩
      have HM0 := Lib.hid (show RAm W w3.heap.size A9 c9 D j ms (.int .i64 ((0 : Nat) : Int)) (.slice A7 D.length c7) w5 from ⟨0, by omega, rfl, by simpa [perL, pairJ] using own_ext HO.out hx5, ho5, HX.out.trans hx5⟩)
      have HCL5 := Lib.hid (fun w' (hx : Ext w5 w') => HCL.out w' (hx5.trans hx))
      have HX5 := Lib.hid hx5
      have hgl5 : g < w5.heap.size := Nat.lt_of_lt_of_le hgl hx5.size
      clear HMq HO HCL ho5 hx5 c0
      go_wp2_with fail
      go_loopw [11, 7] (fun i v w6 => RAm W w3.heap.size A9 c9 D j ms i v w6 ∧ Ext w5 w6) (fun i _ _ => ms.length - (intOf i).toNat)
      case atStart => exact ⟨HM0.out, Ext.refl _⟩
      case round =>
        clear HM0
        obtain ⟨⟨t, ht, rfl, hO, hOm, hX⟩, hx56⟩ := hrel
        obtain ⟨w6, rfl⟩ : ∃ w6, w6 = wr := ⟨_, rfl⟩
        by_cases hlt2 : t < ms.length
        · have hd2 : decide ((t : Int) < (ms.length : Int)) = true := by simp; omega
          have tl : (t : Int) < (ms.length : Int) := by omega
          have tz : (0 : Int) ≤ (t : Int) := by omega
          obtain ⟨gm, om, rfl, r0⟩ := mv_at (Reads.of_own hOm) hlt2
          obtain ⟨hgm, _, a1, _⟩ := r0
          obtain ⟨_, hday⟩ := hmp.out _ (List.getElem_mem hlt2)
          have HPt := Lib.hid (perL_take (f := j.f) hlt2)
          have hPl : (perL j.f (ms.take t)).length ≤ 6400000 := by
            have := perL_len j.f (ms.take t)
            rw [List.length_take] at this
            omega
          have HL := Lib.hid (fun w' (hx : Ext w6 w') => (show w'.cell? ⟨g, off + k * 5 + 3, none⟩ = some (.int .i64 j.f) ∧ w'.cell? ⟨gm, om + t * 6 + 1, none⟩ = some (.int .i64 ms[t].day) from
            ⟨(HCL5.out w' (hx56.trans hx)).2, (mv_own2 (own_ext hOm hx) hlt2).2.2.1⟩))
          have HN2 := Lib.hid (fun (v : Value) (W2 : World) (hp2 : W2.ownsRow W.heap.size 62 2 v (D ++ pairJ j.id (insP (perL j.f (ms.take t)) (ofI j.f ms[t].day))).length (dueCl (D ++ pairJ j.id (insP (perL j.f (ms.take t)) (ofI j.f ms[t].day))))) (hx : Ext w6 W2) => (show RAm W w3.heap.size (some ⟨gm, om, none⟩) c9 D j ms (.int .i64 ((t + 1 : Nat) : Int)) v W2 ∧ Ext w5 W2 from
            ⟨⟨t + 1, by omega, rfl, by rw [HPt.out]; exact hp2, own_ext hOm hx, hX.trans hx⟩, hx56.trans hx⟩))
          have hps : (perL j.f (ms.take t)).Pairwise (· < ·) := (foldP_ok j.f (ms.take t) [] .nil).1
          obtain ⟨day, hdq⟩ : ∃ d, ms[t].day = d := ⟨_, rfl⟩
          rw [hdq] at a1 hday HL HN2
          generalize perL j.f (ms.take t) = P at *
          obtain ⟨N, hN⟩ : ∃ N, (D ++ pairJ j.id P).length = N := ⟨_, rfl⟩
          have hNd : N = D.length + P.length := by rw [← hN, List.length_append, pairJ_len]
          have hNb : N ≤ 416000000 := by omega
          replace hNd := Lib.hid hNd
          rw [hN] at hO
          obtain ⟨A8, c8, rfl, hcN, hcm, hrd8⟩ := own_slice hO
          have HX6 := Lib.hid (And.intro hx56 (And.intro hX hO))
          have HOf := Lib.hid (fun w => rof_any j.f day jf hday w)
          have hg6 : g < w6.heap.size := Nat.lt_of_lt_of_le hgl5 hx56.size
          obtain ⟨d0, d1⟩ := HL.out w6 (Ext.refl _)
          replace HPt := Lib.hid (And.intro HPt.out hps)
          have HD := Lib.hid (And.intro hday jf)
          replace hdq := Lib.hid hdq
          replace hN := Lib.hid hN
          have HR8 := Lib.hid hrd8
          clear hOm hx56 hX hO hps a1 hday jf hrd8
          go_upto_region 11 with (fail)
          go_region_held3 (fun w' => w'.cell? ⟨g, off + k * 5 + 3, none⟩ = some (.int .i64 j.f) ∧ w'.cell? ⟨gm, om + t * 6 + 1, none⟩ = some (.int .i64 day))
            (first | (with_reducible exact HL.out _ (Ext.refl w6).drew) | (with_reducible exact HL.out _ X2))
            (first | (go_at_call 76; refine (HOf.out _).mono ?_; rintro e w9 ⟨rfl, hx9⟩; have X2 : Ext w6 w9 := Ext.trans (by first | with_reducible exact (Ext.refl w6).drew | with_reducible exact Ext.refl w6) hx9))
          have HCL9 := Lib.hid (fun w' (hx : Ext w9 w') => (HCL5.out w' (HX6.out.1.trans (X2.trans hx))).1)
          have HR9 := Lib.hid (fun w' (hx : Ext w9 w') => HR8.out.ext (X2.trans hx))
          have HO9 := Lib.hid (own_ext HX6.out.2.2 X2)
          have HX9 := Lib.hid (And.intro X2 (HX6.out.2.1.trans X2))
          have hg9 : g < w9.heap.size := Nat.lt_of_lt_of_le hg6 X2.size
          clear d0 d1 hx9 X2 HR8 HL HPt HX6 HOf HD hdq hgm hg6 hgl5 HCL5
          generalize ofI j.f day = p at *
          go_wp2_with fail
          go_loopw [14] (fun i w => RAi w9 D.length P p i w) (fun i _ => N - (intOf i).toNat)
          case atStart => exact ⟨0, D.length, Nat.zero_le _, rfl, rfl, fun j _ h => absurd h (by omega), rfl⟩
          case round =>
            obtain ⟨q, z, hq, hz, rfl, hlo, rfl⟩ := hrel
            have zz : (0 : Int) ≤ (z : Int) := by omega
            have hzN : z ≤ N := by have := hNd.out; omega
            by_cases hst : ∃ hql : q < P.length, P[q] ≤ p
            · obtain ⟨hql, hle⟩ := hst
              have zl : (z : Int) < (N : Int) := by have := hNd.out; omega
              have hd3 : decide ((z : Int) < (N : Int)) = true := decide_eq_true zl
              obtain ⟨g8, o8, rfl, hg8, e8⟩ := rdue_at (HR9.out _ (Ext.refl _)) hN.out hql
              rw [← hz] at e8
              replace hz := Lib.hid hz
              by_cases hlt3 : P[q] < p
              · have hd4 : decide (P[q] < p) = true := by simpa using hlt3
                have HNx := Lib.hid (fun y (hy : y = z + 1) => RAi.next (W := w9) hql hz.out hlo hlt3 hy)
                clear hlo hle
                generalize P[q] = pq at *
                go_wp2_with fail
                go_roundw
                case rel => exact HNx.out _ rfl
                case measure => simp [intOf]; omega
              · have heq : P[q] = p := by omega
                have hd4 : decide (P[q] < p) = false := by simpa using hlt3
                have hd5 : (P[q] == p) = true := by simpa using heq
                have hd6 : (p == p) = true := by simp
                have HE := Lib.hid (HN2.out _ _ (by rw [insP_same hql hlo heq, hN.out]; exact HO9.out) HX9.out.1)
                have hdp : decide (p < p) = false := by simp
                clear hlo hle hlt3 HN2 HN
                rw [heq] at e8 hd4 hd5
                go_wp2_with fail
                go_roundw
                case rel => exact HE.out
                case measure => simp [intOf]; omega
            · have hge : ∀ hk : q < P.length, p < P[q] := fun hk => Int.not_le.1 fun h => hst ⟨hk, h⟩
              have hsl : ∀ W, (Instr.slice 56 (.slice A8 N c8) (some (.int .i64 (z : Int))) none none).run Tryz.prog W = .ok (.slice (cutS A8 c8 z 2) (N - z) (c8 - z)) W := by
                intro W
                rw [run_slice_l W 56 A8 N c8 Tryz.underlying56 .i64 (z : Int) (by omega) (by omega)]
                simp [go_sem, sliced, cutS]
              have zc : (z : Int) ≤ (c8 : Int) := by omega
              have zN : (z : Int) ≤ (N : Int) := by omega
              have hc9 := HCL9.out _ (Ext.refl w9)
              have HPut := Lib.hid (fun (v : Value) (W2 : World) (n : Nat) (xs : List Value) ho hn hxs => all_put (w := W2) (base := w9.heap.size) (base' := W.heap.size) (v := v) (n := n) (xs := xs) hz hq hlo hge hN.out ho hn hxs HX9.out.2.size)
              clear hlo hst
              replace hge := Lib.hid hge
              by_cases hql : q < P.length
              · have zl : (z : Int) < (N : Int) := by have := hNd.out; omega
                have hd3 : decide ((z : Int) < (N : Int)) = true := decide_eq_true zl
                obtain ⟨g8, o8, rfl, hg8, e8⟩ := rdue_at (HR9.out _ (Ext.refl _)) hN.out hql
                rw [← hz] at e8
                replace hz := Lib.hid hz
                have hgt := hge.out hql
                have hd4 : decide (P[q] < p) = false := by simp; omega
                have hd5 : (P[q] == p) = false := by simp; omega
                clear hge
                generalize P[q] = pq at *
                clear hgt
                go_upto_region 16 with (fail)
                clear e8 hd4 hd5
                go_region_held3 (fun w' => w'.cell? ⟨g, off + k * 5, none⟩ = some (.int .i64 j.id))
                  (exact HCL9.out _ (by repeat' (first | with_reducible assumption | with_reducible exact Ext.refl _ | refine Ext.drew ?_ | refine Ext.alloc ?_ _)))
                  (first
                    | (refine step_app (v := .slice (some ⟨w9.heap.size, 0, none⟩) 0 0) (n := 0) (xs := []) row_du w9 _ (.tmp 88) (.tmp 91) rfl rfl rfl (own_ext (own_lit (w0 := w9) (w := w9) (by repeat' (first | with_reducible assumption | with_reducible exact Ext.refl _ | refine Ext.drew ?_ | refine Ext.alloc ?_ _)) #[] _ 0 2 (by simp) (by decide) rfl) (by repeat' (first | with_reducible assumption | with_reducible exact Ext.refl _ | refine Ext.drew ?_ | refine Ext.alloc ?_ _))) (by repeat' (first | with_reducible assumption | with_reducible exact Ext.refl _ | refine Ext.drew ?_ | refine Ext.alloc ?_ _)) rfl ((HR9.out _ (by repeat' (first | with_reducible assumption | with_reducible exact Ext.refl _ | refine Ext.drew ?_ | refine Ext.alloc ?_ _))).take (k := z) hzN) (fun u hu => dueCl_one _ u (List.mem_of_mem_take hu)) (by omega) (by unfold maxLen; omega) ?_; intro v92 w92 hg92; have hb100 := ((Blk.new (w9.alloc (.cells #[] 62)) 62 #[.int .i64 j.id, .int .i64 p]).ext (Ext.refl _).drew).grown hg92.grown (by simp [Value.ownBlock]); simp at hb100; have ho92 := hg92.own; rw [Nat.zero_add, List.nil_append] at ho92; obtain ⟨A92, c92, rfl, _, _, _⟩ := own_slice ho92; have X4 : Ext w9 w92 := hg92.ext; have HO92 := Lib.hid ho92; clear hg92 ho92)
                    | (refine step_app (v := .slice (some ⟨w9.heap.size + 1, 0, none⟩) 0 0) (n := 0) (xs := []) row_du w9 _ (.tmp 88) (.tmp 91) rfl rfl rfl (own_ext (own_lit (w0 := w9) (w := w9.alloc (.cells #[.int .i64 j.id, .int .i64 p] 62)) (by repeat' (first | with_reducible assumption | with_reducible exact Ext.refl _ | refine Ext.drew ?_ | refine Ext.alloc ?_ _)) #[] _ 0 2 (by simp) (by decide) rfl) (by repeat' (first | with_reducible assumption | with_reducible exact Ext.refl _ | refine Ext.drew ?_ | refine Ext.alloc ?_ _))) (by repeat' (first | with_reducible assumption | with_reducible exact Ext.refl _ | refine Ext.drew ?_ | refine Ext.alloc ?_ _)) rfl ((HR9.out _ (by repeat' (first | with_reducible assumption | with_reducible exact Ext.refl _ | refine Ext.drew ?_ | refine Ext.alloc ?_ _))).take (k := z) hzN) (fun u hu => dueCl_one _ u (List.mem_of_mem_take hu)) (by omega) (by unfold maxLen; omega) ?_; intro v92 w92 hg92; have hb100 := (((Blk.new w9 62 #[.int .i64 j.id, .int .i64 p]).alloc (.cells #[] 62)).ext (Ext.refl _).drew).grown hg92.grown (by simp [Value.ownBlock]); have ho92 := hg92.own; rw [Nat.zero_add, List.nil_append] at ho92; obtain ⟨A92, c92, rfl, _, _, _⟩ := own_slice ho92; have X4 : Ext w9 w92 := hg92.ext; have HO92 := Lib.hid ho92; clear hg92 ho92)
                    | (refine step_app (n := 0) (xs := []) row_du w9 _ (.tmp 88) (.tmp 91) rfl rfl rfl (own_ext (own_lit (w0 := w9) (w := w9) (by repeat' (first | with_reducible assumption | with_reducible exact Ext.refl _ | refine Ext.drew ?_ | refine Ext.alloc ?_ _)) #[] _ 0 2 (by simp) (by decide) rfl) (by repeat' (first | with_reducible assumption | with_reducible exact Ext.refl _ | refine Ext.drew ?_ | refine Ext.alloc ?_ _))) (by repeat' (first | with_reducible assumption | with_reducible exact Ext.refl _ | refine Ext.drew ?_ | refine Ext.alloc ?_ _)) rfl ((HR9.out _ (by repeat' (first | with_reducible assumption | with_reducible exact Ext.refl _ | refine Ext.drew ?_ | refine Ext.alloc ?_ _))).take (k := z) hzN) (fun u hu => dueCl_one _ u (List.mem_of_mem_take hu)) (by omega) (by unfold maxLen; omega) ?_; intro v92 w92 hg92; have ho92 := hg92.own; rw [Nat.zero_add, List.nil_append] at ho92; obtain ⟨A92, c92, rfl, _, _, _⟩ := own_slice ho92; have X4 : Ext w9 w92 := hg92.ext; have HO92 := Lib.hid ho92; clear hg92 ho92)
                    | (refine step_app (v := .slice A92 z c92) row_du w9 _ (.tmp 92) (.tmp 100) rfl rfl rfl (own_ext HO92.out (by repeat' (first | with_reducible assumption | with_reducible exact Ext.refl _ | refine Ext.drew ?_ | refine Ext.alloc ?_ _))) (by repeat' (first | with_reducible assumption | with_reducible exact Ext.refl _ | refine Ext.drew ?_ | refine Ext.alloc ?_ _)) rfl (reads_new' w92 #[.int .i64 j.id, .int .i64 p] 62 1 2 rfl rfl) (by simp [Value.oneCell']) (by omega) (by unfold maxLen; omega) ?_; intro v101 w101 hg101; have ho101 := hg101.own; obtain ⟨A101, c101, rfl, _, _, _⟩ := own_slice ho101; have X5 : Ext w9 w101 := hg101.ext; have HO101 := Lib.hid ho101; clear hg101 ho101)
                    | (refine step_app (v := .slice A92 z c92) row_du w9 _ (.tmp 92) (.tmp 100) rfl rfl rfl (own_ext HO92.out (by repeat' (first | with_reducible assumption | with_reducible exact Ext.refl _ | refine Ext.drew ?_ | refine Ext.alloc ?_ _))) (by repeat' (first | with_reducible assumption | with_reducible exact Ext.refl _ | refine Ext.drew ?_ | refine Ext.alloc ?_ _)) rfl (reads_blk hb100 (m := 1) (size := 2) rfl) (by simp [Value.oneCell']) (by omega) (by unfold maxLen; omega) ?_; intro v101 w101 hg101; have ho101 := hg101.own; obtain ⟨A101, c101, rfl, _, _, _⟩ := own_slice ho101; have X5 : Ext w9 w101 := hg101.ext; have HO101 := Lib.hid ho101; clear hg101 ho101)
                    | (refine step_app (v := .slice A101 (z + 1) c101) row_du w9 _ (.tmp 101) (.tmp 104) rfl rfl rfl (own_ext HO101.out (by repeat' (first | with_reducible assumption | with_reducible exact Ext.refl _ | refine Ext.drew ?_ | refine Ext.alloc ?_ _))) (by repeat' (first | with_reducible assumption | with_reducible exact Ext.refl _ | refine Ext.drew ?_ | refine Ext.alloc ?_ _)) rfl ((HR9.out _ (by repeat' (first | with_reducible assumption | with_reducible exact Ext.refl _ | refine Ext.drew ?_ | refine Ext.alloc ?_ _))).cutS hzN hcN) (fun u hu => dueCl_one _ u (List.mem_of_mem_drop hu)) (by omega) (by unfold maxLen; omega) ?_; intro v105 w105 hg105; have ho105 := hg105.own; obtain ⟨A105, c105, rfl, _, _, _⟩ := own_slice ho105; have X6 : Ext w9 w105 := hg105.ext; have HO105 := Lib.hid ho105; clear hg105 ho105))
                all_goals
                  have HE := Lib.hid (HN2.out _ _ (HPut.out _ _ _ _ HO105.out (by omega) (by simp)) (HX9.out.1.trans X6))
                  clear HN HN2 HPut HO105 HR9 HO9 HCL9
                  go_wp2_with fail
                  go_roundw
                  case rel => exact HE.out
                  case measure => simp [intOf]; omega
              · have zl : ¬ (z : Int) < (N : Int) := by have := hNd.out; omega
                have hd3 : decide ((z : Int) < (N : Int)) = false := decide_eq_false zl
                replace hz := Lib.hid hz
                clear hge
                go_upto_region 16 with (fail)
                go_region_held3 (fun w' => w'.cell? ⟨g, off + k * 5, none⟩ = some (.int .i64 j.id))
                  (exact HCL9.out _ (by repeat' (first | with_reducible assumption | with_reducible exact Ext.refl _ | refine Ext.drew ?_ | refine Ext.alloc ?_ _)))
                  (first
                    | (refine step_app (v := .slice (some ⟨w9.heap.size, 0, none⟩) 0 0) (n := 0) (xs := []) row_du w9 _ (.tmp 88) (.tmp 91) rfl rfl rfl (own_ext (own_lit (w0 := w9) (w := w9) (by repeat' (first | with_reducible assumption | with_reducible exact Ext.refl _ | refine Ext.drew ?_ | refine Ext.alloc ?_ _)) #[] _ 0 2 (by simp) (by decide) rfl) (by repeat' (first | with_reducible assumption | with_reducible exact Ext.refl _ | refine Ext.drew ?_ | refine Ext.alloc ?_ _))) (by repeat' (first | with_reducible assumption | with_reducible exact Ext.refl _ | refine Ext.drew ?_ | refine Ext.alloc ?_ _)) rfl ((HR9.out _ (by repeat' (first | with_reducible assumption | with_reducible exact Ext.refl _ | refine Ext.drew ?_ | refine Ext.alloc ?_ _))).take (k := z) hzN) (fun u hu => dueCl_one _ u (List.mem_of_mem_take hu)) (by omega) (by unfold maxLen; omega) ?_; intro v92 w92 hg92; have hb100 := ((Blk.new (w9.alloc (.cells #[] 62)) 62 #[.int .i64 j.id, .int .i64 p]).ext (Ext.refl _).drew).grown hg92.grown (by simp [Value.ownBlock]); simp at hb100; have ho92 := hg92.own; rw [Nat.zero_add, List.nil_append] at ho92; obtain ⟨A92, c92, rfl, _, _, _⟩ := own_slice ho92; have X4 : Ext w9 w92 := hg92.ext; have HO92 := Lib.hid ho92; clear hg92 ho92)
                    | (refine step_app (v := .slice (some ⟨w9.heap.size + 1, 0, none⟩) 0 0) (n := 0) (xs := []) row_du w9 _ (.tmp 88) (.tmp 91) rfl rfl rfl (own_ext (own_lit (w0 := w9) (w := w9.alloc (.cells #[.int .i64 j.id, .int .i64 p] 62)) (by repeat' (first | with_reducible assumption | with_reducible exact Ext.refl _ | refine Ext.drew ?_ | refine Ext.alloc ?_ _)) #[] _ 0 2 (by simp) (by decide) rfl) (by repeat' (first | with_reducible assumption | with_reducible exact Ext.refl _ | refine Ext.drew ?_ | refine Ext.alloc ?_ _))) (by repeat' (first | with_reducible assumption | with_reducible exact Ext.refl _ | refine Ext.drew ?_ | refine Ext.alloc ?_ _)) rfl ((HR9.out _ (by repeat' (first | with_reducible assumption | with_reducible exact Ext.refl _ | refine Ext.drew ?_ | refine Ext.alloc ?_ _))).take (k := z) hzN) (fun u hu => dueCl_one _ u (List.mem_of_mem_take hu)) (by omega) (by unfold maxLen; omega) ?_; intro v92 w92 hg92; have hb100 := (((Blk.new w9 62 #[.int .i64 j.id, .int .i64 p]).alloc (.cells #[] 62)).ext (Ext.refl _).drew).grown hg92.grown (by simp [Value.ownBlock]); have ho92 := hg92.own; rw [Nat.zero_add, List.nil_append] at ho92; obtain ⟨A92, c92, rfl, _, _, _⟩ := own_slice ho92; have X4 : Ext w9 w92 := hg92.ext; have HO92 := Lib.hid ho92; clear hg92 ho92)
                    | (refine step_app (n := 0) (xs := []) row_du w9 _ (.tmp 88) (.tmp 91) rfl rfl rfl (own_ext (own_lit (w0 := w9) (w := w9) (by repeat' (first | with_reducible assumption | with_reducible exact Ext.refl _ | refine Ext.drew ?_ | refine Ext.alloc ?_ _)) #[] _ 0 2 (by simp) (by decide) rfl) (by repeat' (first | with_reducible assumption | with_reducible exact Ext.refl _ | refine Ext.drew ?_ | refine Ext.alloc ?_ _))) (by repeat' (first | with_reducible assumption | with_reducible exact Ext.refl _ | refine Ext.drew ?_ | refine Ext.alloc ?_ _)) rfl ((HR9.out _ (by repeat' (first | with_reducible assumption | with_reducible exact Ext.refl _ | refine Ext.drew ?_ | refine Ext.alloc ?_ _))).take (k := z) hzN) (fun u hu => dueCl_one _ u (List.mem_of_mem_take hu)) (by omega) (by unfold maxLen; omega) ?_; intro v92 w92 hg92; have ho92 := hg92.own; rw [Nat.zero_add, List.nil_append] at ho92; obtain ⟨A92, c92, rfl, _, _, _⟩ := own_slice ho92; have X4 : Ext w9 w92 := hg92.ext; have HO92 := Lib.hid ho92; clear hg92 ho92)
                    | (refine step_app (v := .slice A92 z c92) row_du w9 _ (.tmp 92) (.tmp 100) rfl rfl rfl (own_ext HO92.out (by repeat' (first | with_reducible assumption | with_reducible exact Ext.refl _ | refine Ext.drew ?_ | refine Ext.alloc ?_ _))) (by repeat' (first | with_reducible assumption | with_reducible exact Ext.refl _ | refine Ext.drew ?_ | refine Ext.alloc ?_ _)) rfl (reads_new' w92 #[.int .i64 j.id, .int .i64 p] 62 1 2 rfl rfl) (by simp [Value.oneCell']) (by omega) (by unfold maxLen; omega) ?_; intro v101 w101 hg101; have ho101 := hg101.own; obtain ⟨A101, c101, rfl, _, _, _⟩ := own_slice ho101; have X5 : Ext w9 w101 := hg101.ext; have HO101 := Lib.hid ho101; clear hg101 ho101)
                    | (refine step_app (v := .slice A92 z c92) row_du w9 _ (.tmp 92) (.tmp 100) rfl rfl rfl (own_ext HO92.out (by repeat' (first | with_reducible assumption | with_reducible exact Ext.refl _ | refine Ext.drew ?_ | refine Ext.alloc ?_ _))) (by repeat' (first | with_reducible assumption | with_reducible exact Ext.refl _ | refine Ext.drew ?_ | refine Ext.alloc ?_ _)) rfl (reads_blk hb100 (m := 1) (size := 2) rfl) (by simp [Value.oneCell']) (by omega) (by unfold maxLen; omega) ?_; intro v101 w101 hg101; have ho101 := hg101.own; obtain ⟨A101, c101, rfl, _, _, _⟩ := own_slice ho101; have X5 : Ext w9 w101 := hg101.ext; have HO101 := Lib.hid ho101; clear hg101 ho101)
                    | (refine step_app (v := .slice A101 (z + 1) c101) row_du w9 _ (.tmp 101) (.tmp 104) rfl rfl rfl (own_ext HO101.out (by repeat' (first | with_reducible assumption | with_reducible exact Ext.refl _ | refine Ext.drew ?_ | refine Ext.alloc ?_ _))) (by repeat' (first | with_reducible assumption | with_reducible exact Ext.refl _ | refine Ext.drew ?_ | refine Ext.alloc ?_ _)) rfl ((HR9.out _ (by repeat' (first | with_reducible assumption | with_reducible exact Ext.refl _ | refine Ext.drew ?_ | refine Ext.alloc ?_ _))).cutS hzN hcN) (fun u hu => dueCl_one _ u (List.mem_of_mem_drop hu)) (by omega) (by unfold maxLen; omega) ?_; intro v105 w105 hg105; have ho105 := hg105.own; obtain ⟨A105, c105, rfl, _, _, _⟩ := own_slice ho105; have X6 : Ext w9 w105 := hg105.ext; have HO105 := Lib.hid ho105; clear hg105 ho105))
                all_goals
                  have HE := Lib.hid (HN2.out _ _ (HPut.out _ _ _ _ HO105.out (by omega) (by simp)) (HX9.out.1.trans X6))
                  clear HN HN2 HPut HO105 HR9 HO9 HCL9
                  go_wp2_with fail
                  go_roundw
                  case rel => exact HE.out
                  case measure => simp [intOf]; omega
        · obtain rfl : t = ms.length := by omega
          have hd2 : decide ((ms.length : Int) < (ms.length : Int)) = false := by simp
          rw [List.take_length] at hO
          have HE := Lib.hid (HN.out _ _ hO hX)
          clear hO hOm hX hx56 HN
          go_wp2_with fail
          go_roundw
          case rel => exact HE.out
          case measure => simp [intOf]; omega
    · obtain rfl : k = l.length := by omega
      have hd : decide ((l.length : Int) < (l.length : Int)) = false := by simp
      have hjl : (jsOf l).take l.length = jsOf l := by rw [← jsOf_len l, List.take_length]
      rw [hjl, hD0.out] at hO
      obtain ⟨A7, c7, rfl, _, _, _⟩ := own_slice hO
      have HF := Lib.hid (And.intro hO hX)
      clear hO hX
      go_wp2_with fail
      go_ret
      exact ⟨_, rfl, HF.out.1, HF.out.2⟩
end Go.Proofs.YtokakpbpenndlaaGreatDoor
