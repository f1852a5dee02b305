/-
  Plain: all reports come to all moves.
-/
import Derived.Test.YtokakpbpenndlaaGreatDoorRs40
set_option linter.unusedVariables false
namespace Go.Proofs.YtokakpbpenndlaaGreatDoor
open Go.Sort Go.Shelf

/-- What is due, sorted: strictly rising. -/
theorem sortD_lt {ks ss : List (Int × Int)} (h : DueAll ks ss) : (sortD ss).Pairwise fun x y => ltDue x y = true := by
  have tr : ∀ x y z : Int × Int, (!(ltOf cmpDue) y x) = true → (!(ltOf cmpDue) z y) = true → (!(ltOf cmpDue) z x) = true := fun x y z h1 h2 => by
    rw [Bool.not_eq_true'] at *
    exact swoDue.ntrans z y x h2 h1
  have tot : ∀ x y : Int × Int, ((!(ltOf cmpDue) y x) || (!(ltOf cmpDue) x y)) = true := fun x y => by
    cases h1 : ltOf cmpDue y x with
    | false => rfl
    | true =>
      cases h2 : ltOf cmpDue x y with
      | false => rfl
      | true => exact absurd (swoDue.trans x y x h2 h1) (by rw [swoDue.irrefl]; decide)
  have h1 := List.pairwise_mergeSort tr tot ss
  have h2 : (sortD ss).Nodup := ((List.mergeSort_perm ss _).nodup_iff).2 h.1
  refine List.Pairwise.imp ?_ (h1.and h2)
  rintro x y ⟨a, b⟩
  rw [Bool.not_eq_true'] at a
  cases hc : ltOf cmpDue x y with
  | false => exact absurd (totDue x y hc a) b
  | true => rw [← cmp_lt]; exact hc
theorem sortD_mem {ks ss : List (Int × Int)} (h : DueAll ks ss) (q : Int × Int) : q ∈ sortD ss ↔ q ∈ ks :=
  ((List.mergeSort_perm ss _).mem_iff).trans (h.2 q)
def atJ (i : Int) (q : Int × Int) : Bool := decide (q.1 = i)
theorem split_first : ∀ (D : List (Int × Int)) (i : Int), D.Pairwise (fun x y => x.1 ≤ y.1) → (∀ q ∈ D, i ≤ q.1) → D = D.filter (atJ i) ++ D.filter (fun q => !atJ i q)
  | [], _, _, _ => rfl
  | q :: D, i, hs, hi => by
    rw [List.pairwise_cons] at hs
    by_cases h : q.1 = i
    · have := split_first D i hs.2 fun x hx => hi x (by simp [hx])
      rw [List.filter_cons_of_pos (by simpa [atJ] using h), List.filter_cons_of_neg (by simpa [atJ] using h), List.cons_append, ← this]
    · have hq := hi q (by simp)
      have hn : ∀ x ∈ q :: D, ¬ x.1 = i := by
        intro x hx
        rcases List.mem_cons.1 hx with rfl | hx
        · exact h
        · have := hs.1 x hx; omega
      rw [List.filter_eq_nil_iff.2 (fun x hx => by simpa [atJ] using hn x hx), List.nil_append, List.filter_eq_self.2 (fun x hx => by simpa [atJ] using hn x hx)]
theorem flatMap_same {α β : Type} {f g : α → List β} : ∀ {l : List α}, (∀ a ∈ l, f a = g a) → l.flatMap f = l.flatMap g
  | [], _ => rfl
  | a :: l, h => by rw [List.flatMap_cons, List.flatMap_cons, h a (by simp), flatMap_same fun x hx => h x (by simp [hx])]
theorem group_eq : ∀ (ids : List Int) (D : List (Int × Int)), ids.Pairwise (· < ·) → D.Pairwise (fun x y => x.1 ≤ y.1) → (∀ q ∈ D, q.1 ∈ ids) → D = ids.flatMap fun i => D.filter (atJ i)
  | [], D, _, _, h => by
    cases D with
    | nil => rfl
    | cons q D => exact absurd (h q (by simp)) List.not_mem_nil
  | i :: ids, D, hp, hs, h => by
    rw [List.pairwise_cons] at hp
    have h1 := split_first D i hs fun q hq => by
      rcases List.mem_cons.1 (h q hq) with e | e
      · omega
      · have := hp.1 _ e; omega
    have h2 := group_eq ids (D.filter fun q => !atJ i q) hp.2 (hs.sublist List.filter_sublist) fun q hq => by
      obtain ⟨ha, hb⟩ := List.mem_filter.1 hq
      rcases List.mem_cons.1 (h q ha) with e | e
      · simp [atJ, e] at hb
      · exact e
    rw [List.flatMap_cons]
    have h3 : ids.flatMap (fun k => D.filter (atJ k)) = ids.flatMap fun k => (D.filter fun q => !atJ i q).filter (atJ k) := by
      refine flatMap_same fun k hk => ?_
      rw [List.filter_filter]
      refine List.filter_congr fun x _ => ?_
      have hik := hp.1 k hk
      by_cases hx : x.1 = k
      · have : ¬ x.1 = i := by omega
        simp [atJ, hx]; omega
      · simp [atJ, hx]
    rw [h3, ← h2]
    exact h1
/-- The dues of the jurisdictions ahead of one. -/
def cutD (D : List (Int × Int)) (ids : List Int) (i : Nat) : List (Int × Int) := (ids.take i).flatMap fun k => D.filter (atJ k)
theorem cutD_next {D : List (Int × Int)} {ids : List Int} {i : Nat} (h : i < ids.length) : cutD D ids (i + 1) = cutD D ids i ++ D.filter (atJ ids[i]) := by
  unfold cutD
  rw [List.take_succ_eq_append_getElem h, List.flatMap_append]
  simp
theorem drop_flat {D : List (Int × Int)} {ids : List Int} {i : Nat} (hD : D = ids.flatMap fun i => D.filter (atJ i)) : D = cutD D ids i ++ (ids.drop i).flatMap fun k => D.filter (atJ k) := by
  unfold cutD
  rw [← List.flatMap_append, List.take_append_drop]
  exact hD
theorem due_at {D : List (Int × Int)} {ids : List Int} {i : Nat} (hD : D = ids.flatMap fun i => D.filter (atJ i)) (hp : ids.Pairwise (· < ·)) (h : i < ids.length) :
    (∀ t, t < (D.filter (atJ ids[i])).length → D[(cutD D ids i).length + t]? = (D.filter (atJ ids[i]))[t]?) ∧ (∀ q, D[(cutD D ids i).length + (D.filter (atJ ids[i])).length]? = some q → q.1 ≠ ids[i]) := by
  have h1 := drop_flat (i := i) hD
  rw [List.drop_eq_getElem_cons h, List.flatMap_cons] at h1
  generalize hC : cutD D ids i = C at *
  generalize hF : D.filter (atJ ids[i]) = F at *
  have hR : ∀ q ∈ (ids.drop (i + 1)).flatMap (fun k => D.filter (atJ k)), q.1 ≠ ids[i] := by
    intro q hq
    obtain ⟨k, hk, hq⟩ := List.mem_flatMap.1 hq
    have hk' := (List.mem_filter.1 hq).2
    simp only [atJ, decide_eq_true_eq] at hk'
    have h2 : ids.drop i = ids[i] :: ids.drop (i + 1) := List.drop_eq_getElem_cons h
    have h3 := hp.sublist (List.drop_sublist i ids)
    rw [h2, List.pairwise_cons] at h3
    have := h3.1 k hk
    omega
  generalize (ids.drop (i + 1)).flatMap (fun k => D.filter (atJ k)) = R at *
  rw [h1]
  refine ⟨fun t ht => ?_, fun q hq => ?_⟩
  · rw [List.getElem?_append_right (by omega), show C.length + t - C.length = t by omega, List.getElem?_append_left ht]
  · rw [List.getElem?_append_right (by omega), show C.length + F.length - C.length = F.length by omega, List.getElem?_append_right (by omega)] at hq
    exact hR q (List.mem_of_getElem? hq)
/-- A sum over moves. -/
def Summ (G : List Mv → Int) : Prop := G [] = 0 ∧ ∀ m l, G (m :: l) = G [m] + G l
def sumP (g : Int → Int) : List Int → Int
  | [] => 0
  | p :: l => g p + sumP g l
theorem sumP_snoc (g : Int → Int) : ∀ (l : List Int) (p : Int), sumP g (l ++ [p]) = sumP g l + g p
  | [], p => by simp [sumP]
  | q :: l, p => by
    show g q + sumP g (l ++ [p]) = g q + sumP g l + g p
    rw [sumP_snoc g l p]; omega
theorem sumP_take {g : Int → Int} {l : List Int} {k : Nat} (h : k < l.length) : sumP g (l.take (k + 1)) = sumP g (l.take k) + g l[k] := by
  rw [List.take_succ_eq_append_getElem h, sumP_snoc]
theorem sumP_add (g h : Int → Int) : ∀ l, sumP (fun p => g p + h p) l = sumP g l + sumP h l
  | [] => rfl
  | p :: l => by
    show g p + h p + sumP (fun p => g p + h p) l = g p + sumP g l + (h p + sumP h l)
    rw [sumP_add g h l]; omega
theorem sumP_zero : ∀ l, sumP (fun _ => 0) l = 0
  | [] => rfl
  | p :: l => by
    show 0 + sumP (fun _ => 0) l = 0
    rw [sumP_zero l]; rfl
theorem sumP_none (a v : Int) : ∀ l : List Int, a ∉ l → sumP (fun p => if a = p then v else 0) l = 0
  | [], _ => rfl
  | p :: l, h => by
    show (if a = p then v else 0) + sumP (fun p => if a = p then v else 0) l = 0
    rw [if_neg (fun e => h (by simp [e])), sumP_none a v l (fun e => h (by simp [e]))]; rfl
theorem sumP_one (a v : Int) : ∀ l : List Int, l.Nodup → a ∈ l → sumP (fun p => if a = p then v else 0) l = v
  | [], _, h => absurd h List.not_mem_nil
  | p :: l, hn, h => by
    rw [List.nodup_cons] at hn
    show (if a = p then v else 0) + sumP (fun p => if a = p then v else 0) l = v
    by_cases e : a = p
    · rw [if_pos e, sumP_none a v l (by rw [e]; exact hn.1)]; omega
    · rw [if_neg e, sumP_one a v l hn.2 (by simpa [e] using h)]; omega
theorem per_sum {G : List Mv → Int} (hG : Summ G) (f : Int) {ps : List Int} (hn : ps.Nodup) : ∀ ms : List Mv, (∀ m ∈ ms, ofI f m.day ∈ ps) → sumP (fun p => G (perM f p ms)) ps = G ms
  | [], _ => by
    rw [hG.1]
    have : (fun p : Int => G (perM f p [])) = fun _ => 0 := funext fun p => hG.1
    rw [this, sumP_zero]
  | m :: ms, h => by
    have e : (fun p : Int => G (perM f p (m :: ms))) = fun p => (if ofI f m.day = p then G [m] else 0) + G (perM f p ms) := by
      funext p
      unfold perM
      by_cases hq : ofI f m.day = p
      · rw [List.filter_cons_of_pos (by simpa [inP] using hq), hG.2, if_pos hq]
      · rw [List.filter_cons_of_neg (by simpa [inP] using hq), if_neg hq]; omega
    rw [e, sumP_add, sumP_one _ _ _ hn (h m (by simp)), per_sum hG f hn ms fun x hx => h x (by simp [hx]), hG.2 m ms]
theorem summ_sgS (c : Mv → Int) : Summ (sgS c) := ⟨rfl, fun m l => by simp [sgS]⟩
theorem summ_sales : Summ fun l => (salesN l : Int) := ⟨rfl, fun m l => by
  have := salesN_app [m] l
  simp only [List.singleton_append] at this
  show (salesN (m :: l) : Int) = (salesN [m] : Int) + (salesN l : Int)
  rw [this]; omega⟩
theorem summ_backs : Summ fun l => (backsN l : Int) := ⟨rfl, fun m l => by
  have := backsN_app [m] l
  simp only [List.singleton_append] at this
  show (backsN (m :: l) : Int) = (backsN [m] : Int) + (backsN l : Int)
  rw [this]; omega⟩
theorem sales_backs : ∀ l : List Mv, salesN l + backsN l = l.length
  | [] => rfl
  | m :: l => by
    have h1 := salesN_app [m] l
    have h2 := backsN_app [m] l
    simp only [List.singleton_append] at h1 h2
    have := sales_backs l
    have h3 : salesN [m] + backsN [m] = 1 := by
      unfold salesN backsN
      cases hb : m.back <;> simp [hb]
    rw [h1, h2, List.length_cons]
    omega

/-- Bounds of what was moved, where amounts and taxes are small. -/
def bd40 (l : Tx) : Prop := (-1099511627776 ≤ l.t ∧ l.t ≤ 1099511627776) ∧ (-1099511627776 ≤ l.x ∧ l.x ≤ 1099511627776) ∧ (-1099511627776 ≤ l.v ∧ l.v ≤ 1099511627776)
def lim40 (l : Tx) : Prop := l.t + l.x ≤ 1099511627776 ∧ l.v ≤ 1099511627776
def Bk.b40 (B : Bk) : Prop := ∀ x ∈ B, (x.e.k = 1 → ∀ l ∈ x.lines, lim40 l) ∧ ∀ l ∈ x.lines, bd40 l
def Ent.b40 (e : Ent) : Prop := (∀ n ∈ e.am, n ≤ 1099511627776) ∧ ∀ x ∈ e.tax, x.v ≤ 1099511627776
theorem Bk.b40_nil : Bk.b40 [] := fun x hx => absurd hx (by simp)
theorem bd40_zero : bd40 Tx.zero := by unfold bd40 Tx.zero; simp
theorem bd40_ret {x : Tx} (h : lim40 x) (b a : Int) : bd40 (x.ret b a).1 := by
  unfold lim40 at h
  unfold Tx.ret
  by_cases hok : x.ok = false
  · rw [if_pos hok]; exact bd40_zero
  rw [if_neg hok]
  by_cases he : (backI x.t (x.t + x.x) b a).2 = 0
  · rw [if_neg (by simpa using he)]
    obtain ⟨_, _, h3, h4, _, h6⟩ := Tx.ok_bd (x := x) (by simpa using hok)
    obtain ⟨_, n1, b1, b2, b3, b4, b5⟩ := backI_ok he
    have he' := backI_err (t' := x.v) h6 he
    obtain ⟨_, _, _, _, _, c4, c5⟩ := backI_ok he'
    unfold bd40
    simp only
    omega
  · rw [if_pos (by simpa using he)]; exact bd40_zero
theorem refLines_b40 {s : Kp} (h : ∀ l ∈ s.lines, lim40 l) (am : List Int) : ∀ l ∈ s.refLines am, bd40 l := by
  intro l hl
  unfold Kp.refLines at hl
  obtain ⟨x, hx0, hx⟩ := List.mem_flatMap.1 hl
  unfold Kp.refLine at hx
  by_cases hc : am.getD x.l.toNat 0 = 0
  · rw [if_pos hc] at hx; cases hx
  · rw [if_neg hc] at hx
    rw [List.mem_singleton.1 hx]
    exact bd40_ret (h x hx0) _ _
theorem Bk.b40_snoc {B : Bk} (h : B.b40) {x : Kp} (h1 : x.e.k = 1 → ∀ l ∈ x.lines, lim40 l) (h2 : ∀ l ∈ x.lines, bd40 l) : Bk.b40 (B ++ [x]) := by
  intro y hy
  rcases List.mem_append.1 hy with hy | hy
  · exact h y hy
  · rw [List.mem_singleton.1 hy]; exact ⟨h1, h2⟩
theorem Bk.b40_upd {B : Bk} (h : B.b40) (i : Int) (f : Kp → Kp) (hf : ∀ x, (f x).lines = x.lines) (he : ∀ x, (f x).e = x.e) : (B.upd i f).b40 := by
  intro y hy
  unfold Bk.upd at hy
  obtain ⟨x, hx, rfl⟩ := List.mem_map.1 hy
  by_cases hc : x.e.id = i
  · rw [if_pos hc, hf, he]; exact h x hx
  · rw [if_neg hc]; exact h x hx
theorem put_b40 {B : Bk} (h : B.b40) {e : Ent} (hc : e.check = 0) (hb : e.b40) : (B.put e).1.b40 := by
  unfold Bk.put
  by_cases hk : e.k = 1
  · rw [if_pos hk]
    have hf := (Ent.check_ok hc).2.2
    unfold Ent.fine at hf
    rw [if_pos hk] at hf
    unfold Ent.saleFine at hf
    simp only [Bool.and_eq_true, decide_eq_true_eq] at hf
    have hl : ∀ l ∈ e.tax, lim40 l := fun l hl => by
      refine ⟨?_, hb.2 l hl⟩
      have h1 := List.all_eq_true.1 hf.2 l hl
      unfold Tx.fits at h1
      simp only [Bool.and_eq_true, decide_eq_true_eq] at h1
      rw [h1.2]
      have h2 : e.am.getD l.l.toNat 0 = e.am[l.l.toNat] := by simp [List.getD, h1.1]
      rw [h2]
      exact hb.1 _ (List.getElem_mem h1.1)
    refine Bk.b40_snoc h (fun _ => hl) fun l hx => ?_
    obtain ⟨_, _, h3, h4, _, h6⟩ := Tx.ok_bd (checkTax_mem hf.1.1.1 l hx)
    have := hl l hx
    unfold lim40 at this
    unfold bd40
    omega
  rw [if_neg hk]
  by_cases hk2 : e.k = 2
  · rw [if_pos hk2]
    cases hs : B.sale e.of_ with
    | none => exact Bk.b40_snoc h (fun h => absurd h hk) fun l hl => absurd hl (by simp)
    | some s =>
      obtain ⟨s1, _, s3⟩ := sale_mem' hs
      exact Bk.b40_snoc (Bk.b40_upd h e.of_ (fun x => { x with back := addL x.back e.am }) (fun _ => rfl) fun _ => rfl) (fun h => absurd h hk) (refLines_b40 ((h s s1).1 s3) e.am)
  rw [if_neg hk2]
  by_cases hk3 : e.k = 3
  · rw [if_pos hk3]
    exact Bk.b40_snoc (Bk.b40_upd h e.of_ (fun x => { x with voided := true }) (fun _ => rfl) fun _ => rfl) (fun h => absurd h hk) fun l hl => absurd hl (by simp)
  rw [if_neg hk3]
  exact Bk.b40_snoc h (fun h => absurd h hk) fun l hl => absurd hl (by simp)
theorem add_b40 {B : Bk} (h : B.b40) {e : Ent} (hb : e.b40) : (B.add e).1.b40 := by
  by_cases hm : B.may e = 0
  · have : (B.add e).1 = (B.put e).1 := by unfold Bk.add; rw [if_pos hm]
    rw [this]; exact put_b40 h (may_check hm) hb
  · rw [add_no hm]; exact h
theorem moves_b40 {B : Bk} (h : B.b40) {j : Int} : ∀ m ∈ B.moves j, (-1099511627776 ≤ m.t ∧ m.t ≤ 1099511627776) ∧ (-1099511627776 ≤ m.x ∧ m.x ≤ 1099511627776) ∧ (-1099511627776 ≤ m.v ∧ m.v ≤ 1099511627776) := by
  intro m hm
  unfold Bk.moves at hm
  obtain ⟨x, hx, hm⟩ := List.mem_flatMap.1 hm
  unfold Kp.moves at hm
  by_cases hv : x.voided = true
  · rw [if_pos hv] at hm; cases hm
  rw [if_neg hv] at hm
  obtain ⟨l, hl, rfl⟩ := List.mem_map.1 hm
  exact (h x hx).2 l (List.mem_filter.1 hl).1
theorem sgS_b40 {c : Mv → Int} : ∀ {l : List Mv}, (∀ m ∈ l, -1099511627776 ≤ c m ∧ c m ≤ 1099511627776) → -(1099511627776 * (l.length : Int)) ≤ sgS c l ∧ sgS c l ≤ 1099511627776 * (l.length : Int)
  | [], _ => by simp [sgS]
  | m :: l, h => by
    have h1 := h m (by simp)
    have h2 := sgS_b40 (c := c) (l := l) fun x hx => h x (by simp [hx])
    rw [show sgS c (m :: l) = (if m.back then - c m else c m) + sgS c l from rfl]
    simp only [List.length_cons]
    split <;> omega
theorem rep_fits {B : Bk} (h : B.b40) (hs : B.small) (hl : B.length ≤ 25) (id f p : Int) : (repOf id f p (B.moves id)).fits := by
  have h1 := moves_le hs id
  have h2 := perM_le f p (B.moves id)
  have hb : ∀ m ∈ perM f p (B.moves id), _ := fun m hm => moves_b40 h m (List.mem_filter.1 hm).1
  have a1 := sgS_b40 (c := Mv.t) fun m hm => (hb m hm).1
  have a2 := sgS_b40 (c := Mv.x) fun m hm => (hb m hm).2.1
  have a3 := sgS_b40 (c := Mv.v) fun m hm => (hb m hm).2.2
  have hn : (perM f p (B.moves id)).length ≤ 160000 := by omega
  unfold Rep.fits repOf i64
  simp only
  omega

/-- What is due, in order: of each jurisdiction its periods. -/
structure DueOf (B : Bk) (js : List Jur) (D : List (Int × Int)) : Prop where
  lt : D.Pairwise fun x y => ltDue x y = true
  mem : ∀ q, q ∈ D ↔ ∃ j ∈ js, ∃ m ∈ B.moves j.id, q = (j.id, ofI j.f m.day)
theorem dueOf {B : Bk} {js : List Jur} {ss : List (Int × Int)} (hc : (checkJ js).1 = 0) (h : DueAll (B.dues js) ss) : DueOf B js (sortD ss) := by
  refine ⟨sortD_lt h, fun q => ?_⟩
  rw [sortD_mem h]
  unfold Bk.dues
  rw [if_neg (by simp [hc])]
  unfold Bk.duesL dueM
  simp only [List.mem_flatMap, List.mem_map]
  constructor
  · rintro ⟨j, hj, m, hm, rfl⟩; exact ⟨j, hj, m, hm, rfl⟩
  · rintro ⟨j, hj, m, hm, rfl⟩; exact ⟨j, hj, m, hm, rfl⟩
theorem getD_at (l : List Jur) (i : Nat) (h : i < l.length) : l.getD i Jur.zero = l[i] := by simp [List.getD, h]
theorem ids_rise {js : List Jur} (hc : (checkJ js).1 = 0) : (js.map Jur.id).Pairwise (· < ·) := by
  obtain ⟨_, _, h⟩ := checkJ_ok hc
  have key : ∀ d i, i + d + 1 < js.length → (js.getD i Jur.zero).id < (js.getD (i + d + 1) Jur.zero).id := by
    intro d
    induction d with
    | zero => intro i hi; exact h i hi
    | succ d ih =>
      intro i hi
      have h1 := ih i (by omega)
      have h2 := h (i + d + 1) (by omega)
      rw [show i + (d + 1) + 1 = i + d + 1 + 1 by omega]
      omega
  rw [List.pairwise_iff_getElem]
  intro a b ha hb hab
  have ha' : a < js.length := by simpa using ha
  have hb' : b < js.length := by simpa using hb
  have := key (b - a - 1) a (by omega)
  rw [show a + (b - a - 1) + 1 = b by omega, getD_at _ _ ha', getD_at _ _ hb'] at this
  simpa using this
theorem DueOf.group {B : Bk} {js : List Jur} {D : List (Int × Int)} (h : DueOf B js D) (hc : (checkJ js).1 = 0) : D = (js.map Jur.id).flatMap fun i => D.filter (atJ i) := by
  refine group_eq _ _ (ids_rise hc) (h.lt.imp fun {x y} hxy => ?_) fun q hq => ?_
  · unfold ltDue at hxy
    simp at hxy
    omega
  · obtain ⟨j, hj, m, _, rfl⟩ := (h.mem q).1 hq
    exact List.mem_map.2 ⟨j, hj, rfl⟩
theorem same_jur {js : List Jur} (hc : (checkJ js).1 = 0) {x y : Jur} (hx : x ∈ js) (hy : y ∈ js) (h : x.id = y.id) : x = y := by
  obtain ⟨a, ha, rfl⟩ := List.mem_iff_getElem.1 hx
  obtain ⟨b, hb, rfl⟩ := List.mem_iff_getElem.1 hy
  have hp := ids_rise hc
  rw [List.pairwise_iff_getElem] at hp
  by_cases h1 : a < b
  · have := hp a b (by simpa using ha) (by simpa using hb) h1
    simp at this; omega
  by_cases h2 : b < a
  · have := hp b a (by simpa using hb) (by simpa using ha) h2
    simp at this; omega
  have : a = b := by omega
  subst this; rfl
theorem find_own {js : List Jur} (hc : (checkJ js).1 = 0) {j : Jur} (h : j ∈ js) : findJ js j.id = some j := by
  cases hf : findJ js j.id with
  | none =>
    unfold findJ at hf
    rw [List.find?_eq_none] at hf
    exact absurd (by simp) (hf j h)
  | some x =>
    obtain ⟨h1, h2⟩ := findJ_mem hf
    rw [same_jur hc h1 h h2]
/-- A jurisdiction's periods. -/
def perD (D : List (Int × Int)) (id : Int) : List Int := (D.filter (atJ id)).map (·.2)
theorem perD_nodup {B : Bk} {js : List Jur} {D : List (Int × Int)} (h : DueOf B js D) (id : Int) : (perD D id).Nodup := by
  unfold perD List.Nodup
  rw [List.pairwise_map]
  refine List.Pairwise.imp_of_mem (R := fun x y => ltDue x y = true) ?_ (h.lt.sublist List.filter_sublist)
  intro x y hx hy hxy e
  have h1 := (List.mem_filter.1 hx).2
  have h2 := (List.mem_filter.1 hy).2
  simp only [atJ, decide_eq_true_eq] at h1 h2
  unfold ltDue at hxy
  simp at hxy
  omega
theorem perD_sum {B : Bk} {js : List Jur} {D : List (Int × Int)} (h : DueOf B js D) {j : Jur} (hj : j ∈ js) {G : List Mv → Int} (hG : Summ G) : sumP (fun p => G (perM j.f p (B.moves j.id))) (perD D j.id) = G (B.moves j.id) := by
  refine per_sum hG j.f (perD_nodup h j.id) _ fun m hm => ?_
  unfold perD
  refine List.mem_map.2 ⟨(j.id, ofI j.f m.day), List.mem_filter.2 ⟨(h.mem _).2 ⟨j, hj, m, hm, rfl⟩, by simp [atJ]⟩, rfl⟩
/-- What is filed of a period that is due. -/
theorem DueOf.file {B : Bk} {js : List Jur} {D : List (Int × Int)} (h : DueOf B js D) (hc : (checkJ js).1 = 0) {j : Jur} (hj : j ∈ js) {p : Int} (hp : p ∈ perD D j.id) (h40 : B.b40) (hs : B.small) (hl : B.length ≤ 25) (hd : ∀ m ∈ B.moves j.id, 0 ≤ m.day ∧ m.day ≤ 3652058) :
    B.file js j.id p = (repOf j.id j.f p (B.moves j.id), 0) ∧ 1 ≤ salesN (perM j.f p (B.moves j.id)) + backsN (perM j.f p (B.moves j.id)) := by
  unfold perD at hp
  obtain ⟨q, hq, rfl⟩ := List.mem_map.1 hp
  obtain ⟨hq1, hq2⟩ := List.mem_filter.1 hq
  simp only [atJ, decide_eq_true_eq] at hq2
  obtain ⟨j', hj', m, hm, rfl⟩ := (h.mem q).1 hq1
  simp only at hq2
  obtain rfl := same_jur hc hj' hj hq2
  obtain ⟨k, hk, e⟩ := List.mem_iff_getElem.1 hj
  obtain ⟨_, hb, _⟩ := checkJ_ok hc
  have hf := (hb k hk).2
  rw [getD_at _ _ hk, e] at hf
  refine ⟨?_, ?_⟩
  · unfold Bk.file
    rw [if_neg (by simp [hc]), find_own hc hj]
    simp only
    rw [if_neg (by simpa using ofI_fine hf (hd m hm)), if_pos (rep_fits h40 hs hl _ _ _)]
  · rw [sales_backs]
    exact List.length_pos_of_mem (List.mem_filter.2 ⟨hm, by simp [inP]⟩)
end Go.Proofs.YtokakpbpenndlaaGreatDoor
