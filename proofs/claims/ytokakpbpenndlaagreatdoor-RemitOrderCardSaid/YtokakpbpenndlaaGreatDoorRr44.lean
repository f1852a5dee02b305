/-
  The statements' sameDue; the statement RemitKnown: the walk.
-/
import Derived.Test.YtokakpbpenndlaaGreatDoorRr41
import Derived.Test.YtokakpbpenndlaaGreatDoorRr43
import Derived.Test.YtokakpbpenndlaaGreatDoorRr27
import Derived.Test.YtokakpbpenndlaaGreatDoorRr40
import Derived.Test.YtokakpbpenndlaaGreatDoorRr28
set_option linter.unusedVariables false
namespace Go.Proofs.YtokakpbpenndlaaGreatDoor
open Go.RowKit Go.Maps Go.Sort Go.Shelf

theorem dueCl_at (l : List (Int × Int)) (k : Nat) (h : k < l.length) : (dueCl l)[k * 2]? = some (.int .i64 l[k].1) ∧ (dueCl l)[k * 2 + 1]? = some (.int .i64 l[k].2) :=
  ⟨flat_get (f := fun p : Int × Int => dueE p) (c := 2) (fun _ => rfl) l k 0 h (by decide), flat_get (f := fun p : Int × Int => dueE p) (c := 2) (fun _ => rfl) l k 1 h (by decide)⟩
theorem neq_due (x y : Int × Int) (r : Bool) (h : r = decide (x ≠ y)) (w : World) : (binOp .neq 62 (.agg #[.int .i64 x.1, .int .i64 x.2]) (.agg #[.int .i64 y.1, .int .i64 y.2])).run Tryz.prog w = .ok (.bool r) w := by
  subst h
  obtain ⟨a, b⟩ := x
  obtain ⟨a', b'⟩ := y
  by_cases h1 : a = a'
  · by_cases h2 : b = b' <;> simp [go_sem, h1, h2]
  · simp [go_sem, h1]
set_option maxHeartbeats 1000000 in
theorem sameDue_any (a b : List (Int × Int)) (A A' : Option Addr) (n n' c c' : Nat) (w : World) (hn : a.length = n) (hn' : b.length = n') (h1 : Reads w w.heap.size 2 A n (dueCl a)) (h2 : Reads w w.heap.size 2 A' n' (dueCl b)) (m1 : n ≤ maxLen) (m2 : n' ≤ maxLen) :
    Calls Tryz.prog 33 #[.slice A n c, .slice A' n' c'] w fun e w' => e = .returned (.bool (decide (a = b))) ∧ Ext w w' := by
  subst hn hn'
  unfold maxLen at m1 m2
  by_cases hl : a.length = b.length
  · have hb : ((a.length : Int) != (b.length : Int)) = false := by simp; omega
    have HL := Lib.hid hl
    clear hl
    go_enter Tryz.func33, Tryz.ntmps33
    go_wp2
    go_loopw [5] (fun i wr => SameRel w a.length (fun j => a[j]? = b[j]?) i wr) (fun i _ => a.length - (intOf i).toNat)
    case atStart => exact ⟨0, by omega, rfl, Ext.refl _, fun j hj => by omega⟩
    case round =>
      obtain ⟨k, hk, rfl, hx, hP⟩ := hrel
      have HP := Lib.hid hP
      clear hP
      by_cases hlt : k < a.length
      · have hlt2 : k < b.length := by have := HL.out; omega
        have hd : decide ((k : Int) < (a.length : Int)) = true := by simp; omega
        obtain ⟨g, off, rfl, hg, hc⟩ := (h1.extB (Nat.le_refl _) hx).cellAt hlt
        obtain ⟨g', off', rfl, hg', hc'⟩ := (h2.extB (Nat.le_refl _) hx).cellAt hlt2
        obtain ⟨e1, e2⟩ := dueCl_at a k hlt
        obtain ⟨f1, f2⟩ := dueCl_at b k hlt2
        have c1 := hc _ _ e1
        have c2 : wr.cell? ⟨g, off + k * 2 + 1, none⟩ = _ := hc _ _ e2
        have d1 := hc' _ _ f1
        have d2 : wr.cell? ⟨g', off' + k * 2 + 1, none⟩ = _ := hc' _ _ f2
        clear hc hc' e1 e2 f1 f2 h1 h2
        by_cases he : a[k] = b[k]
        · have hq := neq_due a[k] b[k] false (by simp [he])
          have HE := Lib.hid (show a[k]? = b[k]? by simp [hlt, hlt2, he])
          clear he
          go_wp2_with fail
          go_quiet (fail)
          go_wp2_with fail
          go_roundw
          case rel => exact SameRel.next hlt (hx.drewN _) HP.out HE.out rfl
          case measure => simp [intOf]; omega
        · have hq := neq_due a[k] b[k] true (by simp [he])
          have HE := Lib.hid (show decide (a = b) = false by simp; rintro rfl; exact he rfl)
          clear he
          go_wp2_with fail
          go_quiet (fail)
          go_wp2_with fail
          go_ret
          exact ⟨by rw [HE.out]; rfl, hx.drewN _⟩
      · have hd : decide ((k : Int) < (a.length : Int)) = false := by simp; omega
        have HE := Lib.hid (show decide (a = b) = true by simpa using SameRel.done (w := w) (wr := wr) (by omega) HL.out HP.out)
        go_wp2_with fail
        go_ret
        exact ⟨by rw [HE.out]; rfl, hx⟩
  · have hb : ((a.length : Int) != (b.length : Int)) = true := by rw [bne_iff_ne]; omega
    have HE := Lib.hid (show decide (a = b) = false by simp; rintro rfl; exact hl rfl)
    clear hl
    go_enter Tryz.func33, Tryz.ntmps33
    go_wp2
    go_ret
    exact ⟨by rw [HE.out]; rfl, Ext.refl _⟩
/-- All of a book in use. -/
theorem One.all {w W : World} {bb mb : Nat} {K : Bk} (h : One w W bb mb K) (hs : K.small) (h3 : K.b3) (hk : K.length ≤ 100000) (l : List JV) (A : Option Addr) (cap n : Nat) (hn : l.length = n) (hr : Reads W W.heap.size 5 A n (jvCells l)) (hm : n ≤ maxLen) :
    Calls Tryz.prog 31 #[.pointer (some ⟨bb, 0, none⟩), .slice A n cap] W fun r W' => ∃ v ss, r = .returned v ∧ DueAll (K.dues (jsOf l)) ss ∧ W'.ownsRow W.heap.size 62 2 v ss.length (dueCl (sortD ss)) ∧ One w W' bb mb K ∧ Ext W W' := by
  subst hn
  obtain ⟨v, M, hB, rfl, hx⟩ := h
  refine (rall_any hB (by rw [← BkM.len_b]; exact hk) hs h3 l A cap hr hm).mono ?_
  rintro r W' ⟨u, ss, rfl, hS, ho, hx2⟩
  exact ⟨u, ss, rfl, hS, ho, ⟨v, M, hB.ext hx2, rfl, hx.trans hx2⟩, hx2⟩
/-- What is due is one. -/
theorem due_one {ks ss : List (Int × Int)} {p : Int × Int} (hk : ∀ q, q ∈ ks ↔ q = p) (h : DueAll ks ss) : ss = [p] := by
  obtain ⟨hn, hm⟩ := h
  have h1 : ∀ q, q ∈ ss ↔ q = p := fun q => (hm q).trans (hk q)
  match ss, hn, h1 with
  | [], _, h1 => exact absurd ((h1 p).2 rfl) List.not_mem_nil
  | [a], _, h1 => rw [(h1 a).1 (by simp)]
  | a :: b :: r, hn, h1 =>
    have ha := (h1 a).1 (by simp)
    have hb := (h1 b).1 (by simp)
    simp [ha, hb] at hn
theorem known_dues (q : Int × Int) : q ∈ Bk.dues bk1 [⟨7, 1, 0, 1⟩] ↔ q = (7, 0) := by
  have h : Bk.dues bk1 [⟨7, 1, 0, 1⟩] = [(7, 0), (7, 0), (7, 0)] := by
    unfold Bk.dues
    rw [if_neg (by decide)]
    show dueM ⟨7, 1, 0, 1⟩ (bk1.moves 7) ++ [] = _
    rw [k_mv]
    simp [dueM, mv3, of10, of12]
  rw [h]
  simp
theorem known_none : Bk.file bk1 [⟨7, 1, 0, 1⟩] 7 1 = (⟨7, 1, 1, 0, 0, 0, 0, 0⟩, 0) := by
  unfold Bk.file
  rw [if_neg (by decide), show findJ [⟨7, 1, 0, 1⟩] 7 = some ⟨7, 1, 0, 1⟩ by decide]
  simp only
  rw [if_neg (by decide), k_mv]
  have hp : perM 1 1 mv3 = [] := by
    unfold perM mv3 inP
    simp [of10, of12]
  have : repOf 7 1 1 mv3 = ⟨7, 1, 1, 0, 0, 0, 0, 0⟩ := by unfold repOf; rw [hp]; rfl
  rw [this, if_pos (by decide)]
theorem known_eight : Bk.file bk1 [⟨7, 1, 0, 1⟩] 8 0 = (Rep.zero, 6) := by
  unfold Bk.file
  rw [if_neg (by decide), show findJ [⟨7, 1, 0, 1⟩] 8 = none by decide]
theorem first_bytes : repFirst.bytes = [14, 2, 0, 200, 1, 0, 14, 4, 2] := by decide
def repKnown : Rep := ⟨7, 1, 1, 0, 0, 0, 0, 0⟩
set_option maxRecDepth 100000 in
set_option maxHeartbeats 4000000 in
theorem remitKnown_any (w : World) (ht : Tab10 w) : Calls Tryz.prog 8 #[] w fun r w' => r = .returned (.bool true) ∧ Ext w w' := by
  have HT := Lib.hid (fun W (hx : Ext w W) => ht.ext hx)
  clear ht
  go_enter Tryz.func8, Tryz.ntmps8
  go_wp2_with fail
  refine (sample30_any _).mono ?_
  rintro r w1 ⟨bb, mb, rfl, O1⟩
  go_wp2_with fail
  refine (seven30_any _).mono ?_
  rintro r w2 ⟨A2, rfl, R2, hx2⟩
  have O2 := O1.to hx2
  have OF : Calls Tryz.prog 29 #[.pointer (some ⟨bb, 0, none⟩), .slice A2 1 1, .int .i64 7, .int .i64 1] w2 fun r W' => r = .returned (.tuple #[.agg #[.int .i64 7, .int .i64 1, .int .i64 1, .int .i64 0, .int .i64 0, .int .i64 0, .int .i64 0, .int .i64 0], .int .i64 0]) ∧ One w W' bb mb bk1 ∧ Ext w2 W' :=
    O2.file small_b1 b3_bk1 (by simp [bk1]) [jSeven] A2 1 1 rfl R2 (by simp [maxLen]) 7 1 known_none
  replace OF := Lib.hid OF
  go_wp2_with fail
  refine OF.out.mono ?_
  rintro r w3 ⟨rfl, O3, hx3⟩
  clear O1 O2 R2 hx2 hx3 OF
  have B2 := Blk.new w3 23 #[.int .i64 7, .int .i64 1, .int .i64 1, .int .i64 0, .int .i64 0, .int .i64 0, .int .i64 0, .int .i64 0]
  have X4 := (Ext.refl w3).alloc (.cells #[.int .i64 7, .int .i64 1, .int .i64 1, .int .i64 0, .int .i64 0, .int .i64 0, .int .i64 0, .int .i64 0] 23)
  have O4 := O3.to X4
  clear O3 X4
  go_wp2_with fail
  generalize w3.alloc (.cells #[.int .i64 7, .int .i64 1, .int .i64 1, .int .i64 0, .int .i64 0, .int .i64 0, .int .i64 0, .int .i64 0] 23) = w4 at *
  generalize w3.heap.size = g2 at *
  refine (seven30_any _).mono ?_
  rintro r w5 ⟨A5, rfl, R5, hx5⟩
  have O5 := O4.to hx5
  have B5 := B2.ext hx5
  have OF := Lib.hid (O5.file small_b1 b3_bk1 (by simp [bk1]) [jSeven] A5 1 1 rfl R5 (by simp [maxLen]) 8 0 known_eight)
  clear O4 B2 hx5
  go_wp2_with fail
  refine OF.out.mono ?_
  rintro r w6 ⟨rfl, O6, hx6⟩
  have B6 := B5.ext hx6
  clear O5 B5 hx6 OF R5
  have X7 := (Ext.refl w6).alloc (.cells #[.int .i64 Rep.zero.j, .int .i64 Rep.zero.k, .int .i64 Rep.zero.p, .int .i64 Rep.zero.t, .int .i64 Rep.zero.x, .int .i64 Rep.zero.v, .int .i64 Rep.zero.s, .int .i64 Rep.zero.r] 23)
  have O7 := O6.to X7
  have B7 := B6.ext X7
  clear O6 B6 X7
  go_wp2_with fail
  generalize w6.alloc (.cells #[.int .i64 Rep.zero.j, .int .i64 Rep.zero.k, .int .i64 Rep.zero.p, .int .i64 Rep.zero.t, .int .i64 Rep.zero.x, .int .i64 Rep.zero.v, .int .i64 Rep.zero.s, .int .i64 Rep.zero.r] 23) = w7 at *
  generalize w6.heap.size = g4 at *
  refine (first30_any _).mono ?_
  rintro r w8 ⟨rfl, hx8⟩
  have O8 := O7.to hx8
  have B8 := B7.ext hx8
  have HBy := Lib.hid (rbytes30_any repFirst first_i64 w8)
  rw [first_check, first_bytes] at HBy
  clear O7 B7 hx8
  go_wp2_with fail
  refine HBy.out.mono ?_
  rintro r w9 ⟨v9, rfl, ho9, hx9, _⟩
  obtain ⟨A9, c9, rfl, _, _, R9⟩ := own_slice ho9
  have O9 := O8.to hx9
  have B9 := B8.ext hx9
  clear O8 B8 hx9 ho9 HBy
  go_wp2_with fail
  refine (awake30_any _ (HT.out _ O9.x)).mono ?_
  rintro r w10 ⟨rfl, hx10⟩
  have O10 := O9.to hx10
  have B10 := B9.ext hx10
  have R10 := R9.ext hx10
  clear O9 B9 R9 hx10
  obtain ⟨q, q'⟩ := B10.cells
  have heq : ∀ W, (binOp .eql 23 (.agg #[.int .i64 7, .int .i64 1, .int .i64 1, .int .i64 0, .int .i64 0, .int .i64 0, .int .i64 0, .int .i64 0]) (.agg #[.int .i64 7, .int .i64 1, .int .i64 1, .int .i64 0, .int .i64 0, .int .i64 0, .int .i64 0, .int .i64 0])).run Tryz.prog W = .ok (.bool true) W := eql_rep repKnown repKnown true (by simp)
  go_wp2_with fail
  refine (seven30_any _).mono ?_
  rintro r w11 ⟨A11, rfl, R11, hx11⟩
  have O11 := O10.to hx11
  have R11b := R10.ext hx11
  have OA := Lib.hid (O11.all small_b1 b3_bk1 (by simp [bk1]) [jSeven] A11 1 1 rfl R11 (by simp [maxLen]))
  clear O10 R10 hx11 q q' B10
  go_wp2_with fail
  refine OA.out.mono ?_
  rintro r w12 ⟨v12, ss, rfl, hS, ho12, O12, hx12⟩
  obtain rfl : ss = [(7, 0)] := due_one known_dues hS
  obtain ⟨A12, c12, rfl, _, _, R12⟩ := own_slice ho12
  have R12b := R11b.ext hx12
  have hs1 : sortD [(7, 0)] = [(7, 0)] := by simp [sortD]
  rw [hs1] at R12
  clear OA R11 R11b hS ho12 hx12 O11 hs1
  have X13 := (Ext.refl w12).alloc (.cells #[.int .i64 7, .int .i64 0] 62)
  have R13 := reads_c w12 #[.int .i64 7, .int .i64 0] 62 1 2 (dueCl [(7, 0)]) rfl rfl
  go_wp2_with fail
  have R12c := R12.ext X13
  have R12d := R12b.ext X13
  have O13 := O12.to X13
  clear R12 R12b O12 X13
  generalize w12.alloc (.cells #[.int .i64 7, .int .i64 0] 62) = w13 at *
  generalize w12.heap.size = g13 at *
  refine (sameDue_any [(7, 0)] [(7, 0)] A12 (some ⟨g13, 0, none⟩) 1 1 c12 1 w13 rfl rfl R12c R13 (by simp [maxLen]) (by simp [maxLen])).mono ?_
  rintro r w14 ⟨rfl, hx14⟩
  have O14 := O13.to hx14
  have R14 := R12d.ext hx14
  clear O13 R12c R12d R13 hx14
  have X15 := (Ext.refl w14).alloc (.cells #[.int .u8 14, .int .u8 2, .int .u8 0, .int .u8 200, .int .u8 1, .int .u8 0, .int .u8 14, .int .u8 4, .int .u8 2] 5)
  have R15 := reads_c w14 #[.int .u8 14, .int .u8 2, .int .u8 0, .int .u8 200, .int .u8 1, .int .u8 0, .int .u8 14, .int .u8 4, .int .u8 2] 5 9 1 (bV [14, 2, 0, 200, 1, 0, 14, 4, 2]) rfl rfl
  have HSB := Lib.hid (sameBytes_t [14, 2, 0, 200, 1, 0, 14, 4, 2] A9 (some ⟨w14.heap.size, 0, none⟩) 9 9 c9 9 _ (R14.ext X15) R15)
  have O15 := Lib.hid (O14.to X15)
  clear O14 R14 R15 X15
  go_wp2_with fail
  refine HSB.out.mono ?_
  rintro r w15 ⟨rfl, rfl⟩
  go_wp2_with fail
  go_ret
  exact ⟨rfl, O15.out.x⟩
end Go.Proofs.YtokakpbpenndlaaGreatDoor

set_option linter.unusedVariables false
namespace Go.Proofs.YtokakpbpenndlaaGreatDoor
open Go.Sort Go.Shelf

def keepE (e : Ent) : Kp := ⟨e, e.tax, List.replicate e.am.length 0, false⟩
def Bk.addAll (B : Bk) : List Ent → Bk
  | [] => B
  | e :: l => Bk.addAll (B.add e).1 l
theorem addAll_app (B : Bk) : ∀ (l : List Ent) (e : Ent), B.addAll (l ++ [e]) = ((B.addAll l).add e).1
  | [], e => rfl
  | x :: l, e => addAll_app (B.add x).1 l e
theorem check_ne7 (e : Ent) : e.check ≠ 7 := by
  unfold Ent.check
  by_cases h1 : e.head = false ∨ e.ams = false
  · rw [if_pos h1]; decide
  · rw [if_neg h1]
    by_cases h2 : e.fine = false
    · rw [if_pos h2]; decide
    · rw [if_neg h2]; decide
theorem add_sale_bad {B : Bk} {e : Ent} (h : e.check ≠ 0) : (B.add e).1 = B := by
  have hm : B.may e = e.check := by unfold Bk.may; rw [if_pos h]
  unfold Bk.add
  rw [hm, if_neg h, if_neg (fun x => check_ne7 e x.1)]
theorem add_sale_ok {B : Bk} {e : Ent} (hk : e.k = 1) (h : e.check = 0) (hf : e.id ∉ B.ids) : (B.add e).1 = B ++ [keepE e] := by
  have hfn : B.find e.id = none := by
    unfold Bk.find
    rw [List.find?_eq_none]
    intro x hx hid
    exact hf (List.mem_map.2 ⟨x, hx, by simpa using hid⟩)
  have hm : B.may e = 0 := by
    unfold Bk.may
    rw [if_neg (by simp [h]), if_neg (by simp [hfn]), if_neg (by omega), if_neg (by omega)]
  unfold Bk.add
  rw [if_pos hm]
  unfold Bk.put
  rw [if_pos hk]
  rfl
theorem sales_fold : ∀ (l : List Ent) (B : Bk), (∀ e ∈ l, e.k = 1) → (l.map Ent.id).Nodup → (∀ e ∈ l, e.id ∉ B.ids) → B.addAll l = B ++ (l.filter fun e => decide (e.check = 0)).map keepE
  | [], B, _, _, _ => by simp [Bk.addAll]
  | e :: l, B, hk, hn, hd => by
    rw [List.map_cons, List.nodup_cons] at hn
    show Bk.addAll (B.add e).1 l = _
    by_cases hc : e.check = 0
    · rw [add_sale_ok (hk e (by simp)) hc (hd e (by simp)), sales_fold l _ (fun x hx => hk x (by simp [hx])) hn.2 (fun x hx hm => ?_), List.filter_cons_of_pos (by simpa using hc)]
      · simp
      · simp only [Bk.ids, List.map_append, List.map_cons, List.map_nil, List.mem_append, List.mem_singleton] at hm
        rcases hm with hm | hm
        · exact hd x (by simp [hx]) hm
        · exact hn.1 (List.mem_map.2 ⟨x, hx, hm⟩)
    · rw [add_sale_bad hc, sales_fold l _ (fun x hx => hk x (by simp [hx])) hn.2 (fun x hx => hd x (by simp [hx])), List.filter_cons_of_neg (by simpa using hc)]
theorem sgS_perm (c : Mv → Int) {a b : List Mv} (h : a.Perm b) : sgS c a = sgS c b := by
  induction h with
  | nil => rfl
  | cons x _ ih => simp only [sgS]; rw [ih]
  | swap x y l => simp only [sgS]; omega
  | trans _ _ ih1 ih2 => exact ih1.trans ih2
theorem repOf_perm (id f p : Int) {a b : List Mv} (h : a.Perm b) : repOf id f p a = repOf id f p b := by
  have h1 : (perM f p a).Perm (perM f p b) := h.filter _
  unfold repOf
  rw [sgS_perm _ h1, sgS_perm _ h1, sgS_perm _ h1]
  have e1 : salesN (perM f p a) = salesN (perM f p b) := (h1.filter _).length_eq
  have e2 : backsN (perM f p a) = backsN (perM f p b) := (h1.filter _).length_eq
  rw [e1, e2]
theorem file_perm {K L : Bk} (h : ∀ j, (K.moves j).Perm (L.moves j)) (l : List Jur) (id p : Int) : K.file l id p = L.file l id p := by
  unfold Bk.file
  cases findJ l id with
  | none => rfl
  | some j =>
    simp only
    rw [repOf_perm id j.f p (h id)]
theorem dues_perm {K L : Bk} (h : ∀ j, (K.moves j).Perm (L.moves j)) (l : List Jur) (q : Int × Int) : q ∈ K.dues l ↔ q ∈ L.dues l := by
  unfold Bk.dues
  by_cases hc : (checkJ l).1 ≠ 0
  · rw [if_pos hc, if_pos hc]
  · rw [if_neg hc, if_neg hc]
    unfold Bk.duesL dueM
    simp only [List.mem_flatMap, List.mem_map]
    constructor
    · rintro ⟨j, hj, m, hm, rfl⟩
      exact ⟨j, hj, m, (h j.id).mem_iff.1 hm, rfl⟩
    · rintro ⟨j, hj, m, hm, rfl⟩
      exact ⟨j, hj, m, (h j.id).mem_iff.2 hm, rfl⟩
theorem sortD_perm_eq {a b : List (Int × Int)} (h : a.Perm b) : sortD a = sortD b := by
  have tr : ∀ x y z : Int × Int, (!(ltOf cmpDue) y x) = true → (!(ltOf cmpDue) z y) = true → (!(ltOf cmpDue) z x) = true := fun x y z h1 h2 => by
    rw [Bool.not_eq_true'] at *
    exact swoDue.ntrans z y x h2 h1
  have tot : ∀ x y : Int × Int, ((!(ltOf cmpDue) y x) || (!(ltOf cmpDue) x y)) = true := fun x y => by
    cases h1 : ltOf cmpDue y x with
    | false => rfl
    | true =>
      cases h2 : ltOf cmpDue x y with
      | false => rfl
      | true => exact absurd (swoDue.trans x y x h2 h1) (by rw [swoDue.irrefl]; decide)
  refine List.Perm.eq_of_pairwise (le := fun x y => (!(ltOf cmpDue) y x) = true) (fun x y _ _ h1 h2 => ?_) (List.pairwise_mergeSort tr tot a) (List.pairwise_mergeSort tr tot b) (((List.mergeSort_perm a _).trans h).trans (List.mergeSort_perm b _).symm)
  rw [Bool.not_eq_true'] at h1 h2
  exact totDue x y h2 h1
theorem dueAll_sort {ks ls ss ts : List (Int × Int)} (h : ∀ q, q ∈ ks ↔ q ∈ ls) (h1 : DueAll ks ss) (h2 : DueAll ls ts) : sortD ss = sortD ts :=
  sortD_perm_eq ((List.perm_ext_iff_of_nodup h1.1 h2.1).2 fun q => (h1.2 q).trans ((h q).trans (h2.2 q).symm))
theorem order_moves {l m : List Ent} (h : l.Perm m) (hk : ∀ e ∈ l, e.k = 1) (hn : (l.map Ent.id).Nodup) (j : Int) : (Bk.moves (Bk.addAll [] l) j).Perm (Bk.moves (Bk.addAll [] m) j) := by
  rw [sales_fold l [] hk hn (fun e _ => by simp [Bk.ids]), sales_fold m [] (fun e he => hk e (h.mem_iff.2 he)) ((h.map _).nodup_iff.1 hn) (fun e _ => by simp [Bk.ids])]
  simp only [List.nil_append]
  exact ((h.filter _).map _).flatMap_right _
theorem addAll_small {B : Bk} (h : B.small) : ∀ l, (B.addAll l).small
  | [] => h
  | e :: l => addAll_small (add_small h e) l
theorem addAll_b3 {B : Bk} (h : B.b3) : ∀ l, (B.addAll l).b3
  | [] => h
  | e :: l => addAll_b3 (add_b3 h e) l
end Go.Proofs.YtokakpbpenndlaaGreatDoor

set_option linter.unusedVariables false
namespace Go.Proofs.YtokakpbpenndlaaGreatDoor
open Go.RowKit Go.Maps

def Slot.far (S : List Nat) (m : Slot) : Prop := m.g ∉ S ∧ (∀ g, m.va.ownBlock = some g → g ∉ S) ∧ (∀ g, m.vt.ownBlock = some g → g ∉ S) ∧ (∀ g, m.vl.ownBlock = some g → g ∉ S) ∧ (∀ g, m.vb.ownBlock = some g → g ∉ S)
/-- Nothing of a book lies in these blocks. -/
structure BkM.far (S : List Nat) (bb mb : Nat) (vids : Value) (M : BkM) : Prop where
  b : bb ∉ S
  m : mb ∉ S
  v : ∀ g, vids.ownBlock = some g → g ∉ S
  all : ∀ p ∈ M, p.2.far S
theorem KpAt.far {w0 w w' : World} {m : Slot} {x : Kp} {S : List Nat} (h : KpAt w0 w m x) (hc : Chg S w w') (hf : m.far S) : KpAt w0 w' m x :=
  ⟨hc.blk h.blk hf.1, hc.own h.oa hf.2.1, hc.own h.ot hf.2.2.1, hc.own h.ol hf.2.2.2.1, hc.own h.ob hf.2.2.2.2, h.ge⟩
theorem BookAt.far {w0 W W' : World} {cb mc : Nat} {v : Value} {M : BkM} {S : List Nat} (h : BookAt w0 W cb mc v M) (hc : Chg S W W') (hf : BkM.far S cb mc v M) : BookAt w0 W' cb mc v M := by
  refine ⟨hc.blk h.blk hf.b, ?_, hc.own h.ids hf.v, fun p hp => (h.all p hp).far hc (hf.all p hp), h.nodup, h.gnd, h.apart, h.ok, h.geb, h.gem⟩
  obtain ⟨es, clock, hb, r⟩ := h.map
  exact ⟨es, clock, by rw [hc.block mc (Array.getElem?_eq_some_iff.1 hb).1 hf.m]; exact hb, r⟩
theorem BkM.far.foot_ {S : List Nat} {bb mb : Nat} {v : Value} {M : BkM} (h : BkM.far S bb mb v M) : ∀ g ∈ foot bb mb v M, g ∉ S := by
  intro g hg
  simp only [foot, List.mem_cons, List.mem_append, List.mem_flatMap, Option.mem_toList] at hg
  rcases hg with rfl | rfl | hg | ⟨p, hp, rfl | hg⟩
  · exact h.b
  · exact h.m
  · exact h.v g hg
  · exact (h.all p hp).1
  · exact (h.all p hp).2.2.2.2 g hg
/-- A slot's blocks lie in the world. -/
theorem BookAt.slot_lt {w0 W : World} {bb mb : Nat} {v : Value} {M : BkM} (h : BookAt w0 W bb mb v M) : ∀ p ∈ M, p.2.lt W.heap.size := fun p hp => (h.all p hp).lt
/-- Nothing of a book lies in blocks that are new or another's. -/
theorem BookAt.far_new {w0 W : World} {cb mc : Nat} {v : Value} {M : BkM} {S T : List Nat} (h : BookAt w0 W cb mc v M) (hf : BkM.far S cb mc v M) (hT : ∀ g ∈ T, g ∈ S ∨ W.heap.size ≤ g) : BkM.far T cb mc v M := by
  have hn : ∀ g, g < W.heap.size → g ∉ S → g ∉ T := fun g h1 h2 h3 => by
    rcases hT g h3 with h | h
    · exact h2 h
    · omega
  have hl := h.foot_ge
  refine ⟨hn _ (hl cb (by simp [foot])).2 hf.b, hn _ (hl mc (by simp [foot])).2 hf.m, fun g hg => hn g (hl g (foot_vids hg)).2 (hf.v g hg), fun p hp => ?_⟩
  obtain ⟨l1, l2, l3, l4, l5⟩ := h.slot_lt p hp
  obtain ⟨f1, f2, f3, f4, f5⟩ := hf.all p hp
  exact ⟨hn _ l1 f1, fun g hg => hn g (l2 g hg) (f2 g hg), fun g hg => hn g (l3 g hg) (f3 g hg), fun g hg => hn g (l4 g hg) (f4 g hg), fun g hg => hn g (l5 g hg) (f5 g hg)⟩
/-- Two books in use. -/
def Both (w W : World) (bb mb cb mc : Nat) (K L : Bk) : Prop := ∃ v M u N, BookAt w W bb mb v M ∧ M.b = K ∧ BookAt w W cb mc u N ∧ N.b = L ∧ Ext w W ∧ BkM.far (foot bb mb v M) cb mc u N ∧ BkM.far (foot cb mc u N) bb mb v M
theorem Both.swap {w W : World} {bb mb cb mc : Nat} {K L : Bk} (h : Both w W bb mb cb mc K L) : Both w W cb mc bb mb L K := by
  obtain ⟨v, M, u, N, h1, h2, h3, h4, h5, h6, h7⟩ := h
  exact ⟨u, N, v, M, h3, h4, h1, h2, h5, h7, h6⟩
theorem Both.to {w W W' : World} {bb mb cb mc : Nat} {K L : Bk} (h : Both w W bb mb cb mc K L) (hx : Ext W W') : Both w W' bb mb cb mc K L := by
  obtain ⟨v, M, u, N, h1, h2, h3, h4, h5, h6, h7⟩ := h
  exact ⟨v, M, u, N, h1.ext hx, h2, h3.ext hx, h4, h5.trans hx, h6, h7⟩
theorem Both.one {w W : World} {bb mb cb mc : Nat} {K L : Bk} (h : Both w W bb mb cb mc K L) : One w W bb mb K := by
  obtain ⟨v, M, u, N, h1, h2, h3, h4, h5, h6, h7⟩ := h
  exact ⟨v, M, h1, h2, h5⟩
theorem Both.add {w W : World} {bb mb cb mc : Nat} {K L : Bk} (h : Both w W bb mb cb mc K L) (e : Ent) (Aa At : Option Addr) (ca ct : Nat) (he : EntR W e Aa At) (hs : K.small) (hk : K.length ≤ 100000) :
    Calls Tryz.prog 26 #[.pointer (some ⟨bb, 0, none⟩), entV e Aa At ca ct] W fun r W' => ∃ A c, r = .returned (.tuple #[.slice A (K.add e).2.1.length c, .int .i64 (K.add e).2.2]) ∧ Both w W' bb mb cb mc (K.add e).1 L := by
  obtain ⟨v, M, u, N, h1, rfl, h3, rfl, h5, h6, h7⟩ := h
  refine (add_any h1 h5 e Aa At ca ct he (by rw [← BkM.len_b]; exact hk) hs).mono ?_
  rintro r W' ⟨A, c, v', M', B1, rfl, hA⟩
  have hlt := h3.foot_ge
  have hnc : ∀ g, W.heap.size ≤ g → g ∉ foot cb mc u N := fun g h1 h2 => by have := (hlt g h2).2; omega
  have hfo : ∀ g ∈ foot bb mb v' M', g ∉ foot cb mc u N := fun g hg => by
    rcases hA.foot g hg with h | h
    · exact h7.foot_ g h
    · exact hnc g h.1
  refine ⟨A, c, rfl, v', M', u, N, hA.at_, hA.b, h3.far hA.chg h6, rfl, Chg.to_ext h5 hA.chg (fun k hk => (h1.foot_ge k hk).1), h3.far_new h6 (fun g hg => (hA.foot g hg).imp id And.left), ⟨hfo bb (by simp [foot]), hfo mb (by simp [foot]), fun g hg => hfo g (foot_vids hg), fun p hp => ?_⟩⟩
  rcases hA.slots p hp with ⟨q, hq, e⟩ | hge
  · rw [← e]; exact h7.all q hq
  · exact ⟨hnc _ hge.1, fun g hg => hnc g (hge.2.1 g hg), fun g hg => hnc g (hge.2.2.1 g hg), fun g hg => hnc g (hge.2.2.2.1 g hg), fun g hg => hnc g (hge.2.2.2.2 g hg)⟩
end Go.Proofs.YtokakpbpenndlaaGreatDoor
