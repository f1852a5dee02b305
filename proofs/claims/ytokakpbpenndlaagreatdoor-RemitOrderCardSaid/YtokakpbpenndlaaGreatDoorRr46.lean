/-
  The statement RemitOrder: the walk.
-/
import Derived.Test.YtokakpbpenndlaaGreatDoorRr44
import Derived.BigRegion
import Derived.Deep.CutBlock
import Derived.Deep.DeepCutAuto
import Derived.Test.YtokakpbpenndlaaGreatDoorRr45
import Derived.Test.YtokakpbpenndlaaGreatDoorRr31
set_option linter.unusedVariables false
namespace Go.Proofs.YtokakpbpenndlaaGreatDoor
open Go.RowKit Go.Maps Go.Sort Go.Shelf

/-- Two new books. -/
theorem Both.new {w w1 w2 : World} (h1 : BookAt w w1 (w.heap.size + 1) w.heap.size (.slice none 0 0) []) (x1 : Ext w w1) (h2 : BookAt w1 w2 (w1.heap.size + 1) w1.heap.size (.slice none 0 0) []) (x2 : Ext w1 w2) : Both w w2 (w.heap.size + 1) w.heap.size (w1.heap.size + 1) w1.heap.size [] [] := by
  have hlt := h1.lts
  have h2' : BookAt w w2 (w1.heap.size + 1) w1.heap.size (.slice none 0 0) [] := by
    refine BookAt.empty h2.blk ?_ (by have := x1.size; omega) x1.size
    exact h2.map
  refine ⟨_, _, _, _, h1.ext x2, rfl, h2', rfl, x1.trans x2, ⟨?_, ?_, fun g hg => by simp [Value.ownBlock] at hg, fun p hp => absurd hp List.not_mem_nil⟩, ⟨?_, ?_, fun g hg => by simp [Value.ownBlock] at hg, fun p hp => absurd hp List.not_mem_nil⟩⟩ <;> simp [foot, Value.ownBlock] <;> omega
theorem row_en : RowT Tryz.prog 38 52 6 80 (.agg #[.int .i64 0, .int .i64 0, .int .i64 0, .int .i64 0, .slice none 0 0, .slice none 0 0]) := rowT_mk Tryz.underlying38 (by kernel_rfl) rfl (by decide)
theorem evCells_one (l : List EV) : ∀ u ∈ evCells l, u.oneCell' = true := by
  intro u hu
  simp only [evCells, List.mem_flatMap] at hu
  obtain ⟨x, _, hx⟩ := hu
  simp [EV.cl] at hx
  rcases hx with rfl | rfl | rfl | rfl | rfl | rfl <;> rfl
theorem own_at {w : World} {base n c size : Nat} {e : TypeId} {A : Option Addr} {xs : List Value} (h : w.ownsRow base e size (.slice A n c) n xs) (hn : 0 < n) : ∃ g, A = some ⟨g, 0, none⟩ ∧ base ≤ g ∧ g < w.heap.size ∧ (∀ k, k < n * size → w.cell? ⟨g, k, none⟩ = xs[k]?) ∧ ∀ k, w.frozen? ⟨g, k, none⟩ = false := by
  rcases h.2 with ⟨e1, _⟩ | ⟨g', c', cur, e1, hb, hg, r1, r2, r3, r4⟩
  · injection e1 with _ e2 _
    omega
  · injection e1 with ea en ec
    subst ea ec
    have hblk : Blk w g' e cur := hg
    refine ⟨g', rfl, hb, hblk.lt, fun k hk => ?_, hblk.frozen⟩
    rw [hblk.cell, ← r4, List.getElem?_take_of_lt hk, Array.getElem?_toList]
theorem put_ev {w : World} {base g n c : Nat} {L : List EV} (h : w.ownsRow base 52 6 (.slice (some ⟨g, 0, none⟩) n c) n (evCells L)) (hL : L.length = n) {P : Nat} (hP : P < n) (x : EV) :
    ((((((w.setCell ⟨g, P * 6, none⟩ (.int .i64 x.e.k)).setCell ⟨g, P * 6 + 1, none⟩ (.int .i64 x.e.id)).setCell ⟨g, P * 6 + 2, none⟩ (.int .i64 x.e.of_)).setCell ⟨g, P * 6 + 3, none⟩ (.int .i64 x.e.day)).setCell ⟨g, P * 6 + 4, none⟩ (.slice x.A x.e.am.length x.c)).setCell ⟨g, P * 6 + 5, none⟩ (.slice x.A' x.e.tax.length x.c')).ownsRow base 52 6 (.slice (some ⟨g, 0, none⟩) n c) n (evCells (L.set P x)) := by
  rw [evCells_set L P x (by omega)]
  exact own_put (own_put (own_put (own_put (own_put (own_put h (by omega) _) (by omega) _) (by omega) _) (by omega) _) (by omega) _) (by omega) _
theorem put_evx {a w : World} (h : Ext a w) {g : Nat} (hg : a.heap.size ≤ g) (P : Nat) (x : EV) :
    Ext a ((((((w.setCell ⟨g, P * 6, none⟩ (.int .i64 x.e.k)).setCell ⟨g, P * 6 + 1, none⟩ (.int .i64 x.e.id)).setCell ⟨g, P * 6 + 2, none⟩ (.int .i64 x.e.of_)).setCell ⟨g, P * 6 + 3, none⟩ (.int .i64 x.e.day)).setCell ⟨g, P * 6 + 4, none⟩ (.slice x.A x.e.am.length x.c)).setCell ⟨g, P * 6 + 5, none⟩ (.slice x.A' x.e.tax.length x.c')) :=
  (((((h.set (p := ⟨g, P * 6, none⟩) hg _).set (p := ⟨g, P * 6 + 1, none⟩) hg _).set (p := ⟨g, P * 6 + 2, none⟩) hg _).set (p := ⟨g, P * 6 + 3, none⟩) hg _).set (p := ⟨g, P * 6 + 4, none⟩) hg _).set (p := ⟨g, P * 6 + 5, none⟩) hg _
/-- Two of a list change places. -/
theorem swap_perm {α : Type} (L : List α) (p q : Nat) (hp : p < L.length) (hq : q < L.length) : ((L.set p L[q]).set q L[p]).Perm L := by
  by_cases h : p = q
  · subst h
    simp
  have key : ∀ (a b : Nat) (ha : a < L.length) (hb : b < L.length), a < b → ((L.set a L[b]).set b L[a]).Perm L := by
    intro a b ha hb hab
    have e1 : L = L.take a ++ (L[a] :: L.drop (a + 1)) := by rw [← List.drop_eq_getElem_cons ha, List.take_append_drop]
    have e2 : L.drop (a + 1) = (L.drop (a + 1)).take (b - a - 1) ++ (L[b] :: (L.drop (a + 1)).drop (b - a - 1 + 1)) := by
      have hb' : b - a - 1 < (L.drop (a + 1)).length := by simp; omega
      have : (L.drop (a + 1))[b - a - 1] = L[b] := by simp; congr 1; omega
      rw [← this, ← List.drop_eq_getElem_cons hb', List.take_append_drop]
    generalize hx : L[a] = x at *
    generalize hy : L[b] = y at *
    generalize hA : L.take a = A at *
    generalize hM : (L.drop (a + 1)).take (b - a - 1) = M at *
    generalize hR : (L.drop (a + 1)).drop (b - a - 1 + 1) = R at *
    have hAl : A.length = a := by rw [← hA]; simp; omega
    have hMl : M.length = b - a - 1 := by rw [← hM]; simp; omega
    have e3 : L = A ++ (x :: (M ++ (y :: R))) := by rw [← e2]; exact e1
    have e4 : (L.set a y).set b x = A ++ (y :: (M ++ (x :: R))) := by
      rw [e3, List.set_append_right _ _ (by omega), List.set_append_right _ _ (by omega), hAl, Nat.sub_self, List.set_cons_zero, show b - a = (b - a - 1) + 1 by omega, List.set_cons_succ, List.set_append_right _ _ (by omega), hMl, Nat.sub_self, List.set_cons_zero]
    rw [e4, e3]
    refine List.Perm.append_left A ?_
    have h1 : (y :: (M ++ (x :: R))).Perm (y :: x :: (M ++ R)) := (List.perm_middle).cons y
    have h2 : (x :: (M ++ (y :: R))).Perm (x :: y :: (M ++ R)) := (List.perm_middle).cons x
    exact h1.trans ((List.Perm.swap x y _).trans h2.symm)
  by_cases h2 : p < q
  · exact key p q hp hq h2
  · rw [List.set_comm _ _ h]
    exact key q p hq hp (by omega)
theorem Both.x {w W : World} {bb mb cb mc : Nat} {K L : Bk} (h : Both w W bb mb cb mc K L) : Ext w W := by
  obtain ⟨v, M, u, N, h1, h2, h3, h4, h5, h6, h7⟩ := h
  exact h5
/-- How far the entries are looked at: no number twice, all of them sales. -/
def OrdOk (l : List EV) (k : Nat) : Prop := (∀ i j, i < j → j < k → (l.map fun x => x.e.id)[i]? ≠ (l.map fun x => x.e.id)[j]?) ∧ ∀ x ∈ l.take k, x.e.k = 1
def OrdOut (w : World) (l : List EV) (i : Value) (wr : World) : Prop := ∃ k : Nat, k ≤ l.length ∧ i = .int .i64 (k : Int) ∧ Ext w wr ∧ OrdOk l k
def OrdIn (w : World) (l : List EV) (m : Nat) (i : Value) (wr : World) : Prop := ∃ k : Nat, k ≤ m ∧ i = .int .i64 (k : Int) ∧ Ext w wr ∧ ∀ i, i < k → (l.map fun x => x.e.id)[i]? ≠ (l.map fun x => x.e.id)[m]?
/-- What the turning leaves. -/
def OrdCut (w w0 : World) (l : List EV) (A : Option Addr) (c : Nat) (wr : World) : Prop := ∃ L : List EV, Ext w0 wr ∧ L.Perm l ∧ wr.ownsRow w.heap.size 52 6 (.slice A l.length c) l.length (evCells L)
/-- Where the adding stands. -/
def OrdAdd (w0 : World) (bb mb cb mc : Nat) (l L : List EV) (i : Value) (wr : World) : Prop := ∃ k : Nat, k ≤ l.length ∧ i = .int .i64 (k : Int) ∧ Both w0 wr bb mb cb mc (Bk.addAll [] ((l.map EV.e).take k)) (Bk.addAll [] ((L.map EV.e).take k))
theorem addAll_len {B : Bk} : ∀ l : List Ent, (B.addAll l).length ≤ B.length + l.length
  | [] => by simp [Bk.addAll]
  | e :: l => by
    have h1 := addAll_len (B := (B.add e).1) l
    have h2 := add_len_le B e
    show (Bk.addAll (B.add e).1 l).length ≤ _
    simp only [List.length_cons]
    omega
theorem addAll_take {l : List Ent} {k : Nat} (hk : k < l.length) : Bk.addAll [] (l.take (k + 1)) = ((Bk.addAll [] (l.take k)).add l[k]).1 := by
  rw [List.take_succ_eq_append_getElem hk, addAll_app]
/-- Where the turning stands. -/
def OrdTurn (w w0 : World) (l : List EV) (n : Nat) (A : Option Addr) (c : Nat) (i : Value) (wr : World) : Prop := ∃ (k : Nat) (L : List EV), k ≤ n ∧ i = .int .i64 (k : Int) ∧ Ext w0 wr ∧ L.Perm l ∧ wr.ownsRow w.heap.size 52 6 (.slice A l.length c) l.length (evCells L)
set_option maxRecDepth 100000 in
set_option maxHeartbeats 4000000 in
theorem remitOrder_any (l : List EV) (A : Option Addr) (cap : Nat) (ts : List Int) (At : Option Addr) (ct : Nat) (js : List JX) (Aj : Option Addr) (cj : Nat) (id p : Int) (w : World) (hr : Reads w w.heap.size 6 A l.length (evCells l)) (hm : l.length ≤ maxLen) (hok : ∀ x ∈ l, x.ok w)
    (hrt : Reads w w.heap.size 1 At ts.length (iV ts)) (htm : ts.length ≤ maxLen) (hrj : Reads w w.heap.size 5 Aj js.length (jvCells (jvs js))) (hjm : js.length ≤ maxLen) (hjok : ∀ x ∈ js, x.ok w) (ht : Tab10 w) :
    Calls Tryz.prog 7 #[.slice A l.length cap, .slice At ts.length ct, .slice Aj js.length cj, .int .i64 id, .int .i64 p] w fun e w' => e = .returned (.bool true) ∧ Ext w w' := by
  have HOK := Lib.hid hok
  have HR := Lib.hid (fun W (hx : Ext w W) => hr.ext hx)
  have HC := Lib.hid (fun k hk => evCells_six' (W := w) (k := k) hr hk)
  have HRT := Lib.hid (fun W (hx : Ext w W) => hrt.ext hx)
  have HRJ := Lib.hid (fun W (hx : Ext w W) => hrj.ext hx)
  have HJ := Lib.hid (fun W (hx : Ext w W) => bigJuris_any js Aj cj 64 W (hrj.ext hx) hjm (fun x hxm => (hjok x hxm).ext hx) (by omega))
  unfold maxLen at htm
  clear hok hr hrt hrj hjok
  go_enter Tryz.func7, Tryz.ntmps7
  go_wp2_with fail
  refine (awake30_any _ ht).mono ?_
  rintro e w1 ⟨rfl, X1⟩
  go_wp2_with fail
  refine (big_any l A cap 20 _ (HR.out _ X1) hm (by omega)).mono ?_
  rintro r w2 ⟨bg, rfl, hfit, rfl⟩
  cases bg
  case true =>
    go_wp2_with fail
    go_ret
    exact ⟨rfl, X1⟩
  have HFit := Lib.hid (hfit rfl)
  have hl20 := (hfit rfl).1
  clear hfit
  go_wp2_with fail
  refine (HJ.out _ X1).mono ?_
  rintro e w2 ⟨b, rfl, hb64, rfl⟩
  cases b
  case true =>
    go_wp2_with fail
    go_ret
    exact ⟨rfl, X1⟩
  have hj64 := hb64 rfl
  clear hb64
  by_cases h60 : 60 < ts.length
  · have d60 : decide ((60 : Int) < (ts.length : Int)) = true := by simp; omega
    go_wp2_with fail
    go_ret
    exact ⟨rfl, X1⟩
  have d60 : decide ((60 : Int) < (ts.length : Int)) = false := by simp; omega
  go_wp2_with fail
  go_loopw [12] (fun i wr => OrdOut w1 l i wr) (fun i _ => l.length - (intOf i).toNat)
  case atStart => exact ⟨0, by omega, rfl, Ext.refl _, ⟨fun i j h1 h2 => by omega, fun x hx => by simp at hx⟩⟩
  case round =>
    obtain ⟨k, hk, rfl, hx, hO⟩ := hrel
    by_cases hlt : k < l.length
    · have hd : decide ((k : Int) < (l.length : Int)) = true := by simp; omega
      have kl : (k : Int) < (l.length : Int) := by omega
      have kz : (0 : Int) ≤ (k : Int) := by omega
      obtain ⟨g, off, rfl, hg, hc⟩ := HC.out k hlt
      have hO' := Lib.hid hO
      clear hO
      go_wp2_with fail
      go_loopw [13] (fun i wr => OrdIn w1 l k i wr) (fun i _ => k - (intOf i).toNat)
      case atStart => exact ⟨0, by omega, rfl, hx, fun i hi => by omega⟩
      case round =>
        obtain ⟨m, hmk, rfl, hx2, hI⟩ := hrel
        by_cases hltm : m < k
        · have hdm : decide ((m : Int) < (k : Int)) = true := by simp; omega
          have ml : (m : Int) < (l.length : Int) := by omega
          have mz : (0 : Int) ≤ (m : Int) := by omega
          have hml : m < l.length := by omega
          obtain ⟨g', off', e', hg', hc'⟩ := HC.out m hml
          injection e' with e'
          injection e' with e1 e2
          subst e1 e2
          obtain ⟨_, a1, _⟩ := hc' wr (X1.trans hx2)
          obtain ⟨_, b1, _⟩ := hc wr (X1.trans hx2)
          have HI := Lib.hid hI
          clear hI hc'
          by_cases he : l[m].e.id = l[k].e.id
          · have heb : (l[m].e.id == l[k].e.id) = true := by simpa using he
            clear he
            go_wp2_with fail
            go_quiet (fail)
            go_wp2_with fail
            go_ret
            exact ⟨rfl, X1.trans (hx2.drewN _)⟩
          · have heb : (l[m].e.id == l[k].e.id) = false := by simpa using he
            have hne := Lib.hid (show (l.map fun x => x.e.id)[m]? ≠ (l.map fun x => x.e.id)[k]? by simpa [hml, hlt] using he)
            clear he
            go_wp2_with fail
            go_quiet (fail)
            go_wp2_with fail
            go_roundw
            case rel => exact ⟨m + 1, by omega, rfl, hx2.drewN _, fun i hi => by
              by_cases h : i = m
              · rw [h]; exact hne.out
              · exact HI.out i (by omega)⟩
            case measure => simp [intOf]; omega
        · obtain rfl : m = k := by omega
          have hdm : decide ((m : Int) < (m : Int)) = false := by simp
          obtain ⟨a0, _⟩ := hc wr (X1.trans hx2)
          have HI := Lib.hid hI
          clear hI hc
          by_cases hk1 : l[m].e.k = 1
          · have hb1 : (l[m].e.k != 1) = false := by simp [hk1]
            have hk1' := Lib.hid hk1
            clear hk1
            go_wp2_with fail
            go_roundw
            case rel => exact ⟨m + 1, by omega, rfl, hx2, ⟨fun i j h1 h2 => by
              by_cases h : j = m
              · rw [h]; exact HI.out i (by omega)
              · exact hO'.out.1 i j h1 (by omega), fun x hx => by
              rw [List.take_succ_eq_append_getElem hlt] at hx
              rcases List.mem_append.1 hx with hx | hx
              · exact hO'.out.2 x hx
              · rw [List.mem_singleton.1 hx]; exact hk1'.out⟩⟩
            case measure => simp [intOf]; omega
          · have hb1 : (l[m].e.k != 1) = true := by simpa using hk1
            clear hk1
            go_wp2_with fail
            go_ret
            exact ⟨rfl, X1.trans hx2⟩
    · obtain rfl : k = l.length := by omega
      have hd : decide ((l.length : Int) < (l.length : Int)) = false := by simp
      have hO' := Lib.hid hO
      clear hO
      have XW := Lib.hid (X1.trans hx)
      have RW := Lib.hid (fun o : Obj => HR.out _ ((X1.trans hx).alloc o))
      clear X1 hx
      go_upto_block 4 with (at_builtin; refine wpl_app row_en w _ (.tmp 68) (.tmp 69) rfl rfl rfl (own_lit XW.out #[] _ 0 6 rfl (by simp [maxLen]) rfl) (XW.out.alloc _) rfl (RW.out _) (evCells_one _) (by omega) (by unfold maxLen; omega) ?_; intro v14 w14 hg14; obtain ⟨A14, c14, rfl, hc14, hm14, hr14⟩ := own_slice hg14.own)
      have O14 := hg14.own
      have X14 := hg14.ext
      simp only [Nat.zero_add] at O14 hc14 hm14
      clear RW hr14 hg14 XW
      go_cut [15, 16, 17] (fun _ _ _ wx => OrdCut w w l A14 c14 wx)
      case first =>
        go_wp2_with fail
        go_loopw [15] (fun i wr => OrdTurn w w l ts.length A14 c14 i wr) (fun i _ => ts.length - (intOf i).toNat)
        case atStart => exact ⟨0, l, by omega, rfl, X14, List.Perm.refl _, O14⟩
        case round =>
          obtain ⟨k, L, hk, rfl, hX, hP, hO⟩ := hrel
          by_cases hgo : k < ts.length ∧ 0 < l.length
          · obtain ⟨hlt, hl0⟩ := hgo
            have hd : decide ((k : Int) < (ts.length : Int)) = true := by simp; omega
            have hd2 : decide ((0 : Int) < (l.length : Int)) = true := by simp; omega
            have hd3 : decide (0 < l.length) = true := by simpa using hl0
            have kl : (k : Int) < (ts.length : Int) := by omega
            have kz : (0 : Int) ≤ (k : Int) := by omega
            obtain ⟨gt, ot, rfl, hgt, hct⟩ := reads_int (HRT.out _ hX) hlt rfl
            obtain ⟨P, hPl, hPe⟩ : ∃ P : Nat, P < l.length ∧ Int.tmod (k : Int) (l.length : Int) = (P : Int) := ⟨k % l.length, Nat.mod_lt _ hl0, by rw [Int.tmod_eq_emod_of_nonneg kz]; rfl⟩
            obtain ⟨Q, hQl, hQe⟩ : ∃ Q : Nat, Q < l.length ∧ pickI ts[k] (l.length : Int) = (Q : Int) := by
              have := pickI_bd (x := ts[k]) (n := (l.length : Int)) (by omega)
              exact ⟨(pickI ts[k] (l.length : Int)).toNat, by omega, by omega⟩
            have hPw : IntKind.i64.wrap (P : Int) = (P : Int) := IntWalk.i64_in _ (by omega)
            have hnz : ((l.length : Int) == 0) = false := by rw [beq_eq_false_iff_ne]; omega
            have hne0 : (l.length : Int) ≠ 0 := by omega
            have hnil : ¬ l = [] := fun e => by rw [e] at hl0; simp at hl0
            have hrem : ∀ W, (binOp .rem 3 (.int .i64 (k : Int)) (.int .i64 (l.length : Int))).run Tryz.prog W = .ok (.int .i64 (P : Int)) W := fun W => by simp [go_sem, hnil, hPe]
            generalize ts[k] = tk at *
            have HS := Lib.hid (fun (w' : World) (hx : Ext wr w') => hct)
            replace hQe := Lib.hid hQe
            go_wp2_with fail
            go_region_held3 (fun w' => w'.cell? ⟨gt, ot + k, none⟩ = some (.int .i64 tk))
              (first | (exact hct) | (simpa using hct))
              (first | (go_at_call 35; refine (pick_any tk (l.length : Int) (by omega) _).mono ?_; rintro e w' ⟨rfl, rfl⟩; rw [hQe.out]))
            have hO1 := own_ext hO (Ext.refl wr).drew
            have hX1 := hX.trans (Ext.refl wr).drew
            clear hct HS HRT hgt hrem hX hO
            generalize hwv : wr.drew = wv at *
            clear hwv
            obtain ⟨g14, rfl, hb14, hg14, hc14, hf14⟩ := own_at hO1 hl0
            have hPL : P < L.length := by rw [hP.length_eq]; exact hPl
            have hQL : Q < L.length := by rw [hP.length_eq]; exact hQl
            obtain ⟨p1, p2, p3, p4, p5, p6⟩ := evCells_at L P hPL
            obtain ⟨q1, q2, q3, q4, q5, q6⟩ := evCells_at L Q hQL
            rw [← hc14 _ (by omega)] at p1 p2 p3 p4 p5 p6 q1 q2 q3 q4 q5 q6
            obtain ⟨x, hx⟩ : ∃ x, L[P] = x := ⟨_, rfl⟩
            obtain ⟨y, hy⟩ : ∃ y, L[Q] = y := ⟨_, rfl⟩
            rw [hx] at p1 p2 p3 p4 p5 p6
            rw [hy] at q1 q2 q3 q4 q5 q6
            have HP := Lib.hid (show ((L.set P y).set Q x).Perm l from by rw [← hx, ← hy]; exact (swap_perm L P Q hPL hQL).trans hP)
            have z1 : (0 : Int) ≤ (P : Int) := by omega
            have z2 : (P : Int) < (l.length : Int) := by omega
            have z3 : (0 : Int) ≤ (Q : Int) := by omega
            have z4 : (Q : Int) < (l.length : Int) := by omega
            have hO6 := put_ev hO1 hP.length_eq hPl y
            obtain ⟨g6, e6, _, _, hc6, hf6⟩ := own_at hO6 hl0
            injection e6 with e6
            injection e6 with e6
            subst e6
            obtain ⟨r1, r2, r3, r4, r5, r6⟩ := evCells_at (L.set P y) Q (by simpa using hQL)
            rw [← hc6 _ (by omega)] at r1 r2 r3 r4 r5 r6
            obtain ⟨z, hz⟩ : ∃ z, (L.set P y)[Q]'(by simpa using hQL) = z := ⟨_, rfl⟩
            rw [hz] at r1 r2 r3 r4 r5 r6
            have HO2 := Lib.hid (put_ev hO6 (by simpa using hP.length_eq) hQl x)
            clear hc14 hP hO1 hc6 hO6 hz
            have HX2 := Lib.hid (put_evx (put_evx hX1 hb14 P y) hb14 Q x)
            clear hx hy hX1
            go_wp2_with fail
            go_region
            have HX3 := HX2.out.drew
            have HO3 := own_ext HO2.out (Ext.refl _).drew
            clear p1 p2 p3 p4 p5 p6 q1 q2 q3 q4 q5 q6 r1 r2 r3 r4 r5 r6 hf6 hf14 HX2 HO2
            generalize hW : World.drew _ = W at HX3 HO3 ⊢
            go_wp2_with fail
            go_roundw
            case rel => exact ⟨k + 1, (L.set P y).set Q x, by omega, rfl, HX3, HP.out, HO3⟩
            case measure => simp [intOf]; omega
          · have HC2 := Lib.hid (show OrdCut w w l A14 c14 wr from ⟨L, hX, hP, hO⟩)
            clear hX hP hO HRT HR HC
            by_cases hlt : k < ts.length
            · have hd : decide ((k : Int) < (ts.length : Int)) = true := by simp; omega
              have hl0 : l.length = 0 := by omega
              have hd2 : decide ((0 : Int) < (l.length : Int)) = false := decide_eq_false (by omega)
              have hd3 : decide (0 < l.length) = false := decide_eq_false (by omega)
              clear hgo hl0
              go_wp2_with fail
              go_meet
              exact HC2.out
            · have hd : decide ((k : Int) < (ts.length : Int)) = false := by simp; omega
              clear hgo
              go_wp2_with fail
              go_meet
              exact HC2.out
      case rest =>
        obtain ⟨L, hX, hP, hO⟩ := hcut
        have hLl := hP.length_eq
        have HO14 := Lib.hid hO
        have HMM := Lib.hid (fun j => order_moves (l := l.map EV.e) (m := L.map EV.e) (hP.symm.map EV.e) (fun e he => by
          obtain ⟨x, hx, rfl⟩ := List.mem_map.1 he
          exact hO'.out.2 x (by rw [List.take_length]; exact hx)) (by
          rw [List.map_map]
          show (l.map fun x => x.e.id).Nodup
          rw [List.Nodup, List.pairwise_iff_getElem]
          intro a b ha hb hab h
          refine hO'.out.1 a b hab (by simpa using hb) ?_
          rw [List.getElem?_eq_getElem ha, List.getElem?_eq_getElem hb, h]) j)
        have HPm := Lib.hid (fun y (h : y ∈ L) => (hP.mem_iff).1 h)
        have HX := Lib.hid hX
        clear hX hP hO hO' X14 O14 HR HRT HFit
        go_wp2_with fail
        refine (newBook_any _).mono ?_
        rintro r w20 ⟨rfl, B20, X20⟩
        go_wp2_with fail
        refine (newBook_any _).mono ?_
        rintro r w21 ⟨rfl, B21, X21⟩
        have O0 := Both.new B20 X20 B21 X21
        clear B20 X20 B21 X21
        obtain ⟨bb, hbb⟩ : ∃ bb, wc.heap.size + 1 = bb := ⟨_, rfl⟩
        obtain ⟨mb, hmb⟩ : ∃ mb, wc.heap.size = mb := ⟨_, rfl⟩
        obtain ⟨cb, hcb⟩ : ∃ cb, w20.heap.size + 1 = cb := ⟨_, rfl⟩
        obtain ⟨mc, hmc⟩ : ∃ mc, w20.heap.size = mc := ⟨_, rfl⟩
        have HO0 := Lib.hid (show OrdAdd wc bb mb cb mc l L (.int .i64 ((0 : Nat) : Int)) w21 from ⟨0, by omega, rfl, by rw [← hbb, ← hmb, ← hcb, ← hmc]; exact O0⟩)
        rw [hbb, hcb]
        clear O0 hbb hmb hcb hmc
        go_wp2_with fail
        go_loopw [20] (fun i wr => OrdAdd wc bb mb cb mc l L i wr) (fun i _ => l.length - (intOf i).toNat)
        case atStart => exact HO0.out
        case round =>
          clear HO0
          obtain ⟨k, hk, rfl, hBo⟩ := hrel
          by_cases hlt : k < l.length
          · have hd : decide ((k : Int) < (l.length : Int)) = true := by simp; omega
            have kl : (k : Int) < (l.length : Int) := by omega
            have kz : (0 : Int) ≤ (k : Int) := by omega
            have hltL : k < L.length := by omega
            obtain ⟨g, off, rfl, hg, hc⟩ := HC.out k hlt
            obtain ⟨c1, c2, c3, c4, c5, c6⟩ := hc wr (HX.out.trans hBo.x)
            have hEx := Lib.hid (((HOK.out l[k] (List.getElem_mem hlt)).ext (HX.out.trans hBo.x)).r)
            have hEy := Lib.hid ((HOK.out L[k] (HPm.out _ (List.getElem_mem hltL))).ext HX.out)
            have ho := HO14.out
            rw [← hLl] at ho
            obtain ⟨gl, ol, e14, hgl, hcl⟩ := evCells_six' (W := wr) (Reads.of_own ho) hltL
            have HN := Lib.hid (fun (W : World) (h : Both wc W bb mb cb mc ((Bk.addAll [] ((l.map EV.e).take k)).add l[k].e).1 ((Bk.addAll [] ((L.map EV.e).take k)).add L[k].e).1) => (show OrdAdd wc bb mb cb mc l L (.int .i64 ((k + 1 : Nat) : Int)) W from by
              refine ⟨k + 1, by omega, rfl, ?_⟩
              rw [addAll_take (by simpa using hlt), addAll_take (by simpa using hltL), List.getElem_map, List.getElem_map]
              exact h))
            have HCL := Lib.hid hcl
            have hs1 := Lib.hid (addAll_small (B := []) (fun p hp => absurd hp (by simp)) ((l.map EV.e).take k))
            have hs2 := Lib.hid (addAll_small (B := []) (fun p hp => absurd hp (by simp)) ((L.map EV.e).take k))
            have hn1 := Lib.hid (show (Bk.addAll [] ((l.map EV.e).take k)).length ≤ 100000 from by
              have := addAll_len (B := []) ((l.map EV.e).take k)
              simp at this
              omega)
            have hn2 := Lib.hid (show (Bk.addAll [] ((L.map EV.e).take k)).length ≤ 100000 from by
              have := addAll_len (B := []) ((L.map EV.e).take k)
              simp at this
              omega)
            have HBo := Lib.hid hBo
            clear hc hcl ho hBo HO14
            generalize l[k] = x at *
            generalize L[k] = y at *
            generalize Bk.addAll [] ((l.map EV.e).take k) = K1 at *
            generalize Bk.addAll [] ((L.map EV.e).take k) = K2 at *
            subst e14
            go_wp2_with fail
            refine (HBo.out.add x.e x.A x.A' x.c x.c' hEx.out hs1.out hn1.out).mono ?_
            rintro r w22 ⟨A22, c22, rfl, hB2⟩
            obtain ⟨d1, d2, d3, d4, d5, d6⟩ := HCL.out w22 hB2.x
            have hEy2 := Lib.hid ((hEy.out.ext hB2.x).r)
            have HB2 := Lib.hid hB2
            clear HBo hEx hEy HCL c1 c2 c3 c4 c5 c6 hB2
            go_wp2_with fail
            refine (HB2.out.swap.add y.e y.A y.A' y.c y.c' hEy2.out hs2.out hn2.out).mono ?_
            rintro r w23 ⟨A23, c23, rfl, hB3⟩
            have HN2 := Lib.hid (HN.out _ hB3.swap)
            clear HN HB2 hB3 d1 d2 d3 d4 d5 d6
            go_wp2_with fail
            go_roundw
            case rel => exact HN2.out
            case measure => simp [intOf]; omega
          · obtain rfl : k = l.length := by omega
            have hd : decide ((l.length : Int) < (l.length : Int)) = false := by simp
            rw [show (l.map EV.e).take l.length = l.map EV.e from List.take_of_length_le (by simp), show (L.map EV.e).take l.length = L.map EV.e from List.take_of_length_le (by simp; omega)] at hBo
            have hs1 := Lib.hid (addAll_small (B := []) (fun p hp => absurd hp (by simp)) (l.map EV.e))
            have hs2 := Lib.hid (addAll_small (B := []) (fun p hp => absurd hp (by simp)) (L.map EV.e))
            have hb1 := Lib.hid (addAll_b3 (B := []) Bk.b3_nil (l.map EV.e))
            have hb2 := Lib.hid (addAll_b3 (B := []) Bk.b3_nil (L.map EV.e))
            have hn1 := Lib.hid (show (Bk.addAll [] (l.map EV.e)).length ≤ 100000 from by
              have := addAll_len (B := []) (l.map EV.e)
              simp at this
              omega)
            have hn2 := Lib.hid (show (Bk.addAll [] (L.map EV.e)).length ≤ 100000 from by
              have := addAll_len (B := []) (L.map EV.e)
              simp at this
              omega)
            generalize Bk.addAll [] (l.map EV.e) = K1 at *
            generalize Bk.addAll [] (L.map EV.e) = K2 at *
            obtain ⟨R, E, hF1⟩ : ∃ R E, K1.file (jsOf (jvs js)) id p = (R, E) := ⟨_, _, rfl⟩
            have hF2 : K2.file (jsOf (jvs js)) id p = (R, E) := by rw [← hF1, ← file_perm HMM.out]
            have HDU := Lib.hid (dues_perm HMM.out (jsOf (jvs js)))
            have O1 := hBo
            have HJR := Lib.hid (fun W (hx : Ext wc W) => HRJ.out W (HX.out.trans hx))
            have HF1 := Lib.hid (O1.one.file hs1.out hb1.out hn1.out (jvs js) Aj cj js.length (jvs_len js) (HJR.out _ O1.x) hjm id p hF1)
            replace hF2 := Lib.hid hF2
            clear hBo HC HO14 hF1 HMM hd hlt
            go_wp2_with fail
            refine HF1.out.mono ?_
            rintro r w30 ⟨rfl, _, hx30⟩
            have O2 := O1.to hx30
            have B21 := Blk.new w30 23 #[.int .i64 R.j, .int .i64 R.k, .int .i64 R.p, .int .i64 R.t, .int .i64 R.x, .int .i64 R.v, .int .i64 R.s, .int .i64 R.r]
            have X31 := (Ext.refl w30).alloc (.cells #[.int .i64 R.j, .int .i64 R.k, .int .i64 R.p, .int .i64 R.t, .int .i64 R.x, .int .i64 R.v, .int .i64 R.s, .int .i64 R.r] 23)
            have O3 := O2.to X31
            clear O1 O2 hx30 X31 HF1
            go_wp2_with fail
            generalize w30.alloc (.cells #[.int .i64 R.j, .int .i64 R.k, .int .i64 R.p, .int .i64 R.t, .int .i64 R.x, .int .i64 R.v, .int .i64 R.s, .int .i64 R.r] 23) = w31 at *
            generalize w30.heap.size = g21 at *
            refine (O3.swap.one.file hs2.out hb2.out hn2.out (jvs js) Aj cj js.length (jvs_len js) (HJR.out _ O3.x) hjm id p hF2.out).mono ?_
            rintro r w32 ⟨rfl, _, hx32⟩
            have O4 := O3.to hx32
            have B22 := B21.ext hx32
            have B23 := Blk.new w32 23 #[.int .i64 R.j, .int .i64 R.k, .int .i64 R.p, .int .i64 R.t, .int .i64 R.x, .int .i64 R.v, .int .i64 R.s, .int .i64 R.r]
            have X33 := (Ext.refl w32).alloc (.cells #[.int .i64 R.j, .int .i64 R.k, .int .i64 R.p, .int .i64 R.t, .int .i64 R.x, .int .i64 R.v, .int .i64 R.s, .int .i64 R.r] 23)
            have O5 := O4.to X33
            have B24 := B22.ext X33
            clear O3 O4 hx32 X33 B21 B22 hF2
            have heq : ∀ W, (binOp .eql 23 (.agg #[.int .i64 R.j, .int .i64 R.k, .int .i64 R.p, .int .i64 R.t, .int .i64 R.x, .int .i64 R.v, .int .i64 R.s, .int .i64 R.r]) (.agg #[.int .i64 R.j, .int .i64 R.k, .int .i64 R.p, .int .i64 R.t, .int .i64 R.x, .int .i64 R.v, .int .i64 R.s, .int .i64 R.r])).run Tryz.prog W = .ok (.bool true) W := eql_rep R R true (by simp)
            obtain ⟨q, q'⟩ := B23.cells
            obtain ⟨r, r'⟩ := B24.cells
            have lg1 := B23.lt
            have lg2 := B24.lt
            have HO5 := Lib.hid O5
            clear B23 B24 O5
            generalize hw33 : w32.alloc (.cells #[.int .i64 R.j, .int .i64 R.k, .int .i64 R.p, .int .i64 R.t, .int .i64 R.x, .int .i64 R.v, .int .i64 R.s, .int .i64 R.r] 23) = w33 at *
            go_wp2_with fail
            clear q q' r r' lg1 lg2 heq hw33
            generalize w32.heap.size = g23 at *
            refine (HO5.out.one.all hs1.out hb1.out hn1.out (jvs js) Aj cj js.length (jvs_len js) (HJR.out _ HO5.out.x) hjm).mono ?_
            rintro r w34 ⟨v34, ss, rfl, hS1, ho34, _, hx34⟩
            have O6 := Lib.hid (HO5.out.to hx34)
            obtain ⟨A34, c34, rfl, _, m34, R34⟩ := own_slice ho34
            clear HO5 ho34 hx34
            go_wp2_with fail
            refine (O6.out.swap.one.all hs2.out hb2.out hn2.out (jvs js) Aj cj js.length (jvs_len js) (HJR.out _ O6.out.x) hjm).mono ?_
            rintro r w35 ⟨v35, us, rfl, hS2, ho35, _, hx35⟩
            have O7 := Lib.hid (O6.out.to hx35)
            have R36 := R34.ext hx35
            obtain ⟨A35, c35, rfl, _, m35, R35⟩ := own_slice ho35
            have hdd : sortD ss = sortD us := dueAll_sort HDU.out hS1 hS2
            have hlen : us.length = ss.length := by rw [← sortD_len us, ← hdd, sortD_len]
            have HSD := Lib.hid (sameDue_any (sortD ss) (sortD us) A34 A35 ss.length us.length c34 c35 w35 (sortD_len ss) (sortD_len us) R36 R35 (by omega) (by omega))
            clear O6 ho35 hx35 R34 R36 R35 hlen hS1 hS2
            go_wp2_with fail
            refine HSD.out.mono ?_
            rintro r w36 ⟨rfl, hx36⟩
            rw [decide_eq_true hdd]
            have HXX := Lib.hid (HX.out.trans (O7.out.x.trans hx36))
            clear hdd HSD O7 hx36
            go_wp2_with fail
            go_ret
            exact ⟨rfl, HXX.out⟩
end Go.Proofs.YtokakpbpenndlaaGreatDoor
