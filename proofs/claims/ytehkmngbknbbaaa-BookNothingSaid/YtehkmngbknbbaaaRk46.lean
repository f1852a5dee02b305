/-
  The statement BookNothing: the walk.
-/
import Derived.Test.YtehkmngbknbbaaaRk36
import Derived.Test.YtehkmngbknbbaaaRk31
import Derived.Test.YtehkmngbknbbaaaRk45
import Derived.Deep.DeepCutAuto
set_option linter.unusedVariables false
namespace Go.Proofs.Ytehkmngbknbbaaa
open Go.RowKit Go.Maps

/-- The amounts so far are not great. -/
def GdRel (W : World) (l : List EV) (i : Value) (wr : World) : Prop :=
  ∃ k : Nat, k ≤ l.length ∧ i = .int .i64 (k : Int) ∧ (∀ x ∈ l.take k, ∀ n ∈ x.e.am, n ≤ 1099511627776) ∧ W = wr
def GdAm (W : World) (am : List Int) (i : Value) (wr : World) : Prop :=
  ∃ k : Nat, k ≤ am.length ∧ i = .int .i64 (k : Int) ∧ (∀ n ∈ am.take k, n ≤ 1099511627776) ∧ W = wr
def GdTx (W : World) (tax : List Tx) (i : Value) (wr : World) : Prop :=
  ∃ k : Nat, k ≤ tax.length ∧ i = .int .i64 (k : Int) ∧ W = wr
theorem find_of_ids {M : BkM} (i : Nat) (h : i < M.b.ids.length) : ∃ p, M.find M.b.ids[i] = some p := by
  have hm : M.b.ids[i] ∈ M.b.ids := List.getElem_mem h
  have h1 : (M.b.find M.b.ids[i]).isSome = true := by
    unfold Bk.find
    rw [List.find?_isSome]
    obtain ⟨x, hx, he⟩ := List.mem_map.1 hm
    exact ⟨x, hx, by simpa using he⟩
  rw [BkM.find_b] at h1
  cases hf : M.find M.b.ids[i] with
  | none => rw [hf] at h1; cases h1
  | some p => exact ⟨p, rfl⟩
theorem sale_of_find {M : BkM} {id : Int} {p : Kp × Slot} (h : M.find id = some p) (hk : p.1.e.k = 1) : M.b.sale id = some p.1 := by
  unfold Bk.sale
  rw [BkM.find_b, h]
  simp [Option.filter, hk]
/-- Where the collecting of what is left stands. -/
def LfRel (w7 : World) (g17 : Nat) (ei : Int) (s : Kp) (n : Nat) (v18 v19 : Value) (wr : World) : Prop :=
  ∃ (k : Nat) (Ar : Option Addr) (cr : Nat), k ≤ n ∧ v19 = .int .i64 (k : Int) ∧ v18 = .int .i64 (sumL (leftL s k)) ∧ Ext w7 wr ∧ Blk wr g17 66 #[.int .i64 2, .int .i64 1099511627775, .int .i64 ei, .int .i64 3652058, .slice Ar k cr, .slice none 0 0] ∧ wr.ownsRow w7.heap.size 3 1 (.slice Ar k cr) k (iV (leftL s k))
theorem LfRel.next {w7 W : World} {g17 : Nat} {ei : Int} {s : Kp} {n k m : Nat} {A' : Option Addr} {c' : Nat} {Ar : Option Addr} {cr : Nat} {xs : List Value} {S : Int} (hk : k < n) (hS : S = sumL (leftL s k) + (s.e.am.getD k 0 - s.back.getD k 0)) (hX : Ext w7 W) (h17 : w7.heap.size ≤ g17)
    (B : Blk W g17 66 #[.int .i64 2, .int .i64 1099511627775, .int .i64 ei, .int .i64 3652058, .slice Ar k cr, .slice none 0 0]) (ho : W.ownsRow w7.heap.size 3 1 (.slice A' (k + 1) c') (k + 1) xs) (hxs : xs = iV (leftL s k) ++ [.int .i64 (s.e.am.getD k 0 - s.back.getD k 0)]) (e : m = k + 1) :
    LfRel w7 g17 ei s n (.int .i64 S) (.int .i64 (m : Int)) (W.setCell ⟨g17, 4, none⟩ (.slice A' (k + 1) c')) := by
  subst e hxs hS
  refine ⟨k + 1, A', c', by omega, rfl, by rw [leftL_succ, sumL_snoc], hX.set (p := ⟨g17, 4, none⟩) h17 _, B.set_ 4 _, ?_⟩
  have := own_set ho (a := ⟨g17, 4, none⟩) (own_blk_ne ho B (by decide)) (.slice A' (k + 1) c')
  rw [leftL_succ]
  simpa [iV] using this
theorem left_of {B : Bk} {id : Int} {s : Kp} (hs : B.sale id = some s) (hv : s.voided = false) {k : Nat} (hk : k < s.e.am.length) : B.left id (k : Int) = (s.e.am.getD k 0 - s.back.getD k 0, true) := by
  unfold Bk.left
  rw [hs]
  simp only
  rw [if_neg (by omega), if_neg (by simp [hv])]
  simp
theorem add_stepN {w W : World} {bb mb : Nat} {v : Value} {M : BkM} (h : BookAt w W bb mb v M) (hx : Ext w W) (e : Ent) (n m : Nat) (er : Int) (hn : e.am.length = n) (hm : e.tax.length = m) (her : M.b.may e = er) (Aa At : Option Addr) (ca ct : Nat) (he : EntR W e Aa At) (hml : M.length ≤ 100000) (hs : M.b.small) :
    Calls Try.prog 42 #[.pointer (some ⟨bb, 0, none⟩), .agg #[.int .i64 e.k, .int .i64 e.id, .int .i64 e.of_, .int .i64 e.day, .slice Aa n ca, .slice At m ct]] W fun r W' => ∃ A nl c v' M', r = .returned (.tuple #[.slice A nl c, .int .i64 er]) ∧ BookAt w W' bb mb v' M' ∧ M'.b = (M.b.add e).1 ∧ Ext w W' ∧ Step (foot bb mb v M) (foot bb mb v' M') W W' := by
  subst hn hm her
  refine (add_step h hx e Aa At ca ct he hml hs).mono ?_
  rintro r W' ⟨A, c, v', M', h1, h2, h3, h4, h5, _⟩
  exact ⟨A, _, c, v', M', h1, h2, h3, h4, h5⟩
theorem wrap_0 : RowKit.wrap64 0 = 0 := by unfold RowKit.wrap64; omega
theorem moves_find {M : BkM} {j : Int} {m : Mv} (h : m ∈ M.b.moves j) : ∃ p, M.find m.id = some p := by
  unfold Bk.moves at h
  obtain ⟨x, hx, hm⟩ := List.mem_flatMap.1 h
  have hid : m.id = x.e.id := by
    unfold Kp.moves at hm
    split at hm
    · cases hm
    · obtain ⟨y, _, rfl⟩ := List.mem_map.1 hm
      rfl
  have hmem : m.id ∈ M.b.ids := by rw [hid]; exact mem_ids hx
  obtain ⟨i, hi, he⟩ := List.mem_iff_getElem.1 hmem
  rw [← he]
  exact find_of_ids i hi
theorem ofOf_find {M : BkM} {id : Int} {p : Kp × Slot} (h : M.find id = some p) : M.b.ofOf id = p.1.e.of_ := by
  unfold Bk.ofOf
  rw [BkM.find_b, h]
  rfl
/-- Where the summing of moves stands. -/
def MvsRel (w24 : World) (B : Bk) (ei : Int) (mv : List Mv) (v26 v27 v28 v30 : Value) (wr : World) : Prop :=
  ∃ (k : Nat) (V1 V2 V3 : Int), k ≤ mv.length ∧ v30 = .int .i64 (k : Int) ∧ v26 = .int .i64 V1 ∧ v27 = .int .i64 V2 ∧ v28 = .int .i64 V3 ∧
    V1 = RowKit.wrap64 (msum (mval B ei fun t _ _ => t) (mv.take k)) ∧ V2 = RowKit.wrap64 (msum (mval B ei fun _ x _ => x) (mv.take k)) ∧ V3 = RowKit.wrap64 (msum (mval B ei fun _ _ v => v) (mv.take k)) ∧ Ext w24 wr
theorem MvsRel.next {w24 W : World} {B : Bk} {ei : Int} {mv : List Mv} {k m : Nat} {V1 V2 V3 U1 U2 U3 d1 d2 d3 : Int} (hk : k < mv.length)
    (h1 : V1 = RowKit.wrap64 (msum (mval B ei fun t _ _ => t) (mv.take k))) (h2 : V2 = RowKit.wrap64 (msum (mval B ei fun _ x _ => x) (mv.take k))) (h3 : V3 = RowKit.wrap64 (msum (mval B ei fun _ _ v => v) (mv.take k)))
    (e1 : mval B ei (fun t _ _ => t) mv[k] = d1) (e2 : mval B ei (fun _ x _ => x) mv[k] = d2) (e3 : mval B ei (fun _ _ v => v) mv[k] = d3)
    (u1 : U1 = RowKit.wrap64 (V1 + d1)) (u2 : U2 = RowKit.wrap64 (V2 + d2)) (u3 : U3 = RowKit.wrap64 (V3 + d3)) (hX : Ext w24 W) (e : m = k + 1) :
    MvsRel w24 B ei mv (.int .i64 U1) (.int .i64 U2) (.int .i64 U3) (.int .i64 (m : Int)) W := by
  subst e
  refine ⟨k + 1, U1, U2, U3, by omega, rfl, rfl, rfl, rfl, ?_, ?_, ?_, hX⟩
  · rw [msum_take _ _ _ hk, e1, u1, h1]; unfold RowKit.wrap64; omega
  · rw [msum_take _ _ _ hk, e2, u2, h2]; unfold RowKit.wrap64; omega
  · rw [msum_take _ _ _ hk, e3, u3, h3]; unfold RowKit.wrap64; omega
theorem jsum_take (c : Tx → Int) (j : Int) (l : List Tx) (k : Nat) (h : k < l.length) : jsum c j (l.take (k + 1)) = jsum c j (l.take k) + (if l[k].j = j then c l[k] else 0) := by
  rw [List.take_succ_eq_append_getElem h, jsum_app]
  simp [jsum]
def LzRel (w24 : World) (n : Nat) (v34 : Value) (wr : World) : Prop := ∃ k : Nat, k ≤ n ∧ v34 = .int .i64 (k : Int) ∧ Ext w24 wr
def FrRel (w24 : World) (tx : List Tx) (j : Int) (v37 v38 : Value) (wr : World) : Prop :=
  ∃ (k : Nat) (V : Int), k ≤ tx.length ∧ v38 = .int .i64 (k : Int) ∧ v37 = .int .i64 V ∧ V = RowKit.wrap64 (jsum frv j (tx.take k)) ∧ Ext w24 wr
theorem FrRel.next {w24 W : World} {tx : List Tx} {j V U d : Int} {k m : Nat} (hk : k < tx.length) (hV : V = RowKit.wrap64 (jsum frv j (tx.take k))) (hd : (if tx[k].j = j then frv tx[k] else 0) = d) (hU : U = RowKit.wrap64 (V + d)) (hX : Ext w24 W) (e : m = k + 1) :
    FrRel w24 tx j (.int .i64 U) (.int .i64 (m : Int)) W := by
  subst e
  refine ⟨k + 1, U, by omega, rfl, rfl, ?_, hX⟩
  rw [jsum_take _ _ _ _ hk, hd, hU, hV]
  unfold RowKit.wrap64
  omega
def NothingP (w : World) (r : Ending) (w' : World) : Prop := r = .returned (.bool true) ∧ Ext w w'
set_option maxRecDepth 100000 in
set_option maxHeartbeats 8000000 in
theorem bookNothing_any (l : List EV) (A : Option Addr) (cap : Nat) (which juris : Int) (w : World) (hr : Reads w w.heap.size 6 A l.length (evCells l)) (hm : l.length ≤ maxLen) (hok : ∀ x ∈ l, x.ok w) :
    Calls Try.prog 11 #[.slice A l.length cap, .int .i64 which, .int .i64 juris] w (NothingP w) := by
  have HOK := Lib.hid hok
  have HR := Lib.hid (fun W (hx : Ext w W) => hr.ext hx)
  have HC := Lib.hid (fun k hk => evCells_six' (W := w) (k := k) hr hk)
  clear hok hr
  go_enter Try.func11, Try.ntmps11
  go_wp2_with fail
  refine (awake29_any _).mono ?_
  rintro r w1 ⟨rfl, X1⟩
  go_wp2_with fail
  refine (big_any l A cap 20 _ (HR.out _ X1) hm (by omega)).mono ?_
  rintro r w2 ⟨bg, rfl, hfit, rfl⟩
  cases bg
  case true =>
    go_wp2_with fail
    go_ret
    exact ⟨rfl, X1⟩
  have HFit := Lib.hid (hfit rfl)
  have hl20 := (hfit rfl).1
  clear hfit hm
  go_wp2_with fail
  go_loopw [8] (fun i wr => GdRel w1 l i wr) (fun i _ => l.length - (intOf i).toNat)
  case atStart => exact ⟨0, by omega, rfl, by simp, rfl⟩
  case round =>
    obtain ⟨k, hk, rfl, hP, rfl⟩ := hrel
    by_cases hlt : k < l.length
    · have hd : decide ((k : Int) < (l.length : Int)) = true := by simp; omega
      have kl : (k : Int) < (l.length : Int) := by omega
      have kz : (0 : Int) ≤ (k : Int) := by omega
      obtain ⟨g, off, rfl, hg, hc⟩ := HC.out k hlt
      obtain ⟨_, _, _, _, c5, c6⟩ := hc w1 X1
      have hx := HOK.out l[k] (List.getElem_mem hlt)
      have hfx := HFit.out.2 l[k] (List.getElem_mem hlt)
      have HN := Lib.hid (fun (h : ∀ n ∈ l[k].e.am, n ≤ 1099511627776) => (show GdRel w1 l (.int .i64 ((k + 1 : Nat) : Int)) w1 from ⟨k + 1, by omega, rfl, fun x hx => by
        rw [List.take_succ_eq_append_getElem hlt] at hx
        rcases List.mem_append.1 hx with hx | hx
        · exact hP x hx
        · rw [List.mem_singleton.1 hx]; exact h, rfl⟩))
      have hra := (hx.ext X1).r.ra
      have hrt := (hx.ext X1).r.rt
      clear hc hx hP
      generalize l[k] = x at *
      obtain ⟨⟨xk, xi, xo, xd, am, tx⟩, B, B', cb, cb'⟩ := x
      simp only at c5 c6 hra hrt hfx HN
      obtain ⟨f1, f2⟩ := hfx
      go_wp2_with fail
      go_loopw [9] (fun i wr => GdAm w1 am i wr) (fun i _ => am.length - (intOf i).toNat)
      case atStart => exact ⟨0, by omega, rfl, by simp, rfl⟩
      case round =>
        obtain ⟨m, hm, rfl, hQ, rfl⟩ := hrel
        by_cases hlm : m < am.length
        · have hdm : decide ((m : Int) < (am.length : Int)) = true := by simp; omega
          have ml : (m : Int) < (am.length : Int) := by omega
          have mz : (0 : Int) ≤ (m : Int) := by omega
          obtain ⟨ga, oa, rfl, hga, ca⟩ := reads_int hra hlm rfl
          have HM := Lib.hid (fun (h : am[m] ≤ 1099511627776) => (show GdAm w1 am (.int .i64 ((m + 1 : Nat) : Int)) w1 from ⟨m + 1, by omega, rfl, fun n hn => by
            rw [List.take_succ_eq_append_getElem hlm] at hn
            rcases List.mem_append.1 hn with hn | hn
            · exact hQ n hn
            · rw [List.mem_singleton.1 hn]; exact h, rfl⟩))
          clear hQ
          generalize am[m] = n at *
          by_cases hbig : 1099511627776 < n
          · have hb : decide (1099511627776 < n) = true := by simpa using hbig
            clear HM
            go_wp2_with fail
            go_ret
            exact ⟨rfl, X1⟩
          · have hb : decide (1099511627776 < n) = false := by simpa using hbig
            have HM2 := Lib.hid (HM.out (by omega))
            clear HM
            go_wp2_with fail
            go_roundw
            case rel => exact HM2.out
            case measure => simp [intOf]; omega
        · have hdm : decide ((m : Int) < (am.length : Int)) = false := by simp; omega
          have HN2 := Lib.hid (HN.out (fun n hn => hQ n (by rw [List.take_of_length_le (by omega)]; exact hn)))
          clear HN hQ
          go_wp2_with fail
          go_loopw [10] (fun i wr => GdTx w1 tx i wr) (fun i _ => tx.length - (intOf i).toNat)
          case atStart => exact ⟨0, by omega, rfl, rfl⟩
          case round =>
            obtain ⟨q, hq, rfl, rfl⟩ := hrel
            by_cases hlq : q < tx.length
            · have hdq : decide ((q : Int) < (tx.length : Int)) = true := by simp; omega
              have ql : (q : Int) < (tx.length : Int) := by omega
              have qz : (0 : Int) ≤ (q : Int) := by omega
              obtain ⟨gt, ot, rfl, hgt, hct⟩ := hrt.cellAt hlq
              have ct : w1.cell? ⟨gt, ot + q * 6 + 5, none⟩ = _ := hct _ _ (txCells_at tx q hlq).2.2.2.2.2
              clear hct
              generalize tx[q].v = n at *
              have HT := Lib.hid (show GdTx w1 tx (.int .i64 ((q + 1 : Nat) : Int)) w1 from ⟨q + 1, by omega, rfl, rfl⟩)
              by_cases hbig : 1099511627776 < n
              · have hb : decide (1099511627776 < n) = true := by simpa using hbig
                go_wp2_with fail
                go_ret
                exact ⟨rfl, X1⟩
              · have hb : decide (1099511627776 < n) = false := by simpa using hbig
                go_wp2_with fail
                go_roundw
                case rel => exact HT.out
                case measure => simp [intOf]; omega
            · have hdq : decide ((q : Int) < (tx.length : Int)) = false := by simp; omega
              go_wp2_with fail
              go_roundw
              case rel => exact HN2.out
              case measure => simp [intOf]; omega
    · have hd : decide ((k : Int) < (l.length : Int)) = false := by simp; omega
      have HA := Lib.hid (show ∀ x ∈ l, ∀ n ∈ x.e.am, n ≤ 1099511627776 from fun x hx => hP x (by rw [List.take_of_length_le (by omega)]; exact hx))
      clear hP
      go_wp2_with fail
      refine (filled_any l A cap _ (HR.out _ X1) (fun x hx => (HOK.out x hx).ext X1) (by omega)).mono ?_
      rintro r w3 ⟨bb, mb, v, M, nn, rfl, hB, hI, hS, hL, hE, hX3⟩
      have HB := Lib.hid hB
      have HI := Lib.hid hI
      have HS := Lib.hid hS
      have HE := Lib.hid (show ∀ p ∈ M.b, ∀ n ∈ p.e.am, n ≤ 1099511627776 from fun p hp => by
        obtain ⟨x, hx, he⟩ := List.mem_map.1 (hE p hp)
        rw [← he]; exact HA.out x hx)
      have HE2 := Lib.hid (show ∀ p ∈ M.b, p.e.am.length ≤ 20 ∧ p.e.tax.length ≤ 60 from fun p hp => by
        obtain ⟨x, hx, he⟩ := List.mem_map.1 (hE p hp)
        rw [← he]; exact HFit.out.2 x hx)
      have hML : M.length ≤ 20 := by omega
      clear hB hI hS hE HA HFit HOK HR HC
      go_wp2_with fail
      refine (ids_any HB.out (by omega)).mono ?_
      rintro r w4 ⟨Ai, ci, rfl, hoi, hx4⟩
      have X4 := hX3.trans hx4
      have HB4 := Lib.hid (HB.out.ext hx4)
      clear hX3 HB hx4
      by_cases hM0 : M.length = 0
      · have hz : ((M.length : Int) == 0) = true := by rw [hM0]; rfl
        go_wp2_with fail
        go_ret
        exact ⟨rfl, X1.trans X4⟩
      have hz : ((M.length : Int) == 0) = false := by rw [beq_eq_false_iff_ne]; omega
      have hpb := pickI_bd (x := which) (n := (M.length : Int)) (by omega)
      go_wp2_with fail
      refine (pick_any which (M.length : Int) (by omega) _).mono ?_
      rintro r w5 ⟨rfl, rfl⟩
      obtain ⟨i, hpi⟩ := Int.eq_ofNat_of_zero_le hpb.1
      rw [hpi] at hpb ⊢
      replace hpi := Lib.hid hpi
      have hil : i < M.b.ids.length := by simp only [Bk.ids, List.length_map, BkM.len_b]; omega
      have hlen : M.length = M.b.ids.length := by simp [Bk.ids, BkM.len_b]
      obtain ⟨ga, oa, rfl, hga, ca⟩ := reads_int (Reads.of_own hoi) (k := i) hil hlen
      obtain ⟨p, hf⟩ := find_of_ids i hil
      generalize M.b.ids[i] = id at *
      have il : (i : Int) < (M.length : Int) := hpb.2
      have iz : (0 : Int) ≤ (i : Int) := by omega
      obtain ⟨hpm, hpid⟩ := BkM.find_mem hf
      have hpok := HB4.out.ok p hpm
      have hidb := Kp.ok_id hpok
      have hi64 : i64 id := by unfold i64; omega
      have hpb2 : p.1 ∈ M.b := List.mem_map.2 ⟨p, hpm, rfl⟩
      replace hlen := Lib.hid hlen
      go_wp2_with fail
      refine (entry_some HB4.out id hi64 hf).mono ?_
      rintro r w6 ⟨A6, A6', c6, c6', rfl, hO6⟩
      have HNA := Lib.hid (show (∀ b o t, A6 = some ⟨b, o, t⟩ → b ∉ foot bb mb v M) ∧ (∀ b o t, A6' = some ⟨b, o, t⟩ → b ∉ foot bb mb v M) ∧ w6.heap.size ∉ foot bb mb v M from by
        have hft := fun g hg => (HB4.out.foot_ge g hg).2
        refine ⟨fun b o t e hm => ?_, fun b o t e hm => ?_, fun hm => ?_⟩
        · subst e
          have h1 := (hO6.oa.lt b rfl).1
          have h2 := hft b hm
          omega
        · subst e
          have h1 := (hO6.ot.lt b rfl).1
          have h2 := hft b hm
          omega
        · have h2 := hft _ hm
          have h3 := hO6.ext.size
          omega)
      have HR6 := Lib.hid hO6.toR
      have HB6 := Lib.hid (HB4.out.ext hO6.ext)
      have X6 := X4.trans hO6.ext
      clear hO6 HB4 X4 hoi ca hga
      obtain ⟨⟨⟨ek, ei, eo, ed, am, tx⟩, lines, back, voided⟩, sl⟩ := p
      simp only at hpid hpok hidb hpb2 HR6 ⊢
      subst hpid
      have X7 := X6.alloc (.cells #[.int .i64 ek, .int .i64 ei, .int .i64 eo, .int .i64 ed, .slice A6 am.length c6, .slice A6' tx.length c6'] 66)
      have HB7 := Lib.hid (HB6.out.ext ((Ext.refl w6).alloc (.cells #[.int .i64 ek, .int .i64 ei, .int .i64 eo, .int .i64 ed, .slice A6 am.length c6, .slice A6' tx.length c6'] 66)))
      have HR7 := Lib.hid (HR6.out.ext ((Ext.refl w6).alloc (.cells #[.int .i64 ek, .int .i64 ei, .int .i64 eo, .int .i64 ed, .slice A6 am.length c6, .slice A6' tx.length c6'] 66)))
      have D7 := Blk.new w6 66 #[.int .i64 ek, .int .i64 ei, .int .i64 eo, .int .i64 ed, .slice A6 am.length c6, .slice A6' tx.length c6']
      clear X6 HB6 HR6
      go_upto_region 25 with (fail)
      generalize w6.alloc (.cells #[.int .i64 ek, .int .i64 ei, .int .i64 eo, .int .i64 ed, .slice A6 am.length c6, .slice A6' tx.length c6'] 66) = w7 at *
      generalize w6.heap.size = g15 at *
      obtain ⟨q, q'⟩ := D7.cells
      by_cases hek : ek = 1
      case neg =>
        have hkb : (ek != 1) = true := by simpa using hek
        replace hek := Lib.hid hek
        go_wp2_with fail
        go_ret
        exact ⟨rfl, X1.trans X7⟩
      subst hek
      have hkb : ((1 : Int) != 1) = false := by decide
      have hsale := sale_of_find hf rfl
      have hvd : M.b.voided ei = voided := by unfold Bk.voided; rw [hsale]
      go_wp2_with fail
      refine (voided_any HB7.out ei hi64).mono ?_
      rintro r w8 ⟨rfl, rfl⟩
      rw [hvd]
      replace hvd := Lib.hid hvd
      cases voided
      case true =>
        go_wp2_with fail
        go_ret
        exact ⟨rfl, X1.trans X7⟩
      have hamb := HE2.out _ hpb2
      have hsl := hpok.bln rfl
      simp only at hamb hsl
      obtain ⟨ham20, htx60⟩ := hamb
      have HSL := Lib.hid hsale
      have HOKp := Lib.hid hpok
      have HAM := Lib.hid (HE.out _ hpb2)
      clear hsale hpok hf hpm hsl HE HE2 q q'
      generalize hs0 : (⟨⟨1, ei, eo, ed, am, tx⟩, lines, back, false⟩ : Kp) = s at *
      replace hs0 := Lib.hid hs0
      have hsE : s.e = ⟨1, ei, eo, ed, am, tx⟩ := by rw [← hs0.out]
      have hsV : s.voided = false := by rw [← hs0.out]
      have HSE := Lib.hid hsE
      have HSV := Lib.hid hsV
      have HLB := Lib.hid (show ∀ k (hk : k < am.length), (0 ≤ s.e.am.getD k 0 - s.back.getD k 0 ∧ s.e.am.getD k 0 - s.back.getD k 0 ≤ am[k] ∧ am[k] ≤ 1099511627776) ∧ M.b.left ei (k : Int) = (s.e.am.getD k 0 - s.back.getD k 0, true) from fun k hk => by
        have h1 := left_bd HOKp.out (by rw [hsE]) k (by rw [hsE]; exact hk)
        have h2 : s.e.am.getD k 0 = am[k] := by rw [hsE]; simp [List.getD, hk]
        have h3 := HAM.out am[k] (by first | exact List.getElem_mem hk | (rw [hsE]; exact List.getElem_mem hk))
        refine ⟨by omega, left_of HSL.out hsV (by rw [hsE]; exact hk)⟩)
      have F17 := Blk.new w7 66 #[.int .i64 2, .int .i64 1099511627775, .int .i64 ei, .int .i64 3652058, .slice none 0 0, .slice none 0 0]
      have E17 := (Ext.refl w7).alloc (.cells #[.int .i64 2, .int .i64 1099511627775, .int .i64 ei, .int .i64 3652058, .slice none 0 0, .slice none 0 0] 66)
      have HD7 := Lib.hid D7
      clear D7 hsE hsV HAM
      go_upto_region 28 with (fail)
      generalize w7.alloc (.cells #[.int .i64 2, .int .i64 1099511627775, .int .i64 ei, .int .i64 3652058, .slice none 0 0, .slice none 0 0] 66) = w17 at *
      obtain ⟨g17, hg17⟩ : ∃ g17, w7.heap.size = g17 := ⟨_, rfl⟩
      have h17 : w7.heap.size ≤ g17 := by omega
      rw [hg17] at F17 ⊢
      replace hg17 := Lib.hid hg17
      have H0 := Lib.hid (show LfRel w7 g17 ei s am.length (.int .i64 0) (.int .i64 ((0 : Nat) : Int)) w17 from ⟨0, none, 0, by omega, rfl, by simp [leftL, sumL], E17, F17, World.ownsRow_nil _ _ _ _⟩)
      clear E17 F17
      go_wp2_with fail
      go_loopw [18, 19] (fun v18 v19 wr => LfRel w7 g17 ei s am.length v18 v19 wr) (fun _ v19 _ => am.length - (intOf v19).toNat)
      case atStart => exact H0.out
      case round =>
        clear H0
        obtain ⟨q, Ar, cr, hq, rfl, rfl, hx, hF, ho⟩ := hrel
        obtain ⟨d, d'⟩ := (HD7.out.ext hx).cells
        by_cases hlq : q < am.length
        · have hdq : decide ((q : Int) < (am.length : Int)) = true := by simp; omega
          have ql : (q : Int) < (am.length : Int) := by omega
          have qz : (0 : Int) ≤ (q : Int) := by omega
          have hsq := Lib.hid (left_any_sum HOKp.out (by rw [HSE.out]) q (by rw [HSE.out]; omega))
          have hsm : 0 ≤ sumL (leftL s q) ∧ sumL (leftL s q) ≤ 1099511627776 * (q : Int) := by
            refine ⟨hsq.out.1, ?_⟩
            have key : ∀ j, j ≤ q → sumL (leftL s j) ≤ 1099511627776 * (j : Int) := by
              intro j
              induction j with
              | zero => intro _; simp [leftL, sumL]
              | succ j ih =>
                intro hj
                have h1 := ih (by omega)
                have h2 := (HLB.out j (by omega)).1
                rw [leftL_succ, sumL_snoc]
                omega
            exact key q (Nat.le_refl _)
          obtain ⟨⟨n1, n2, n3⟩, hleft⟩ := HLB.out q hlq
          have HN := Lib.hid (fun (W : World) A' c' xs S hS hX B ho' hxs => LfRel.next (w7 := w7) (W := W) (g17 := g17) (ei := ei) (s := s) (n := am.length) (m := q + 1) (A' := A') (c' := c') (Ar := Ar) (cr := cr) (xs := xs) (S := S) hlq hS hX h17 B ho' hxs rfl)
          obtain ⟨gm, om, hAm, hgm, cm⟩ := reads_int (HR7.out.ext hx).ra hlq rfl
          simp only at hAm cm
          subst hAm
          clear hsq
          generalize s.e.am.getD q 0 - s.back.getD q 0 = nq at *
          generalize sumL (leftL s q) = S at *
          generalize hamq : am[q] = aq at *
          replace hamq := Lib.hid hamq
          obtain ⟨s1, s2⟩ := hsm
          have hq20 : (q : Int) ≤ 20 := by omega
          go_wp2_with fail
          refine (left_any (HB7.out.ext hx) ei (q : Int) hi64).mono ?_
          rintro r w18 ⟨rfl, hx18⟩
          rw [hleft]
          have hx2 := hx.trans hx18
          have hF2 := hF.ext hx18
          have ho2 := own_ext ho hx18
          have cm2 := (hx18.cell gm (om + q) none hgm).trans cm
          obtain ⟨e, e'⟩ := (HD7.out.ext hx2).cells
          obtain ⟨f, f'⟩ := hF2.cells
          have lf := hF2.lt
          have b1 : decide (nq < 0) = false := by simp; omega
          have b2 : decide (aq < nq) = false := by simp; omega
          replace hleft := Lib.hid hleft
          have HF2 := Lib.hid hF2
          have HO2 := Lib.hid ho2
          clear hx hF ho cm d d' hx18 hF2 ho2
          go_wp2_with (at_builtin; refine wpl_app1 row_int w7 w18 (.tmp 157) (.tmp 159) rfl rfl rfl HO2.out hx2 rfl rfl rfl (by simp [Value.oneCell']) (by omega) (by unfold maxLen; omega) ?_; intro v19 w19 hg19; have HG19 := Lib.hid hg19; have F19 := Lib.hid (hg19.blk (HO2.out.alloc _) (HF2.out.alloc _) (by decide)); have hO19 := hg19.own; obtain ⟨A19, c19, rfl, _, _, _⟩ := own_slice hO19; replace hO19 := Lib.hid hO19; clear hg19; obtain ⟨z, z'⟩ := F19.out.cells; have lz := F19.out.lt)
          go_roundw
          case rel =>
            have := HN.out w19 A19 c19 _ (S + nq) rfl HG19.out.ext F19.out hO19.out rfl
            first | exact this | (simpa using this)
          case measure => simp [intOf]; omega
        · have hdq : decide ((q : Int) < (am.length : Int)) = false := by simp; omega
          have hqe : q = am.length := by omega
          subst hqe
          have XM : i64 1099511627775 := by unfold i64; omega
          cases hmx : M.find 1099511627775 with
          | some p2 =>
            replace hmx := hmx
            go_wp2_with fail
            refine (entry_some (HB7.out.ext hx) 1099511627775 XM hmx).mono ?_
            rintro r w20 ⟨A20, A20', c20, c20', rfl, hO20⟩
            replace hmx := Lib.hid hmx
            have X20 := (X7.trans hx).trans hO20.ext
            go_wp2_with fail
            go_ret
            exact ⟨rfl, (X1.trans X20).alloc _⟩
          | none =>
            go_wp2_with fail
            refine (entry_none (HB7.out.ext hx) 1099511627775 XM hmx).mono ?_
            rintro r w20 ⟨rfl, hx20⟩
            have X22 := hx20.alloc (.cells #[.int .i64 0, .int .i64 0, .int .i64 0, .int .i64 0, .slice none 0 0, .slice none 0 0] 66)
            have HX22 := Lib.hid (hx.trans X22)
            have HF22 := hF.ext X22
            have HO22 := own_ext ho X22
            have hmx2 : M.b.find 1099511627775 = none := by rw [BkM.find_b, hmx]; rfl
            have hok7 : ∀ p ∈ M.b, p.ok := fun p hp => by
              obtain ⟨q, hq, rfl⟩ := List.mem_map.1 hp
              exact HB7.out.ok q hq
            have hmay := rest_may hok7 HSL.out HSV.out hmx2
            have hall := rest_all hok7 HSL.out HSV.out hmx2
            have hsum := (left_any_sum HOKp.out (by rw [HSE.out]) s.e.am.length (Nat.le_refl _)).2
            have hsl : s.e.am.length = am.length := by rw [HSE.out]
            rw [hsl] at hmay hsum
            obtain ⟨ab, hab⟩ : ∃ ab, (leftL s am.length).any (fun n => decide (n ≠ 0)) = ab := ⟨_, rfl⟩
            rw [hab] at hmay hsum
            obtain ⟨er, her⟩ : ∃ er, M.b.may (restE ei s) = er := ⟨_, rfl⟩
            have hb1 : (er == 0) = ab := by rw [← her, hmay]; cases ab <;> rfl
            have hb3 : (ab != ab) = false := by simp
            have hI2 := inv_add HI.out hok7 HB7.out.nodup (restE ei s)
            have hS2 := add_small HS.out (restE ei s)
            have hL2 := add_len_le M.b (restE ei s)
            rw [BkM.len_b] at hL2
            have HRE := Lib.hid (show EntR _ (restE ei s) Ar none from ⟨by rw [show (restE ei s).am.length = am.length from by rw [← hsl]; exact leftL_len s _, show (restE ei s).am = leftL s am.length from by rw [← hsl]; rfl]; exact Reads.of_own HO22, Reads.none_, by rw [show (restE ei s).am.length = am.length from by rw [← hsl]; exact leftL_len s _]; unfold maxLen; omega, by simp [maxLen, restE]⟩)
            have hea : (restE ei s).am.length = am.length := by rw [← hsl]; exact leftL_len s _
            have HD22 := Lib.hid ((HD7.out.ext hx).ext X22)
            have HR22 := Lib.hid ((HR7.out.ext hx).ext X22)
            have HB22 := Lib.hid ((HB7.out.ext hx).ext X22)
            have X122 := X7.trans HX22.out
            replace hmx := Lib.hid hmx
            replace hmay := Lib.hid hmay
            replace hall := Lib.hid hall
            replace hab := Lib.hid hab
            replace her := Lib.hid her
            replace hI2 := Lib.hid hI2
            replace hS2 := Lib.hid hS2
            replace hea := Lib.hid hea
            replace hsl := Lib.hid hsl
            clear hmx2 hok7 HO22 hx20 hx hF ho d d' X22
            go_upto_region 38 with (fail)
            generalize w20.alloc (.cells #[.int .i64 0, .int .i64 0, .int .i64 0, .int .i64 0, .slice none 0 0, .slice none 0 0] 66) = w22 at *
            obtain ⟨f, f'⟩ := HF22.cells
            go_wp2_with fail
            refine (add_stepN HB22.out X122 (restE ei s) am.length 0 er hea.out rfl her.out Ar none cr 0 HRE.out (by omega) HS.out).mono ?_
            rintro r w23 ⟨A23, nl, c23, v23, M2, rfl, hB23, hM2, X23, hStep⟩
            have hD23 := hStep.chg.blk HD22.out HNA.out.2.2
            have hra23 := (hStep.chg.reads HR22.out.ra (Nat.le_refl _) HNA.out.1).more hStep.chg.size
            have hrt23 := (hStep.chg.reads HR22.out.rt (Nat.le_refl _) HNA.out.2.1).more hStep.chg.size
            have HB23 := Lib.hid hB23
            have hI23 := hI2.out
            rw [← hM2] at hI23
            have hS23 := hS2.out
            rw [← hM2] at hS23
            have hL23 : M2.length ≤ 21 := by
              have : M2.b.length = M2.length := BkM.len_b M2
              rw [← this, hM2]; omega
            have hall2 := hall.out
            rw [← hM2] at hall2
            clear HRE HD22 HR22 HB22 HF22 HNA hStep hB23 f f' HB7 HR7 HD7 X122 hall hI2 hS2
            replace hM2 := Lib.hid hM2
            go_wp2_with fail
            refine (moves_any HB23.out juris (by omega) hS23).mono ?_
            rintro r w24 ⟨A24, c24, rfl, hO24, hx24⟩
            have HB24 := Lib.hid (HB23.out.ext hx24)
            have HD24 := Lib.hid (hD23.ext hx24)
            have HRA24 := Lib.hid (hra23.ext hx24)
            have HRT24 := Lib.hid (hrt23.ext hx24)
            have X24 := X23.trans hx24
            have hok24 : ∀ p ∈ M2.b, p.ok := fun p hp => by
              obtain ⟨q, hq, rfl⟩ := List.mem_map.1 hp
              exact HB24.out.ok q hq
            obtain ⟨s', hs', hse', hsv', hsb'⟩ := hall2
            obtain ⟨sm', si', sk'⟩ := sale_mem' hs'
            have hno := nothing_left hok24 HB24.out.nodup hI23 sm' sk' hsv' (by rw [hse']; exact hsb') juris
            rw [si', hse', HSE.out] at hno
            have hmf : ∀ m ∈ M2.b.moves juris, ∃ p, M2.find m.id = some p := fun m hm => moves_find hm
            have hl24 : ∀ k, k < am.length → M2.b.left ei (k : Int) = (0, true) := fun k hk => by
              rw [left_of hs' hsv' (by rw [hse', HSE.out]; exact hk), hse', hsb' k (by rw [HSE.out]; exact hk)]
              simp
            have htxok := (sale_lines HOKp.out (by rw [HSE.out])).1
            rw [HOKp.out.lns (by rw [HSE.out]), HSE.out] at htxok
            obtain ⟨l1, l2, hrm⟩ : (M2.b.moves juris).length ≤ c24 ∧ c24 ≤ maxLen ∧ Reads w24 w24.heap.size 6 A24 (M2.b.moves juris).length (mvCells (M2.b.moves juris)) := by
              obtain ⟨A', c', ee, g1, g2, g3⟩ := own_slice hO24
              injection ee with ea _ ec
              subst ea ec
              exact ⟨g1, g2, g3⟩
            unfold maxLen at l2
            have HRM := Lib.hid hrm
            have HNO := Lib.hid hno
            have HMF := Lib.hid hmf
            have HL24 := Lib.hid hl24
            have HTX := Lib.hid htxok
            clear hD23 hra23 hrt23 hO24 hx24 HB23 hok24 hs' hse' hsv' hsb' sm' si' sk' hno hmf hl24 htxok hrm hI23 hS23 X23
            obtain ⟨B2, hB2⟩ : ∃ B2, M2.b = B2 := ⟨_, rfl⟩
            rw [hB2] at HNO HMF HRM HL24 l1 ⊢
            generalize hmv : B2.moves juris = mv at *
            replace hmv := Lib.hid hmv
            replace hB2 := Lib.hid hB2
            go_wp2_with fail
            go_loopw [26, 27, 28, 30] (fun v26 v27 v28 v30 wr => MvsRel w24 B2 ei mv v26 v27 v28 v30 wr) (fun _ _ _ v30 _ => mv.length - (intOf v30).toNat)
            case atStart => exact ⟨0, 0, 0, 0, by omega, rfl, rfl, rfl, rfl, by rw [List.take_zero]; exact wrap_0.symm, by rw [List.take_zero]; exact wrap_0.symm, by rw [List.take_zero]; exact wrap_0.symm, Ext.refl _⟩
            case round =>
              obtain ⟨q, V1, V2, V3, hq, rfl, rfl, rfl, rfl, hV1, hV2, hV3, hx⟩ := hrel
              by_cases hlq : q < mv.length
              · have hdq : decide ((q : Int) < (mv.length : Int)) = true := by simp; omega
                have ql : (q : Int) < (mv.length : Int) := by omega
                have qz : (0 : Int) ≤ (q : Int) := by omega
                obtain ⟨gv, ov, hAv, hgv, hcv⟩ := HRM.out.cellAt hlq
                obtain ⟨e1, _, e3, e4, e5, e6⟩ := mvCells_at mv q hlq
                have HCV := Lib.hid (fun W (h : Ext w24 W) => (show W.cell? ⟨gv, ov + q * 6, none⟩ = some (.int .i64 mv[q].id) ∧ W.cell? ⟨gv, ov + q * 6 + 2, none⟩ = some (.bool mv[q].back) ∧ W.cell? ⟨gv, ov + q * 6 + 3, none⟩ = some (.int .i64 mv[q].t) ∧ W.cell? ⟨gv, ov + q * 6 + 4, none⟩ = some (.int .i64 mv[q].x) ∧ W.cell? ⟨gv, ov + q * 6 + 5, none⟩ = some (.int .i64 mv[q].v) from
                  ⟨(h.cell gv _ none hgv).trans (hcv _ _ e1), (h.cell gv _ none hgv).trans (hcv _ _ e3), (h.cell gv _ none hgv).trans (hcv _ _ e4), (h.cell gv _ none hgv).trans (hcv _ _ e5), (h.cell gv _ none hgv).trans (hcv _ _ e6)⟩))
                subst hAv
                obtain ⟨p2, hf2⟩ := HMF.out mv[q] (List.getElem_mem hlq)
                have hof2 := ofOf_find hf2
                rw [hB2.out] at hof2
                have hid2 := Kp.ok_id (HB24.out.ok p2 (BkM.find_mem hf2).1)
                have hpid2 := (BkM.find_mem hf2).2
                have hi2 : i64 mv[q].id := by unfold i64; omega
                have HN := Lib.hid (fun (W : World) (U1 U2 U3 d1 d2 d3 : Int) e1 e2 e3 u1 u2 u3 hX => MvsRel.next (w24 := w24) (W := W) (B := B2) (ei := ei) (m := q + 1) (U1 := U1) (U2 := U2) (U3 := U3) (d1 := d1) (d2 := d2) (d3 := d3) hlq hV1 hV2 hV3 e1 e2 e3 u1 u2 u3 hX rfl)
                have HMV := Lib.hid (fun sel => (show mval B2 ei sel mv[q] = if mv[q].id ≠ ei ∧ p2.1.e.of_ ≠ ei then 0 else if mv[q].back then -(sel mv[q].t mv[q].x mv[q].v) else sel mv[q].t mv[q].x mv[q].v from by unfold mval; rw [hof2]))
                have hww : ∀ V S : Int, V = RowKit.wrap64 S → V = RowKit.wrap64 V := fun V S h => by subst h; unfold RowKit.wrap64; omega
                have HVW := Lib.hid (And.intro (hww _ _ hV1) (And.intro (hww _ _ hV2) (hww _ _ hV3)))
                clear hcv e1 e3 e4 e5 e6 hof2 hpid2 hid2 hV1 hV2 hV3 hww
                generalize mv[q] = m at *
                obtain ⟨mi, md, mb2, mt, mx, mvv⟩ := m
                simp only at HCV hf2 hi2 HMV
                obtain ⟨⟨⟨pk, pi, po, pd, pam, ptx⟩, pl, pb, pv⟩, psl⟩ := p2
                simp only at HMV
                obtain ⟨c1, c3, c4, c5, c6⟩ := HCV.out wr hx
                go_wp2_with fail
                refine (entry_some (HB24.out.ext hx) mi hi2 hf2).mono ?_
                rintro r w25 ⟨A25, A25', c25, c25', rfl, hO25⟩
                replace hf2 := Lib.hid hf2
                have hx25 := (hx.trans hO25.ext).alloc (.cells #[.int .i64 pk, .int .i64 pi, .int .i64 po, .int .i64 pd, .slice A25 pam.length c25, .slice A25' ptx.length c25'] 66)
                have D25 := Blk.new w25 66 #[.int .i64 pk, .int .i64 pi, .int .i64 po, .int .i64 pd, .slice A25 pam.length c25, .slice A25' ptx.length c25']
                clear hO25 hx c1 c3 c4 c5 c6
                go_upto_region 49 with (fail)
                generalize w25.alloc (.cells #[.int .i64 pk, .int .i64 pi, .int .i64 po, .int .i64 pd, .slice A25 pam.length c25, .slice A25' ptx.length c25'] 66) = w26 at *
                generalize w25.heap.size = g31 at *
                obtain ⟨c1, c3, c4, c5, c6⟩ := HCV.out w26 hx25
                obtain ⟨q31, q31'⟩ := D25.cells
                by_cases hid : mi = ei
                case' pos =>
                  have t1 : (mi != ei) = false := by simpa using hid
                  have HM2 := Lib.hid (fun sel => (HMV.out sel).trans (if_neg (fun h => h.1 hid)))
                  replace hid := Lib.hid hid
                case' neg =>
                  have t1 : (mi != ei) = true := by simpa using hid
                  by_cases hof : po = ei
                  case neg =>
                    have t2 : (po != ei) = true := by simpa using hof
                    have HM2 := Lib.hid (fun sel => (HMV.out sel).trans (if_pos ⟨hid, hof⟩))
                    replace hid := Lib.hid hid
                    replace hof := Lib.hid hof
                    have hw1 := Lib.hid (show ∀ V : Int, V = RowKit.wrap64 V → V = RowKit.wrap64 (V + 0) from fun V h => by rw [Int.add_zero]; exact h)
                    go_wp2_with fail
                    go_roundw
                    case rel => exact HN.out w26 V1 V2 V3 0 0 0 (HM2.out _) (HM2.out _) (HM2.out _) (hw1.out V1 HVW.out.1) (hw1.out V2 HVW.out.2.1) (hw1.out V3 HVW.out.2.2) hx25
                    case measure => simp [intOf]; omega
                  case' pos =>
                    have t2 : (po != ei) = false := by simpa using hof
                    have HM2 := Lib.hid (fun sel => (HMV.out sel).trans (if_neg (fun h => h.2 hof)))
                    replace hid := Lib.hid hid
                    replace hof := Lib.hid hof
                all_goals
                  cases mb2
                  case false =>
                    go_wp2_with fail
                    go_roundw
                    case rel => exact HN.out _ _ _ _ mt mx mvv (by rw [HM2.out]; rfl) (by rw [HM2.out]; rfl) (by rw [HM2.out]; rfl) (by unfold RowKit.wrap64; omega) (by unfold RowKit.wrap64; omega) (by unfold RowKit.wrap64; omega) hx25
                    case measure => simp [intOf]; omega
                  case true =>
                    go_wp2_with fail
                    go_roundw
                    case rel => exact HN.out _ _ _ _ (-mt) (-mx) (-mvv) (by rw [HM2.out]; rfl) (by rw [HM2.out]; rfl) (by rw [HM2.out]; rfl) (by unfold RowKit.wrap64; omega) (by unfold RowKit.wrap64; omega) (by unfold RowKit.wrap64; omega) hx25
                    case measure => simp [intOf]; omega
              · have hdq : decide ((q : Int) < (mv.length : Int)) = false := by simp; omega
                have hqe : q = mv.length := by omega
                subst hqe
                rw [List.take_length] at hV1 hV2 hV3
                obtain ⟨z1, z2, z3⟩ := HNO.out
                rw [z1] at hV1
                rw [z2] at hV2
                rw [z3] at hV3
                have hV10 : V1 = 0 := by rw [hV1, wrap_0]
                have hV20 : V2 = 0 := by rw [hV2, wrap_0]
                subst hV10 hV20
                replace hV3 := Lib.hid hV3
                clear hV1 hV2 z1 z2 z3
                have hrt24 : Reads w24 w24.heap.size 6 A6' tx.length (txCells tx) := HRT24.out
                have HRT := Lib.hid hrt24
                have Hx := Lib.hid hx
                clear hrt24 HRA24 HRT24 HNO HMF HRM hx
                go_wp2_with fail
                obtain ⟨wq, rfl⟩ : ∃ wq : World, wq = wr := ⟨_, rfl⟩
                go_loopw [34] (fun v34 wr => LzRel w24 am.length v34 wr) (fun v34 _ => am.length - (intOf v34).toNat)
                case atStart => exact ⟨0, by omega, rfl, Hx.out⟩
                case round =>
                  clear Hx
                  obtain ⟨q, hq, rfl, hx⟩ := hrel
                  obtain ⟨d, d'⟩ := (HD24.out.ext hx).cells
                  by_cases hlq : q < am.length
                  · have hdq : decide ((q : Int) < (am.length : Int)) = true := by simp; omega
                    go_wp2_with fail
                    refine (left_any (HB24.out.ext hx) ei (q : Int) hi64).mono ?_
                    rintro r w30 ⟨rfl, hx30⟩
                    rw [hB2.out, HL24.out q hlq]
                    have hx31 := hx.trans hx30
                    clear hx30 hx d d'
                    go_wp2_with fail
                    go_roundw
                    case rel => exact ⟨q + 1, by omega, rfl, hx31⟩
                    case measure => simp [intOf]; omega
                  · have hdq : decide ((q : Int) < (am.length : Int)) = false := by simp; omega
                    have Hx := Lib.hid hx
                    clear hx
                    go_wp2_with fail
                    obtain ⟨wq, rfl⟩ : ∃ wq : World, wq = wr := ⟨_, rfl⟩
                    clear d d'
                    go_loopw [37, 38] (fun v37 v38 wr => FrRel w24 tx juris v37 v38 wr) (fun _ v38 _ => tx.length - (intOf v38).toNat)
                    case atStart => exact ⟨0, 0, by omega, rfl, rfl, by rw [List.take_zero]; exact wrap_0.symm, Hx.out⟩
                    case round =>
                      clear Hx
                      obtain ⟨q2, V, hq2, rfl, rfl, hV, hx⟩ := hrel
                      obtain ⟨d, d'⟩ := (HD24.out.ext hx).cells
                      by_cases hlq2 : q2 < tx.length
                      · have hdq2 : decide ((q2 : Int) < (tx.length : Int)) = true := by simp; omega
                        have ql : (q2 : Int) < (tx.length : Int) := by omega
                        have qz : (0 : Int) ≤ (q2 : Int) := by omega
                        obtain ⟨gt, ot, hAt, hgt, hct⟩ := (HRT.out.extB (Nat.le_refl _) hx).cellAt hlq2
                        obtain ⟨_, e2, e3, e4, _, e6⟩ := txCells_at tx q2 hlq2
                        have c2 : wr.cell? ⟨gt, ot + q2 * 6 + 1, none⟩ = _ := hct _ _ e2
                        have c3 : wr.cell? ⟨gt, ot + q2 * 6 + 2, none⟩ = _ := hct _ _ e3
                        have c4 : wr.cell? ⟨gt, ot + q2 * 6 + 3, none⟩ = _ := hct _ _ e4
                        have c6 : wr.cell? ⟨gt, ot + q2 * 6 + 5, none⟩ = _ := hct _ _ e6
                        subst hAt
                        have hok := (HTX.out tx[q2] (List.getElem_mem hlq2)).1
                        obtain ⟨_, _, b3, b4, _, _⟩ := Tx.ok_bd hok
                        have HN := Lib.hid (fun (W : World) (U d : Int) hd hU hX => FrRel.next (w24 := w24) (W := W) (tx := tx) (j := juris) (m := q2 + 1) (U := U) (d := d) hlq2 hV hd hU hX rfl)
                        have HV := Lib.hid (show V = RowKit.wrap64 (V + 0) from by subst hV; unfold RowKit.wrap64; omega)
                        clear hct e2 e3 e4 e6 hok hV
                        generalize tx[q2] = y at *
                        obtain ⟨yl, yj, yt, yx, yr, yv⟩ := y
                        simp only at c2 c3 c4 c6 b3 b4 HN
                        obtain ⟨b30, b31⟩ := b3
                        obtain ⟨b40, b41⟩ := b4
                        have ew : IntKind.i64.wrap (yt + yx) = yt + yx := IntWalk.i64_in _ (by omega)
                        by_cases hj : yj = juris
                        · have j1 : (yj == juris) = true := by simpa using hj
                          by_cases hw : yt + yx = 0
                          · have j2 : (yt + yx == 0) = true := by simpa using hw
                            have HE := Lib.hid (fun (W : World) (U : Int) hU hX => HN.out W U yv (by rw [if_pos hj]; unfold frv; rw [if_pos hw]) hU hX)
                            replace hj := Lib.hid hj
                            replace hw := Lib.hid hw
                            go_wp2_with fail
                            go_quiet (fail)
                            go_wp2_with fail
                            go_roundw
                            case rel => exact HE.out _ _ (by unfold RowKit.wrap64; omega) (hx.drewN _)
                            case measure => simp [intOf]; omega
                          · have j2 : (yt + yx == 0) = false := by simpa using hw
                            have HE := Lib.hid (fun (W : World) hX => HN.out W V 0 (by rw [if_pos hj]; unfold frv; rw [if_neg hw]) HV.out hX)
                            replace hj := Lib.hid hj
                            replace hw := Lib.hid hw
                            go_wp2_with fail
                            go_quiet (fail)
                            go_wp2_with fail
                            go_roundw
                            case rel => exact HE.out _ (hx.drewN _)
                            case measure => simp [intOf]; omega
                        · have j1 : (yj == juris) = false := by simpa using hj
                          have HE := Lib.hid (fun (W : World) hX => HN.out W V 0 (if_neg hj) HV.out hX)
                          replace hj := Lib.hid hj
                          go_wp2_with fail
                          go_quiet (fail)
                          go_wp2_with fail
                          go_roundw
                          case rel => exact HE.out _ (hx.drewN _)
                          case measure => simp [intOf]; omega
                      · have hdq2 : decide ((q2 : Int) < (tx.length : Int)) = false := by simp; omega
                        rw [List.take_of_length_le (by omega), ← hV3.out] at hV
                        subst hV
                        have hvv : (V == V) = true := by simp
                        go_wp2_with fail
                        go_ret
                        exact ⟨rfl, (X1.trans X24).trans hx⟩
end Go.Proofs.Ytehkmngbknbbaaa
