/-
  Orders as bytes: the walks through both puts and both Bytes.
-/
import Derived.Test.YtjaponmpfdpemaaGreatDoorBa10
import Derived.Test.YtjaponmpfdpemaaGreatDoorBa09
import Derived.Deep.LoopGhost
import Derived.WalkMore
import Derived.Test.YtjaponmpfdpemaaGreatDoorBa02
import Derived.Test.YtjaponmpfdpemaaGreatDoorBa07
import Derived.Deep.RegionHeld3
import Derived.Test.YtjaponmpfdpemaaGreatDoorBa12
set_option linter.unusedVariables false
namespace Go.Proofs.YtjaponmpfdpemaaGreatDoor
open Go.RowKit

/-- Numbers as cells. -/
def iV (l : List Int) : List Value := l.map fun n => .int .i64 n
def PutsRel (w : World) (l : List Int) (o i : Value) (wr : World) : Prop :=
  ∃ k : Nat, k ≤ l.length ∧ i = .int .i64 (k : Int) ∧ wr.ownsRow w.heap.size 5 1 o (putsL (l.take k)).length (bV (putsL (l.take k))) ∧ Ext w wr ∧ AllP wr o u8P
theorem PutsRel.next {w w1 : World} {l : List Int} {k : Nat} {v1 : Value} {n m : Nat} {xs : List Value} (hk : k < l.length) (hg : w1.ownsRow w.heap.size 5 1 v1 n xs) (hn : n = (putsL (l.take k)).length + (putL l[k]).length) (hxs : xs = bV (putsL (l.take k)) ++ bV (putL l[k])) (hx : Ext w w1) (hall : AllP w1 v1 u8P) (hm : m = k + 1) : PutsRel w l v1 (.int .i64 (m : Int)) w1 := by
  subst hm hn hxs
  refine ⟨k + 1, by omega, rfl, ?_, hx, hall⟩
  rw [putsL_snoc l k hk, bV_app, List.length_append]
  exact hg
theorem PutsRel.done {w w1 : World} {l : List Int} {k : Nat} {o : Value} (hk : k = l.length) (h : w1.ownsRow w.heap.size 5 1 o (putsL (l.take k)).length (bV (putsL (l.take k)))) : w1.ownsRow w.heap.size 5 1 o (putsL l).length (bV (putsL l)) := by
  subst hk; rwa [List.take_length] at h

end Go.Proofs.YtjaponmpfdpemaaGreatDoor

set_option linter.unusedVariables false
namespace Go.Proofs.YtjaponmpfdpemaaGreatDoor
open Go.RowKit

theorem tok_reads {w : World} {B : Nat} {A : Option Addr} {out : List Tok} (h : Reads w B 2 A out.length (tokCells out)) {k : Nat} (hk : k < out.length) : ∃ g o, A = some ⟨g, o, none⟩ ∧ g < B ∧ w.cell? ⟨g, o + k * 2, none⟩ = some (.int .i64 out[k].k) ∧ w.cell? ⟨g, o + k * 2 + 1, none⟩ = some (.string ⟨out[k].t.toArray⟩) := by
  obtain ⟨g, o, e, hg, hc⟩ := h.cellAt hk
  exact ⟨g, o, e, hg, hc _ _ (flat_get (f := tokC) (c := 2) (fun _ => rfl) out k 0 hk (by decide)), hc _ _ (flat_get (f := tokC) (c := 2) (fun _ => rfl) out k 1 hk (by decide))⟩
def OnOut (W : World) (l : List Tok) (ks : List Int) (g : Nat) (i : Value) (wr : World) : Prop := ∃ k : Nat, k + g = l.length ∧ i = .int .i64 (k : Int) ∧ (∀ j (h : j < l.length), j < k → ks.contains l[j].k = true) ∧ Ext W wr
def OnIn (W : World) (ks : List Int) (kk : Int) (g : Nat) (i : Value) (wr : World) : Prop := ∃ q : Nat, q + g = ks.length ∧ i = .int .i64 (q : Int) ∧ (∀ j (h : j < ks.length), j < q → ks[j] ≠ kk) ∧ W = wr
theorem kind_all {l : List Tok} {ks : List Int} (h : ∀ j (h : j < l.length), ks.contains l[j].k = true) : kindOf l ks = true := by
  unfold kindOf
  rw [List.all_eq_true]
  intro t ht
  obtain ⟨j, hj, rfl⟩ := List.mem_iff_getElem.1 ht
  exact h j hj
theorem kind_not {l : List Tok} {ks : List Int} {k : Nat} (hk : k < l.length) (h : ∀ j (h : j < ks.length), ks[j] ≠ l[k].k) : kindOf l ks = false := by
  cases hx : kindOf l ks with
  | false => rfl
  | true =>
    have := List.all_eq_true.1 hx _ (List.getElem_mem hk)
    rw [List.contains_iff_mem] at this
    obtain ⟨j, hj, e⟩ := List.mem_iff_getElem.1 this
    exact absurd e (h j hj)
set_option maxRecDepth 100000 in
theorem only_any (l : List Tok) (A : Option Addr) (n cap : Nat) (ks : List Int) (A' : Option Addr) (m cap' : Nat) (W : World) (hn : l.length = n) (hm : ks.length = m) (h1 : Reads W W.heap.size 2 A n (tokCells l)) (h2 : Reads W W.heap.size 1 A' m (iV ks)) (l1 : n ≤ 1000) (l2 : m ≤ 1000) :
    Calls Tryz.prog 76 #[.slice A n cap, .slice A' m cap'] W fun e w' => e = .returned (.bool (kindOf l ks)) ∧ Ext W w' := by
  subst hn hm
  have H1 := Lib.hid (fun w' (hx : Ext W w') => h1.ext hx)
  have H2 := Lib.hid (fun w' (hx : Ext W w') => h2.ext hx)
  clear h1 h2
  go_enter Tryz.func76, Tryz.ntmps76
  go_wp2
  go_step3
  go_wp2
  go_step3
  go_wp2
  go_loopg [11] l.length (fun g i wr => OnOut W l ks g i wr)
  case atStart => exact ⟨0, by omega, rfl, fun j h hj => absurd hj (by omega), Ext.refl _⟩
  case round =>
    obtain ⟨k, hk, rfl, hP, hX⟩ := hrel
    obtain ⟨w3, rfl⟩ : ∃ w3, w3 = wr := ⟨_, rfl⟩
    cases gk with
    | succ g1 =>
      have hlt : k < l.length := by omega
      have hd : decide ((k : Int) < (l.length : Int)) = true := by simp; omega
      have kl : (k : Int) < (l.length : Int) := by omega
      have kz : (0 : Int) ≤ (k : Int) := by omega
      obtain ⟨g, o, rfl, hg, t0, t1⟩ := tok_reads (H1.out _ hX) hlt
      have X4 := hX.alloc (.cells #[.int .i64 l[k].k, .string ⟨l[k].t.toArray⟩] 105)
      have B6 := Blk.new w3 105 #[.int .i64 l[k].k, .string ⟨l[k].t.toArray⟩]
      have HN := Lib.hid (fun w' (hx : Ext W w') (hc : ks.contains l[k].k = true) => (show OnOut W l ks g1 (.int .i64 ((k + 1 : Nat) : Int)) w' from ⟨k + 1, by omega, rfl, fun j h hj => by
        by_cases e : j = k
        · subst e; exact hc
        · exact hP j h (by omega), hx⟩))
      have HK := Lib.hid (fun h => kind_not (ks := ks) hlt h)
      clear hP
      generalize l[k].k = kk at *
      generalize l[k].t = tt at *
      go_wp2_with fail
      generalize w3.alloc (.cells #[.int .i64 kk, .string ⟨tt.toArray⟩] 105) = w4 at *
      generalize w3.heap.size = g6 at *
      clear t0 t1 hg
      go_loopg [17] ks.length (fun g i wr => OnIn w4 ks kk g i wr)
      case atStart => exact ⟨0, by omega, rfl, fun j h hj => absurd hj (by omega), rfl⟩
      case round =>
        obtain ⟨q, hq, rfl, hne, rfl⟩ := hrel
        cases gk with
        | succ g2 =>
          have hql : q < ks.length := by omega
          have hd2 : decide ((q : Int) < (ks.length : Int)) = true := by simp; omega
          have ql : (q : Int) < (ks.length : Int) := by omega
          have qz : (0 : Int) ≤ (q : Int) := by omega
          obtain ⟨gb, o2, rfl, hg2, hc2⟩ := (H2.out _ X4).cellAt hql
          have c2 := hc2 q (.int .i64 ks[q]) (by simp [iV, hql])
          obtain ⟨b0, b1⟩ := B6.cells
          have lb := B6.lt
          clear hc2
          by_cases he : kk = ks[q]
          · have e0 : (kk == ks[q]) = true := by simpa using he
            have HE := Lib.hid (HN.out _ X4 (by rw [List.contains_iff_mem, he]; exact List.getElem_mem hql))
            clear hne
            generalize ks[q] = kq at *
            go_wp2_with fail
            go_roundg g1
            case rel => exact HE.out
            case measure => omega
          · have e0 : (kk == ks[q]) = false := by simpa using he
            have HE := Lib.hid (show OnIn w4 ks kk g2 (.int .i64 ((q + 1 : Nat) : Int)) w4 from ⟨q + 1, by omega, rfl, fun j h hj => by
              by_cases e : j = q
              · subst e; exact fun e => he e.symm
              · exact hne j h (by omega), rfl⟩)
            clear hne he
            generalize ks[q] = kq at *
            go_wp2_with fail
            go_roundg g2
            case rel => exact HE.out
            case measure => omega
        | zero =>
          have hql : ¬ q < ks.length := by omega
          have hd2 : decide ((q : Int) < (ks.length : Int)) = false := by simp; omega
          have hkf := Lib.hid (HK.out fun j h => hne j h (by omega))
          clear hne
          go_wp2_with fail
          try rw [Exit.noGoto_ret]
          go_ret
          exact ⟨by rw [hkf.out]; rfl, X4⟩
    | zero =>
      have hd : decide ((k : Int) < (l.length : Int)) = false := by simp; omega
      have hkt := Lib.hid (kind_all (l := l) (ks := ks) fun j h => hP j h (by omega))
      clear hP
      go_wp2_with fail
      try rw [Exit.noGoto_ret]
      go_ret
      exact ⟨by rw [hkt.out]; rfl, hX⟩
end Go.Proofs.YtjaponmpfdpemaaGreatDoor

set_option linter.unusedVariables false
namespace Go.Proofs.YtjaponmpfdpemaaGreatDoor
open Go.RowKit

def tokV (t : Tok) : Value := .agg #[.int .i64 t.k, .string ⟨t.t.toArray⟩]
theorem tok_end (W : World) (x y : Value) : (loadVar 105 ⟨W.heap.size, 0, none⟩).run Tryz.prog (W.alloc (.cells #[x, y] 105)) = .ok (.agg #[x, y]) (W.alloc (.cells #[x, y] 105)) ∧ Ext W (W.alloc (.cells #[x, y] 105)) := by
  refine ⟨?_, (Ext.refl W).alloc _⟩
  have q := (Blk.new W 105 #[x, y]).cell
  generalize W.alloc (.cells #[x, y] 105) = w' at *
  simp [go_sem, q]
set_option maxRecDepth 100000 in
theorem first_any (l : List Tok) (A : Option Addr) (cap g : Nat) (W : World) (hc : Blk W g 113 #[.slice A l.length cap]) (h : Reads W W.heap.size 2 A l.length (tokCells l)) (h0 : 0 < l.length) (hl : l.length ≤ 1000) :
    Calls Tryz.prog 86 #[.pointer (some ⟨g, 0, none⟩)] W fun e w' => e = .returned (tokV l[0]) ∧ Ext W w' := by
  obtain ⟨g2, o, rfl, hg, t0, t1⟩ := tok_reads h h0
  obtain ⟨b0, b1⟩ := hc.cells
  have lb := hc.lt
  have kl : (0 : Int) < (l.length : Int) := by omega
  simp only [Nat.zero_mul, Nat.add_zero] at t0 t1
  clear h
  unfold tokV
  generalize l[0].k = kk at *
  generalize l[0].t = tt at *
  go_enter Tryz.func86, Tryz.ntmps86
  go_wp2_with fail
  obtain ⟨e1, e2⟩ := tok_end W (.int .i64 kk) (.string ⟨tt.toArray⟩)
  exact bodyPost_ret (results_c rfl rfl e1) rfl ⟨rfl, e2⟩
set_option maxRecDepth 100000 in
theorem must_so (e : Int) (at_ : Int) (W : World) : Calls Tryz.prog 92 #[.bool true, .int .i64 e, .int .i64 at_] W fun e w' => e = .returned (.tuple #[]) ∧ w' = W := by
  go_enter Tryz.func92, Tryz.ntmps92
  go_wp2_with fail
  exact bodyPost_end (results_none rfl _ _ _) rfl ⟨rfl, rfl⟩
end Go.Proofs.YtjaponmpfdpemaaGreatDoor

set_option linter.unusedVariables false
namespace Go.Proofs.YtjaponmpfdpemaaGreatDoor
open Go.RowKit

theorem tok_ld {w : World} {g : Nat} {x y : Value} (h : Blk w g 105 #[x, y]) : (loadVar 105 ⟨g, 0, none⟩).run Tryz.prog w = .ok (.agg #[x, y]) w := by
  have q := h.cell
  simp [go_sem, q]
set_option maxRecDepth 100000 in
theorem last_any (l : List Tok) (A : Option Addr) (n N cap g : Nat) (W : World) (hN : N = n + 1) (hn : N = l.length) (hc : Blk W g 113 #[.slice A N cap]) (h : Reads W W.heap.size 2 A l.length (tokCells l)) (hl : l.length ≤ 1000) :
    Calls Tryz.prog 95 #[.pointer (some ⟨g, 0, none⟩)] W fun e w' => e = .returned (tokV (l[n]'(by omega))) ∧ Ext W w' := by
  obtain ⟨g2, o, rfl, hg, t0, t1⟩ := tok_reads h (k := n) (by omega)
  have c0 : W.cell? ⟨g, 0, none⟩ = some (.slice (some ⟨g2, o, none⟩) N cap) := hc.cell 0
  have lb := hc.lt
  have kz : (0 : Int) ≤ (n : Int) := by omega
  have kl : (n : Int) < (N : Int) := by omega
  have kx : n ≤ 1000 := by omega
  have ee : (N : Int) - 1 = (n : Int) := by omega
  have ew : IntKind.i64.wrap ((N : Int) - 1) = (n : Int) := by rw [ee]; rw [IntKind.wrap_i64]; omega
  clear h hc
  unfold tokV
  generalize (l[n]'(by omega)).k = kk at *
  generalize (l[n]'(by omega)).t = tt at *
  clear hn hl hN ee
  have HX : ∀ w', Ext W w' → w'.cell? ⟨g, 0, none⟩ = some (.slice (some ⟨g2, o, none⟩) N cap) ∧ w'.cell? ⟨g2, o + n * 2, none⟩ = some (.int .i64 kk) ∧ w'.cell? ⟨g2, o + n * 2 + 1, none⟩ = some (.string ⟨tt.toArray⟩) := fun w' hx => ⟨(hx.cell _ _ none lb).trans c0, (hx.cell _ _ none hg).trans t0, (hx.cell _ _ none hg).trans t1⟩
  replace HX := Lib.hid HX
  go_enter Tryz.func95, Tryz.ntmps95
  go_wp2_with fail
  go_region_held3 (fun w' => w'.cell? ⟨g, 0, none⟩ = some (.slice (some ⟨g2, o, none⟩) N cap) ∧ w'.cell? ⟨g2, o + n * 2, none⟩ = some (.int .i64 kk) ∧ w'.cell? ⟨g2, o + n * 2 + 1, none⟩ = some (.string ⟨tt.toArray⟩))
    (with_reducible refine HX.out _ ?_; with_reducible repeat (first | exact Ext.refl _ | refine Ext.drew ?_ | refine Ext.alloc ?_ _))
    (fail)
  all_goals
    go_wp2_with fail
    have B := (Blk.new W 105 #[.int .i64 kk, .string ⟨tt.toArray⟩]).ext (Ext.drew (Ext.refl _))
    exact bodyPost_ret (results_c rfl rfl (tok_ld B)) rfl ⟨rfl, Ext.drew ((Ext.refl W).alloc _)⟩
end Go.Proofs.YtjaponmpfdpemaaGreatDoor

set_option linter.unusedVariables false
namespace Go.Proofs.YtjaponmpfdpemaaGreatDoor
open Go.RowKit

set_option maxRecDepth 100000 in
theorem must_not (e : Int) (at_ : Int) (W : World) : Calls Tryz.prog 92 #[.bool false, .int .i64 e, .int .i64 at_] W fun r w' => r = .panicked [{ v := .iface 184 (.agg #[.int .i64 e, .int .i64 at_]), recovered := false }] ∧ w' = W := by
  go_enter Tryz.func92, Tryz.ntmps92
  go_wp2_with fail
  all_goals (simp [Oper.upon, Instr.panic, go_sem]; go_wp2_with fail; first | (unfold bodyPost; exact ⟨rfl, rfl, rfl⟩) | (simp [bodyPost, go_sem]; done) | (unfold bodyPost; trace_state))
end Go.Proofs.YtjaponmpfdpemaaGreatDoor

set_option linter.unusedVariables false
namespace Go.Proofs.YtjaponmpfdpemaaGreatDoor
open Go.RowKit

set_option maxRecDepth 100000 in
theorem shortTok_any (t : Tok) (kind : Int) (hk : kindOk kind) (ht : t.t.length ≤ 1000) (W : World) (hS : Std W) :
    Calls Tryz.prog 117 #[.agg #[.int .i64 t.k, .string ⟨t.t.toArray⟩], .int .i64 kind] W fun e w' => e = .returned (.string ⟨(shortT t kind).toArray⟩) ∧ Ext W w' := by
  have HS := Lib.hid (fun w (hx : Ext W w) => short_any kind hk t.t (by omega) w (hS.ext hx))
  have B0 := Blk.new W 105 #[.int .i64 t.k, .string ⟨t.t.toArray⟩]
  unfold shortT
  generalize t.t = tt at *
  generalize t.k = tk at *
  go_enter Tryz.func117, Tryz.ntmps117
  go_wp2_with fail
  refine (HS.out _ ((Ext.refl W).alloc _)).mono ?_
  rintro e w1 ⟨rfl, hx⟩
  have X := ((Ext.refl W).alloc (.cells #[.int .i64 tk, .string ⟨tt.toArray⟩] 105)).trans hx
  clear HS B0 hx
  go_wp2_with fail
  go_ret
  exact ⟨rfl, X⟩
set_option maxRecDepth 100000 in
theorem digits_any (s : Bs) (lo hi : Nat) (hs : s.length ≤ 1000) (hb : lo ≤ 100 ∧ hi ≤ 100) (W : World) :
    Calls Tryz.prog 52 #[.string ⟨s.toArray⟩, .int .i64 (lo : Int), .int .i64 (hi : Int)] W fun e w' => e = .returned (.bool (digitsP s lo hi)) ∧ Ext W w' := by
  have hP : digitsP s lo hi = (decide (lo ≤ s.length ∧ s.length ≤ hi) && s.all digB) := rfl
  have HT := Lib.hid (fun w => trim_any s w (by omega))
  by_cases h1 : lo ≤ s.length
  · by_cases h2 : s.length ≤ hi
    · have d1 : decide ((lo : Int) ≤ (s.length : Int)) = true := by simp; omega
      have d2 : decide ((s.length : Int) ≤ (hi : Int)) = true := by simp; omega
      rw [hP, decide_eq_true (show lo ≤ s.length ∧ s.length ≤ hi from ⟨h1, h2⟩), Bool.true_and]
      go_enter Tryz.func52, Tryz.ntmps52
      go_wp2_with fail
      refine (HT.out _).mono ?_
      rintro e w1 ⟨⟨r, rfl, hr⟩, hx⟩
      by_cases hr0 : r = []
      · subst hr0
        have hq := Lib.hid (hr.1 rfl)
        clear hr HT hP
        go_wp2_with fail
        go_ret
        exact ⟨by rw [hq.out]; rfl, hx⟩
      · have hf : s.all digB = false := by
          cases h : s.all digB with
          | true => exact absurd (hr.2 h) hr0
          | false => rfl
        have hre : r.isEmpty = false := by cases r with | nil => exact absurd rfl hr0 | cons _ _ => rfl
        replace hf := Lib.hid hf
        clear hr HT hP hr0
        go_wp2_with fail
        go_ret
        exact ⟨by rw [hf.out]; rfl, hx⟩
    · have d1 : decide ((lo : Int) ≤ (s.length : Int)) = true := by simp; omega
      have d2 : decide ((s.length : Int) ≤ (hi : Int)) = false := by simp; omega
      rw [hP, decide_eq_false (show ¬ (lo ≤ s.length ∧ s.length ≤ hi) from fun h => h2 h.2), Bool.false_and]
      go_enter Tryz.func52, Tryz.ntmps52
      go_wp2_with fail
      go_ret
      exact ⟨rfl, Ext.refl _⟩
  · have d1 : decide ((lo : Int) ≤ (s.length : Int)) = false := by simp; omega
    rw [hP, decide_eq_false (show ¬ (lo ≤ s.length ∧ s.length ≤ hi) from fun h => h1 h.1), Bool.false_and]
    go_enter Tryz.func52, Tryz.ntmps52
    go_wp2_with fail
    go_ret
    exact ⟨rfl, Ext.refl _⟩
/-- Tokens, as a slice of memory. -/
structure TokS (w : World) (A : Option Addr) (n cap : Nat) (l : List Tok) : Prop where
  len : l.length = n
  rd : Reads w w.heap.size 2 A n (tokCells l)
  le : n ≤ cap
  max : cap ≤ maxLen
  l40 : n ≤ 100
  sm : ∀ t ∈ l, t.t.length ≤ 300
theorem TokS.ext {w w' : World} {A : Option Addr} {n cap : Nat} {l : List Tok} (h : TokS w A n cap l) (hx : Ext w w') : TokS w' A n cap l := ⟨h.len, h.rd.ext hx, h.le, h.max, h.l40, h.sm⟩
theorem TokS.at_ {w : World} {A : Option Addr} {n cap : Nat} {l : List Tok} (h : TokS w A n cap l) {k : Nat} (hk : k < l.length) : ∃ g o, A = some ⟨g, o, none⟩ ∧ g < w.heap.size ∧ w.cell? ⟨g, o + k * 2, none⟩ = some (.int .i64 l[k].k) ∧ w.cell? ⟨g, o + k * 2 + 1, none⟩ = some (.string ⟨l[k].t.toArray⟩) := by
  have := h.rd
  rw [← h.len] at this
  exact tok_reads this hk
theorem join_texts : ∀ l : List Tok, Lib.join (l.map Tok.t) [32] = textsP l
  | [] => rfl
  | [t] => by simp [Lib.join, textsP]
  | t :: u :: l => by
    have ih := join_texts (u :: l)
    rw [textsP, ← ih]
    simp [Lib.join]
theorem joinP_any (l : List (List UInt8)) (sep : List UInt8) (A : Option Addr) (c n : Nat) (w : World) (hn : l.length = n) (h0 : 0 < n) (h1 : n ≤ 1000) (hr : Reads w w.heap.size 1 A n (strC l)) (hc : n ≤ c) (hall : ∀ b ∈ l, b.length ≤ 1000) (hs : sep.length ≤ 1000) :
    Calls Tryz.prog 115 #[.slice A n c, .string ⟨sep.toArray⟩] w fun e w' => e = .returned (.string ⟨(Lib.join l sep).toArray⟩) ∧ Ext w w' := by
  subst hn
  have hm : (l.map fun b : List UInt8 => (⟨b.toArray⟩ : ByteArray)).map (·.data.toList) = l := by simp [Function.comp_def]
  have hlen : (l.map fun b : List UInt8 => (⟨b.toArray⟩ : ByteArray)).length = l.length := by simp
  obtain ⟨g, off, hA, hg, hcl⟩ := hr.cellAt h0
  subst hA
  have hL : (Lib.join l sep).length ≤ 140737488355328 := by
    have hle : ∀ l : List (List UInt8), (∀ b ∈ l, b.length ≤ 1000) → Lib.lens l ≤ 1000 * l.length := by
      intro l
      induction l with
      | nil => intro _; simp [Lib.lens]
      | cons b l ih =>
        intro h
        have h1 := h b (by simp)
        have h2 := ih fun x hx => h x (by simp [hx])
        simp only [Lib.lens, List.map_cons, List.sum_cons, List.length_cons] at h2 ⊢
        omega
    cases l with
    | nil => simp at h0
    | cons b l =>
      rw [Lib.join_length]
      have h2 := hle (b :: l) hall
      simp only [List.length_cons] at h1 h2
      have : sep.length * l.length ≤ 1000 * 1000 := Nat.mul_le_mul hs (by omega)
      omega
  have := Tryz.strings_Join g off c (l.map fun b : List UInt8 => (⟨b.toArray⟩ : ByteArray)) ⟨sep.toArray⟩ w (fun j x hx => by
    apply hcl
    rw [List.getElem?_map] at hx
    unfold strC
    rw [List.getElem?_map]
    cases hj : l[j]? with
    | none => rw [hj] at hx; cases hx
    | some b => rw [hj] at hx; simp only [Option.map] at hx ⊢; rw [← Option.some.inj hx]) hg (by rw [hlen]; omega) (by rw [hlen]; exact hc) (by rw [hm]; exact hL)
  rw [hm, hlen] at this
  exact this
theorem joinS_any (l : List Bs) (sep : Bs) (A : Option Addr) (c n : Nat) (w : World) (hn : l.length = n) (h1 : n ≤ 1000) (hr : Reads w w.heap.size 1 A n (strC l)) (hc : n ≤ c) (hall : ∀ b ∈ l, b.length ≤ 1000) (hs : sep.length ≤ 1000) :
    Calls Tryz.prog 115 #[.slice A n c, .string ⟨sep.toArray⟩] w fun e w' => e = .returned (.string ⟨(Lib.join l sep).toArray⟩) ∧ Ext w w' := by
  rcases Nat.eq_zero_or_pos n with h0 | h0
  · subst h0
    have : l = [] := List.eq_nil_of_length_eq_zero hn
    subst this
    refine (Tryz.strings_Join_none A c ⟨sep.toArray⟩ w).mono ?_
    rintro e w' ⟨rfl, rfl⟩
    exact ⟨rfl, Ext.refl _⟩
  · exact joinP_any l sep A c n w hn h0 h1 hr hc hall hs
/-- Where text stands. -/
def TxAt (w0 : World) (l : List Tok) (v i : Value) (wr : World) : Prop := ∃ k : Nat, k ≤ l.length ∧ i = .int .i64 (k : Int) ∧ wr.ownsRow w0.heap.size 9 1 v k (strC ((l.take k).map Tok.t)) ∧ Ext w0 wr
set_option maxRecDepth 100000 in
theorem text_any (l : List Tok) (A : Option Addr) (n cap g : Nat) (W : World) (hc : Blk W g 113 #[.slice A n cap]) (h : TokS W A n cap l) :
    Calls Tryz.prog 77 #[.pointer (some ⟨g, 0, none⟩)] W fun e w' => e = .returned (.string ⟨(textsP l).toArray⟩) ∧ Ext W w' := by
  obtain rfl := h.len
  have HX := Lib.hid (fun w' (hx : Ext W w') => h.ext hx)
  have hl := h.l40
  have hsm := Lib.hid h.sm
  have c0 : W.cell? ⟨g, 0, none⟩ = some (.slice A l.length cap) := hc.cell 0
  have lg := hc.lt
  have H0 := Lib.hid (show TxAt W l (.slice none 0 0) (.int .i64 ((0 : Nat) : Int)) W from ⟨0, by omega, rfl, World.ownsRow_nil _ _ _ _, Ext.refl _⟩)
  clear h hc
  go_enter Tryz.func77, Tryz.ntmps77
  go_wp2_with fail
  go_loopw [3, 11] (fun v i wr => TxAt W l v i wr) (fun _ i _ => l.length - (intOf i).toNat)
  case atStart => exact H0.out
  case round =>
    clear H0
    obtain ⟨k, hk, rfl, hown, hx⟩ := hrel
    obtain ⟨w3, rfl⟩ : ∃ w3, w3 = wr := ⟨_, rfl⟩
    by_cases hlt : k < l.length
    · have hd : decide ((k : Int) < (l.length : Int)) = true := by simp; omega
      have kl : (k : Int) < (l.length : Int) := by omega
      have kz : (0 : Int) ≤ (k : Int) := by omega
      obtain ⟨g2, o, rfl, hg2, t0, t1⟩ := (HX.out _ hx).at_ hlt
      have X4 := hx.alloc (.cells #[.int .i64 l[k].k, .string ⟨l[k].t.toArray⟩] 105)
      have B4 := Blk.new w3 105 #[.int .i64 l[k].k, .string ⟨l[k].t.toArray⟩]
      have H4 := own_ext hown ((Ext.refl w3).alloc (.cells #[.int .i64 l[k].k, .string ⟨l[k].t.toArray⟩] 105))
      have HN := Lib.hid (fun v5 (W5 : World) (z : Value) (w4 : World) (hg : Grew W w4 W5 9 1 z v5 v5 (k + 1) (strC ((l.take k).map Tok.t) ++ #[Value.string ⟨l[k].t.toArray⟩].toList)) => trivial)
      have HE := Lib.hid (fun (vp v5 : Value) (W5 : World) (z : Value) (w4 : World) (hg : Grew W w4 W5 9 1 z vp v5 (k + 1) (strC ((l.take k).map Tok.t) ++ #[Value.string ⟨l[k].t.toArray⟩].toList)) => (show TxAt W l v5 (.int .i64 ((k + 1 : Nat) : Int)) W5 from
        ⟨k + 1, by omega, rfl, by
          have := hg.own
          rw [List.take_succ_eq_append_getElem hlt, List.map_append, List.map_singleton, strC_snoc]
          exact this, hg.ext⟩))
      clear HN hx
      obtain ⟨A3, c3, rfl, hcl, hcm, _⟩ := own_slice hown
      clear hown
      generalize l[k].k = tk at *
      generalize l[k].t = tt at *
      go_upto_region 5 with (fail)
      clear t0 t1 hg2
      generalize w3.alloc (.cells #[.int .i64 tk, .string ⟨tt.toArray⟩] 105) = w4 at *
      generalize w3.heap.size = g5 at *
      obtain ⟨b0, b1⟩ := B4.cells
      have lb := B4.lt
      go_wp2_with (at_builtin; refine wpl_app1 row_strS W w4 (.tmp 15) (.tmp 18) rfl rfl rfl H4 X4 rfl rfl rfl (by simp [Value.oneCell']) (by omega) (by unfold maxLen; omega) ?_; intro v5 W5 hg5; replace HE := Lib.hid (HE.out _ _ _ _ _ hg5); obtain ⟨A5, c5, rfl, _, _, _⟩ := own_slice hg5.own; clear hg5)
      go_roundw
      case rel => exact HE.out
      case measure => simp [intOf]; omega
    · obtain rfl : k = l.length := by omega
      have hd : decide ((l.length : Int) < (l.length : Int)) = false := by simp
      rw [List.take_length] at hown
      obtain ⟨A3, c3, rfl, hcl, hcm, hrd⟩ := own_slice hown
      have hJ := Lib.hid (joinS_any (l.map Tok.t) [32] A3 c3 l.length w3 (by simp) (by omega) hrd hcl (fun b hb => by
        obtain ⟨t, ht, rfl⟩ := List.mem_map.1 hb
        have := hsm.out t ht
        omega) (by decide))
      rw [join_texts] at hJ
      clear hrd hown HX
      go_wp2_with fail
      refine hJ.out.mono ?_
      rintro e w4 ⟨rfl, hx4⟩
      go_wp2_with fail
      go_ret
      exact ⟨rfl, hx.trans hx4⟩
end Go.Proofs.YtjaponmpfdpemaaGreatDoor
