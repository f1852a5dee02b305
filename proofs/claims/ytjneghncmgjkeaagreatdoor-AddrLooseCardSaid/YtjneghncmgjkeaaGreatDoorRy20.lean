/-
  Orders as bytes: the walks through both puts and both Bytes.
-/
import Derived.Test.YtjneghncmgjkeaaGreatDoorRy15
import Derived.Deep.LoopGhost
import Derived.WalkMore
import Derived.Test.YtjneghncmgjkeaaGreatDoorRy16
import Derived.Test.YtjneghncmgjkeaaGreatDoorRy06
import Derived.Test.YtjneghncmgjkeaaGreatDoorRy12
import Derived.Deep.RegionHeld3
set_option linter.unusedVariables false
namespace Go.Proofs.YtjneghncmgjkeaaGreatDoor
open Go.RowKit

/-- Numbers as cells. -/
def iV (l : List Int) : List Value := l.map fun n => .int .i64 n
def PutsRel (w : World) (l : List Int) (o i : Value) (wr : World) : Prop :=
  ∃ k : Nat, k ≤ l.length ∧ i = .int .i64 (k : Int) ∧ wr.ownsRow w.heap.size 5 1 o (putsL (l.take k)).length (bV (putsL (l.take k))) ∧ Ext w wr ∧ AllP wr o u8P
theorem PutsRel.next {w w1 : World} {l : List Int} {k : Nat} {v1 : Value} {n m : Nat} {xs : List Value} (hk : k < l.length) (hg : w1.ownsRow w.heap.size 5 1 v1 n xs) (hn : n = (putsL (l.take k)).length + (putL l[k]).length) (hxs : xs = bV (putsL (l.take k)) ++ bV (putL l[k])) (hx : Ext w w1) (hall : AllP w1 v1 u8P) (hm : m = k + 1) : PutsRel w l v1 (.int .i64 (m : Int)) w1 := by
  subst hm hn hxs
  refine ⟨k + 1, by omega, rfl, ?_, hx, hall⟩
  rw [putsL_snoc l k hk, bV_app, List.length_append]
  exact hg
theorem PutsRel.done {w w1 : World} {l : List Int} {k : Nat} {o : Value} (hk : k = l.length) (h : w1.ownsRow w.heap.size 5 1 o (putsL (l.take k)).length (bV (putsL (l.take k)))) : w1.ownsRow w.heap.size 5 1 o (putsL l).length (bV (putsL l)) := by
  subst hk; rwa [List.take_length] at h

end Go.Proofs.YtjneghncmgjkeaaGreatDoor

set_option linter.unusedVariables false
namespace Go.Proofs.YtjneghncmgjkeaaGreatDoor
open Go.RowKit

theorem tok_reads {w : World} {B : Nat} {A : Option Addr} {out : List Tok} (h : Reads w B 2 A out.length (tokCells out)) {k : Nat} (hk : k < out.length) : ∃ g o, A = some ⟨g, o, none⟩ ∧ g < B ∧ w.cell? ⟨g, o + k * 2, none⟩ = some (.int .i64 out[k].k) ∧ w.cell? ⟨g, o + k * 2 + 1, none⟩ = some (.string ⟨out[k].t.toArray⟩) := by
  obtain ⟨g, o, e, hg, hc⟩ := h.cellAt hk
  exact ⟨g, o, e, hg, hc _ _ (flat_get (f := tokC) (c := 2) (fun _ => rfl) out k 0 hk (by decide)), hc _ _ (flat_get (f := tokC) (c := 2) (fun _ => rfl) out k 1 hk (by decide))⟩
def OnOut (W : World) (l : List Tok) (ks : List Int) (g : Nat) (i : Value) (wr : World) : Prop := ∃ k : Nat, k + g = l.length ∧ i = .int .i64 (k : Int) ∧ (∀ j (h : j < l.length), j < k → ks.contains l[j].k = true) ∧ Ext W wr
def OnIn (W : World) (ks : List Int) (kk : Int) (g : Nat) (i : Value) (wr : World) : Prop := ∃ q : Nat, q + g = ks.length ∧ i = .int .i64 (q : Int) ∧ (∀ j (h : j < ks.length), j < q → ks[j] ≠ kk) ∧ W = wr
theorem kind_all {l : List Tok} {ks : List Int} (h : ∀ j (h : j < l.length), ks.contains l[j].k = true) : kindOf l ks = true := by
  unfold kindOf
  rw [List.all_eq_true]
  intro t ht
  obtain ⟨j, hj, rfl⟩ := List.mem_iff_getElem.1 ht
  exact h j hj
theorem kind_not {l : List Tok} {ks : List Int} {k : Nat} (hk : k < l.length) (h : ∀ j (h : j < ks.length), ks[j] ≠ l[k].k) : kindOf l ks = false := by
  cases hx : kindOf l ks with
  | false => rfl
  | true =>
    have := List.all_eq_true.1 hx _ (List.getElem_mem hk)
    rw [List.contains_iff_mem] at this
    obtain ⟨j, hj, e⟩ := List.mem_iff_getElem.1 this
    exact absurd e (h j hj)
set_option maxRecDepth 100000 in
theorem only_any (l : List Tok) (A : Option Addr) (n cap : Nat) (ks : List Int) (A' : Option Addr) (m cap' : Nat) (W : World) (hn : l.length = n) (hm : ks.length = m) (h1 : Reads W W.heap.size 2 A n (tokCells l)) (h2 : Reads W W.heap.size 1 A' m (iV ks)) (l1 : n ≤ 1000) (l2 : m ≤ 1000) :
    Calls Tryz.prog 36 #[.slice A n cap, .slice A' m cap'] W fun e w' => e = .returned (.bool (kindOf l ks)) ∧ Ext W w' := by
  subst hn hm
  have H1 := Lib.hid (fun w' (hx : Ext W w') => h1.ext hx)
  have H2 := Lib.hid (fun w' (hx : Ext W w') => h2.ext hx)
  clear h1 h2
  go_enter Tryz.func36, Tryz.ntmps36
  go_wp2
  go_step3
  go_wp2
  go_step3
  go_wp2
  go_loopg [11] l.length (fun g i wr => OnOut W l ks g i wr)
  case atStart => exact ⟨0, by omega, rfl, fun j h hj => absurd hj (by omega), Ext.refl _⟩
  case round =>
    obtain ⟨k, hk, rfl, hP, hX⟩ := hrel
    obtain ⟨w3, rfl⟩ : ∃ w3, w3 = wr := ⟨_, rfl⟩
    cases gk with
    | succ g1 =>
      have hlt : k < l.length := by omega
      have hd : decide ((k : Int) < (l.length : Int)) = true := by simp; omega
      have kl : (k : Int) < (l.length : Int) := by omega
      have kz : (0 : Int) ≤ (k : Int) := by omega
      obtain ⟨g, o, rfl, hg, t0, t1⟩ := tok_reads (H1.out _ hX) hlt
      have X4 := hX.alloc (.cells #[.int .i64 l[k].k, .string ⟨l[k].t.toArray⟩] 58)
      have B6 := Blk.new w3 58 #[.int .i64 l[k].k, .string ⟨l[k].t.toArray⟩]
      have HN := Lib.hid (fun w' (hx : Ext W w') (hc : ks.contains l[k].k = true) => (show OnOut W l ks g1 (.int .i64 ((k + 1 : Nat) : Int)) w' from ⟨k + 1, by omega, rfl, fun j h hj => by
        by_cases e : j = k
        · subst e; exact hc
        · exact hP j h (by omega), hx⟩))
      have HK := Lib.hid (fun h => kind_not (ks := ks) hlt h)
      clear hP
      generalize l[k].k = kk at *
      generalize l[k].t = tt at *
      go_wp2_with fail
      generalize w3.alloc (.cells #[.int .i64 kk, .string ⟨tt.toArray⟩] 58) = w4 at *
      generalize w3.heap.size = g6 at *
      clear t0 t1 hg
      go_loopg [17] ks.length (fun g i wr => OnIn w4 ks kk g i wr)
      case atStart => exact ⟨0, by omega, rfl, fun j h hj => absurd hj (by omega), rfl⟩
      case round =>
        obtain ⟨q, hq, rfl, hne, rfl⟩ := hrel
        cases gk with
        | succ g2 =>
          have hql : q < ks.length := by omega
          have hd2 : decide ((q : Int) < (ks.length : Int)) = true := by simp; omega
          have ql : (q : Int) < (ks.length : Int) := by omega
          have qz : (0 : Int) ≤ (q : Int) := by omega
          obtain ⟨gb, o2, rfl, hg2, hc2⟩ := (H2.out _ X4).cellAt hql
          have c2 := hc2 q (.int .i64 ks[q]) (by simp [iV, hql])
          obtain ⟨b0, b1⟩ := B6.cells
          have lb := B6.lt
          clear hc2
          by_cases he : kk = ks[q]
          · have e0 : (kk == ks[q]) = true := by simpa using he
            have HE := Lib.hid (HN.out _ X4 (by rw [List.contains_iff_mem, he]; exact List.getElem_mem hql))
            clear hne
            generalize ks[q] = kq at *
            go_wp2_with fail
            go_roundg g1
            case rel => exact HE.out
            case measure => omega
          · have e0 : (kk == ks[q]) = false := by simpa using he
            have HE := Lib.hid (show OnIn w4 ks kk g2 (.int .i64 ((q + 1 : Nat) : Int)) w4 from ⟨q + 1, by omega, rfl, fun j h hj => by
              by_cases e : j = q
              · subst e; exact fun e => he e.symm
              · exact hne j h (by omega), rfl⟩)
            clear hne he
            generalize ks[q] = kq at *
            go_wp2_with fail
            go_roundg g2
            case rel => exact HE.out
            case measure => omega
        | zero =>
          have hql : ¬ q < ks.length := by omega
          have hd2 : decide ((q : Int) < (ks.length : Int)) = false := by simp; omega
          have hkf := Lib.hid (HK.out fun j h => hne j h (by omega))
          clear hne
          go_wp2_with fail
          try rw [Exit.noGoto_ret]
          go_ret
          exact ⟨by rw [hkf.out]; rfl, X4⟩
    | zero =>
      have hd : decide ((k : Int) < (l.length : Int)) = false := by simp; omega
      have hkt := Lib.hid (kind_all (l := l) (ks := ks) fun j h => hP j h (by omega))
      clear hP
      go_wp2_with fail
      try rw [Exit.noGoto_ret]
      go_ret
      exact ⟨by rw [hkt.out]; rfl, hX⟩
end Go.Proofs.YtjneghncmgjkeaaGreatDoor

set_option linter.unusedVariables false
namespace Go.Proofs.YtjneghncmgjkeaaGreatDoor
open Go.RowKit

def tokV (t : Tok) : Value := .agg #[.int .i64 t.k, .string ⟨t.t.toArray⟩]
theorem tok_end (W : World) (x y : Value) : (loadVar 58 ⟨W.heap.size, 0, none⟩).run Tryz.prog (W.alloc (.cells #[x, y] 58)) = .ok (.agg #[x, y]) (W.alloc (.cells #[x, y] 58)) ∧ Ext W (W.alloc (.cells #[x, y] 58)) := by
  refine ⟨?_, (Ext.refl W).alloc _⟩
  have q := (Blk.new W 58 #[x, y]).cell
  generalize W.alloc (.cells #[x, y] 58) = w' at *
  simp [go_sem, q]
set_option maxRecDepth 100000 in
theorem first_any (l : List Tok) (A : Option Addr) (cap g : Nat) (W : World) (hc : Blk W g 71 #[.slice A l.length cap]) (h : Reads W W.heap.size 2 A l.length (tokCells l)) (h0 : 0 < l.length) (hl : l.length ≤ 1000) :
    Calls Tryz.prog 70 #[.pointer (some ⟨g, 0, none⟩)] W fun e w' => e = .returned (tokV l[0]) ∧ Ext W w' := by
  obtain ⟨g2, o, rfl, hg, t0, t1⟩ := tok_reads h h0
  obtain ⟨b0, b1⟩ := hc.cells
  have lb := hc.lt
  have kl : (0 : Int) < (l.length : Int) := by omega
  simp only [Nat.zero_mul, Nat.add_zero] at t0 t1
  clear h
  unfold tokV
  generalize l[0].k = kk at *
  generalize l[0].t = tt at *
  go_enter Tryz.func70, Tryz.ntmps70
  go_wp2_with fail
  obtain ⟨e1, e2⟩ := tok_end W (.int .i64 kk) (.string ⟨tt.toArray⟩)
  exact bodyPost_ret (results_c rfl rfl e1) rfl ⟨rfl, e2⟩
set_option maxRecDepth 100000 in
theorem must_so (e : Int) (at_ : Int) (W : World) : Calls Tryz.prog 31 #[.bool true, .int .i64 e, .int .i64 at_] W fun e w' => e = .returned (.tuple #[]) ∧ w' = W := by
  go_enter Tryz.func31, Tryz.ntmps31
  go_wp2_with fail
  exact bodyPost_end (results_none rfl _ _ _) rfl ⟨rfl, rfl⟩
end Go.Proofs.YtjneghncmgjkeaaGreatDoor

set_option linter.unusedVariables false
namespace Go.Proofs.YtjneghncmgjkeaaGreatDoor
open Go.RowKit

theorem tok_ld {w : World} {g : Nat} {x y : Value} (h : Blk w g 58 #[x, y]) : (loadVar 58 ⟨g, 0, none⟩).run Tryz.prog w = .ok (.agg #[x, y]) w := by
  have q := h.cell
  simp [go_sem, q]
set_option maxRecDepth 100000 in
theorem last_any (l : List Tok) (A : Option Addr) (n N cap g : Nat) (W : World) (hN : N = n + 1) (hn : N = l.length) (hc : Blk W g 71 #[.slice A N cap]) (h : Reads W W.heap.size 2 A l.length (tokCells l)) (hl : l.length ≤ 1000) :
    Calls Tryz.prog 39 #[.pointer (some ⟨g, 0, none⟩)] W fun e w' => e = .returned (tokV (l[n]'(by omega))) ∧ Ext W w' := by
  obtain ⟨g2, o, rfl, hg, t0, t1⟩ := tok_reads h (k := n) (by omega)
  have c0 : W.cell? ⟨g, 0, none⟩ = some (.slice (some ⟨g2, o, none⟩) N cap) := hc.cell 0
  have lb := hc.lt
  have kz : (0 : Int) ≤ (n : Int) := by omega
  have kl : (n : Int) < (N : Int) := by omega
  have kx : n ≤ 1000 := by omega
  have ee : (N : Int) - 1 = (n : Int) := by omega
  have ew : IntKind.i64.wrap ((N : Int) - 1) = (n : Int) := by rw [ee]; rw [IntKind.wrap_i64]; omega
  clear h hc
  unfold tokV
  generalize (l[n]'(by omega)).k = kk at *
  generalize (l[n]'(by omega)).t = tt at *
  clear hn hl hN ee
  have HX : ∀ w', Ext W w' → w'.cell? ⟨g, 0, none⟩ = some (.slice (some ⟨g2, o, none⟩) N cap) ∧ w'.cell? ⟨g2, o + n * 2, none⟩ = some (.int .i64 kk) ∧ w'.cell? ⟨g2, o + n * 2 + 1, none⟩ = some (.string ⟨tt.toArray⟩) := fun w' hx => ⟨(hx.cell _ _ none lb).trans c0, (hx.cell _ _ none hg).trans t0, (hx.cell _ _ none hg).trans t1⟩
  replace HX := Lib.hid HX
  go_enter Tryz.func39, Tryz.ntmps39
  go_wp2_with fail
  go_region_held3 (fun w' => w'.cell? ⟨g, 0, none⟩ = some (.slice (some ⟨g2, o, none⟩) N cap) ∧ w'.cell? ⟨g2, o + n * 2, none⟩ = some (.int .i64 kk) ∧ w'.cell? ⟨g2, o + n * 2 + 1, none⟩ = some (.string ⟨tt.toArray⟩))
    (with_reducible refine HX.out _ ?_; with_reducible repeat (first | exact Ext.refl _ | refine Ext.drew ?_ | refine Ext.alloc ?_ _))
    (fail)
  all_goals
    go_wp2_with fail
    have B := (Blk.new W 58 #[.int .i64 kk, .string ⟨tt.toArray⟩]).ext (Ext.drew (Ext.refl _))
    exact bodyPost_ret (results_c rfl rfl (tok_ld B)) rfl ⟨rfl, Ext.drew ((Ext.refl W).alloc _)⟩
end Go.Proofs.YtjneghncmgjkeaaGreatDoor

set_option linter.unusedVariables false
namespace Go.Proofs.YtjneghncmgjkeaaGreatDoor
open Go.RowKit

set_option maxRecDepth 100000 in
theorem must_not (e : Int) (at_ : Int) (W : World) : Calls Tryz.prog 31 #[.bool false, .int .i64 e, .int .i64 at_] W fun r w' => r = .panicked [{ v := .iface 90 (.agg #[.int .i64 e, .int .i64 at_]), recovered := false }] ∧ w' = W := by
  go_enter Tryz.func31, Tryz.ntmps31
  go_wp2_with fail
  all_goals (simp [Oper.upon, Instr.panic, go_sem]; go_wp2_with fail; first | (unfold bodyPost; exact ⟨rfl, rfl, rfl⟩) | (simp [bodyPost, go_sem]; done) | (unfold bodyPost; trace_state))
end Go.Proofs.YtjneghncmgjkeaaGreatDoor
