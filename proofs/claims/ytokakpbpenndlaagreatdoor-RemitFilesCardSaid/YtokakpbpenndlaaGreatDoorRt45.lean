/-
  apportionkit: CopyJuris.
-/
import Derived.Test.YtokakpbpenndlaaGreatDoorRt44
set_option linter.unusedVariables false
namespace Go.Proofs.YtokakpbpenndlaaGreatDoor
open Go.RowKit Go.Maps

theorem row_ju : RowT Tryz.prog 39 83 5 56 (.agg #[.int .i64 0, .int .i64 0, .int .i64 0, .int .i64 0, .slice none 0 0]) := rowT_mk Tryz.underlying39 (by kernel_rfl) rfl (by decide)
theorem jvCells_one (l : List JV) : ∀ u ∈ jvCells l, u.oneCell' = true := by
  intro u hu
  simp only [jvCells, List.mem_flatMap] at hu
  obtain ⟨x, _, hx⟩ := hu
  simp [JV.cl] at hx
  rcases hx with rfl | rfl | rfl | rfl | rfl <;> rfl
/-- A jurisdiction whose rings are one's own. -/
structure JXOwn (base : Nat) (W : World) (y : JX) : Prop where
  row : W.ownsRow base 108 1 (.slice y.A y.rings.length y.c) y.rings.length (ringCells y.rings)
  rings : RingsOwn base W y.rings
theorem JXOwn.ext {base : Nat} {W W' : World} {y : JX} (h : JXOwn base W y) (hx : Ext W W') : JXOwn base W' y := ⟨own_ext h.row hx, fun r hr => own_ext (h.rings r hr) hx⟩
theorem JXOwn.put {base b2 g n c k : Nat} {W : World} {y : JX} {xs : List Value} (h : JXOwn base W y) (ho : W.ownsRow b2 83 5 (.slice (some ⟨g, 0, none⟩) n c) n xs) (u : Value) : JXOwn base (W.setCell ⟨g, k, none⟩ u) y :=
  ⟨own_set h.row (a := ⟨g, k, none⟩) (own_own_ne ho h.row (by decide) rfl) u, fun r hr => own_set (h.rings r hr) (a := ⟨g, k, none⟩) (own_own_ne ho (h.rings r hr) (by decide) rfl) u⟩
/-- The cells of a list with one jurisdiction's rings stored anew. -/
theorem jvCells_set : ∀ (l : List JV) (k : Nat) (h : k < l.length) (A : Option Addr) (n c : Nat), (jvCells l).set (k * 5 + 4) (.slice A n c) = jvCells (l.set k ⟨l[k].j, A, n, c⟩)
  | [], k, h, _, _, _ => absurd h (by simp)
  | x :: l, 0, _, A, n, c => rfl
  | x :: l, k + 1, h, A, n, c => by
    have ih := jvCells_set l k (by simpa using h) A n c
    have e : (k + 1) * 5 + 4 = k * 5 + 4 + 1 + 1 + 1 + 1 + 1 := by omega
    rw [e]
    show (JV.cl x ++ jvCells l).set (k * 5 + 4 + 1 + 1 + 1 + 1 + 1) _ = JV.cl x ++ jvCells (l.set k _)
    unfold JV.cl
    simp only [List.cons_append, List.nil_append, List.set_cons_succ, List.getElem_cons_succ]
    rw [ih]
def CjRel (w : World) (l : List JX) (A : Option Addr) (c : Nat) (i : Value) (wr : World) : Prop :=
  ∃ (k : Nat) (cp : List JX), k ≤ l.length ∧ i = .int .i64 (k : Int) ∧ cp.length = k ∧ cp.map JX.j = (l.take k).map JX.j ∧ (∀ j (h1 : j < cp.length) (h2 : j < l.length), RingsEq cp[j].rings l[j].rings) ∧ (∀ y ∈ cp, JXOwn w.heap.size wr y) ∧
    wr.ownsRow w.heap.size 83 5 (.slice A l.length c) l.length (jvCells (jvs (cp ++ l.drop k))) ∧ Ext w wr
theorem CjRel.next {w wr : World} {l : List JX} {A : Option Addr} {c k m : Nat} {cp : List JX} (hk : k < l.length) (hl : cp.length = k) (hj : cp.map JX.j = (l.take k).map JX.j) (hr : ∀ j (h1 : j < cp.length) (h2 : j < l.length), RingsEq cp[j].rings l[j].rings) {y : JX} (yj : y.j = l[k].j) (yr : RingsEq y.rings l[k].rings)
    (ho : ∀ z ∈ cp, JXOwn w.heap.size wr z) (hy : JXOwn w.heap.size wr y) (hrow : wr.ownsRow w.heap.size 83 5 (.slice A l.length c) l.length (jvCells (jvs (cp ++ y :: l.drop (k + 1))))) (hx : Ext w wr) (e : m = k + 1) : CjRel w l A c (.int .i64 (m : Int)) wr := by
  subst e
  refine ⟨k + 1, cp ++ [y], by omega, rfl, by simp [hl], ?_, fun j h1 h2 => ?_, fun z hz => ?_, ?_, hx⟩
  · rw [List.map_append, hj, List.take_succ_eq_append_getElem hk, List.map_append]
    simp [yj]
  · by_cases h : j < cp.length
    · rw [List.getElem_append_left h]
      exact hr j h h2
    · have : j = k := by simp at h1; omega
      subst this
      rw [List.getElem_append_right (by omega)]
      simpa [hl] using yr
  · rcases List.mem_append.1 hz with h | h
    · exact ho z h
    · rw [List.mem_singleton.1 h]; exact hy
  · simpa using hrow
set_option maxRecDepth 100000 in
set_option maxHeartbeats 2000000 in
theorem copyJuris_any (l : List JX) (A : Option Addr) (n cap : Nat) (w : World) (hn : l.length = n) (hr : Reads w w.heap.size 5 A n (jvCells (jvs l))) (hm : n ≤ 1000) (ho : ∀ x ∈ l, x.ok w) (hb : ∀ x ∈ l, x.rings.length ≤ 1000 ∧ ∀ r ∈ x.rings, r.pts.length ≤ 1000) :
    Calls Tryz.prog 28 #[.slice A n cap] w fun e w' => ∃ A' c' cp, e = .returned (.slice A' n c') ∧ JurisEq cp l ∧ (∀ y ∈ cp, JXOwn w.heap.size w' y) ∧ w'.ownsRow w.heap.size 83 5 (.slice A' n c') n (jvCells (jvs cp)) ∧ Ext w w' := by
  subst hn
  have HRd := Lib.hid (fun W (hx : Ext w W) => hr.ext hx)
  have H1 := Lib.hid (fun k (hk : k < l.length) => jx_at hr hk)
  have HC := Lib.hid (fun W (hx : Ext w W) k (hk : k < l.length) => copyRings_any l[k].rings l[k].A l[k].rings.length l[k].c W rfl ((ho l[k] (List.getElem_mem hk)).ext hx).rd (hb l[k] (List.getElem_mem hk)).1 (fun r h => ((ho l[k] (List.getElem_mem hk)).ro r h).ext hx) (hb l[k] (List.getElem_mem hk)).2)
  have hlen := Lib.hid (jvs_len l)
  clear hr ho hb
  go_enter Tryz.func28, Tryz.ntmps28
  go_upto_region 2 with (at_builtin; refine wpl_app row_ju w _ (.tmp 5) (.tmp 6) rfl rfl rfl (own_lit (Ext.refl w) #[] _ 0 5 rfl (by simp [maxLen]) rfl) ((Ext.refl w).alloc _) rfl (HRd.out _ ((Ext.refl w).alloc _)) (jvCells_one _) (by omega) (by unfold maxLen; omega) ?_; intro v4 W4 hg4; obtain ⟨A4, c4, rfl, _, _, _⟩ := own_slice hg4.own; have HG4 := Lib.hid hg4; clear hg4)
  have hown := HG4.out.own
  have hext := HG4.out.ext
  rw [Nat.zero_add] at hown
  have H0 := Lib.hid (show CjRel w l A4 c4 (.int .i64 ((0 : Nat) : Int)) W4 from ⟨0, [], by omega, rfl, rfl, rfl, fun j h => absurd h (by simp), fun y hy => absurd hy (by simp), by simpa using hown, hext⟩)
  clear hown hext HG4
  go_wp2_with fail
  go_loopw [4] (fun i wr => CjRel w l A4 c4 i wr) (fun i _ => l.length - (intOf i).toNat)
  case atStart => exact H0.out
  case round =>
    clear H0
    obtain ⟨k, cp, hk, rfl, hl, hj, hre, hcp, hO, hx⟩ := hrel
    by_cases hlt : k < l.length
    · have hd : decide ((k : Int) < (l.length : Int)) = true := by simp; omega
      have kl : (k : Int) < (l.length : Int) := by omega
      have kz : (0 : Int) ≤ (k : Int) := by omega
      obtain ⟨g, off, rfl, hg, hc⟩ := H1.out k hlt
      obtain ⟨_, _, _, _, c5⟩ := hc wr hx
      have hgl : g < wr.heap.size := Nat.lt_of_lt_of_le hg hx.size
      have HK := Lib.hid (HC.out wr hx k hlt)
      obtain ⟨g', rfl, hge, hg', hcell, hfz⟩ := own_at hO (by omega)
      have hst : k * 5 + 4 < l.length * 5 := by omega
      have hc4 := hcell (k * 5 + 4) hst
      have hju : (jvCells (jvs (cp ++ l.drop k)))[k * 5 + 4]? = some (.slice l[k].A l[k].rings.length l[k].c) := by
        have hk2 : k < (jvs (cp ++ l.drop k)).length := by rw [jvs_len]; simp; omega
        have := flat_get (f := JV.cl) (c := 5) JV.cl_len (jvs (cp ++ l.drop k)) k 4 hk2 (by decide)
        rw [show jvCells (jvs (cp ++ l.drop k)) = (jvs (cp ++ l.drop k)).flatMap JV.cl from rfl, this]
        have e : (jvs (cp ++ l.drop k))[k] = l[k].jv := by
          simp only [jvs, List.getElem_map]
          congr 1
          rw [List.getElem_append_right (by omega)]
          simp [hl]
        rw [e]
        rfl
      rw [hju] at hc4
      have HS := Lib.hid (fun (W2 : World) (hy : Ext wr W2) (A5 : Option Addr) (c5 : Nat) (rs : List Ring) (hE : RingsEq rs l[k].rings) (hR : RingsOwn wr.heap.size W2 rs) (hOr : W2.ownsRow wr.heap.size 108 1 (.slice A5 l[k].rings.length c5) l[k].rings.length (ringCells rs)) => (show CjRel w l (some ⟨g', 0, none⟩) c4 (.int .i64 ((k + 1 : Nat) : Int)) (W2.setCell ⟨g', k * 5 + 4, none⟩ (.slice A5 l[k].rings.length c5)) from by
        have hO2 := own_ext hO hy
        have hlen5 := hE.len
        have hy5 : JXOwn w.heap.size W2 ⟨l[k].j, A5, c5, rs⟩ := ⟨own_base (by simp only; rw [hlen5]; exact hOr) hx.size, fun r h => own_base (hR r h) hx.size⟩
        refine CjRel.next (cp := cp) (y := ⟨l[k].j, A5, c5, rs⟩) hlt hl hj hre rfl hE (fun z hz => ((hcp z hz).ext hy).put hO2 _) (hy5.put hO2 _) ?_ ((hx.trans hy).set (p := ⟨g', k * 5 + 4, none⟩) hge _) rfl
        have h5 := own_put hO2 (k := k * 5 + 4) hst (.slice A5 l[k].rings.length c5)
        have hk2 : k < (jvs (cp ++ l.drop k)).length := by rw [jvs_len]; simp; omega
        rw [jvCells_set _ k hk2] at h5
        have e : (jvs (cp ++ l.drop k)).set k ⟨(jvs (cp ++ l.drop k))[k].j, A5, l[k].rings.length, c5⟩ = jvs (cp ++ ⟨l[k].j, A5, c5, rs⟩ :: l.drop (k + 1)) := by
          have hd : l.drop k = l[k] :: l.drop (k + 1) := List.drop_eq_getElem_cons hlt
          have ej : (jvs (cp ++ l.drop k))[k].j = l[k].j := by
            simp only [jvs, List.getElem_map]
            rw [List.getElem_append_right (by omega)]
            simp [hl, JX.jv]
          rw [ej, hd]
          simp only [jvs, List.map_append, List.map_cons]
          rw [List.set_append_right _ _ (by simp [hl])]
          simp [hl, JX.jv, hlen5]
        rw [e] at h5
        exact h5))
      have HF := Lib.hid (fun (W2 : World) (hy : Ext wr W2) => (show W2.cell? ⟨g', k * 5 + 4, none⟩ = some (.slice l[k].A l[k].rings.length l[k].c) ∧ W2.frozen? ⟨g', k * 5 + 4, none⟩ = false ∧ g' < W2.heap.size from by
        obtain ⟨g2, e2, _, h2, h3, h4⟩ := own_at (own_ext hO hy) (by omega)
        injection e2 with e2
        injection e2 with e2
        subst e2
        exact ⟨(h3 _ hst).trans hju, h4 _, h2⟩))
      clear hj hre hcp hO hcell hfz hc hju hc4 H1 HC HRd
      generalize l[k].rings.length = rn at *
      generalize l[k].A = Ra at *
      generalize l[k].c = rc at *
      go_wp2_with fail
      refine HK.out.mono ?_
      rintro e w5 ⟨A5, c6, rs, rfl, hE5, hR5, hO5, hx5⟩
      obtain ⟨f1, f2, f3⟩ := HF.out _ hx5
      have HE := Lib.hid (HS.out _ hx5 A5 c6 rs hE5 hR5 hO5)
      clear hE5 hR5 hO5 HS HF HK
      go_wp2_with fail
      go_roundw
      case rel => exact HE.out
      case measure => simp [intOf]; omega
    · obtain rfl : k = l.length := by omega
      have hd : decide ((l.length : Int) < (l.length : Int)) = false := by simp
      rw [List.drop_length, List.append_nil] at hO
      rw [List.take_length] at hj
      have HF := Lib.hid (And.intro (JurisEq.mk hj hre) (And.intro hcp (And.intro hO hx)))
      clear hj hre hcp hO hx
      go_wp2_with fail
      go_ret
      exact ⟨A4, c4, cp, rfl, HF.out.1, HF.out.2.1, HF.out.2.2.1, HF.out.2.2.2⟩
end Go.Proofs.YtokakpbpenndlaaGreatDoor

set_option linter.unusedVariables false
namespace Go.Proofs.YtokakpbpenndlaaGreatDoor
open Go.RowKit

def ringsFew (rs : List Ring) (q : Nat) : Prop := ∀ t (ht : t < rs.length), t < q → rs[t].pts.length ≤ 400
def jurFew (x : JX) : Prop := x.rings.length ≤ 400 ∧ ringsFew x.rings x.rings.length
def jursFew (l : List JX) (k : Nat) : Prop := ∀ j (hj : j < l.length), j < k → jurFew l[j]
def BigQ (l : List JX) (most : Int) (w : World) (e : Ending) (w' : World) : Prop := ∃ b : Bool, e = .returned (.bool b) ∧ (b = false → (l.length : Int) ≤ most ∧ jursFew l l.length) ∧ w = w'
def Bj2Rel (l : List JX) (i v5 : Value) : Prop := ∃ (k : Nat) (V : Int), k ≤ l.length ∧ i = .int .i64 (k : Int) ∧ v5 = .int .i64 V ∧ 0 ≤ V ∧ V ≤ 8796093022700 ∧ (V ≤ 400 → jursFew l k)
def Bj3Rel (l : List JX) (k : Nat) (rs : List Ring) (i v5 : Value) : Prop := ∃ (q : Nat) (U : Int), q ≤ rs.length ∧ i = .int .i64 (q : Int) ∧ v5 = .int .i64 U ∧ 0 ≤ U ∧ U ≤ 8796093022700 ∧ (q : Int) ≤ U ∧ (U ≤ 400 → jursFew l k ∧ ringsFew rs q)
theorem Bj3Rel.next {l : List JX} {k q : Nat} {rs : List Ring} {U U' : Int} (hq : q < rs.length) (h0 : 0 ≤ U) (h4 : U ≤ 400) (hqU : (q : Int) ≤ U) (h : U ≤ 400 → jursFew l k ∧ ringsFew rs q) (hp : rs[q].pts.length ≤ 8796093022208) (hU : U' = U + 1 + (rs[q].pts.length : Int)) : Bj3Rel l k rs (.int .i64 ((q + 1 : Nat) : Int)) (.int .i64 U') := by
  refine ⟨q + 1, U', by omega, rfl, rfl, by omega, by omega, by omega, fun h5 => ?_⟩
  obtain ⟨a, b⟩ := h h4
  refine ⟨a, fun t ht htq => ?_⟩
  by_cases e : t = q
  · subst e; omega
  · exact b t ht (by omega)
theorem Bj2Rel.next {l : List JX} {k : Nat} {U : Int} (hk : k < l.length) (h0 : 0 ≤ U) (h1 : U ≤ 8796093022700) (h : U ≤ 400 → jursFew l k ∧ jurFew l[k]) : Bj2Rel l (.int .i64 ((k + 1 : Nat) : Int)) (.int .i64 U) := by
  refine ⟨k + 1, U, by omega, rfl, rfl, h0, h1, fun h5 j hj hjk => ?_⟩
  by_cases e : j = k
  · subst e; exact (h h5).2
  · exact (h h5).1 j hj (by omega)
set_option maxRecDepth 100000 in
set_option maxHeartbeats 2000000 in
theorem bigJuris2_any (l : List JX) (A : Option Addr) (cap : Nat) (most : Int) (w : World) (hr : Reads w w.heap.size 5 A l.length (jvCells (jvs l))) (hm : l.length ≤ maxLen) (hok : ∀ x ∈ l, x.ok w) (hmost : 0 ≤ most) (hreach : ∀ x ∈ l, ∀ r ∈ x.rings, r.pts.length ≤ 8796093022208) :
    Calls Tryz.prog 24 #[.slice A l.length cap, .int .i64 most] w (BigQ l most w) := by
  have HOK := Lib.hid hok
  unfold maxLen at hm
  have HRC := Lib.hid hreach
  clear hok hreach
  go_enter Tryz.func24, Tryz.ntmps24
  go_wp2_with fail
  go_loop [6, 5] (fun i v5 => Bj2Rel l i v5) (fun i _ => l.length - (intOf i).toNat)
  case atStart => exact ⟨0, 0, by omega, rfl, rfl, by omega, by omega, fun _ j hj h => absurd h (by omega)⟩
  case round =>
    obtain ⟨k, V, hk, rfl, rfl, hV0, hV1, hVF⟩ := hrel
    replace hVF := Lib.hid hVF
    by_cases hlt : k < l.length
    · have hd : decide ((k : Int) < (l.length : Int)) = true := by simp; omega
      by_cases hV : V ≤ 400
      · have hdV : decide (V ≤ 400) = true := by simpa using hV
        obtain ⟨g, off, rfl, hg, hc⟩ := jx_at hr hlt
        obtain ⟨c1, c2, c3, c4, c5⟩ := hc w (Ext.refl w)
        have kl : (k : Int) < (l.length : Int) := by omega
        have kz : (0 : Int) ≤ (k : Int) := by omega
        have hx := HOK.out l[k] (List.getElem_mem hlt)
        have hrd := hx.rd
        have hrc := Lib.hid (fun q (hq : q < l[k].rings.length) => HRC.out l[k] (List.getElem_mem hlt) l[k].rings[q] (List.getElem_mem hq))
        have HN2 := Lib.hid (fun (U : Int) (h0 : 0 ≤ U) (h1 : U ≤ 8796093022700) (h : U ≤ 400 → jursFew l k ∧ jurFew l[k]) => Bj2Rel.next hlt h0 h1 h)
        have hrl : l[k].rings.length ≤ 9223372036854775807 := by have := hx.l1; have := hx.l2; unfold maxLen at this; omega
        clear hc c1 c2 c3 c4 hx
        generalize l[k] = x at *
        go_wp2_with fail
        go_loop [7, 5] (fun i v5 => Bj3Rel l k x.rings i v5) (fun i _ => x.rings.length - (intOf i).toNat)
        case atStart => exact ⟨0, V, by omega, rfl, rfl, hV0, hV1, hV0, fun h => ⟨hVF.out h, fun t ht h => absurd h (by omega)⟩⟩
        case round =>
          obtain ⟨q, U, hq, rfl, rfl, hU0, hU1, hqU, hUF⟩ := hrel
          replace hUF := Lib.hid hUF
          by_cases hlq : q < x.rings.length
          · have hdq : decide ((q : Int) < (x.rings.length : Int)) = true := by simp; omega
            by_cases hU : U ≤ 400
            · have hdU : decide (U ≤ 400) = true := by simpa using hU
              obtain ⟨g2, o2, hA2, hg2, cr⟩ := ring_at hrd hlq
              rw [hA2] at c5
              have ql : (q : Int) < (x.rings.length : Int) := by omega
              have qz : (0 : Int) ≤ (q : Int) := by omega
              have hpl := hrc.out q hlq
              have HN3 := Lib.hid (Bj3Rel.next (U' := U + 1 + (x.rings[q].pts.length : Int)) hlq hU0 hU hqU hUF.out hpl rfl)
              generalize x.rings[q] = y at *
              clear hA2 hV
              go_wp2_with fail
              go_round
              case rel => exact HN3.out
              case measure => simp [intOf]; omega
            · have hdU : decide (U ≤ 400) = false := by simpa using hU
              go_wp2_with fail
              go_round
              case rel => exact HN2.out U hU0 hU1 (fun h => absurd h hU)
              case measure => simp [intOf]; omega
          · have hdq : decide ((q : Int) < (x.rings.length : Int)) = false := by simp; omega
            go_wp2_with fail
            go_round
            case rel => exact HN2.out U hU0 hU1 (fun h => ⟨(hUF.out h).1, by omega, fun t ht _ => (hUF.out h).2 t ht (by omega)⟩)
            case measure => simp [intOf]; omega
      · have hdV : decide (V ≤ 400) = false := by simpa using hV
        have hdV2 : decide (400 < V) = true := by simp; omega
        by_cases hb : most < (l.length : Int)
        · have hdb : decide (most < (l.length : Int)) = true := by simpa using hb
          go_wp2_with fail
          go_ret
          exact ⟨true, rfl, (fun h => by cases h), rfl⟩
        · have hdb : decide (most < (l.length : Int)) = false := by simpa using hb
          go_wp2_with fail
          go_ret
          exact ⟨true, rfl, (fun h => by cases h), rfl⟩
    · have hd : decide ((k : Int) < (l.length : Int)) = false := by simp; omega
      by_cases hb : most < (l.length : Int)
      · have hdb : decide (most < (l.length : Int)) = true := by simpa using hb
        go_wp2_with fail
        go_ret
        exact ⟨true, rfl, (fun h => by cases h), rfl⟩
      · have hdb : decide (most < (l.length : Int)) = false := by simpa using hb
        have hle : (l.length : Int) ≤ most := by omega
        go_wp2_with fail
        go_ret
        by_cases hV4 : V ≤ 400
        · exact ⟨_, rfl, fun _ => ⟨hle, fun j hj _ => hVF.out hV4 j hj (by omega)⟩, rfl⟩
        · exact ⟨_, rfl, fun h => absurd h (by simp; omega), rfl⟩
end Go.Proofs.YtokakpbpenndlaaGreatDoor
