/-
  apportionref17: parts.
-/
import Derived.Test.YtjneghncmgjkeaaGreatDoorRz36
set_option linter.unusedVariables false
namespace Go.Proofs.YtjneghncmgjkeaaGreatDoor
open Go.RowKit

set_option maxRecDepth 100000 in
set_option maxHeartbeats 1000000 in
theorem rparts_any (l : List Tok) (A : Option Addr) (n cap : Nat) (W : World) (h : TokS W A n cap l) :
    Calls Tryz.prog 42 #[.slice A n cap] W fun e w' => ∃ v es, e = .returned v ∧ PaAt W w' v es (partsP l) := by
  obtain rfl := h.len
  have HX := Lib.hid (fun w' (hx : Ext W w') => h.ext hx)
  have h40 := h.l40
  have H0 : PaAt W (W.alloc (.cells #[.slice none 0 0] 51)) (.slice (some ⟨W.heap.size, 0, none⟩) 1 1) [.slice none 0 0] [[]] :=
    ⟨(Ext.refl W).alloc _, own_lit (Ext.refl W) #[.slice none 0 0] _ 1 1 rfl (by simp [maxLen]) rfl, rfl, fun i hi hi' => by
      obtain rfl : i = 0 := by simpa using hi
      exact World.ownsRow_nil _ _ _ _, fun i j hi hj hne => by
      have h1 : i = 0 := by simpa using hi
      have h2 : j = 0 := by simpa using hj
      omega⟩
  have H1 := Lib.hid (show PaRel W l l.length (.slice (some ⟨W.heap.size, 0, none⟩) 1 1) (.int .i64 ((0 : Nat) : Int)) (W.alloc (.cells #[.slice none 0 0] 51)) from ⟨0, _, by omega, rfl, H0⟩)
  clear h H0
  go_enter Tryz.func42, Tryz.ntmps42
  go_wp2_with fail
  generalize W.alloc (.cells #[.slice none 0 0] 51) = w1 at *
  generalize W.heap.size = g1 at *
  go_loopg [3, 4] l.length (fun g v i wr => PaRel W l g v i wr)
  case atStart => exact H1.out
  case round =>
    clear H1
    obtain ⟨k, es, hk, rfl, HP⟩ := hrel
    obtain ⟨w3, rfl⟩ : ∃ w3, w3 = wr := ⟨_, rfl⟩
    cases gk with
    | succ g2 =>
      have hlt : k < l.length := by omega
      have hd : decide ((k : Int) < (l.length : Int)) = true := by simp; omega
      have kl : (k : Int) < (l.length : Int) := by omega
      have kz : (0 : Int) ≤ (k : Int) := by omega
      obtain ⟨gb, ob, rfl, hgb, t0, t1⟩ := (HX.out _ HP.ext).at_ hlt
      have hpl := (partsP_len (l.take k)).1
      have hpl2 := (partsP_len (l.take k)).2
      rw [List.length_take] at hpl2
      obtain ⟨m, hm⟩ : ∃ m, m + 1 = es.length := ⟨es.length - 1, by have := HP.len; omega⟩
      have hmp : m < (partsP (l.take k)).length := by have := HP.len; omega
      have hM100 : es.length ≤ 200 := by have := HP.len; omega
      obtain ⟨g3, c3, rfl, hc1, hc2⟩ := own_some HP.row (by omega)
      have X4 := HP.ext
      have hts := partsP_snoc l[k] (l.take k)
      rw [← List.take_succ_eq_append_getElem hlt] at hts
      have hpp := Lib.hid hpl2
      clear hpl hpl2
      have hrow := HP.row
      have P4 := HP
      have HP4 := Lib.hid P4
      clear HP
      by_cases h4 : l[k].k = 4
      · rw [if_pos h4] at hts
        have HB := Lib.hid (fun (v' : Value) (w' : World) (z : Value) (w4 : World) (h : PaAt W w4 (.slice (some ⟨g3, 0, none⟩) es.length c3) es (partsP (l.take k))) (hg : Grew W (w4.alloc (.cells #[.slice none 0 0] 51)) w' 51 1 z (.slice (some ⟨g3, 0, none⟩) es.length c3) v' (es.length + 1) (es ++ #[Value.slice none 0 0].toList)) => (show PaRel W l g2 v' (.int .i64 ((k + 1 : Nat) : Int)) w' from ⟨k + 1, _, by omega, rfl, by rw [hts]; exact h.begin_ hg⟩))
        replace hts := Lib.hid hts
        clear P4 hmp
        generalize l[k].t = tt at *
        generalize l[k].k = tk at *
        subst h4
        replace hm := Lib.hid hm
        generalize hM : es.length = M at *
        replace hM := Lib.hid hM
        go_wp2_with (at_builtin; refine wpl_app1 row_prt W w3 (.tmp 19) (.tmp 20) rfl rfl rfl hrow X4 rfl rfl rfl (by simp [Value.oneCell']) (by omega) (by unfold maxLen; omega) ?_; intro v5 w5 hg5; replace HB := Lib.hid (HB.out _ _ _ _ HP4.out hg5); obtain ⟨A5, c5, rfl, _, _, _⟩ := own_slice hg5.own; clear hg5)
        go_roundg g2
        case rel => exact HB.out
        case measure => omega
      · rw [if_neg h4] at hts
        have d4 : (l[k].k == 4) = false := by rw [beq_eq_false_iff_ne]; exact h4
        have hmM : m < es.length := by omega
        have HB := Lib.hid (fun (v' : Value) (w' : World) (z : Value) (w4 : World) (h : PaAt W w4 (.slice (some ⟨g3, 0, none⟩) es.length c3) es (partsP (l.take k))) (hg : Grew W (w4.alloc (.cells #[.int .i64 l[k].k, .string ⟨l[k].t.toArray⟩] 58)) w' 58 2 z es[m] v' ((partsP (l.take k))[m].length + 1) (tokCells (partsP (l.take k))[m] ++ #[Value.int .i64 l[k].k, .string ⟨l[k].t.toArray⟩].toList)) =>
          (show PaRel W l g2 (.slice (some ⟨g3, 0, none⟩) es.length c3) (.int .i64 ((k + 1 : Nat) : Int)) (w'.setCell ⟨g3, m, none⟩ v') ∧ w'.cell? ⟨g3, m, none⟩ = some es[m] ∧ w'.frozen? ⟨g3, m, none⟩ = false ∧ g3 < w'.heap.size from by
            obtain ⟨a1, a2, a3, a4⟩ := h.more (t := l[k]) hm hmp hg
            refine ⟨⟨k + 1, es.set m v', by omega, rfl, ?_⟩, a2, a3, a4⟩
            rw [hts]
            exact a1))
        have hel := P4.el m hmM hmp
        have hpm : (partsP (l.take k))[m].length ≤ 200 := by
          have h1 := parts_total (l.take k)
          have h2 : (partsP (l.take k))[m].length ≤ ((partsP (l.take k)).map List.length).sum := by
            have : (partsP (l.take k))[m].length ∈ (partsP (l.take k)).map List.length := List.mem_map.2 ⟨_, List.getElem_mem hmp, rfl⟩
            exact le_sum_mem this
          rw [List.length_take] at h1
          omega
        replace hts := Lib.hid hts
        obtain ⟨k1, k2, k3, k4⟩ := own_cell hrow (k := m) hmM
        clear P4
        generalize (partsP (l.take k))[m] = pm at *
        generalize es[m] = vm at *
        obtain ⟨Am, cm, rfl, hcm1, hcm2, _⟩ := own_slice hel
        generalize l[k].t = tt at *
        generalize l[k].k = tk at *
        have ew : IntKind.i64.wrap ((es.length : Int) - 1) = (m : Int) := by rw [IntKind.wrap_i64]; omega
        have mz : (0 : Int) ≤ (m : Int) := by omega
        have ml : (m : Int) < (es.length : Int) := by omega
        replace hm := Lib.hid hm
        generalize hM : es.length = M at *
        replace hM := Lib.hid hM
        go_upto_region 8 with (fail)
        go_region_law (refine step_app row_tk W _ (.tmp 30) (.tmp 35) rfl rfl rfl (own_ext hel ((Ext.refl w3).alloc _).drew) (X4.alloc _).drew rfl (reads_new' w3 #[.int .i64 tk, .string ⟨tt.toArray⟩] 58 1 2 rfl rfl) (by simp [Value.oneCell']) (by omega) (by unfold maxLen; omega) ?_; intro v5 w5 hg5; obtain ⟨HE, j1, j2, j3⟩ := HB.out v5 w5 _ w3.drew (HP4.out.to (Ext.refl w3).drew) hg5; obtain ⟨A5, c5, rfl, _, _, _⟩ := own_slice hg5.own; replace HE := Lib.hid HE; clear hg5)
        all_goals
          go_wp2_with fail
          go_roundg g2
          case rel => exact HE.out
          case measure => omega
    | zero =>
      have hd : decide ((k : Int) < (l.length : Int)) = false := by simp; omega
      obtain rfl : k = l.length := by omega
      rw [List.take_length] at HP
      replace HP := Lib.hid HP
      go_wp2_with fail
      try rw [Exit.noGoto_ret]
      go_ret
      exact ⟨_, es, rfl, HP.out⟩
end Go.Proofs.YtjneghncmgjkeaaGreatDoor

set_option linter.unusedVariables false
namespace Go.Proofs.YtjneghncmgjkeaaGreatDoor
open Go.RowKit

def emptyP (ps : List (List Tok)) : Bool := ps.any (fun p => p.isEmpty) || decide (ps.length < 3) || decide (4 < ps.length)
def EmAt (w : World) (ps : List (List Tok)) (i : Value) (wr : World) : Prop := ∃ k : Nat, k ≤ ps.length ∧ i = .int .i64 (k : Int) ∧ Ext w wr ∧ ∀ j (h : j < ps.length), j < k → ps[j].isEmpty = false
set_option maxRecDepth 100000 in
set_option maxHeartbeats 1000000 in
theorem rempty_any (ps : List (List Tok)) (es : List Value) (v : Value) (W w : World) (h : PaAt W w v es ps) (h0 : 0 < ps.length) (h200 : ps.length ≤ 200) (hsm : ∀ p ∈ ps, p.length ≤ 200) :
    Calls Tryz.prog 43 #[v] w fun e w' => e = .returned (.bool (emptyP ps)) ∧ Ext w w' := by
  have hlen := h.len
  obtain ⟨g, c, rfl, hc1, hc2⟩ := own_some h.row (by omega)
  have HP := Lib.hid (fun w' (hx : Ext w w') => h.to hx)
  have hsm' := Lib.hid hsm
  rw [hlen] at hc1 HP ⊢
  obtain ⟨R, hR⟩ : ∃ R, emptyP ps = R := ⟨_, rfl⟩
  have hE := Lib.hid (show R = (ps.any (fun p => p.isEmpty) || decide (ps.length < 3) || decide (4 < ps.length)) by rw [← hR]; rfl)
  rw [hR]
  clear hR h hsm
  have H0 := Lib.hid (show EmAt w ps (.int .i64 ((0 : Nat) : Int)) w from ⟨0, by omega, rfl, Ext.refl _, fun j _ h => absurd h (by omega)⟩)
  replace hc2 := Lib.hid hc2
  go_enter Tryz.func43, Tryz.ntmps43
  go_wp2_with fail
  go_loopw [3] (fun i wr => EmAt w ps i wr) (fun i _ => ps.length - (intOf i).toNat)
  case atStart => exact H0.out
  case round =>
    clear H0
    obtain ⟨k, hk, rfl, hx, hno⟩ := hrel
    by_cases hlt : k < ps.length
    · have hd : decide ((k : Int) < (ps.length : Int)) = true := decide_eq_true (by omega)
      have kz : (0 : Int) ≤ (k : Int) := by omega
      have kl : (k : Int) < (ps.length : Int) := by omega
      have P := HP.out _ hx
      have hel := P.el k (by omega) hlt
      have hrow := P.row
      rw [hlen] at hrow
      obtain ⟨k1, k2, k3, _⟩ := own_cell hrow (k := k) (by omega)
      obtain ⟨A, c', e1, _, _, _⟩ := own_slice hel
      rw [e1] at k1
      have hs := hsm'.out ps[k] (List.getElem_mem hlt)
      clear P hel hrow e1 k2
      by_cases he : ps[k].length = 0
      · have b0 : ((ps[k].length : Int) == 0) = true := by rw [beq_iff_eq]; omega
        have hRt := Lib.hid (show R = true by
          rw [hE.out]
          have h2 : ps.any (fun p => p.isEmpty) = true := by
            rw [List.any_eq_true]
            exact ⟨ps[k], List.getElem_mem hlt, by rw [List.isEmpty_iff]; exact List.eq_nil_of_length_eq_zero he⟩
          rw [h2]; rfl)
        clear hno he hE
        generalize ps[k].length = q at *
        replace hx := Lib.hid hx
        go_wp2_with fail
        go_ret
        exact ⟨by rw [hRt.out]; rfl, hx.out⟩
      · have b0 : ((ps[k].length : Int) == 0) = false := by rw [beq_eq_false_iff_ne]; omega
        have HE := Lib.hid (show EmAt w ps (.int .i64 ((k + 1 : Nat) : Int)) wr from ⟨k + 1, hlt, rfl, hx, fun j h hj => by
          by_cases e : j = k
          · subst e
            cases hp : ps[j] with
            | nil => rw [hp] at he; exact absurd rfl he
            | cons _ _ => rfl
          · exact hno j h (by omega)⟩)
        clear hno he hE hx
        generalize ps[k].length = q at *
        go_wp2_with fail
        go_roundw
        case rel => exact HE.out
        case measure => simp [intOf]; omega
    · obtain rfl : k = ps.length := by omega
      have hd : decide ((ps.length : Int) < (ps.length : Int)) = false := by simp
      have hany : ps.any (fun p => p.isEmpty) = false := by
        rw [List.any_eq_false]
        intro p hp
        obtain ⟨j, hj, rfl⟩ := List.mem_iff_getElem.1 hp
        rw [hno j hj hj]; decide
      have hRe := Lib.hid (show R = (decide (ps.length < 3) || decide (4 < ps.length)) by rw [hE.out, hany]; rfl)
      clear hno hE hany
      replace hx := Lib.hid hx
      by_cases h3 : ps.length < 3
      · have d3 : decide ((ps.length : Int) < 3) = true := decide_eq_true (by omega)
        have hRt := Lib.hid (show R = true by rw [hRe.out, decide_eq_true h3]; rfl)
        clear h3 hRe
        go_wp2_with fail
        go_ret
        exact ⟨by rw [hRt.out]; rfl, hx.out⟩
      · have d3 : decide ((ps.length : Int) < 3) = false := decide_eq_false (by omega)
        by_cases h4 : 4 < ps.length
        · have d4 : decide ((4 : Int) < (ps.length : Int)) = true := decide_eq_true (by omega)
          have d4' : decide (4 < ps.length) = true := decide_eq_true h4
          have hRt := Lib.hid (show R = true by rw [hRe.out, decide_eq_true h4, Bool.or_true])
          clear h3 h4 hRe
          go_wp2_with fail
          go_ret
          exact ⟨by rw [hRt.out]; rfl, hx.out⟩
        · have d4 : decide ((4 : Int) < (ps.length : Int)) = false := decide_eq_false (by omega)
          have d4' : decide (4 < ps.length) = false := decide_eq_false h4
          have hRt := Lib.hid (show R = false by rw [hRe.out, decide_eq_false h4, decide_eq_false h3]; rfl)
          clear h3 h4 hRe
          go_wp2_with fail
          go_ret
          exact ⟨by rw [hRt.out]; rfl, hx.out⟩
end Go.Proofs.YtjneghncmgjkeaaGreatDoor

set_option linter.unusedVariables false
namespace Go.Proofs.YtjneghncmgjkeaaGreatDoor
open Go.RowKit

set_option maxRecDepth 100000 in
set_option maxHeartbeats 1000000 in
theorem rfault_any (e at_ : Int) (W : World) : Calls Tryz.prog 44 #[.int .i64 e, .int .i64 at_] W fun x w' => x = .returned (.tuple #[adV Ad.zero, .agg #[.int .i64 e, .int .i64 at_]]) ∧ Ext W w' := by
  have B0 := (Blk.new W 23 (adC Ad.zero)).alloc (.cells #[.int .i64 0, .int .i64 0] 26)
  have B1 := Blk.new (W.alloc (.cells (adC Ad.zero) 23)) 26 #[.int .i64 0, .int .i64 0]
  have X1 := ((Ext.refl W).alloc (.cells (adC Ad.zero) 23)).alloc (.cells #[.int .i64 0, .int .i64 0] 26)
  have hsz : (W.alloc (.cells (adC Ad.zero) 23)).heap.size = W.heap.size + 1 := by simp
  rw [hsz] at B1
  unfold adC Ad.zero at B0 B1 X1
  dsimp only at B0 B1 X1
  clear hsz
  go_enter Tryz.func44, Tryz.ntmps44
  go_upto_region 1 with (fail)
  generalize (W.alloc (.cells #[.int .i64 0, .bool false, .string ⟨#[]⟩, .string ⟨#[]⟩, .string ⟨#[]⟩, .string ⟨#[]⟩, .string ⟨#[]⟩, .string ⟨#[]⟩, .string ⟨#[]⟩, .string ⟨#[]⟩, .string ⟨#[]⟩] 23)).alloc (.cells #[.int .i64 0, .int .i64 0] 26) = w1 at *
  generalize hg1 : W.heap.size + 1 = g1 at *
  generalize hg0 : W.heap.size = g0 at *
  have hne : g0 ≠ g1 := by omega
  obtain ⟨p0, p1⟩ := B0.cells
  obtain ⟨q0, q1⟩ := B1.cells
  have l0 := B0.lt
  have l1 := B1.lt
  have hle0 : W.heap.size ≤ g0 := by omega
  have hle1 : W.heap.size ≤ g1 := by omega
  have A1 : Blk (((setAd w1 g0 Ad.zero).setCell ⟨g1, 0, none⟩ (.int .i64 e)).setCell ⟨g1, 1, none⟩ (.int .i64 at_)) g0 23 (adC Ad.zero) := (((setAd_blk Ad.zero (a := Ad.zero) B0).far (p := ⟨g1, 0, none⟩) hne _).far (p := ⟨g1, 1, none⟩) hne _)
  have A2 : Blk (((setAd w1 g0 Ad.zero).setCell ⟨g1, 0, none⟩ (.int .i64 e)).setCell ⟨g1, 1, none⟩ (.int .i64 at_)) g1 26 #[.int .i64 e, .int .i64 at_] := fault_set (far_setAd Ad.zero B1 hne.symm) _ _
  have A3 : Ext W (((setAd w1 g0 Ad.zero).setCell ⟨g1, 0, none⟩ (.int .i64 e)).setCell ⟨g1, 1, none⟩ (.int .i64 at_)) := ((setAd_ext Ad.zero X1 hle0).set (p := ⟨g1, 0, none⟩) hle1 _).set (p := ⟨g1, 1, none⟩) hle1 _
  replace A1 := Lib.hid A1
  replace A2 := Lib.hid A2
  replace A3 := Lib.hid A3
  clear B0 B1 X1 hle0 hle1 hg0 hg1
  go_wp2_with fail
  exact bodyPost_ret (results_cc rfl rfl (ld_ad A1.out) rfl (ld_fault A2.out)) rfl ⟨rfl, A3.out⟩
end Go.Proofs.YtjneghncmgjkeaaGreatDoor
