/-
  Plain: AddrBack's law, whole; normal texts; the chapter's examples.
-/
import Derived.Test.YtjaponmpfdpemaaGreatDoorKb20
import Derived.Deep.LoopGhost
import Derived.Test.YtjaponmpfdpemaaGreatDoorKb18
import Derived.Recover
import Derived.Test.YtjaponmpfdpemaaGreatDoorKb12
import Derived.Defers
set_option linter.unusedVariables false
namespace Go.Proofs.YtjaponmpfdpemaaGreatDoor
end Go.Proofs.YtjaponmpfdpemaaGreatDoor

set_option linter.unusedVariables false
namespace Go.Proofs.YtjaponmpfdpemaaGreatDoor
theorem parts_total : ∀ l : List Tok, ((partsP l).map List.length).sum + (partsP l).length = l.length + 1
  | [] => by simp [partsP]
  | t :: l => by
    have ih := parts_total l
    unfold partsP
    split
    · simp only [List.map_cons, List.sum_cons, List.length_nil, List.length_cons]; omega
    · cases hp : partsP l with
      | nil => rw [hp] at ih; simp at ih
      | cons p r => rw [hp] at ih; simp only [List.map_cons, List.sum_cons, List.length_cons] at ih ⊢; omega
end Go.Proofs.YtjaponmpfdpemaaGreatDoor

set_option linter.unusedVariables false
namespace Go.Proofs.YtjaponmpfdpemaaGreatDoor
open Go.RowKit

theorem row_prt : RowT Tryz.prog 140 87 1 24 (.slice none 0 0) := rowT_mk Tryz.underlying140 (by kernel_rfl) rfl (by decide)
theorem own_some {w : World} {base size n : Nat} {e : TypeId} {v : Value} {xs : List Value} (h : w.ownsRow base e size v n xs) (h0 : 0 < n) : ∃ g c, v = .slice (some ⟨g, 0, none⟩) n c ∧ n ≤ c ∧ c ≤ maxLen := by
  rcases h.2 with ⟨_, h1⟩ | ⟨g, cap, cur, rfl, _, _, hn, hm, _⟩
  · omega
  · exact ⟨g, cap, rfl, hn, hm⟩
theorem le_sum_mem : ∀ {l : List Nat} {x : Nat}, x ∈ l → x ≤ l.sum
  | y :: l, x, h => by
    rw [List.sum_cons]
    rcases List.mem_cons.1 h with rfl | h
    · omega
    · have := le_sum_mem h; omega
def PaRel (w0 : World) (l : List Tok) (g : Nat) (v i : Value) (wr : World) : Prop := ∃ (k : Nat) (es : List Value), k + g = l.length ∧ i = .int .i64 (k : Int) ∧ PaAt w0 wr v es (partsP (l.take k))
set_option maxRecDepth 100000 in
theorem parts_any (l : List Tok) (A : Option Addr) (n cap : Nat) (W : World) (h : TokS W A n cap l) :
    Calls Tryz.prog 91 #[.slice A n cap] W fun e w' => ∃ v es, e = .returned v ∧ PaAt W w' v es (partsP l) := by
  obtain rfl := h.len
  have HX := Lib.hid (fun w' (hx : Ext W w') => h.ext hx)
  have h40 := h.l40
  have hmk : ∀ w, (Instr.makeSlice 140 (.int .i64 1) (.int .i64 1)).run Tryz.prog w = .ok (.slice (some ⟨w.heap.size, 0, none⟩) 1 1) (w.alloc (.cells #[.slice none 0 0] 87)) := fun _ => by kernel_rfl
  have H0 : PaAt W (W.alloc (.cells #[.slice none 0 0] 87)) (.slice (some ⟨W.heap.size, 0, none⟩) 1 1) [.slice none 0 0] [[]] :=
    ⟨(Ext.refl W).alloc _, own_lit (Ext.refl W) #[.slice none 0 0] _ 1 1 rfl (by simp [maxLen]) rfl, rfl, fun i hi hi' => by
      obtain rfl : i = 0 := by simpa using hi
      exact World.ownsRow_nil _ _ _ _, fun i j hi hj hne => by
      have h1 : i = 0 := by simpa using hi
      have h2 : j = 0 := by simpa using hj
      omega⟩
  have H1 := Lib.hid (show PaRel W l l.length (.slice (some ⟨W.heap.size, 0, none⟩) 1 1) (.int .i64 ((0 : Nat) : Int)) (W.alloc (.cells #[.slice none 0 0] 87)) from ⟨0, _, by omega, rfl, H0⟩)
  clear h H0
  go_enter Tryz.func91, Tryz.ntmps91
  go_wp2_with fail
  generalize W.alloc (.cells #[.slice none 0 0] 87) = w1 at *
  generalize W.heap.size = g1 at *
  go_loopg [3, 9] l.length (fun g v i wr => PaRel W l g v i wr)
  case atStart => exact H1.out
  case round =>
    clear H1
    obtain ⟨k, es, hk, rfl, HP⟩ := hrel
    obtain ⟨w3, rfl⟩ : ∃ w3, w3 = wr := ⟨_, rfl⟩
    cases gk with
    | succ g2 =>
      have hlt : k < l.length := by omega
      have hd : decide ((k : Int) < (l.length : Int)) = true := by simp; omega
      have kl : (k : Int) < (l.length : Int) := by omega
      have kz : (0 : Int) ≤ (k : Int) := by omega
      obtain ⟨gb, ob, rfl, hgb, t0, t1⟩ := (HX.out _ HP.ext).at_ hlt
      have hpl := (partsP_len (l.take k)).1
      have hpl2 := (partsP_len (l.take k)).2
      rw [List.length_take] at hpl2
      obtain ⟨m, hm⟩ : ∃ m, m + 1 = es.length := ⟨es.length - 1, by have := HP.len; omega⟩
      have hmp : m < (partsP (l.take k)).length := by have := HP.len; omega
      have hM100 : es.length ≤ 200 := by have := HP.len; omega
      obtain ⟨g3, c3, rfl, hc1, hc2⟩ := own_some HP.row (by omega)
      have X4 := HP.ext.alloc (.cells #[.int .i64 l[k].k, .string ⟨l[k].t.toArray⟩] 105)
      have P4 := HP.to ((Ext.refl w3).alloc (.cells #[.int .i64 l[k].k, .string ⟨l[k].t.toArray⟩] 105))
      have B4 := Blk.new w3 105 #[.int .i64 l[k].k, .string ⟨l[k].t.toArray⟩]
      have hts := partsP_snoc l[k] (l.take k)
      rw [← List.take_succ_eq_append_getElem hlt] at hts
      have hpp := Lib.hid hpl2
      clear hpl hpl2 HP
      have hrow := P4.row
      have HP4 := Lib.hid P4
      by_cases h4 : l[k].k = 4
      · rw [if_pos h4] at hts
        have HB := Lib.hid (fun (v' : Value) (w' : World) (z : Value) (w4 : World) (h : PaAt W w4 (.slice (some ⟨g3, 0, none⟩) es.length c3) es (partsP (l.take k))) (hg : Grew W (w4.alloc (.cells #[.slice none 0 0] 87)) w' 87 1 z (.slice (some ⟨g3, 0, none⟩) es.length c3) v' (es.length + 1) (es ++ #[Value.slice none 0 0].toList)) => (show PaRel W l g2 v' (.int .i64 ((k + 1 : Nat) : Int)) w' from ⟨k + 1, _, by omega, rfl, by rw [hts]; exact h.begin_ hg⟩))
        replace hts := Lib.hid hts
        clear P4 hmp
        generalize l[k].t = tt at *
        generalize l[k].k = tk at *
        subst h4
        replace hm := Lib.hid hm
        generalize hM : es.length = M at *
        replace hM := Lib.hid hM
        go_upto_region 5 with (fail)
        clear t0 t1 hgb
        generalize w3.alloc (.cells #[.int .i64 4, .string ⟨tt.toArray⟩] 105) = w4 at *
        generalize w3.heap.size = g5 at *
        obtain ⟨b0, b1⟩ := B4.cells
        have lb := B4.lt
        go_wp2_with (at_builtin; refine wpl_app1 row_prt W w4 (.tmp 16) (.tmp 17) rfl rfl rfl hrow X4 rfl rfl rfl (by simp [Value.oneCell']) (by omega) (by unfold maxLen; omega) ?_; intro v5 w5 hg5; replace HB := Lib.hid (HB.out _ _ _ _ HP4.out hg5); obtain ⟨A5, c5, rfl, _, _, _⟩ := own_slice hg5.own; clear hg5)
        go_roundg g2
        case rel => exact HB.out
        case measure => omega
      · rw [if_neg h4] at hts
        have d4 : (l[k].k == 4) = false := by rw [beq_eq_false_iff_ne]; exact h4
        have hmM : m < es.length := by omega
        have HB := Lib.hid (fun (v' : Value) (w' : World) (z : Value) (w4 : World) (h : PaAt W w4 (.slice (some ⟨g3, 0, none⟩) es.length c3) es (partsP (l.take k))) (hg : Grew W (w4.alloc (.cells #[.int .i64 l[k].k, .string ⟨l[k].t.toArray⟩] 105)) w' 105 2 z es[m] v' ((partsP (l.take k))[m].length + 1) (tokCells (partsP (l.take k))[m] ++ #[Value.int .i64 l[k].k, .string ⟨l[k].t.toArray⟩].toList)) =>
          (show PaRel W l g2 (.slice (some ⟨g3, 0, none⟩) es.length c3) (.int .i64 ((k + 1 : Nat) : Int)) (w'.setCell ⟨g3, m, none⟩ v') ∧ w'.cell? ⟨g3, m, none⟩ = some es[m] ∧ w'.frozen? ⟨g3, m, none⟩ = false ∧ g3 < w'.heap.size from by
            obtain ⟨a1, a2, a3, a4⟩ := h.more (t := l[k]) hm hmp hg
            refine ⟨⟨k + 1, es.set m v', by omega, rfl, ?_⟩, a2, a3, a4⟩
            rw [hts]
            exact a1))
        have hel := P4.el m hmM hmp
        have hpm : (partsP (l.take k))[m].length ≤ 200 := by
          have h1 := parts_total (l.take k)
          have h2 : (partsP (l.take k))[m].length ≤ ((partsP (l.take k)).map List.length).sum := by
            have : (partsP (l.take k))[m].length ∈ (partsP (l.take k)).map List.length := List.mem_map.2 ⟨_, List.getElem_mem hmp, rfl⟩
            exact le_sum_mem this
          rw [List.length_take] at h1
          omega
        replace hts := Lib.hid hts
        obtain ⟨k1, k2, k3, k4⟩ := own_cell hrow (k := m) hmM
        clear P4
        generalize (partsP (l.take k))[m] = pm at *
        generalize es[m] = vm at *
        obtain ⟨Am, cm, rfl, hcm1, hcm2, _⟩ := own_slice hel
        generalize l[k].t = tt at *
        generalize l[k].k = tk at *
        have ew : IntKind.i64.wrap ((es.length : Int) - 1) = (m : Int) := by rw [IntKind.wrap_i64]; omega
        have mz : (0 : Int) ≤ (m : Int) := by omega
        have ml : (m : Int) < (es.length : Int) := by omega
        replace hm := Lib.hid hm
        generalize hM : es.length = M at *
        replace hM := Lib.hid hM
        go_upto_region 5 with (fail)
        clear t0 t1 hgb
        generalize w3.alloc (.cells #[.int .i64 tk, .string ⟨tt.toArray⟩] 105) = w4 at *
        generalize w3.heap.size = g5 at *
        obtain ⟨b0, b1⟩ := B4.cells
        have lb := B4.lt
        go_upto_region 7 with (fail)
        go_region_law (refine step_app row_tk W _ (.tmp 28) (.tmp 30) rfl rfl rfl (own_ext hel ((Ext.refl w4).alloc _).drew) (X4.alloc _).drew rfl (reads_new' w4 #[.int .i64 tk, .string ⟨tt.toArray⟩] 105 1 2 rfl rfl) (by simp [Value.oneCell']) (by omega) (by unfold maxLen; omega) ?_; intro v5 w5 hg5; obtain ⟨HE, j1, j2, j3⟩ := HB.out v5 w5 _ w4.drew (HP4.out.to (Ext.refl w4).drew) hg5; obtain ⟨A5, c5, rfl, _, _, _⟩ := own_slice hg5.own; replace HE := Lib.hid HE; clear hg5)
        all_goals
          go_wp2_with fail
          go_roundg g2
          case rel => exact HE.out
          case measure => omega
    | zero =>
      have hd : decide ((k : Int) < (l.length : Int)) = false := by simp; omega
      obtain rfl : k = l.length := by omega
      rw [List.take_length] at HP
      replace HP := Lib.hid HP
      go_wp2_with fail
      try rw [Exit.noGoto_ret]
      go_ret
      exact ⟨_, es, rfl, HP.out⟩
end Go.Proofs.YtjaponmpfdpemaaGreatDoor

set_option linter.unusedVariables false
namespace Go.Proofs.YtjaponmpfdpemaaGreatDoor
open Go.RowKit

def wrongV (e at_ : Int) : Value := .iface 184 (.agg #[.int .i64 e, .int .i64 at_])
set_option maxRecDepth 100000 in
set_option maxHeartbeats 1000000 in
theorem caught_panic (bf : Nat) (e at_ : Int) (x y : Value) (older : List PanicEntry) (w : World) (hB : Blk w bf 36 #[x, y]) :
    CallsD Tryz.prog 90 #[.pointer (some ⟨bf, 0, none⟩)] (.panicking ({ v := wrongV e at_, recovered := false } :: older)) w fun r u' w' =>
      r = .returned (.tuple #[]) ∧ u' = .panicking ({ v := wrongV e at_, recovered := true } :: older) ∧ Blk w' bf 36 #[.int .i64 e, .int .i64 at_] ∧ w.grownBy w' (some bf) := by
  obtain ⟨q, q'⟩ := hB.cells
  have lb := hB.lt
  unfold wrongV
  refine callsD_of_wpS Tryz.func90 rfl fun c₀ cs hu => ?_
  apply wpS_seq
  apply wpS_region
  simp [wpOpsS, go_sem, recoverD, hu, Tryz.ntmps90, Exit.thenS]
  have hta : ∀ w, (Instr.typeAssert (.iface 184 (.agg #[.int .i64 e, .int .i64 at_])) 20 184 true).run Tryz.prog w = .ok (.tuple #[.agg #[.int .i64 e, .int .i64 at_], .bool true]) w := fun _ => by kernel_rfl
  have hnl : ∀ w, (binOp .eql 20 (.iface 184 (.agg #[.int .i64 e, .int .i64 at_])) .nilIface).run Tryz.prog w = .ok (.bool false) w := fun _ => by kernel_rfl
  have ht : (#[Value.pointer (some ⟨bf, 0, none⟩)] ++ (Array.replicate 14 undef).setIfInBounds 4 (.iface 184 (.agg #[.int .i64 e, .int .i64 at_])) : Array Value) = #[.pointer (some ⟨bf, 0, none⟩), undef, undef, undef, undef, .iface 184 (.agg #[.int .i64 e, .int .i64 at_]), undef, undef, undef, undef, undef, undef, undef, undef, undef] := by rfl
  rw [ht]
  have HB := Lib.hid hB
  clear hB
  refine wpS_of_wp ?_
  go_wp2_with fail
  have B2 := (fault_set HB.out (.int .i64 e) (.int .i64 at_)).alloc (.cells #[.int .i64 e, .int .i64 at_] 184)
  have G2 : w.grownBy (((w.setCell ⟨bf, 0, none⟩ (.int .i64 e)).setCell ⟨bf, 1, none⟩ (.int .i64 at_)).alloc (.cells #[.int .i64 e, .int .i64 at_] 184)) (some bf) := only_alloc (only_set (only_set (World.grownBy.refl _ _) (p := ⟨bf, 0, none⟩) (.inl rfl) _) (p := ⟨bf, 1, none⟩) (.inl rfl) _) _
  simp [bodyPostS, results, Tryz.results90]
  exact ⟨B2, G2⟩
/-- Where nothing panics. -/
theorem caught_idle (bf : Nat) (w : World) : CallsD Tryz.prog 90 #[.pointer (some ⟨bf, 0, none⟩)] .returning w fun r u' w' => r = .returned (.tuple #[]) ∧ u' = .returning ∧ w' = w := by
  refine callsD_of_wpS Tryz.func90 rfl fun c₀ cs hu => ?_
  apply wpS_seq
  apply wpS_region
  simp [wpOpsS, go_sem, recoverD, hu, Tryz.ntmps90, Exit.thenS]
  have hnl : ∀ w, (binOp .eql 20 .nilIface .nilIface).run Tryz.prog w = .ok (.bool true) w := fun _ => by kernel_rfl
  have ht : (#[Value.pointer (some ⟨bf, 0, none⟩)] ++ (Array.replicate 14 undef).setIfInBounds 4 .nilIface : Array Value) = #[.pointer (some ⟨bf, 0, none⟩), undef, undef, undef, undef, .nilIface, undef, undef, undef, undef, undef, undef, undef, undef, undef] := by rfl
  rw [ht]
  refine wpS_of_wp ?_
  go_wp2_with fail
  cases c₀
  simp_all [bodyPostS, results, Tryz.results90]
/-- The closure: where there is a fault, no address is told. -/
theorem clo_fault (bf ba : Nat) (e at_ : Int) (a : Ad) (u : FrameMode) (w : World) (hF : Blk w bf 36 #[.int .i64 e, .int .i64 at_]) (hA : Blk w ba 45 (adC a)) (he : e ≠ 0) :
    CallsD Tryz.prog 89 #[.pointer (some ⟨bf, 0, none⟩), .pointer (some ⟨ba, 0, none⟩)] u w fun r u' w' => u' = u ∧ (r = .returned (.tuple #[]) ∧ w' = setAd w ba Ad.zero) := by
  obtain ⟨q0, q0'⟩ := hF.cells
  have lf := hF.lt
  have la := hA.lt
  unfold adC at hA
  obtain ⟨q1, q1'⟩ := hA.cells
  have hb : (e != 0) = true := by simpa using he
  go_enter_d Tryz.func89, Tryz.ntmps89
  go_wp2
  go_end0
  exact ⟨rfl, rfl⟩
theorem clo_none (bf ba : Nat) (at_ : Int) (u : FrameMode) (w : World) (hF : Blk w bf 36 #[.int .i64 0, .int .i64 at_]) :
    CallsD Tryz.prog 89 #[.pointer (some ⟨bf, 0, none⟩), .pointer (some ⟨ba, 0, none⟩)] u w fun r u' w' => u' = u ∧ (r = .returned (.tuple #[]) ∧ w' = w) := by
  obtain ⟨q0, q0'⟩ := hF.cells
  have lf := hF.lt
  go_enter_d Tryz.func89, Tryz.ntmps89
  go_wp2
  go_end0
  exact ⟨rfl, rfl⟩
end Go.Proofs.YtjaponmpfdpemaaGreatDoor
