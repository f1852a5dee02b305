/-
  The statement BookNone: the walk.
-/
import Derived.Test.YtehkmngbknbbaaaEv
import Derived.Test.YtehkmngbknbbaaaEu
import Derived.Test.YtehkmngbknbbaaaEs
set_option linter.unusedVariables false
namespace Go.Proofs.Ytehkmngbknbbaaa
open Go.RowKit Go.Maps

def NoneRel (w : World) (i : Value) (wr : World) : Prop := ∃ k : Nat, k ≤ 2 ∧ i = .int .i64 (k : Int) ∧ Ext w wr
theorem zero_r (w : World) : EntR w Ent.zero none none := ⟨Reads.none_, Reads.none_, by simp [Ent.zero, maxLen], by simp [Ent.zero, maxLen]⟩
set_option maxRecDepth 100000 in
set_option maxHeartbeats 16000000 in
theorem bookNone_any (x : EV) (id line : Int) (w : World) (hok : x.ok w) :
    Calls Try.prog 9 #[.agg ⟨x.cl⟩, .int .i64 id, .int .i64 line] w fun r w' => r = .returned (.bool true) ∧ Ext w w' := by
  have X0 := (Ext.refl w).alloc (.cells #[.int .i64 x.e.k, .int .i64 x.e.id, .int .i64 x.e.of_, .int .i64 x.e.day, .slice x.A x.e.am.length x.c, .slice x.A' x.e.tax.length x.c'] 66)
  have B0 := Blk.new w 66 #[.int .i64 x.e.k, .int .i64 x.e.id, .int .i64 x.e.of_, .int .i64 x.e.day, .slice x.A x.e.am.length x.c, .slice x.A' x.e.tax.length x.c']
  show Calls Try.prog 9 #[entV x.e x.A x.A' x.c x.c', .int .i64 id, .int .i64 line] w _
  clear hok
  go_enter Try.func9, Try.ntmps9
  go_wp2_with fail
  obtain ⟨g3, hg3⟩ : ∃ g3, w.heap.size = g3 := ⟨_, rfl⟩
  have hs1 : w.heap.size + 1 = (w.alloc (.cells #[.int .i64 x.e.k, .int .i64 x.e.id, .int .i64 x.e.of_, .int .i64 x.e.day, .slice x.A x.e.am.length x.c, .slice x.A' x.e.tax.length x.c'] 66)).heap.size := by simp
  generalize w.alloc (.cells #[.int .i64 x.e.k, .int .i64 x.e.id, .int .i64 x.e.of_, .int .i64 x.e.day, .slice x.A x.e.am.length x.c, .slice x.A' x.e.tax.length x.c'] 66) = W1 at *
  have R1 : Reads _ _ 6 (some ⟨w.heap.size + 1, 0, none⟩) 1 (evCells [x]) := reads_new' W1 #[.int .i64 x.e.k, .int .i64 x.e.id, .int .i64 x.e.of_, .int .i64 x.e.day, .slice x.A x.e.am.length x.c, .slice x.A' x.e.tax.length x.c'] 66 1 6 hs1 rfl
  have Y1 := (Ext.refl W1).alloc (.cells #[.int .i64 x.e.k, .int .i64 x.e.id, .int .i64 x.e.of_, .int .i64 x.e.day, .slice x.A x.e.am.length x.c, .slice x.A' x.e.tax.length x.c'] 66)
  refine (big_any [x] (some ⟨w.heap.size + 1, 0, none⟩) 1 1 _ R1 (by simp [maxLen]) (by omega)).mono ?_
  rintro r w2 ⟨b, rfl, _, rfl⟩
  have B1 := B0.ext Y1
  have X1 := X0.trans Y1
  clear R1 X0 B0 Y1 hs1
  generalize W1.alloc (.cells #[.int .i64 x.e.k, .int .i64 x.e.id, .int .i64 x.e.of_, .int .i64 x.e.day, .slice x.A x.e.am.length x.c, .slice x.A' x.e.tax.length x.c'] 66) = W2 at *
  rw [hg3] at B1 ⊢
  replace hg3 := Lib.hid hg3
  cases b
  case true =>
    go_wp2_with fail
    refine (awake29_any _).mono ?_
    rintro r w3 ⟨rfl, hx⟩
    go_wp2_with fail
    go_ret
    exact ⟨rfl, X1.trans hx⟩
  go_wp2_with fail
  have BA := (Blk.new W2 85 #[.slice none 0 0, .map none]).alloc (.cells #[.pointer none, .pointer (some ⟨W2.heap.size, 0, none⟩)] 62)
  have BP : Blk _ (W2.heap.size + 1) _ _ := Blk.twoE W2 85 62 #[.slice none 0 0, .map none] #[.pointer none, .pointer (some ⟨W2.heap.size, 0, none⟩)]
  have Y := ((Ext.refl W2).alloc (.cells #[.slice none 0 0, .map none] 85)).alloc (.cells #[.pointer none, .pointer (some ⟨W2.heap.size, 0, none⟩)] 62)
  have B3 := B1.ext Y
  have X4 := X1.trans Y
  clear B1 X1 Y
  generalize (W2.alloc (.cells #[.slice none 0 0, .map none] 85)).alloc (.cells #[.pointer none, .pointer (some ⟨W2.heap.size, 0, none⟩)] 62) = W4 at *
  generalize hgp : W2.heap.size + 1 = gp at *
  generalize W2.heap.size = ga at *
  replace hgp := Lib.hid hgp
  have HF := Lib.hid (fun W (h : Ext W4 W) => And.intro (B3.ext h) (And.intro (BA.ext h) (BP.ext h)))
  clear B3 BA BP
  go_loopw [9] (fun i wr => NoneRel W4 i wr) (fun i _ => 2 - (intOf i).toNat)
  case atStart => exact ⟨0, by omega, rfl, Ext.refl _⟩
  case round =>
    obtain ⟨k, hk, rfl, hx⟩ := hrel
    by_cases hlt : k < 2
    · have hd : decide ((k : Int) < 2) = true := by simp; omega
      obtain ⟨B3, BA, BP⟩ := HF.out _ hx
      have HN : ∀ v, (k = 0 ∧ v = .pointer none) ∨ (k = 1 ∧ v = .pointer (some ⟨ga, 0, none⟩)) → NoneB wr v := fun v h => by
        rcases h with ⟨_, rfl⟩ | ⟨_, rfl⟩
        · exact .inl rfl
        · exact .inr ⟨ga, rfl, BA⟩
      have hkk : k = 0 ∨ k = 1 := by omega
      have HNR := Lib.hid (fun W (h : Ext wr W) => (show NoneRel W4 (.int .i64 ((k + 1 : Nat) : Int)) W from ⟨k + 1, by omega, rfl, hx.trans h⟩))
      obtain ⟨p, p'⟩ := BP.cells
      have HB3 := Lib.hid (fun W (h : Ext wr W) => (B3.ext h).cells)
      clear HF B3 BA BP hx hk hlt
      rcases hkk with rfl | rfl
      case' inl =>
        have HV := Lib.hid (HN (.pointer none) (.inl ⟨rfl, rfl⟩))
      case' inr =>
        have HV := Lib.hid (HN (.pointer (some ⟨ga, 0, none⟩)) (.inr ⟨rfl, rfl⟩))
      all_goals
        clear HN
        obtain ⟨q, q'⟩ := HB3.out _ (Ext.refl wr)
        go_wp2_with fail
        refine (add_n HV.out x.e x.A x.A' x.c x.c').mono ?_
        rintro r w5 ⟨rfl, hx5⟩
        go_wp2_with fail
        refine (entry_n (HV.out.ext hx5) id).mono ?_
        rintro r w6 ⟨rfl, hx6⟩
        have X6 := hx5.trans hx6
        clear p p' q q' hx5 hx6
        have BZ := Blk.new w6 66 #[.int .i64 0, .int .i64 0, .int .i64 0, .int .i64 0, .slice none 0 0, .slice none 0 0]
        have XZ := X6.alloc (.cells #[.int .i64 0, .int .i64 0, .int .i64 0, .int .i64 0, .slice none 0 0, .slice none 0 0] 66)
        obtain ⟨q, q'⟩ := HB3.out _ XZ
        go_wp2_with fail
        refine (left_n (HV.out.ext XZ) id line).mono ?_
        rintro r w7 ⟨rfl, rfl⟩
        go_wp2_with fail
        refine (may_n (HV.out.ext XZ) x.e x.A x.A' x.c x.c').mono ?_
        rintro r w8 ⟨rfl, hx8⟩
        have X8 := XZ.trans hx8
        obtain ⟨z, z'⟩ := (BZ.ext hx8).cells
        clear q q' BZ hx8
        go_wp2_with fail
        refine (sameEntry_any Ent.zero Ent.zero none none none none 0 0 0 0 _ (zero_r _) (zero_r _)).mono ?_
        rintro r w9 ⟨rfl, hx9⟩
        have X9 := X8.trans hx9
        simp only [decide_true]
        go_wp2_with fail
        refine (voided_n (HV.out.ext X9) id).mono ?_
        rintro r w10 ⟨rfl, rfl⟩
        go_wp2_with fail
        refine (lines_n (HV.out.ext X9) id).mono ?_
        rintro r w10 ⟨rfl, rfl⟩
        go_wp2_with fail
        refine (moves_n (HV.out.ext X9) id).mono ?_
        rintro r w10 ⟨rfl, rfl⟩
        go_wp2_with fail
        refine (ids_n (HV.out.ext X9)).mono ?_
        rintro r w10 ⟨rfl, rfl⟩
        go_wp2_with fail
        go_roundw
        case rel => exact HNR.out _ X9
        case measure => simp [intOf]
    · have hd : decide ((k : Int) < 2) = false := by simp; omega
      go_wp2_with fail
      refine (awake29_any _).mono ?_
      rintro r w5 ⟨rfl, hx5⟩
      go_wp2_with fail
      go_ret
      exact ⟨rfl, X4.trans (hx.trans hx5)⟩
end Go.Proofs.Ytehkmngbknbbaaa
