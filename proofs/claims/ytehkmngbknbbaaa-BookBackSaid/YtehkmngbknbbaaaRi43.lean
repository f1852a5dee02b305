/-
  book.Read: the walk.
-/
import Derived.Test.YtehkmngbknbbaaaRi42
import Derived.Test.YtehkmngbknbbaaaRi33
set_option linter.unusedVariables false
namespace Go.Proofs.Ytehkmngbknbbaaa
open Go.RowKit Go.Maps

theorem hst_4 (b : List UInt8) : hst b 4 = ((((((RS.start b).num 1 3 5).2.num 1 1099511627775 5).2.num 0 1099511627775 5).2.num 0 3652058 5).2, #[.int .i64 ((RS.start b).num 1 3 5).1, .int .i64 (((RS.start b).num 1 3 5).2.num 1 1099511627775 5).1, .int .i64 ((((RS.start b).num 1 3 5).2.num 1 1099511627775 5).2.num 0 1099511627775 5).1, .int .i64 (((((RS.start b).num 1 3 5).2.num 1 1099511627775 5).2.num 0 1099511627775 5).2.num 0 3652058 5).1, .slice none 0 0, .slice none 0 0]) := rfl
theorem E4Rel.next {w w1 W : World} {b5 k m : Nat} {b : List UInt8} (hk : k < 4) (T : SE w w1 W b5 (hst b (k + 1)).1 (hst b k).2) (B : Blk W (b5 + 1) 153 (tabE b5)) (e : m = k + 1) :
    E4Rel w w1 b5 b (.int .i64 (m : Int)) (W.setCell ⟨b5, k, none⟩ (.int .i64 ((hst b k).1.num (loP k) (hiP k) 5).1)) := by
  subst e
  exact ⟨k + 1, by omega, rfl, T.set k _, B.far (p := ⟨b5, k, none⟩) (by show b5 + 1 ≠ b5; omega) _⟩

theorem hst_at (b : List UInt8) : ∀ k, k < 4 → (hst b k).2[k]? = some (.int .i64 0)
  | 0, _ => rfl
  | 1, _ => rfl
  | 2, _ => rfl
  | 3, _ => rfl
  | n + 4, h => absurd h (by omega)
theorem AmRel.next {w w1 W : World} {b5 : Nat} {z0 z1 z2 z3 : Int} {n k m : Nat} {s0 : RS} {A1 A9 : Option Addr} {c1 c9 : Nat} {xs : List Value} (hk : k < n)
    (T : SE w w1 W b5 (amsO (k + 1) s0).2 #[.int .i64 z0, .int .i64 z1, .int .i64 z2, .int .i64 z3, .slice A1 k c1, .slice none 0 0])
    (hown : W.ownsRow w1.heap.size 3 1 (.slice A9 (k + 1) c9) (k + 1) xs) (hxs : xs = iV (amsO k s0).1 ++ [.int .i64 ((amsO k s0).2.num 0 4611686018427387904 5).1]) (e : m = k + 1) :
    AmRel w w1 b5 z0 z1 z2 z3 n s0 (.int .i64 (m : Int)) (W.setCell ⟨b5, 4, none⟩ (.slice A9 (k + 1) c9)) := by
  subst e hxs
  refine ⟨k + 1, A9, c9, by omega, rfl, T.set 4 _, ?_⟩
  have := own_set hown (a := ⟨b5, 4, none⟩) (own_blk_ne hown T.h5 (by decide)) (.slice A9 (k + 1) c9)
  rw [amsO_snoc]
  simpa [iV] using this
theorem Blk.two' (w : World) (t t' : TypeId) (cs cs' : Array Value) : Blk ((w.alloc (.cells cs t)).alloc (.cells cs' t')) (w.heap.size + 1) t' cs' := by
  have := Blk.new (w.alloc (.cells cs t)) t' cs'
  rwa [show (w.alloc (.cells cs t)).heap.size = w.heap.size + 1 by simp] at this
theorem own_slice' {w : World} {base : Nat} {e : TypeId} {size n c : Nat} {A : Option Addr} {xs : List Value} (h : w.ownsRow base e size (.slice A n c) n xs) : n ≤ c ∧ c ≤ maxLen ∧ Reads w w.heap.size size A n xs := by
  obtain ⟨A', c', e, h1, h2, h3⟩ := own_slice h
  injection e with e _ ec
  subst e ec
  exact ⟨h1, h2, h3⟩
/-- Where a slice from k on lies. -/
def cutB (A : Option Addr) (cap k size : Nat) : Option Addr := if cap = k then A else A.map (·.add (k * size))
theorem bV_drop (l : List UInt8) (n : Nat) : bV (l.drop n) = (bV l).drop (n * 1) := by simp [bV]
theorem readTaxN_any (b : List UInt8) (n : Nat) (A : Option Addr) (cap : Nat) (w : World) (hn : b.length = n) (hr : Reads w w.heap.size 1 A n (bV b)) (hm : n ≤ 1000000) :
    Calls Try.prog 61 #[.slice A n cap] w fun r W => ∃ A c, r = .returned (.tuple #[.slice A (readTaxP b).1.length c, .agg #[.int .i64 (readTaxP b).2.1, .int .i64 ((readTaxP b).2.2 : Int)]]) ∧ W.ownsRow w.heap.size 46 6 (.slice A (readTaxP b).1.length c) (readTaxP b).1.length (txCells (readTaxP b).1) ∧ Ext w W := by
  subst hn
  exact readTax_any b A cap w hr hm
theorem bcheckN_any (k i o d : Int) (am : List Int) (tx : List Tx) (n m : Nat) (C : Int) (hn : am.length = n) (hm : tx.length = m) (hC : (⟨k, i, o, d, am, tx⟩ : Ent).check = C) (Aa At : Option Addr) (ca ct : Nat) (w : World) (h : EntR w ⟨k, i, o, d, am, tx⟩ Aa At) :
    Calls Try.prog 58 #[.agg #[.int .i64 k, .int .i64 i, .int .i64 o, .int .i64 d, .slice Aa n ca, .slice At m ct]] w fun r w' => r = .returned (.int .i64 C) ∧ Ext w w' := by
  subst hn hm hC
  exact bcheck_any ⟨k, i, o, d, am, tx⟩ Aa At ca ct w h
/-- The end with an entry. -/
theorem SE.out {w w1 W : World} {b5 : Nat} {s : RS} {cs : Array Value} {e : Ent} {Aa At : Option Addr} {ca ct : Nat} (h : SE w w1 W b5 s cs) (oa : W.ownsRow w.heap.size 3 1 (.slice Aa e.am.length ca) e.am.length (iV e.am)) (ot : W.ownsRow w.heap.size 46 6 (.slice At e.tax.length ct) e.tax.length (txCells e.tax)) (u0 u1 u2 u3 u4 u5 : Value) :
    EntOut w ((((((W.setCell ⟨w.heap.size, 0, none⟩ u0).setCell ⟨w.heap.size, 1, none⟩ u1).setCell ⟨w.heap.size, 2, none⟩ u2).setCell ⟨w.heap.size, 3, none⟩ u3).setCell ⟨w.heap.size, 4, none⟩ u4).setCell ⟨w.heap.size, 5, none⟩ u5) e Aa At ca ct :=
  ⟨own_put6 oa (own_blk_ne oa h.h2 (by decide)) _ _ _ _ _ _, own_put6 ot (own_blk_ne ot h.h2 (by decide)) _ _ _ _ _ _, set6' h.ext (Nat.le_refl _) _ _ _ _ _ _⟩
set_option maxRecDepth 100000 in
set_option maxHeartbeats 8000000 in
theorem bread_any (b : List UInt8) (A : Option Addr) (cap : Nat) (w : World) (hr : Reads w w.heap.size 1 A b.length (bV b)) (hm : b.length ≤ 1000000) (hbc : b.length ≤ cap) (hcm : cap ≤ maxLen) :
    Calls Try.prog 63 #[.slice A b.length cap] w fun r w' => ∃ Aa At ca ct, r = .returned (.tuple #[entV (readEnt b).1 Aa At ca ct, .int .i64 (readEnt b).2]) ∧ EntOut w w' (readEnt b).1 Aa At ca ct := by
  have HRe := Lib.hid (show readEnt b = readEnt b from rfl)
  obtain ⟨R, hRe⟩ : ∃ R, readEnt b = R := ⟨_, rfl⟩
  rw [hRe]
  replace HRe := Lib.hid hRe
  clear hRe
  have HRB := Lib.hid (fun W (h : Ext w W) => hr.extB (Nat.le_refl _) h |>.more h.size)
  have B2 := Blk.new w 66 #[.int .i64 0, .int .i64 0, .int .i64 0, .int .i64 0, .slice none 0 0, .slice none 0 0]
  have X0 := (Ext.refl w).alloc (.cells #[.int .i64 0, .int .i64 0, .int .i64 0, .int .i64 0, .slice none 0 0, .slice none 0 0] 66)
  have Z0 := Lib.hid (show (w.alloc (.cells #[.int .i64 0, .int .i64 0, .int .i64 0, .int .i64 0, .slice none 0 0, .slice none 0 0] 66)).heap.size = w.heap.size + 1 by simp)
  replace B2 := Lib.hid B2
  replace X0 := Lib.hid X0
  clear hr
  go_enter Try.func63, Try.ntmps63
  go_wp2_with fail
  refine (onew_any b A cap _ (HRB.out _ X0.out) hm).mono ?_
  rintro e w2 ⟨w1, rfl, hew, hR1, hx1⟩
  go_wp2_with fail
  have S1 : SE w w1 ((w2.alloc (.cells zEnt 66)).alloc (.cells (tabE w2.heap.size) 153)) w2.heap.size (RS.start b) zEnt := ⟨(hR1.ext ((Ext.refl w2).alloc _)).ext ((Ext.refl _).alloc _), (((B2.out.ext hew).ext hx1).alloc _).alloc _, (Blk.new w2 _ _).alloc _, X0.out.trans hew, (hx1.alloc _).alloc _, by have := hew.size; rw [Z0.out] at this; omega, hR1.lt⟩
  have B20 : Blk ((w2.alloc (.cells zEnt 66)).alloc (.cells (tabE w2.heap.size) 153)) (w2.heap.size + 1) 153 (tabE w2.heap.size) := Blk.two' w2 _ _ _ _
  unfold zEnt tabE at S1 B20
  clear B2 X0 Z0 hR1 hx1 hew
  generalize (w2.alloc (.cells #[.int .i64 0, .int .i64 0, .int .i64 0, .int .i64 0, .slice none 0 0, .slice none 0 0] 66)).alloc (.cells #[.pointer (some ⟨w2.heap.size, 0, none⟩), .int .i64 1, .int .i64 3, .pointer (some ⟨w2.heap.size, 1, none⟩), .int .i64 1, .int .i64 1099511627775, .pointer (some ⟨w2.heap.size, 2, none⟩), .int .i64 0, .int .i64 1099511627775, .pointer (some ⟨w2.heap.size, 3, none⟩), .int .i64 0, .int .i64 3652058] 153) = W at S1 B20 ⊢
  generalize w2.heap.size = b5 at S1 B20 ⊢
  have HS1 := Lib.hid (show E4Rel w w1 b5 b (.int .i64 ((0 : Nat) : Int)) W from ⟨0, by omega, rfl, S1, B20⟩)
  clear S1 B20
  go_loopw [22] (fun i wr => E4Rel w w1 b5 b i wr) (fun i _ => 4 - (intOf i).toNat)
  case atStart => exact HS1.out
  case round =>
    clear HS1
    obtain ⟨k, hk, rfl, hS, hB⟩ := hrel
    by_cases hlt : k < 4
    · have hd : decide ((k : Int) < 4) = true := by simp; omega
      obtain ⟨t1, t2, t3⟩ := tabE_at b5 k hlt
      have c0 := (hB.cell (k * 3)).trans t1
      have c1 := (hB.cell (k * 3 + 1)).trans t2
      have c2 := (hB.cell (k * 3 + 2)).trans t3
      clear t1 t2 t3
      have HN := Lib.hid (fun (W' : World) (T : SE w w1 W' b5 (hst b (k + 1)).1 (hst b k).2) (B : Blk W' (b5 + 1) 153 (tabE b5)) => E4Rel.next (m := k + 1) hlt T B rfl)
      have h5k := hst_at b k hlt
      have HT := Lib.hid (show (hst b (k + 1)).1 = ((hst b k).1.num (loP k) (hiP k) 5).2 from rfl)
      have Bx := Blk.new wr 153 #[.pointer (some ⟨b5, k, none⟩), .int .i64 (loP k), .int .i64 (hiP k)]
      generalize loP k = lo at *
      generalize hiP k = hi at *
      go_wp2_with fail
      have T7 := hS.to ((Ext.refl wr).alloc (.cells #[.pointer (some ⟨b5, k, none⟩), .int .i64 lo, .int .i64 hi] 153))
      have B7 := hB.alloc (.cells #[.pointer (some ⟨b5, k, none⟩), .int .i64 lo, .int .i64 hi] 153)
      have g75 : w1.heap.size < wr.heap.size := Nat.lt_trans hS.l5 hS.h5.lt
      have g55 : w1.heap.size < b5 + 1 := by have := hS.l5; omega
      clear hS hB c0 c1 c2
      generalize wr.alloc (.cells #[.pointer (some ⟨b5, k, none⟩), .int .i64 lo, .int .i64 hi] 153) = v7 at *
      generalize wr.heap.size = g7 at *
      obtain ⟨q, q'⟩ := Bx.cells
      have lx := Bx.lt
      go_region_law (go_simp; go_at_call 72; refine (oint_any (hst b k).1 lo hi w1.heap.size _ (T7.rd.ext (Ext.refl v7).drew)).mono ?_; rintro r v8 ⟨rfl, hR, hG⟩; have T8 := (T7.to (Ext.refl v7).drew).call hR hG; have Bx8 := (Bx.ext (Ext.refl v7).drew).grown hG (by intro e; have := Option.some.inj e; omega); have B8 := (B7.ext (Ext.refl v7).drew).grown hG (by intro e; have := Option.some.inj e; omega); obtain ⟨q8, q8'⟩ := T8.h5.cells; obtain ⟨qx, qx'⟩ := Bx8.cells; have lb8 := T8.h5.lt)
      all_goals
        go_wp2_with fail
        go_roundw
        case rel =>
          have := HN.out v8 (by rw [HT.out]; exact T8) B8
          first | exact this | (simpa using this)
        case measure => simp [intOf]; omega
    · have h4 : k = 4 := by omega
      subst h4
      rw [hst_4] at hS
      simp only at hS
      generalize h0 : (RS.start b).num 1 3 5 = p0 at hS
      obtain ⟨z0, s0⟩ := p0
      simp only at hS
      generalize h1 : s0.num 1 1099511627775 5 = p1 at hS
      obtain ⟨z1, s1⟩ := p1
      simp only at hS
      generalize h2 : s1.num 0 1099511627775 5 = p2 at hS
      obtain ⟨z2, s2⟩ := p2
      simp only at hS
      generalize h3 : s2.num 0 3652058 5 = p3 at hS
      obtain ⟨z3, s3⟩ := p3
      simp only at hS
      replace h0 := Lib.hid h0
      replace h1 := Lib.hid h1
      replace h2 := Lib.hid h2
      replace h3 := Lib.hid h3
      go_wp2_with fail
      refine (ocount_any s3 100 w1.heap.size _ hS.rd).mono ?_
      rintro r v5 ⟨rfl, hR, hG⟩
      have T5 := hS.call hR hG
      generalize h5 : s3.num 0 100 3 = p5 at T5 ⊢
      obtain ⟨z5, s5⟩ := p5
      simp only at T5
      have HP := Lib.hid (show eheadP b = ⟨z0, z1, z2, z3, z5, s5⟩ by unfold eheadP; simp only [h0.out, h1.out, h2.out, h3.out, h5])
      have hn := ehead_n b
      rw [HP.out] at hn
      obtain ⟨hn0, hn1⟩ := hn
      simp only at hn0 hn1
      clear h0 h1 h2 h3 h5 hS hR hG hB hlt
      obtain ⟨n, rfl⟩ : ∃ n : Nat, z5 = (n : Int) := ⟨z5.toNat, by omega⟩
      have hn2 : n ≤ 100 := by omega
      clear hn0 hn1
      go_wp2_with fail
      have HA := Lib.hid (show AmRel w w1 b5 z0 z1 z2 z3 n s5 (.int .i64 ((0 : Nat) : Int)) v5 from ⟨0, none, 0, by omega, rfl, T5, World.ownsRow_nil _ _ _ _⟩)
      clear T5
      clear wr
      go_loopw [38] (fun i wr => AmRel w w1 b5 z0 z1 z2 z3 n s5 i wr) (fun i _ => n - (intOf i).toNat)
      case atStart => exact HA.out
      case round =>
        clear HA
        obtain ⟨k, A4, c4, hk, rfl, hS, hown⟩ := hrel
        by_cases hlt : k < n
        · have hd : decide ((k : Int) < (n : Int)) = true := by simp; omega
          have HN := Lib.hid (fun (W : World) (A9 : Option Addr) (c9 : Nat) (xs : List Value) T ho hxs => AmRel.next (w := w) (w1 := w1) (W := W) (b5 := b5) (z0 := z0) (z1 := z1) (z2 := z2) (z3 := z3) (s0 := s5) (m := k + 1) (A1 := A4) (c1 := c4) (A9 := A9) (c9 := c9) (xs := xs) hlt T ho hxs rfl)
          have HT := Lib.hid (show (amsO (k + 1) s5).2 = ((amsO k s5).2.num 0 4611686018427387904 5).2 by rw [amsO_snoc])
          obtain ⟨q5, q5'⟩ := hS.h5.cells
          go_wp2_with fail
          go_region_law (first
            | (go_simp; go_at_call 72; refine (oint_any (amsO k s5).2 0 4611686018427387904 w1.heap.size _ (hS.rd.ext (Ext.refl wr).drew)).mono ?_; rintro r v8 ⟨rfl, hR, hG⟩; have T8 := (hS.to (Ext.refl wr).drew).call hR hG; have hown8 := World.ownsRow.kept (own_ext hown (Ext.refl wr).drew) hG (.inr (own_blk_ne hown hS.rd.ex.choose_spec.choose_spec.1 (by decide))); have lb8 := T8.h5.lt; obtain ⟨q8, q8'⟩ := T8.h5.cells)
            | (refine step_app1 row_int w1 v8 (.tmp 41) (.tmp 44) rfl rfl rfl hown8 T8.e1 rfl rfl rfl (by simp [Value.oneCell']) (by omega) (by unfold maxLen; omega) ?_; intro v9 w9 hg9; have T9 := (T8.to ((Ext.refl v8).alloc _)).app (own_ext hown8 ((Ext.refl v8).alloc _)) hg9; have hown9 := hg9.own; obtain ⟨A9, c9, rfl, hc9, hm9, hr9⟩ := own_slice hown9; obtain ⟨q9, q9'⟩ := T9.h5.cells))
          all_goals
            go_wp2_with fail
            go_roundw
            case rel =>
              have := HN.out _ A9 c9 _ (by rw [HT.out]; exact T9) hown9 rfl
              first | exact this | (simpa using this)
            case measure => simp [intOf]; omega
        · have hkn : k = n := by omega
          have hd : decide ((k : Int) < (n : Int)) = false := by simp; omega
          subst hkn
          obtain ⟨am, s', hA⟩ : ∃ am s', amsO k s5 = (am, s') := ⟨_, _, rfl⟩
          have hlen := amsO_len k s5
          have hb' := amsO_b k s5
          have hb2 := ehead_b b
          rw [HP.out] at hb2
          simp only at hb2
          rw [hA] at hS hown hlen hb'
          simp only at hS hown hlen hb'
          rw [hb2] at hb'
          clear hb2
          subst hlen
          have HE := Lib.hid (show R = if s'.fe ≠ 0 then (Ent.zero, 4)
            else if z0 = 1 then
              (if (readTaxP (b.drop s'.at_)).2.1 ≠ 0 then (Ent.zero, 4)
               else if (⟨z0, z1, z2, z3, am, (readTaxP (b.drop s'.at_)).1⟩ : Ent).check ≠ 0 then (Ent.zero, 4)
               else (⟨z0, z1, z2, z3, am, (readTaxP (b.drop s'.at_)).1⟩, 0))
            else if s'.at_ < b.length then (Ent.zero, 4)
            else if (⟨z0, z1, z2, z3, am, []⟩ : Ent).check ≠ 0 then (Ent.zero, 4)
            else (⟨z0, z1, z2, z3, am, []⟩, 0) by
            rw [← HRe.out]
            unfold readEnt
            rw [HP.out]
            simp only [Int.toNat_natCast, hA])
          have hat := hS.rd.ok.1
          rw [hb'] at hat
          replace hb' := Lib.hid hb'
          clear HP hA
          have hfl : ∀ (a b : Value) (w : World), (Instr.field 37 (.agg #[a, b]) 0).run Try.prog w = .ok a w := fun _ _ _ => rfl
          go_wp2_with fail
          refine (ofaultR_any s' w1.heap.size _ hS.rd).mono ?_
          rintro r v6 ⟨rfl, hx6⟩
          have T6 := hS.to hx6
          have o6 := own_ext hown hx6
          clear hS hown hx6 wr hk hd
          obtain ⟨q2, q2'⟩ := T6.h2.cells
          unfold zEnt at q2
          obtain ⟨q5, q5'⟩ := T6.h5.cells
          by_cases hf : s'.fe = 0
          case neg =>
            have hfb : (s'.fe != 0) = true := by simpa using hf
            have HE2 := Lib.hid (HE.out.trans (if_pos hf))
            replace hf := Lib.hid hf
            clear HE
            go_wp2_with fail
            refine bodyPost_ret (results_ct rfl rfl (ld_ent (put6' T6.h2))) rfl ⟨none, none, 0, 0, by rw [HE2.out]; rfl, ?_⟩
            rw [HE2.out]
            exact T6.out (e := Ent.zero) (World.ownsRow_nil _ _ _ _) (World.ownsRow_nil _ _ _ _) _ _ _ _ _ _
          have hfb : (s'.fe != 0) = false := by simpa using hf
          have HE1 := HE.out.trans (if_neg (by simpa using hf))
          replace hf := Lib.hid hf
          clear HE
          by_cases hk : z0 = 1
          · subst hk
            rw [if_pos rfl] at HE1
            replace HE1 := Lib.hid HE1
            unfold maxLen at hcm
            have hsl : ∀ W, (Instr.slice 27 (.slice A b.length cap) (some (.int .i64 (s'.at_ : Int))) none none).run Try.prog W = .ok (.slice (cutB A cap s'.at_ 1) (b.length - s'.at_) (cap - s'.at_)) W := by
              intro W
              rw [run_slice_l W 27 A b.length cap Try.underlying27 .i64 (s'.at_ : Int) (by omega) (by omega)]
              simp [go_sem, sliced, cutB]
            go_wp2_with fail
            refine (oat_any s' w1.heap.size _ T6.rd).mono ?_
            rintro r v7 ⟨rfl, rfl⟩
            have hrc := (HRB.out _ T6.ext).cut hat hbc
            rw [← bV_drop] at hrc
            have HRC := Lib.hid (show Reads v6 v6.heap.size 1 (cutB A cap s'.at_ 1) (b.length - s'.at_) (bV (b.drop s'.at_)) from hrc)
            clear hrc
            go_wp2_with fail
            refine (readTaxN_any (b.drop s'.at_) (b.length - s'.at_) (cutB A cap s'.at_ 1) (cap - s'.at_) _ (List.length_drop ..) HRC.out (by omega)).mono ?_
            rintro r v8 ⟨A8, c8, rfl, ho8, hx8⟩
            generalize readTaxP (b.drop s'.at_) = Q at *
            obtain ⟨ql, qe, qa⟩ := Q
            simp only at ho8 HE1 ⊢
            clear hsl HRC HRB q2 q2' q5 q5'
            have hs8 : w.heap.size ≤ v6.heap.size := T6.ext.size
            have Y := hx8.alloc (.cells #[.int .i64 qe, .int .i64 (qa : Int)] 37)
            have B9 := Blk.new v8 37 #[.int .i64 qe, .int .i64 (qa : Int)]
            have T9 := T6.to Y
            have OT := Lib.hid (own_base (ho8.alloc (.cells #[.int .i64 qe, .int .i64 (qa : Int)] 37)) hs8)
            have OA := Lib.hid (own_base (own_ext o6 Y) T6.ew.size)
            clear ho8 o6 T6 hx8 Y
            obtain ⟨q9, q9'⟩ := B9.cells
            obtain ⟨p2, p2'⟩ := T9.h2.cells
            unfold zEnt at p2
            obtain ⟨p5, p5'⟩ := T9.h5.cells
            by_cases hq : qe = 0
            case neg =>
              have hqb : (qe != 0) = true := by simpa using hq
              have HE2 := Lib.hid (HE1.out.trans (if_pos hq))
              replace hq := Lib.hid hq
              go_wp2_with fail
              refine bodyPost_ret (results_ct rfl rfl (ld_ent (put6' T9.h2))) rfl ⟨none, none, 0, 0, by rw [HE2.out]; rfl, ?_⟩
              rw [HE2.out]
              exact T9.out (e := Ent.zero) (World.ownsRow_nil _ _ _ _) (World.ownsRow_nil _ _ _ _) _ _ _ _ _ _
            have hqb : (qe != 0) = false := by simpa using hq
            have HE2 := Lib.hid (HE1.out.trans (if_neg (by simpa using hq)))
            replace hq := Lib.hid hq
            clear HE1
            obtain ⟨l1, l2, ra9⟩ := own_slice' OA.out
            obtain ⟨l3, l4, rt9⟩ := own_slice' OT.out
            have RA9 := Lib.hid (ra9.ext (Ext.refl _))
            have G5 := T9.l5
            have S9 := Lib.hid (T9.set 5 (.slice A8 ql.length c8))
            have OA9 := Lib.hid (own_set OA.out (a := ⟨b5, 5, none⟩) (own_blk_ne OA.out T9.h5 (by decide)) (.slice A8 ql.length c8))
            have OT9 := Lib.hid (own_set OT.out (a := ⟨b5, 5, none⟩) (own_blk_ne OT.out T9.h5 (by decide)) (.slice A8 ql.length c8))
            clear ra9 rt9 OA OT RA9
            have HR9 := Lib.hid (show EntR _ ⟨1, z1, z2, z3, am, ql⟩ A4 A8 from ⟨(own_slice' OA9.out).2.2, (own_slice' OT9.out).2.2, Nat.le_trans l1 l2, Nat.le_trans l3 l4⟩)
            obtain ⟨C, hC⟩ : ∃ C, (⟨1, z1, z2, z3, am, ql⟩ : Ent).check = C := ⟨_, rfl⟩
            rw [hC] at HE2
            replace hC := Lib.hid hC
            go_wp2_with fail
            clear q9 q9' p2 p2' p5 p5'
            generalize (v8.alloc (.cells #[.int .i64 qe, .int .i64 (qa : Int)] 37)).setCell ⟨b5, 5, none⟩ (.slice A8 ql.length c8) = V9 at *
            refine (bcheckN_any 1 z1 z2 z3 am ql am.length ql.length C rfl rfl hC.out A4 A8 c4 c8 _ HR9.out).mono ?_
            rintro r v10 ⟨rfl, hx10⟩
            have S10 := S9.out.to hx10
            have OA10 := Lib.hid (own_ext OA9.out hx10)
            have OT10 := Lib.hid (own_ext OT9.out hx10)
            obtain ⟨p2, p2'⟩ := S10.h2.cells
            unfold zEnt at p2
            obtain ⟨p5, p5'⟩ := S10.h5.cells
            simp only [Array.setIfInBounds] at p5
            by_cases hc : C = 0
            · have hcb : (C != 0) = false := by simpa using hc
              have HE3 := Lib.hid (HE2.out.trans (if_neg (by simpa using hc)))
              replace hc := Lib.hid hc
              go_wp2_with fail
              refine bodyPost_ret (results_ct rfl rfl (ld_ent (put6' S10.h2))) rfl ⟨A4, A8, c4, c8, by rw [HE3.out]; rfl, ?_⟩
              rw [HE3.out]
              exact S10.out (e := ⟨1, z1, z2, z3, am, ql⟩) OA10.out OT10.out _ _ _ _ _ _
            · have hcb : (C != 0) = true := by simpa using hc
              have HE3 := Lib.hid (HE2.out.trans (if_pos hc))
              replace hc := Lib.hid hc
              go_wp2_with fail
              refine bodyPost_ret (results_ct rfl rfl (ld_ent (put6' S10.h2))) rfl ⟨none, none, 0, 0, by rw [HE3.out]; rfl, ?_⟩
              rw [HE3.out]
              exact S10.out (e := Ent.zero) (World.ownsRow_nil _ _ _ _) (World.ownsRow_nil _ _ _ _) _ _ _ _ _ _
          · have hkb : (z0 == 1) = false := by simpa using hk
            rw [if_neg hk] at HE1
            replace hk := Lib.hid hk
            by_cases hlt : s'.at_ < b.length
            · have hd : decide ((s'.at_ : Int) < (b.length : Int)) = true := by simpa using hlt
              rw [if_pos hlt] at HE1
              replace HE1 := Lib.hid HE1
              go_wp2_with fail
              refine (oat_any s' w1.heap.size _ T6.rd).mono ?_
              rintro r v7 ⟨rfl, rfl⟩
              go_wp2_with fail
              refine bodyPost_ret (results_ct rfl rfl (ld_ent (put6' T6.h2))) rfl ⟨none, none, 0, 0, by rw [HE1.out]; rfl, ?_⟩
              rw [HE1.out]
              exact T6.out (e := Ent.zero) (World.ownsRow_nil _ _ _ _) (World.ownsRow_nil _ _ _ _) _ _ _ _ _ _
            · have hd : decide ((s'.at_ : Int) < (b.length : Int)) = false := by simpa using hlt
              rw [if_neg hlt] at HE1
              replace HE1 := Lib.hid HE1
              go_wp2_with fail
              refine (oat_any s' w1.heap.size _ T6.rd).mono ?_
              rintro r v7 ⟨rfl, rfl⟩
              have EO := Lib.hid o6
              obtain ⟨l1, l2, hr6⟩ := own_slice' o6
              have HR6 := Lib.hid (show EntR v6 ⟨z0, z1, z2, z3, am, []⟩ A4 none from ⟨hr6, Reads.none_, Nat.le_trans l1 l2, by simp [maxLen]⟩)
              have HT6 := Lib.hid T6
              clear hr6 T6 o6 l1 l2
              obtain ⟨C, hC⟩ : ∃ C, (⟨z0, z1, z2, z3, am, []⟩ : Ent).check = C := ⟨_, rfl⟩
              rw [hC] at HE1
              replace hC := Lib.hid hC
              go_wp2_with fail
              refine (bcheckN_any z0 z1 z2 z3 am [] am.length 0 C rfl rfl hC.out A4 none c4 0 _ HR6.out).mono ?_
              rintro r v8 ⟨rfl, hx8⟩
              have T8 := HT6.out.to hx8
              have O8 := own_ext EO.out hx8
              have O9 := Lib.hid (own_base O8 T8.ew.size)
              obtain ⟨p2, p2'⟩ := T8.h2.cells
              unfold zEnt at p2
              obtain ⟨p5, p5'⟩ := T8.h5.cells
              clear q2 q2' q5 q5' hx8 O8
              by_cases hc : C = 0
              · have hcb : (C != 0) = false := by simpa using hc
                have HE2 := Lib.hid (HE1.out.trans (if_neg (by simpa using hc)))
                replace hc := Lib.hid hc
                go_wp2_with fail
                refine bodyPost_ret (results_ct rfl rfl (ld_ent (put6' T8.h2))) rfl ⟨A4, none, c4, 0, by rw [HE2.out]; rfl, ?_⟩
                rw [HE2.out]
                exact T8.out (e := ⟨z0, z1, z2, z3, am, []⟩) O9.out (World.ownsRow_nil _ _ _ _) _ _ _ _ _ _
              · have hcb : (C != 0) = true := by simpa using hc
                have HE2 := Lib.hid (HE1.out.trans (if_pos hc))
                replace hc := Lib.hid hc
                go_wp2_with fail
                refine bodyPost_ret (results_ct rfl rfl (ld_ent (put6' T8.h2))) rfl ⟨none, none, 0, 0, by rw [HE2.out]; rfl, ?_⟩
                rw [HE2.out]
                exact T8.out (e := Ent.zero) (World.ownsRow_nil _ _ _ _) (World.ownsRow_nil _ _ _ _) _ _ _ _ _ _
end Go.Proofs.Ytehkmngbknbbaaa
