/-
  OrderBytes: the walk of the statement's own function.
-/
import Derived.Test.YtehkmngbknbbaaaCe
import Derived.Test.YtehkmngbknbbaaaBj
namespace Go.Proofs.Ytehkmngbknbbaaa
open Go.RowKit

/-- The block of an own row lies above its base. -/
theorem own_above {w : World} {base : Nat} {e : TypeId} {size n : Nat} {v : Value} {xs : List Value} (h : w.ownsRow base e size v n xs) : ∀ k, v.ownBlock = some k → base ≤ k := by
  intro k hk
  rcases h.2 with ⟨rfl, _⟩ | ⟨g, cap, cur, rfl, hg, _⟩
  · simp [Value.ownBlock] at hk
  · have : g = k := by simpa [Value.ownBlock] using hk
    omega
theorem own_types_ne {w : World} {base base' : Nat} {e e' : TypeId} {size size' n n' : Nat} {v v' : Value} {xs xs' : List Value} (h : w.ownsRow base e size v n xs) (h' : w.ownsRow base' e' size' v' n' xs') (hne : e ≠ e') : v.ownBlock = none ∨ v.ownBlock ≠ v'.ownBlock := by
  rcases h'.2 with ⟨rfl, _⟩ | ⟨g, cap, cur, rfl, hg, hh, _⟩
  · rcases h.2 with ⟨rfl, _⟩ | ⟨g, cap, cur, rfl, hg, _⟩
    · exact .inl rfl
    · exact .inr (by simp [Value.ownBlock])
  · exact .inr (own_blk_ne h hh hne)
theorem Blk.new2 (w : World) (t t' : TypeId) (cs cs' : Array Value) : Blk ((w.alloc (.cells cs t)).alloc (.cells cs' t')) (w.heap.size + 1) t' cs' := by
  have := Blk.new (w.alloc (.cells cs t)) t' cs'
  simpa using this
/-- How the world stands behind the copies. -/
structure St3 (w V : World) (o : Ord) (b : List UInt8) (A : Option Addr) (cap : Nat) (A1 : Option Addr) (c1 gl g5 : Nat) (B : Option Addr) : Prop where
  ew : Ext w V
  b2 : Blk V w.heap.size 26 (ordCells o A cap)
  b5 : Blk V g5 26 (ordCells o A1 c1)
  ri : Reads V V.heap.size 2 A1 o.ls.length (lnCells o.ls)
  ro : Reads V V.heap.size 2 A o.ls.length (lnCells o.ls)
  rb : Reads V V.heap.size 1 B b.length (bV b)
  bl : Blk V gl 5 (bV (lentL b)).toArray

theorem lent_reads {V : World} {b : List UInt8} {gl : Nat} (h : Blk V gl 5 (bV (lentL b)).toArray) : Reads V V.heap.size 1 (some ⟨gl, 0, none⟩) b.length (bV b) :=
  ⟨by simp [bV], fun _ => ⟨gl, 0, rfl, h.lt, fun j u hu => by
    rw [Nat.zero_add, h.cell]
    have hj : j < b.length := by
      have := (List.getElem?_eq_some_iff.1 hu).1
      simpa [bV] using this
    rw [← hu]
    simp [bV, lentL, List.getElem?_append, hj]⟩⟩

set_option maxRecDepth 100000 in
set_option maxHeartbeats 4000000 in
theorem orderBytes_in (o : Ord) (A : Option Addr) (cap : Nat) (b : List UInt8) (B : Option Addr) (cb : Nat) (w : World) (hr : Reads w w.heap.size 2 A o.ls.length (lnCells o.ls)) (hb : Reads w w.heap.size 1 B b.length (bV b))
    (hcb : b.length ≤ cb) (hcm : cb ≤ maxLen) (h1 : o.ls.length ≤ 150) (h2 : b.length ≤ 3000) :
    Calls Try.prog 3 #[ordV o A cap, .slice B b.length cb] w fun e w' => e = .returned (.bool true) ∧ Ext w w' := by
  have d1 : decide ((150 : Int) < (o.ls.length : Int)) = false := by simp; omega
  have d2 : decide ((3000 : Int) < (b.length : Int)) = false := by simp; omega
  simp only [ordV]
  have RO := Lib.hid (fun ob : Obj => hr.ext ((Ext.refl w).alloc ob))
  have RB := Lib.hid (fun ob : Obj => hb.ext ((Ext.refl w).alloc ob))
  have B0 := Lib.hid (Blk.new w 26 (ordCells o A cap))
  unfold ordCells at B0
  clear hr hb
  go_enter Try.func3, Try.ntmps3
  go_wp2_with fail
  refine (copyOrder_any o A cap _ (RO.out _) (by omega)).mono ?_
  rintro e v1 ⟨A1, c1, rfl, ho1, hx1⟩
  go_wp2_with fail
  refine (lent_any b B cb _ ((RB.out _).ext hx1) (by omega)).mono ?_
  rintro e v2 ⟨gl, rfl, hgl, hB2, hx2⟩
  simp only [ordV]
  go_wp2_with fail
  have S : St3 w (v2.alloc (.cells (ordCells o A1 c1) 26)) o b A cap A1 c1 gl v2.heap.size B :=
    ⟨((((Ext.refl w).alloc _).trans hx1).trans hx2).alloc _, ((B0.out.ext hx1).ext hx2).alloc _, Blk.new v2 _ _, (Reads.of_own ho1).ext (hx2.alloc _), (RO.out _).ext ((hx1.trans hx2).alloc _), (RB.out _).ext ((hx1.trans hx2).alloc _), hB2.alloc _⟩
  unfold ordCells at S
  generalize (v2.alloc (.cells #[.int .i64 o.cu, .int .i64 o.day, .int .i64 o.px, .int .i64 o.py, .slice A1 o.ls.length c1] 26)) = V at S ⊢
  generalize v2.heap.size = g5 at S ⊢
  clear hx1 hx2 hB2 ho1 B0 RO RB
  have RI := Lib.hid (fun W (hx : Ext V W) => S.ri.ext hx)
  have RO := Lib.hid (fun W (hx : Ext V W) => S.ro.ext hx)
  have RB := Lib.hid (fun W (hx : Ext V W) => S.rb.ext hx)
  have RL := Lib.hid (fun W (hx : Ext V W) => lent_reads (S.bl.ext hx))
  have BL := Lib.hid (fun W (hx : Ext V W) => S.bl.ext hx)
  have b2 := S.b2
  have b5 := S.b5
  unfold ordCells at b2 b5
  have C2 := Lib.hid (fun W (hx : Ext V W) => (b2.ext hx).cells)
  have C5 := Lib.hid (fun W (hx : Ext V W) => (b5.ext hx).cells)
  clear b2 b5
  have XW := S.ew
  clear S
  -- the checks
  refine (check_any o A1 c1 _ (RI.out _ (Ext.refl V)) (by unfold maxLen; omega)).mono ?_
  rintro e W1 ⟨rfl, X1⟩
  replace X1 : Ext V W1 := X1
  obtain ⟨q2, q2'⟩ := C2.out _ X1
  go_wp2_with fail
  refine (rcheck_any o A cap _ (RO.out _ X1) (by unfold maxLen; omega)).mono ?_
  rintro e W2 ⟨rfl, hx⟩
  have X2 := X1.trans hx
  clear q2 q2' X1 hx
  obtain ⟨q5, q5'⟩ := C5.out _ X2
  go_wp2_with fail
  -- the bytes
  refine (obytes_any o A1 c1 _ (RI.out _ X2) (by unfold maxLen; omega)).mono ?_
  rintro e W3 ⟨x, rfl, ox, hx, ax⟩
  have X3 := X2.trans hx
  obtain ⟨q2, q2'⟩ := C2.out _ X3
  have ox3 := own_base ox X2.size
  clear ox hx X2 q5 q5'
  go_wp2_with fail
  refine (rbytes_any o A cap _ (RO.out _ X3) (by unfold maxLen; omega)).mono ?_
  rintro e W4 ⟨y, rfl, oy, hx, ay⟩
  have X4 := X3.trans hx
  have ox4 := own_ext ox3 hx
  have ax4 := ax.ext hx
  clear ox3 ax ay X3 q2 q2' hx
  obtain ⟨Ay, cy, rfl, _, _, ry4⟩ := own_slice oy
  obtain ⟨Ax, cx, rfl, _, _, rx4⟩ := own_slice ox4
  clear oy
  go_wp2_with fail
  -- the readings
  refine (oreadOrder_any b (some ⟨gl, 0, none⟩) (b.length + 3) _ (RL.out _ X4) (by omega)).mono ?_
  rintro e W5 ⟨Az, cz, rfl, oz, hx⟩
  have X5 := X4.trans hx
  have ox5 := own_ext ox4 hx
  have ax5 := ax4.ext hx
  have oz5 := own_base oz X4.size
  have rx5 := rx4.ext hx
  have ry5 := ry4.ext hx
  clear ox4 ax4 oz rx4 ry4 X4 hx
  generalize hZ : (readP b).1 = Z at *
  generalize hf1 : (readP b).2.1 = f1 at *
  generalize hf2 : (readP b).2.2 = f2 at *
  replace hZ := Lib.hid hZ
  replace hf1 := Lib.hid hf1
  replace hf2 := Lib.hid hf2
  simp only [ordV]
  go_wp2_with fail
  have X6 : Ext V ((W5.alloc (.cells #[.int .i64 Z.cu, .int .i64 Z.day, .int .i64 Z.px, .int .i64 Z.py, .slice Az Z.ls.length cz] 26)).alloc (.cells #[.int .i64 f1, .int .i64 (f2 : Int)] 37)) := (X5.alloc _).alloc _
  refine (rreadOrder_any b B cb _ (RB.out _ X6) (by omega) hcb hcm).mono ?_
  rintro e W7 ⟨Ar, cr, rfl, or, hx⟩
  rw [hZ.out] at or ⊢
  rw [hf1.out, hf2.out]
  have Bz := ((Blk.new W5 26 #[.int .i64 Z.cu, .int .i64 Z.day, .int .i64 Z.px, .int .i64 Z.py, .slice Az Z.ls.length cz]).alloc (.cells #[.int .i64 f1, .int .i64 (f2 : Int)] 37)).ext hx
  have Bp := (Blk.new2 W5 26 37 #[.int .i64 Z.cu, .int .i64 Z.day, .int .i64 Z.px, .int .i64 Z.py, .slice Az Z.ls.length cz] #[.int .i64 f1, .int .i64 (f2 : Int)]).ext hx
  have hy : Ext W5 W7 := (((Ext.refl W5).alloc _).alloc _).trans hx
  have X7 := X5.trans hy
  have ox7 := own_ext ox5 hy
  have ax7 := ax5.ext hy
  have oz7 := own_ext oz5 hy
  have rx7 := rx5.ext hy
  have ry7 := ry5.ext hy
  have hzl : Z.ls.length ≤ maxLen := by
    obtain ⟨_, _, e9, _, _, _⟩ := own_slice oz7
    injection e9 with _ _ e9
    omega
  clear ox5 ax5 oz5 rx5 ry5 X5 X6 hx hy
  simp only [ordV]
  go_wp2_with fail
  have Bw := (Blk.new W7 26 #[.int .i64 Z.cu, .int .i64 Z.day, .int .i64 Z.px, .int .i64 Z.py, .slice Ar Z.ls.length cr]).alloc (.cells #[.int .i64 f1, .int .i64 (f2 : Int)] 37)
  have Bq := (Blk.new2 W7 26 37 #[.int .i64 Z.cu, .int .i64 Z.day, .int .i64 Z.px, .int .i64 Z.py, .slice Ar Z.ls.length cr] #[.int .i64 f1, .int .i64 (f2 : Int)])
  have hy : Ext W7 ((W7.alloc (.cells #[.int .i64 Z.cu, .int .i64 Z.day, .int .i64 Z.px, .int .i64 Z.py, .slice Ar Z.ls.length cr] 26)).alloc (.cells #[.int .i64 f1, .int .i64 (f2 : Int)] 37)) := ((Ext.refl W7).alloc _).alloc _
  have rr7 := Reads.of_own or
  clear or
  generalize ((W7.alloc (.cells #[.int .i64 Z.cu, .int .i64 Z.day, .int .i64 Z.px, .int .i64 Z.py, .slice Ar Z.ls.length cr] 26)).alloc (.cells #[.int .i64 f1, .int .i64 (f2 : Int)] 37)) = W8 at Bw Bq hy ⊢
  have X8 := X7.trans hy
  have ox8 := own_ext ox7 hy
  have ax8 := ax7.ext hy
  have oz8 := own_ext oz7 hy
  have rx8 := rx7.ext hy
  have ry8 := ry7.ext hy
  have rr8 := rr7.ext hy
  replace Bz := Bz.ext hy
  replace Bp := Bp.ext hy
  generalize W7.heap.size = gw at Bw Bq ⊢
  generalize W5.heap.size = gz at Bz Bp ⊢
  clear ox7 ax7 oz7 rx7 ry7 rr7 X7 hy
  refine (sameBytes_t o.bytes Ax Ay _ _ cx cy _ rx8 ry8).mono ?_
  rintro e W9 ⟨rfl, rfl⟩
  have rz8 := Reads.of_own oz8
  have YZ := Lib.hid (fun W (hx : Ext W8 W) => (Bz.ext hx).cells)
  have YP := Lib.hid (fun W (hx : Ext W8 W) => (Bp.ext hx).cells)
  have YW := Lib.hid (fun W (hx : Ext W8 W) => (Bw.ext hx).cells)
  have YQ := Lib.hid (fun W (hx : Ext W8 W) => (Bq.ext hx).cells)
  have QQ := Lib.hid (And.intro (YP.out _ (Ext.refl W8)).1 (And.intro (YQ.out _ (Ext.refl W8)).1 (And.intro (YZ.out _ (Ext.refl W8)).1 (YW.out _ (Ext.refl W8)).1)))
  obtain ⟨q1, q2, q3, q4⟩ := QQ.out
  have Bz' := Lib.hid Bz
  clear Bz Bp Bw Bq
  go_wp2_with fail
  refine (sameOrder_t Z Az Ar cz cr _ rz8 rr8 hzl).mono ?_
  rintro e W10 ⟨rfl, hx⟩
  have X10 := X8.trans hx
  have ox10 := own_ext ox8 hx
  have ax10 := ax8.ext hx
  have oz10 := own_ext oz8 hx
  replace Bz' := Lib.hid (Bz'.out.ext hx)
  clear ox8 ax8 oz8 rx8 ry8 rr8 rz8 q1 q2 q3 q4 QQ YZ YP YW YQ X8
  go_wp2_with fail
  -- written over
  refine (overBytes_any ox10 ax10).mono ?_
  rintro e W11 ⟨rfl, hG⟩
  have X11 := X10.grown hG (own_above ox10)
  have oz11 := oz10.kept hG (own_types_ne oz10 ox10 (by decide))
  have Bz11 := Bz'.out.grown hG (fun e => own_blk_ne ox10 Bz'.out (by decide) e.symm)
  clear ox10 ax10 oz10 X10 hx hG Bz'
  obtain ⟨q1, q1'⟩ := Bz11.cells
  clear Bz11
  go_wp2_with fail
  refine (overLines_any oz11).mono ?_
  rintro e W12 ⟨rfl, hG⟩
  have X12 := X11.grown hG (own_above oz11)
  clear oz11 q1 q1' X11 hG
  obtain ⟨q2, q2'⟩ := C2.out _ X12
  obtain ⟨q5, q5'⟩ := C5.out _ X12
  go_wp2_with fail
  refine (sameOrder_t o A1 A c1 cap _ (RI.out _ X12) (RO.out _ X12) (by unfold maxLen; omega)).mono ?_
  rintro e W13 ⟨rfl, hx⟩
  have X13 := X12.trans hx
  clear q2 q2' q5 q5' X12 hx
  go_wp2_with fail
  refine (kept_any b gl B cb _ (BL.out _ X13) (RB.out _ X13) (by omega)).mono ?_
  rintro e W14 ⟨rfl, hx⟩
  have X14 := X13.trans hx
  go_wp2_with fail
  refine (awake25_any _).mono ?_
  rintro e W15 ⟨rfl, hx'⟩
  have X15 := X14.trans hx'
  go_wp2_with fail
  go_ret
  exact ⟨rfl, XW.trans X15⟩

set_option maxRecDepth 100000 in
set_option maxHeartbeats 1000000 in
theorem orderBytes_any (o : Ord) (A : Option Addr) (cap : Nat) (b : List UInt8) (B : Option Addr) (cb : Nat) (w : World) (hr : Reads w w.heap.size 2 A o.ls.length (lnCells o.ls)) (hb : Reads w w.heap.size 1 B b.length (bV b)) (hcb : b.length ≤ cb) (hcm : cb ≤ maxLen) :
    Calls Try.prog 3 #[ordV o A cap, .slice B b.length cb] w fun e w' => e = .returned (.bool true) ∧ Ext w w' := by
  by_cases h1 : o.ls.length ≤ 150
  · by_cases h2 : b.length ≤ 3000
    · exact orderBytes_in o A cap b B cb w hr hb hcb hcm h1 h2
    · have d1 : decide ((150 : Int) < (o.ls.length : Int)) = false := by simp; omega
      have d2 : decide ((3000 : Int) < (b.length : Int)) = true := by simp; omega
      simp only [ordV]
      go_enter Try.func3, Try.ntmps3
      go_wp2_with fail
      refine (awake25_any _).mono ?_
      rintro e W15 ⟨rfl, hx'⟩
      go_wp2_with fail
      go_ret
      exact ⟨rfl, ((Ext.refl w).alloc _).trans hx'⟩
  · have d1 : decide ((150 : Int) < (o.ls.length : Int)) = true := by simp; omega
    simp only [ordV]
    go_enter Try.func3, Try.ntmps3
    go_wp2_with fail
    refine (awake25_any _).mono ?_
    rintro e W15 ⟨rfl, hx'⟩
    go_wp2_with fail
    go_ret
    exact ⟨rfl, ((Ext.refl w).alloc _).trans hx'⟩
end Go.Proofs.Ytehkmngbknbbaaa
