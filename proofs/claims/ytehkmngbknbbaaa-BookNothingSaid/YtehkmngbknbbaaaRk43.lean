/-
  The program's reader: its methods, whole.
-/
import Derived.Test.YtehkmngbknbbaaaRk42
import Derived.Test.YtehkmngbknbbaaaRk37
import Derived.Test.YtehkmngbknbbaaaRk05
set_option linter.unusedVariables false
namespace Go.Proofs.Ytehkmngbknbbaaa
open Go.RowKit

set_option maxRecDepth 100000 in
set_option maxHeartbeats 1000000 in
theorem onumber_any (s : RS) (lo hi above : Int) (g : Nat) (w : World) (h : RdO w g s) (ha : above ≠ 0) :
    Calls Try.prog 104 #[.pointer (some ⟨g, 0, none⟩), .int .i64 lo, .int .i64 hi, .int .i64 above] w fun e w' =>
      e = .returned (.int .i64 (s.num lo hi above).1) ∧ RdO w' g (s.num lo hi above).2 ∧ w.grownBy w' (some g) := by
  have hmf : ∀ (fn : Fn) (first cap : Array Value) (w : World), (Instr.makeFunc fn first cap).run Try.prog w = .ok (.func fn first cap) w := fun _ _ _ _ => rfl
  have hg := h.lt
  have HK := Lib.hid h
  clear h
  obtain ⟨x0, x1, x2, x3⟩ := blk4 w 114 3 3 31 #[.pointer (some ⟨g, 0, none⟩)] #[.int .i64 lo] #[.int .i64 hi] #[.int .i64 above]
  have hX : Ext w ((((w.alloc (.cells #[.pointer (some ⟨g, 0, none⟩)] 114)).alloc (.cells #[.int .i64 lo] 3)).alloc (.cells #[.int .i64 hi] 3)).alloc (.cells #[.int .i64 above] 31)) := ((((Ext.refl w).alloc _).alloc _).alloc _).alloc _
  go_enter Try.func104, Try.ntmps104
  go_wp2_with (go_at_call 121; refine (oread_any s lo hi above g w.heap.size (w.heap.size + 1 + 1) (w.heap.size + 1 + 1 + 1) (w.heap.size + 1) _ (RdO.ext HK.out hX) ha (by omega) (by omega) (by omega) (by omega) (x0.cell 0) (x2.cell 0) (x3.cell 0) (x1.cell 0)).mono ?_; rintro e w2 ⟨rfl, hR, hG⟩)
  refine bodyPost_ret (results_tmp rfl _ _ _) rfl ⟨rfl, hR, ?_⟩
  exact ⟨hG.os, hG.tape, hG.output, Nat.le_trans hX.size hG.size, fun k hk hne => (hG.block k (Nat.lt_of_lt_of_le hk hX.size) hne).trans (hX.block k hk)⟩

theorem oint_any (s : RS) (lo hi : Int) (g : Nat) (w : World) (h : RdO w g s) :
    Calls Try.prog 72 #[.pointer (some ⟨g, 0, none⟩), .int .i64 lo, .int .i64 hi] w fun e w' =>
      e = .returned (.int .i64 (s.num lo hi 5).1) ∧ RdO w' g (s.num lo hi 5).2 ∧ w.grownBy w' (some g) := by
  go_enter Try.func72, Try.ntmps72
  go_wp2_with (go_at_call 104; refine (onumber_any s lo hi 5 g _ h (by decide)).mono ?_; rintro e w' ⟨rfl, hR, hG⟩)
  exact bodyPost_ret (results_tmp rfl _ _ _) rfl ⟨rfl, hR, hG⟩
theorem ocount_any (s : RS) (most : Int) (g : Nat) (w : World) (h : RdO w g s) :
    Calls Try.prog 74 #[.pointer (some ⟨g, 0, none⟩), .int .i64 most] w fun e w' =>
      e = .returned (.int .i64 (s.num 0 most 3).1) ∧ RdO w' g (s.num 0 most 3).2 ∧ w.grownBy w' (some g) := by
  go_enter Try.func74, Try.ntmps74
  go_wp2_with (go_at_call 104; refine (onumber_any s 0 most 3 g _ h (by decide)).mono ?_; rintro e w' ⟨rfl, hR, hG⟩)
  exact bodyPost_ret (results_tmp rfl _ _ _) rfl ⟨rfl, hR, hG⟩
theorem oat_any (s : RS) (g : Nat) (w : World) (h : RdO w g s) :
    Calls Try.prog 73 #[.pointer (some ⟨g, 0, none⟩)] w fun e w' => e = .returned (.int .i64 (s.at_ : Int)) ∧ w = w' := by
  have d1 := h.at_
  go_enter Try.func73, Try.ntmps73
  go_wp2_with (go_at_call 105; refine (onone_any g s _ h).mono ?_; rintro e w' ⟨rfl, rfl⟩)
  exact bodyPost_ret (results_tmp rfl _ _ _) rfl ⟨rfl, rfl⟩
set_option maxRecDepth 100000 in
theorem ofaultR_any (s : RS) (g : Nat) (w : World) (h : RdO w g s) :
    Calls Try.prog 101 #[.pointer (some ⟨g, 0, none⟩)] w fun e w' => e = .returned (.agg #[.int .i64 s.fe, .int .i64 (s.fa : Int)]) ∧ Ext w w' := by
  have hg := h.lt
  have d2 := h.fe
  have d3 := h.fa
  have HK := Lib.hid h
  clear h
  go_enter Try.func101, Try.ntmps101
  go_wp2_with (go_at_call 105; refine (onone_any g s _ (HK.out.ext ((Ext.refl w).alloc _))).mono ?_; rintro e w' ⟨rfl, rfl⟩)
  exact bodyPost_ret (results_c rfl rfl (ld_fault (Blk.new w 37 #[.int .i64 s.fe, .int .i64 (s.fa : Int)]))) rfl ⟨rfl, (Ext.refl w).alloc _⟩
set_option maxRecDepth 100000 in
theorem ofine_any (s : RS) (g : Nat) (w : World) (h : RdO w g s) :
    Calls Try.prog 75 #[.pointer (some ⟨g, 0, none⟩)] w fun e w' => e = .returned (.bool (s.fe == 0)) ∧ Ext w w' := by
  have hfl : ∀ (a b : Value) (w : World), (Instr.field 37 (.agg #[a, b]) 0).run Try.prog w = .ok a w := fun _ _ _ => rfl
  go_enter Try.func75, Try.ntmps75
  go_wp2_with (go_at_call 101; refine (ofaultR_any s g _ h).mono ?_; rintro e w' ⟨rfl, hx⟩)
  exact bodyPost_ret (results_tmp rfl _ _ _) rfl ⟨rfl, hx⟩
end Go.Proofs.Ytehkmngbknbbaaa

set_option linter.unusedVariables false
namespace Go.Proofs.Ytehkmngbknbbaaa
open Go.RowKit

set_option maxRecDepth 100000 in
set_option maxHeartbeats 1000000 in
theorem onew_any (b : List UInt8) (A : Option Addr) (cap : Nat) (w : World) (hr : Reads w w.heap.size 1 A b.length (bV b)) (hm : b.length ≤ 1000000) :
    Calls Try.prog 71 #[.slice A b.length cap] w fun e w' => ∃ w1 : World, e = .returned (.pointer (some ⟨w1.heap.size, 0, none⟩)) ∧ Ext w w1 ∧ RdO w' w1.heap.size (RS.start b) ∧ Ext w1 w' := by
  go_enter Try.func71, Try.ntmps71
  go_wp2_with (at_builtin; refine wpl_app row_u8 w w _ (.tmp 3) rfl rfl rfl (World.ownsRow_nil _ _ _ _) (Ext.refl w) rfl hr (bV_one _) (by omega) (by unfold maxLen; omega) ?_; intro v1 w1 hg; obtain ⟨A1, c1, rfl, hc1, hm1, hr1⟩ := own_slice hg.own)
  simp only [Nat.zero_add, List.nil_append] at hc1 hr1
  refine bodyPost_ret (results_tmp rfl _ _ _) rfl ⟨w1, rfl, hg.ext, ⟨⟨A1, c1, ?_, ?_, hc1, hm1⟩, by simp [RS.ok, RS.start]⟩, (Ext.refl w1).alloc _⟩
  · have := Blk.new w1 156 #[.slice A1 b.length c1, .int .i64 0, .int .i64 0, .int .i64 0, .bool true]
    simpa [RS.start] using this
  · exact hr1.extB (Nat.le_refl _) ((Ext.refl w1).alloc _)

set_option maxRecDepth 100000 in
set_option maxHeartbeats 2000000 in
theorem oend_any (s : RS) (g : Nat) (w : World) (h : RdO w g s) :
    Calls Try.prog 77 #[.pointer (some ⟨g, 0, none⟩)] w fun e w' => e = .returned (.agg #[.int .i64 s.fin.1, .int .i64 (s.fin.2 : Int)]) ∧ Ext w w' := by
  have hg := h.lt
  have HK := Lib.hid h
  clear h
  by_cases hs : s.fe = 0
  · have hb : (s.fe == 0) = true := by simp [hs]
    by_cases ha : s.at_ < s.b.length
    · have hd : decide ((s.at_ : Int) < (s.b.length : Int)) = true := by simpa using ha
      have HF := Lib.hid (show s.fin = (4, s.at_) by unfold RS.fin; rw [if_pos ⟨hs, ha⟩])
      replace hs := Lib.hid hs
      go_enter Try.func77, Try.ntmps77
      go_wp2_with (go_at_call 101; refine (ofaultR_any s g _ (HK.out.ext ((Ext.refl w).alloc _))).mono ?_; rintro e w1 ⟨rfl, hx1⟩)
      have X8 := (((Ext.refl w).alloc _).trans hx1).alloc (Obj.cells #[.int .i64 s.fe, .int .i64 (s.fa : Int)] 37)
      have B2 := (Blk.ext (Blk.new w 37 #[.int .i64 0, .int .i64 0]) hx1).alloc (Obj.cells #[.int .i64 s.fe, .int .i64 (s.fa : Int)] 37)
      have B3 := Blk.new w1 37 #[.int .i64 s.fe, .int .i64 (s.fa : Int)]
      generalize w1.alloc (Obj.cells #[.int .i64 s.fe, .int .i64 (s.fa : Int)] 37) = wz at B2 B3 X8 ⊢
      have HZ := HK.out.ext X8
      have d1 := HZ.at_
      obtain ⟨A, cap, d0⟩ := HZ.bytes
      clear HZ hx1
      obtain ⟨q2, q2'⟩ := B2.cells
      obtain ⟨q3, q3'⟩ := B3.cells
      go_quiet (fail)
      go_wp2_with (go_at_call 106; refine (ofault_any _ _ _).mono ?_; rintro e w2 ⟨rfl, hx2⟩; have B2' := (B2.drewN _).ext hx2; obtain ⟨p2, p2'⟩ := B2'.cells)
      refine bodyPost_ret (results_c rfl rfl (ld_fault (fault_set B2' _ _))) rfl ⟨?_, (((X8.drewN _).trans hx2).set (Nat.le_refl _) _).set (Nat.le_refl _) _⟩
      rw [HF.out]
    · have hd : decide ((s.at_ : Int) < (s.b.length : Int)) = false := by simpa using ha
      have HF := Lib.hid (show s.fin = (s.fe, s.fa) by unfold RS.fin; rw [if_neg (by omega)])
      replace hs := Lib.hid hs
      go_enter Try.func77, Try.ntmps77
      go_wp2_with (go_at_call 101; refine (ofaultR_any s g _ (HK.out.ext ((Ext.refl w).alloc _))).mono ?_; rintro e w1 ⟨rfl, hx1⟩)
      have X8 := (((Ext.refl w).alloc _).trans hx1).alloc (Obj.cells #[.int .i64 s.fe, .int .i64 (s.fa : Int)] 37)
      have B2 := (Blk.ext (Blk.new w 37 #[.int .i64 0, .int .i64 0]) hx1).alloc (Obj.cells #[.int .i64 s.fe, .int .i64 (s.fa : Int)] 37)
      have B3 := Blk.new w1 37 #[.int .i64 s.fe, .int .i64 (s.fa : Int)]
      generalize w1.alloc (Obj.cells #[.int .i64 s.fe, .int .i64 (s.fa : Int)] 37) = wz at B2 B3 X8 ⊢
      have HZ := HK.out.ext X8
      have d1 := HZ.at_
      obtain ⟨A, cap, d0⟩ := HZ.bytes
      clear HZ hx1
      obtain ⟨q2, q2'⟩ := B2.cells
      obtain ⟨q3, q3'⟩ := B3.cells
      go_quiet (fail)
      go_wp2_with fail
      refine bodyPost_ret (results_c rfl rfl (ld_fault (fault_set (B2.drewN _) _ _))) rfl ⟨?_, ((X8.drewN _).set (Nat.le_refl _) _).set (Nat.le_refl _) _⟩
      rw [HF.out]
  · have hb : (s.fe == 0) = false := by simp [hs]
    have HF := Lib.hid (show s.fin = (s.fe, s.fa) by unfold RS.fin; rw [if_neg (by omega)])
    go_enter Try.func77, Try.ntmps77
    go_wp2_with (go_at_call 101; refine (ofaultR_any s g _ (HK.out.ext ((Ext.refl w).alloc _))).mono ?_; rintro e w1 ⟨rfl, hx1⟩)
    have X8 := (((Ext.refl w).alloc _).trans hx1).alloc (Obj.cells #[.int .i64 s.fe, .int .i64 (s.fa : Int)] 37)
    have B2 := (Blk.ext (Blk.new w 37 #[.int .i64 0, .int .i64 0]) hx1).alloc (Obj.cells #[.int .i64 s.fe, .int .i64 (s.fa : Int)] 37)
    have B3 := Blk.new w1 37 #[.int .i64 s.fe, .int .i64 (s.fa : Int)]
    generalize w1.alloc (Obj.cells #[.int .i64 s.fe, .int .i64 (s.fa : Int)] 37) = wz at B2 B3 X8 ⊢
    have HZ := HK.out.ext X8
    have d1 := HZ.at_
    obtain ⟨A, cap, d0⟩ := HZ.bytes
    clear HZ hx1
    obtain ⟨q2, q2'⟩ := B2.cells
    obtain ⟨q3, q3'⟩ := B3.cells
    go_quiet (fail)
    go_wp2_with fail
    refine bodyPost_ret (results_c rfl rfl (ld_fault (fault_set (B2.drewN _) _ _))) rfl ⟨?_, ((X8.drewN _).set (Nat.le_refl _) _).set (Nat.le_refl _) _⟩
    rw [HF.out]

theorem ld_line {w : World} {g : Nat} {a b : Value} (h : Blk w g 110 #[a, b]) : (loadVar 110 ⟨g, 0, none⟩).run Try.prog w = .ok (.agg #[a, b]) w := by
  have q := h.cell
  simp [go_sem, q]
theorem line_set {w : World} {g : Nat} {a b : Value} (h : Blk w g 110 #[a, b]) (x y : Value) : Blk ((w.setCell ⟨g, 0, none⟩ x).setCell ⟨g, 1, none⟩ y) g 110 #[x, y] := (h.set_ 0 x).set_ 1 y
theorem RdO.set {w : World} {g : Nat} {s : RS} (h : RdO w g s) {p : Addr} (hp : g < p.block) (u : Value) : RdO (w.setCell p u) g s := by
  obtain ⟨A, cap, hB, hr, hc, hm⟩ := h.ex
  exact ⟨⟨A, cap, hB.far (Nat.ne_of_lt hp) u, hr.keep fun b o hb => World.cell?_setCell_far _ _ _ _ (Nat.ne_of_gt (Nat.lt_trans hb hp)), hc, hm⟩, h.ok⟩
theorem ext_grown {w a b : World} {row : Option Nat} (hx : Ext w a) (hG : a.grownBy b row) : w.grownBy b row :=
  ⟨hG.os.trans hx.below.os, hG.tape.trans hx.below.tape, hG.output.trans hx.below.output, Nat.le_trans hx.size hG.size, fun k hk hne => (hG.block k (Nat.lt_of_lt_of_le hk hx.size) hne).trans (hx.block k hk)⟩

set_option maxRecDepth 100000 in
set_option maxHeartbeats 1000000 in
theorem oline_any (s : RS) (g : Nat) (w : World) (h : RdO w g s) :
    Calls Try.prog 76 #[.pointer (some ⟨g, 0, none⟩)] w fun e w' => e = .returned (.agg #[.int .i64 (s.num 1 1099511627775 5).1, .int .i64 ((s.num 1 1099511627775 5).2.num 0 1099511627775 5).1]) ∧
      RdO w' g ((s.num 1 1099511627775 5).2.num 0 1099511627775 5).2 ∧ w.grownBy w' (some g) := by
  have hg := h.lt
  have HK := Lib.hid h
  clear h
  have hX : Ext w (w.alloc (.cells #[.int .i64 0, .int .i64 0] 110)) := (Ext.refl w).alloc _
  have HX := Lib.hid hX
  clear hX
  go_enter Try.func76, Try.ntmps76
  go_wp2_with (go_at_call 72; first
    | (refine (oint_any s _ _ g _ (HK.out.ext HX.out)).mono ?_; rintro e w1 ⟨rfl, hR1, hG1⟩)
    | (refine (oint_any _ _ _ g _ hR1).mono ?_; rintro e w2 ⟨rfl, hR2, hG2⟩; have B2 := ((Blk.new w 110 #[.int .i64 0, .int .i64 0]).grown hG1 (by intro e; have := Option.some.inj e; omega)).grown hG2 (by intro e; have := Option.some.inj e; omega); obtain ⟨q2, q2'⟩ := B2.cells))
  refine bodyPost_ret (results_c rfl rfl (ld_line (line_set B2 _ _))) rfl ⟨rfl, (hR2.set (p := ⟨w.heap.size, 0, none⟩) hg _).set (p := ⟨w.heap.size, 1, none⟩) hg _, ?_⟩
  exact only_set (only_set (ext_grown HX.out (only_trans hG1 hG2)) (.inr (Nat.le_refl _)) _) (.inr (Nat.le_refl _)) _
end Go.Proofs.Ytehkmngbknbbaaa

set_option linter.unusedVariables false
namespace Go.Proofs.Ytehkmngbknbbaaa

/-- n lines read one behind the other; none behind a fault. -/
def linesO : Nat → RS → List Ln × RS
  | 0, s => ([], s)
  | n + 1, s => if s.fe = 0 then (⟨(s.num 1 1099511627775 5).1, ((s.num 1 1099511627775 5).2.num 0 1099511627775 5).1⟩ :: (linesO n ((s.num 1 1099511627775 5).2.num 0 1099511627775 5).2).1, (linesO n ((s.num 1 1099511627775 5).2.num 0 1099511627775 5).2).2) else linesO n s
/-- The reference's: it goes on behind a fault. -/
def linesR : Nat → RS → List Ln × RS
  | 0, s => ([], s)
  | n + 1, s => (⟨(s.num 1 1099511627775 5).1, ((s.num 1 1099511627775 5).2.num 0 1099511627775 5).1⟩ :: (linesR n ((s.num 1 1099511627775 5).2.num 0 1099511627775 5).2).1, (linesR n ((s.num 1 1099511627775 5).2.num 0 1099511627775 5).2).2)
theorem linesR_bad (n : Nat) : ∀ s : RS, s.fe ≠ 0 → (linesR n s).2 = s := by
  induction n with
  | zero => intro s _; rfl
  | succ n ih =>
    intro s h
    simp only [linesR, RS.num_sticky h]
    exact ih s h
theorem linesO_bad (n : Nat) : ∀ s : RS, s.fe ≠ 0 → linesO n s = ([], s) := by
  induction n with
  | zero => intro s _; rfl
  | succ n ih =>
    intro s h
    simp only [linesO, if_neg h]
    exact ih s h
theorem linesOR (n : Nat) : ∀ s : RS, (linesO n s).2 = (linesR n s).2 ∧ ((linesR n s).2.fe = 0 → (linesO n s).1 = (linesR n s).1) := by
  induction n with
  | zero => intro s; exact ⟨rfl, fun _ => rfl⟩
  | succ n ih =>
    intro s
    by_cases h : s.fe = 0
    · simp only [linesO, linesR, if_pos h]
      have := ih ((s.num 1 1099511627775 5).2.num 0 1099511627775 5).2
      exact ⟨this.1, fun h1 => by rw [this.2 h1]⟩
    · have e := linesR_bad (n + 1) s h
      rw [linesO_bad (n + 1) s h]
      exact ⟨e.symm, fun h1 => absurd (by rw [e] at h1; exact h1) h⟩
theorem linesO_len (n : Nat) : ∀ s : RS, (linesO n s).1.length ≤ n := by
  induction n with
  | zero => intro s; simp [linesO]
  | succ n ih =>
    intro s
    unfold linesO
    split
    · simp only [List.length_cons]
      have := ih ((s.num 1 1099511627775 5).2.num 0 1099511627775 5).2
      omega
    · have := ih s; omega
theorem linesR_len (n : Nat) : ∀ s : RS, (linesR n s).1.length = n := by
  induction n with
  | zero => intro s; rfl
  | succ n ih => intro s; simp [linesR, ih]

/-- The head of an order that is read: currency, day, place, count; the place at which the count stands. -/
structure Head where
  cu : Int
  day : Int
  px : Int
  py : Int
  at_ : Nat
  n : Int
  s : RS
def headP (b : List UInt8) : Head :=
  let s0 := RS.start b
  let s1 := s0.num 0 1099511627775 5
  let s2 := s1.2.num 0 3652058 5
  let s3 := s2.2.num (-1099511627775) 1099511627775 5
  let s4 := s3.2.num (-1099511627775) 1099511627775 5
  let s5 := s4.2.num 0 100 3
  ⟨s1.1, s2.1, s3.1, s4.1, s4.2.at_, s5.1, s5.2⟩
/-- What reading an order gives: the order, the fault, its place. -/
def readP (b : List UInt8) : Ord × Int × Nat :=
  let h := headP b
  if h.s.fe = 0 ∧ h.n = 0 then (⟨0, 0, 0, 0, []⟩, 2, h.at_)
  else if (linesO h.n.toNat h.s).2.fin.1 ≠ 0 then (⟨0, 0, 0, 0, []⟩, (linesO h.n.toNat h.s).2.fin.1, (linesO h.n.toNat h.s).2.fin.2)
  else (⟨h.cu, h.day, h.px, h.py, (linesO h.n.toNat h.s).1⟩, 0, 0)
theorem head_n (b : List UInt8) : 0 ≤ (headP b).n ∧ (headP b).n ≤ 100 := RS.num_bd _ 0 100 3 (by decide) (by decide)
theorem fin_fe (s : RS) (h : s.fin.1 = 0) : s.fe = 0 := by
  unfold RS.fin at h
  split at h
  · simp at h
  · exact h
/-- The reference's reading comes to the same. -/
theorem readR (b : List UInt8) : readP b = 
    (let h := headP b
     if h.s.fe = 0 ∧ h.n = 0 then ((⟨0, 0, 0, 0, []⟩ : Ord), (2 : Int), h.at_)
     else if (linesR h.n.toNat h.s).2.fin.1 ≠ 0 then (⟨0, 0, 0, 0, []⟩, (linesR h.n.toNat h.s).2.fin.1, (linesR h.n.toNat h.s).2.fin.2)
     else (⟨h.cu, h.day, h.px, h.py, (linesR h.n.toNat h.s).1⟩, 0, 0)) := by
  unfold readP
  simp only
  obtain ⟨e1, e2⟩ := linesOR (headP b).n.toNat (headP b).s
  by_cases h0 : (headP b).s.fe = 0 ∧ (headP b).n = 0
  · rw [if_pos h0, if_pos h0]
  rw [if_neg h0, if_neg h0, e1]
  by_cases h1 : (linesR (headP b).n.toNat (headP b).s).2.fin.1 ≠ 0
  · rw [if_pos h1, if_pos h1]
  rw [if_neg h1, if_neg h1, e2 (fin_fe _ (by simpa using h1))]
/-- No fault has no place. -/
def RS.clean (s : RS) : Prop := s.fe = 0 → s.fa = 0
theorem RS.num_clean {s : RS} (h : s.clean) (lo hi above : Int) (ha : above ≠ 0) : (s.num lo hi above).2.clean := by
  unfold RS.num
  by_cases h0 : s.fe ≠ 0
  · rw [if_pos h0]; exact h
  rw [if_neg h0]
  simp only
  by_cases h1 : (getN s.b s.at_).fe ≠ 0
  · rw [if_pos h1]; exact fun h2 => absurd h2 h1
  rw [if_neg h1]
  by_cases h2 : hi < (getN s.b s.at_).n
  · rw [if_pos h2]; exact fun h3 => absurd h3 ha
  rw [if_neg h2]
  by_cases h3 : (getN s.b s.at_).n < lo
  · rw [if_pos h3]; exact fun h4 => absurd h4 (by show ¬ (5 : Int) = 0; decide)
  rw [if_neg h3]
  exact h
theorem linesR_clean (n : Nat) : ∀ s : RS, s.clean → (linesR n s).2.clean := by
  induction n with
  | zero => intro s h; exact h
  | succ n ih => intro s h; exact ih _ (RS.num_clean (RS.num_clean h _ _ _ (by decide)) _ _ _ (by decide))
theorem head_clean (b : List UInt8) : (headP b).s.clean :=
  RS.num_clean (RS.num_clean (RS.num_clean (RS.num_clean (RS.num_clean (s := RS.start b) (fun _ => rfl) _ _ _ (by decide)) _ _ _ (by decide)) _ _ _ (by decide)) _ _ _ (by decide)) _ _ _ (by decide)
theorem fin_clean {s : RS} (h : s.clean) (h0 : s.fin.1 = 0) : s.fin.2 = 0 := by
  unfold RS.fin at h0 ⊢
  split at h0
  · simp at h0
  · rename_i hc
    rw [if_neg hc]
    exact h h0
end Go.Proofs.Ytehkmngbknbbaaa
