/-
  The program's reader: its methods, whole.
-/
import Derived.Test.YtokakpbpenndlaaGreatDoorRs26
import Derived.Test.YtokakpbpenndlaaGreatDoorRs23
import Derived.Test.YtokakpbpenndlaaGreatDoorRs05
import Derived.Test.YtokakpbpenndlaaGreatDoorRs06
import Derived.Test.YtokakpbpenndlaaGreatDoorRs25
import Derived.Test.YtokakpbpenndlaaGreatDoorRs07
import Derived.Test.YtokakpbpenndlaaGreatDoorRs09
set_option linter.unusedVariables false
namespace Go.Proofs.YtokakpbpenndlaaGreatDoor
open Go.RowKit

set_option maxRecDepth 100000 in
set_option maxHeartbeats 1000000 in
theorem onumber_any (s : RS) (lo hi above : Int) (g : Nat) (w : World) (h : RdO w g s) (ha : above ≠ 0) :
    Calls Tryz.prog 96 #[.pointer (some ⟨g, 0, none⟩), .int .i64 lo, .int .i64 hi, .int .i64 above] w fun e w' =>
      e = .returned (.int .i64 (s.num lo hi above).1) ∧ RdO w' g (s.num lo hi above).2 ∧ w.grownBy w' (some g) := by
  have hmf : ∀ (fn : Fn) (first cap : Array Value) (w : World), (Instr.makeFunc fn first cap).run Tryz.prog w = .ok (.func fn first cap) w := fun _ _ _ _ => rfl
  have hg := h.lt
  have HK := Lib.hid h
  clear h
  obtain ⟨x0, x1, x2, x3⟩ := blk4 w 97 3 3 27 #[.pointer (some ⟨g, 0, none⟩)] #[.int .i64 lo] #[.int .i64 hi] #[.int .i64 above]
  have hX : Ext w ((((w.alloc (.cells #[.pointer (some ⟨g, 0, none⟩)] 97)).alloc (.cells #[.int .i64 lo] 3)).alloc (.cells #[.int .i64 hi] 3)).alloc (.cells #[.int .i64 above] 27)) := ((((Ext.refl w).alloc _).alloc _).alloc _).alloc _
  go_enter Tryz.func96, Tryz.ntmps96
  go_wp2_with (go_at_call 133; refine (oread_any s lo hi above g w.heap.size (w.heap.size + 1 + 1) (w.heap.size + 1 + 1 + 1) (w.heap.size + 1) _ (RdO.ext HK.out hX) ha (by omega) (by omega) (by omega) (by omega) (x0.cell 0) (x2.cell 0) (x3.cell 0) (x1.cell 0)).mono ?_; rintro e w2 ⟨rfl, hR, hG⟩)
  refine bodyPost_ret (results_tmp rfl _ _ _) rfl ⟨rfl, hR, ?_⟩
  exact ⟨hG.os, hG.tape, hG.output, Nat.le_trans hX.size hG.size, fun k hk hne => (hG.block k (Nat.lt_of_lt_of_le hk hX.size) hne).trans (hX.block k hk)⟩

theorem oint_any (s : RS) (lo hi : Int) (g : Nat) (w : World) (h : RdO w g s) :
    Calls Tryz.prog 51 #[.pointer (some ⟨g, 0, none⟩), .int .i64 lo, .int .i64 hi] w fun e w' =>
      e = .returned (.int .i64 (s.num lo hi 5).1) ∧ RdO w' g (s.num lo hi 5).2 ∧ w.grownBy w' (some g) := by
  go_enter Tryz.func51, Tryz.ntmps51
  go_wp2_with (go_at_call 96; refine (onumber_any s lo hi 5 g _ h (by decide)).mono ?_; rintro e w' ⟨rfl, hR, hG⟩)
  exact bodyPost_ret (results_tmp rfl _ _ _) rfl ⟨rfl, hR, hG⟩
set_option maxRecDepth 100000 in
theorem ofaultR_any (s : RS) (g : Nat) (w : World) (h : RdO w g s) :
    Calls Tryz.prog 97 #[.pointer (some ⟨g, 0, none⟩)] w fun e w' => e = .returned (.agg #[.int .i64 s.fe, .int .i64 (s.fa : Int)]) ∧ Ext w w' := by
  have hg := h.lt
  have d2 := h.fe
  have d3 := h.fa
  have HK := Lib.hid h
  clear h
  go_enter Tryz.func97, Tryz.ntmps97
  go_wp2_with (go_at_call 136; refine (onone_any g s _ (HK.out.ext ((Ext.refl w).alloc _))).mono ?_; rintro e w' ⟨rfl, rfl⟩)
  exact bodyPost_ret (results_c rfl rfl (ld_fault (Blk.new w 100 #[.int .i64 s.fe, .int .i64 (s.fa : Int)]))) rfl ⟨rfl, (Ext.refl w).alloc _⟩
end Go.Proofs.YtokakpbpenndlaaGreatDoor

set_option linter.unusedVariables false
namespace Go.Proofs.YtokakpbpenndlaaGreatDoor
open Go.RowKit

set_option maxRecDepth 100000 in
set_option maxHeartbeats 1000000 in
theorem onew_any (b : List UInt8) (A : Option Addr) (cap : Nat) (w : World) (hr : Reads w w.heap.size 1 A b.length (bV b)) (hm : b.length ≤ 1000000) :
    Calls Tryz.prog 50 #[.slice A b.length cap] w fun e w' => ∃ w1 : World, e = .returned (.pointer (some ⟨w1.heap.size, 0, none⟩)) ∧ Ext w w1 ∧ RdO w' w1.heap.size (RS.start b) ∧ Ext w1 w' := by
  go_enter Tryz.func50, Tryz.ntmps50
  go_wp2_with (at_builtin; refine wpl_app row_u8 w w _ (.tmp 3) rfl rfl rfl (World.ownsRow_nil _ _ _ _) (Ext.refl w) rfl hr (bV_one _) (by omega) (by unfold maxLen; omega) ?_; intro v1 w1 hg; obtain ⟨A1, c1, rfl, hc1, hm1, hr1⟩ := own_slice hg.own)
  simp only [Nat.zero_add, List.nil_append] at hc1 hr1
  refine bodyPost_ret (results_tmp rfl _ _ _) rfl ⟨w1, rfl, hg.ext, ⟨⟨A1, c1, ?_, ?_, hc1, hm1⟩, by simp [RS.ok, RS.start]⟩, (Ext.refl w1).alloc _⟩
  · have := Blk.new w1 173 #[.slice A1 b.length c1, .int .i64 0, .int .i64 0, .int .i64 0, .bool true]
    simpa [RS.start] using this
  · exact hr1.extB (Nat.le_refl _) ((Ext.refl w1).alloc _)

set_option maxRecDepth 100000 in
set_option maxHeartbeats 2000000 in
theorem oend_any (s : RS) (g : Nat) (w : World) (h : RdO w g s) :
    Calls Tryz.prog 52 #[.pointer (some ⟨g, 0, none⟩)] w fun e w' => e = .returned (.agg #[.int .i64 s.fin.1, .int .i64 (s.fin.2 : Int)]) ∧ Ext w w' := by
  have hg := h.lt
  have HK := Lib.hid h
  clear h
  by_cases hs : s.fe = 0
  · have hb : (s.fe == 0) = true := by simp [hs]
    by_cases ha : s.at_ < s.b.length
    · have hd : decide ((s.at_ : Int) < (s.b.length : Int)) = true := by simpa using ha
      have HF := Lib.hid (show s.fin = (4, s.at_) by unfold RS.fin; rw [if_pos ⟨hs, ha⟩])
      replace hs := Lib.hid hs
      go_enter Tryz.func52, Tryz.ntmps52
      go_wp2_with (go_at_call 97; refine (ofaultR_any s g _ (HK.out.ext ((Ext.refl w).alloc _))).mono ?_; rintro e w1 ⟨rfl, hx1⟩)
      have X8 := (((Ext.refl w).alloc _).trans hx1).alloc (Obj.cells #[.int .i64 s.fe, .int .i64 (s.fa : Int)] 100)
      have B2 := (Blk.ext (Blk.new w 100 #[.int .i64 0, .int .i64 0]) hx1).alloc (Obj.cells #[.int .i64 s.fe, .int .i64 (s.fa : Int)] 100)
      have B3 := Blk.new w1 100 #[.int .i64 s.fe, .int .i64 (s.fa : Int)]
      generalize w1.alloc (Obj.cells #[.int .i64 s.fe, .int .i64 (s.fa : Int)] 100) = wz at B2 B3 X8 ⊢
      have HZ := HK.out.ext X8
      have d1 := HZ.at_
      obtain ⟨A, cap, d0⟩ := HZ.bytes
      clear HZ hx1
      obtain ⟨q2, q2'⟩ := B2.cells
      obtain ⟨q3, q3'⟩ := B3.cells
      go_quiet (fail)
      go_wp2_with (go_at_call 98; refine (ofault_any _ _ _).mono ?_; rintro e w2 ⟨rfl, hx2⟩; have B2' := (B2.drewN _).ext hx2; obtain ⟨p2, p2'⟩ := B2'.cells)
      refine bodyPost_ret (results_c rfl rfl (ld_fault (fault_set B2' _ _))) rfl ⟨?_, (((X8.drewN _).trans hx2).set (Nat.le_refl _) _).set (Nat.le_refl _) _⟩
      rw [HF.out]
    · have hd : decide ((s.at_ : Int) < (s.b.length : Int)) = false := by simpa using ha
      have HF := Lib.hid (show s.fin = (s.fe, s.fa) by unfold RS.fin; rw [if_neg (by omega)])
      replace hs := Lib.hid hs
      go_enter Tryz.func52, Tryz.ntmps52
      go_wp2_with (go_at_call 97; refine (ofaultR_any s g _ (HK.out.ext ((Ext.refl w).alloc _))).mono ?_; rintro e w1 ⟨rfl, hx1⟩)
      have X8 := (((Ext.refl w).alloc _).trans hx1).alloc (Obj.cells #[.int .i64 s.fe, .int .i64 (s.fa : Int)] 100)
      have B2 := (Blk.ext (Blk.new w 100 #[.int .i64 0, .int .i64 0]) hx1).alloc (Obj.cells #[.int .i64 s.fe, .int .i64 (s.fa : Int)] 100)
      have B3 := Blk.new w1 100 #[.int .i64 s.fe, .int .i64 (s.fa : Int)]
      generalize w1.alloc (Obj.cells #[.int .i64 s.fe, .int .i64 (s.fa : Int)] 100) = wz at B2 B3 X8 ⊢
      have HZ := HK.out.ext X8
      have d1 := HZ.at_
      obtain ⟨A, cap, d0⟩ := HZ.bytes
      clear HZ hx1
      obtain ⟨q2, q2'⟩ := B2.cells
      obtain ⟨q3, q3'⟩ := B3.cells
      go_quiet (fail)
      go_wp2_with fail
      refine bodyPost_ret (results_c rfl rfl (ld_fault (fault_set (B2.drewN _) _ _))) rfl ⟨?_, ((X8.drewN _).set (Nat.le_refl _) _).set (Nat.le_refl _) _⟩
      rw [HF.out]
  · have hb : (s.fe == 0) = false := by simp [hs]
    have HF := Lib.hid (show s.fin = (s.fe, s.fa) by unfold RS.fin; rw [if_neg (by omega)])
    go_enter Tryz.func52, Tryz.ntmps52
    go_wp2_with (go_at_call 97; refine (ofaultR_any s g _ (HK.out.ext ((Ext.refl w).alloc _))).mono ?_; rintro e w1 ⟨rfl, hx1⟩)
    have X8 := (((Ext.refl w).alloc _).trans hx1).alloc (Obj.cells #[.int .i64 s.fe, .int .i64 (s.fa : Int)] 100)
    have B2 := (Blk.ext (Blk.new w 100 #[.int .i64 0, .int .i64 0]) hx1).alloc (Obj.cells #[.int .i64 s.fe, .int .i64 (s.fa : Int)] 100)
    have B3 := Blk.new w1 100 #[.int .i64 s.fe, .int .i64 (s.fa : Int)]
    generalize w1.alloc (Obj.cells #[.int .i64 s.fe, .int .i64 (s.fa : Int)] 100) = wz at B2 B3 X8 ⊢
    have HZ := HK.out.ext X8
    have d1 := HZ.at_
    obtain ⟨A, cap, d0⟩ := HZ.bytes
    clear HZ hx1
    obtain ⟨q2, q2'⟩ := B2.cells
    obtain ⟨q3, q3'⟩ := B3.cells
    go_quiet (fail)
    go_wp2_with fail
    refine bodyPost_ret (results_c rfl rfl (ld_fault (fault_set (B2.drewN _) _ _))) rfl ⟨?_, ((X8.drewN _).set (Nat.le_refl _) _).set (Nat.le_refl _) _⟩
    rw [HF.out]

theorem RdO.set {w : World} {g : Nat} {s : RS} (h : RdO w g s) {p : Addr} (hp : g < p.block) (u : Value) : RdO (w.setCell p u) g s := by
  obtain ⟨A, cap, hB, hr, hc, hm⟩ := h.ex
  exact ⟨⟨A, cap, hB.far (Nat.ne_of_lt hp) u, hr.keep fun b o hb => World.cell?_setCell_far _ _ _ _ (Nat.ne_of_gt (Nat.lt_trans hb hp)), hc, hm⟩, h.ok⟩
theorem ext_grown {w a b : World} {row : Option Nat} (hx : Ext w a) (hG : a.grownBy b row) : w.grownBy b row :=
  ⟨hG.os.trans hx.below.os, hG.tape.trans hx.below.tape, hG.output.trans hx.below.output, Nat.le_trans hx.size hG.size, fun k hk hne => (hG.block k (Nat.lt_of_lt_of_le hk hx.size) hne).trans (hx.block k hk)⟩

end Go.Proofs.YtokakpbpenndlaaGreatDoor

set_option linter.unusedVariables false
namespace Go.Proofs.YtokakpbpenndlaaGreatDoor

/-- n lines read one behind the other; none behind a fault. -/
def linesO : Nat → RS → List Ln × RS
  | 0, s => ([], s)
  | n + 1, s => if s.fe = 0 then (⟨(s.num 1 1099511627775 5).1, ((s.num 1 1099511627775 5).2.num 0 1099511627775 5).1⟩ :: (linesO n ((s.num 1 1099511627775 5).2.num 0 1099511627775 5).2).1, (linesO n ((s.num 1 1099511627775 5).2.num 0 1099511627775 5).2).2) else linesO n s
/-- The reference's: it goes on behind a fault. -/
def linesR : Nat → RS → List Ln × RS
  | 0, s => ([], s)
  | n + 1, s => (⟨(s.num 1 1099511627775 5).1, ((s.num 1 1099511627775 5).2.num 0 1099511627775 5).1⟩ :: (linesR n ((s.num 1 1099511627775 5).2.num 0 1099511627775 5).2).1, (linesR n ((s.num 1 1099511627775 5).2.num 0 1099511627775 5).2).2)
theorem linesR_bad (n : Nat) : ∀ s : RS, s.fe ≠ 0 → (linesR n s).2 = s := by
  induction n with
  | zero => intro s _; rfl
  | succ n ih =>
    intro s h
    simp only [linesR, RS.num_sticky h]
    exact ih s h
theorem linesO_bad (n : Nat) : ∀ s : RS, s.fe ≠ 0 → linesO n s = ([], s) := by
  induction n with
  | zero => intro s _; rfl
  | succ n ih =>
    intro s h
    simp only [linesO, if_neg h]
    exact ih s h
theorem linesOR (n : Nat) : ∀ s : RS, (linesO n s).2 = (linesR n s).2 ∧ ((linesR n s).2.fe = 0 → (linesO n s).1 = (linesR n s).1) := by
  induction n with
  | zero => intro s; exact ⟨rfl, fun _ => rfl⟩
  | succ n ih =>
    intro s
    by_cases h : s.fe = 0
    · simp only [linesO, linesR, if_pos h]
      have := ih ((s.num 1 1099511627775 5).2.num 0 1099511627775 5).2
      exact ⟨this.1, fun h1 => by rw [this.2 h1]⟩
    · have e := linesR_bad (n + 1) s h
      rw [linesO_bad (n + 1) s h]
      exact ⟨e.symm, fun h1 => absurd (by rw [e] at h1; exact h1) h⟩
theorem linesO_len (n : Nat) : ∀ s : RS, (linesO n s).1.length ≤ n := by
  induction n with
  | zero => intro s; simp [linesO]
  | succ n ih =>
    intro s
    unfold linesO
    split
    · simp only [List.length_cons]
      have := ih ((s.num 1 1099511627775 5).2.num 0 1099511627775 5).2
      omega
    · have := ih s; omega
theorem linesR_len (n : Nat) : ∀ s : RS, (linesR n s).1.length = n := by
  induction n with
  | zero => intro s; rfl
  | succ n ih => intro s; simp [linesR, ih]

/-- The head of an order that is read: currency, day, place, count; the place at which the count stands. -/
structure Head where
  cu : Int
  day : Int
  px : Int
  py : Int
  at_ : Nat
  n : Int
  s : RS
def headP (b : List UInt8) : Head :=
  let s0 := RS.start b
  let s1 := s0.num 0 1099511627775 5
  let s2 := s1.2.num 0 3652058 5
  let s3 := s2.2.num (-1099511627775) 1099511627775 5
  let s4 := s3.2.num (-1099511627775) 1099511627775 5
  let s5 := s4.2.num 0 100 3
  ⟨s1.1, s2.1, s3.1, s4.1, s4.2.at_, s5.1, s5.2⟩
/-- What reading an order gives: the order, the fault, its place. -/
def readP (b : List UInt8) : Ord × Int × Nat :=
  let h := headP b
  if h.s.fe = 0 ∧ h.n = 0 then (⟨0, 0, 0, 0, []⟩, 2, h.at_)
  else if (linesO h.n.toNat h.s).2.fin.1 ≠ 0 then (⟨0, 0, 0, 0, []⟩, (linesO h.n.toNat h.s).2.fin.1, (linesO h.n.toNat h.s).2.fin.2)
  else (⟨h.cu, h.day, h.px, h.py, (linesO h.n.toNat h.s).1⟩, 0, 0)
theorem head_n (b : List UInt8) : 0 ≤ (headP b).n ∧ (headP b).n ≤ 100 := RS.num_bd _ 0 100 3 (by decide) (by decide)
theorem fin_fe (s : RS) (h : s.fin.1 = 0) : s.fe = 0 := by
  unfold RS.fin at h
  split at h
  · simp at h
  · exact h
/-- The reference's reading comes to the same. -/
theorem readR (b : List UInt8) : readP b = 
    (let h := headP b
     if h.s.fe = 0 ∧ h.n = 0 then ((⟨0, 0, 0, 0, []⟩ : Ord), (2 : Int), h.at_)
     else if (linesR h.n.toNat h.s).2.fin.1 ≠ 0 then (⟨0, 0, 0, 0, []⟩, (linesR h.n.toNat h.s).2.fin.1, (linesR h.n.toNat h.s).2.fin.2)
     else (⟨h.cu, h.day, h.px, h.py, (linesR h.n.toNat h.s).1⟩, 0, 0)) := by
  unfold readP
  simp only
  obtain ⟨e1, e2⟩ := linesOR (headP b).n.toNat (headP b).s
  by_cases h0 : (headP b).s.fe = 0 ∧ (headP b).n = 0
  · rw [if_pos h0, if_pos h0]
  rw [if_neg h0, if_neg h0, e1]
  by_cases h1 : (linesR (headP b).n.toNat (headP b).s).2.fin.1 ≠ 0
  · rw [if_pos h1, if_pos h1]
  rw [if_neg h1, if_neg h1, e2 (fin_fe _ (by simpa using h1))]
/-- No fault has no place. -/
def RS.clean (s : RS) : Prop := s.fe = 0 → s.fa = 0
theorem RS.num_clean {s : RS} (h : s.clean) (lo hi above : Int) (ha : above ≠ 0) : (s.num lo hi above).2.clean := by
  unfold RS.num
  by_cases h0 : s.fe ≠ 0
  · rw [if_pos h0]; exact h
  rw [if_neg h0]
  simp only
  by_cases h1 : (getN s.b s.at_).fe ≠ 0
  · rw [if_pos h1]; exact fun h2 => absurd h2 h1
  rw [if_neg h1]
  by_cases h2 : hi < (getN s.b s.at_).n
  · rw [if_pos h2]; exact fun h3 => absurd h3 ha
  rw [if_neg h2]
  by_cases h3 : (getN s.b s.at_).n < lo
  · rw [if_pos h3]; exact fun h4 => absurd h4 (by show ¬ (5 : Int) = 0; decide)
  rw [if_neg h3]
  exact h
theorem linesR_clean (n : Nat) : ∀ s : RS, s.clean → (linesR n s).2.clean := by
  induction n with
  | zero => intro s h; exact h
  | succ n ih => intro s h; exact ih _ (RS.num_clean (RS.num_clean h _ _ _ (by decide)) _ _ _ (by decide))
theorem head_clean (b : List UInt8) : (headP b).s.clean :=
  RS.num_clean (RS.num_clean (RS.num_clean (RS.num_clean (RS.num_clean (s := RS.start b) (fun _ => rfl) _ _ _ (by decide)) _ _ _ (by decide)) _ _ _ (by decide)) _ _ _ (by decide)) _ _ _ (by decide)
theorem fin_clean {s : RS} (h : s.clean) (h0 : s.fin.1 = 0) : s.fin.2 = 0 := by
  unfold RS.fin at h0 ⊢
  split at h0
  · simp at h0
  · rename_i hc
    rw [if_neg hc]
    exact h h0
end Go.Proofs.YtokakpbpenndlaaGreatDoor

set_option linter.unusedVariables false
namespace Go.Proofs.YtokakpbpenndlaaGreatDoor
open Go.RowKit

def zOrd : Array Value := #[.int .i64 0, .int .i64 0, .int .i64 0, .int .i64 0, .slice none 0 0]
def exitW (W : World) (n2 n3 : Nat) (v0 v1 v2 v3 v4 x y : Value) : World :=
  ((((((W.setCell ⟨n2, 0, none⟩ v0).setCell ⟨n2, 1, none⟩ v1).setCell ⟨n2, 2, none⟩ v2).setCell ⟨n2, 3, none⟩ v3).setCell ⟨n2, 4, none⟩ v4).setCell ⟨n3, 0, none⟩ x).setCell ⟨n3, 1, none⟩ y
end Go.Proofs.YtokakpbpenndlaaGreatDoor

set_option linter.unusedVariables false
namespace Go.Proofs.YtokakpbpenndlaaGreatDoor
open Go.RowKit
end Go.Proofs.YtokakpbpenndlaaGreatDoor

namespace Go.Proofs.YtokakpbpenndlaaGreatDoor
open Go.RowKit

theorem sameBytes_t (a : List UInt8) (A A' : Option Addr) (n n' c c' : Nat) (w : World) (h1 : Reads w w.heap.size 1 A n (bV a)) (h2 : Reads w w.heap.size 1 A' n' (bV a)) :
    Calls Tryz.prog 20 #[.slice A n c, .slice A' n' c'] w fun e w' => e = .returned (.bool true) ∧ w = w' :=
  (sameBytes_any a a A A' n n' c c' w h1 h2).mono fun e w' ⟨h, hw⟩ => ⟨by rw [h, beq_self_eq_true], hw⟩
/-- The six cells of an order and a fault that lie in two blocks. -/
abbrev Six (w : World) (g : Nat) (a b c d : Int) (s : Value) (h : Nat) : Prop :=
  w.cell? ⟨g, 0, none⟩ = some (.int .i64 a) ∧ w.cell? ⟨g, 1, none⟩ = some (.int .i64 b) ∧ w.cell? ⟨g, 2, none⟩ = some (.int .i64 c) ∧ w.cell? ⟨g, 3, none⟩ = some (.int .i64 d) ∧ w.cell? ⟨g, 4, none⟩ = some s ∧ w.cell? ⟨h, 0, none⟩ = some (.int .i64 0)

end Go.Proofs.YtokakpbpenndlaaGreatDoor

set_option linter.unusedVariables false
namespace Go.Proofs.YtokakpbpenndlaaGreatDoor
open Go.RowKit

set_option maxHeartbeats 1000000 in
theorem pick_any (x n : Int) (hn : n ≤ 9223372036854775807) (w : World) :
    Calls Tryz.prog 35 #[.int .i64 x, .int .i64 n] w fun e w' => e = .returned (.int .i64 (pickI x n)) ∧ w = w' := by
  by_cases h1 : n < 1
  · have hd : decide (n < 1) = true := by simpa using h1
    have HE := Lib.hid (show pickI x n = 0 by unfold pickI; rw [if_pos h1])
    go_enter Tryz.func35, Tryz.ntmps35
    go_wp2_with fail
    go_ret
    exact ⟨by rw [HE.out]; rfl, rfl⟩
  · have hd : decide (n < 1) = false := by simpa using h1
    have hz : (n == 0) = false := by rw [beq_eq_false_iff_ne]; omega
    have hz' : n ≠ 0 := by omega
    obtain ⟨b1, b2⟩ := tmod_bd (x := x) (n := n) (by omega)
    by_cases hm : Int.tmod x n < 0
    · have hd2 : decide (Int.tmod x n < 0) = true := by simpa using hm
      have HE := Lib.hid (show pickI x n = Int.tmod x n + n by unfold pickI; rw [if_neg h1, if_pos hm])
      generalize hM : Int.tmod x n = M at *
      have hi : IntKind.i64.wrap M = M := by rw [IntKind.wrap_i64]; omega
      go_enter Tryz.func35, Tryz.ntmps35
      go_wp2_with fail
      go_ret
      exact ⟨by rw [HE.out]; rfl, rfl⟩
    · have hd2 : decide (Int.tmod x n < 0) = false := by simpa using hm
      have HE := Lib.hid (show pickI x n = Int.tmod x n by unfold pickI; rw [if_neg h1, if_neg hm])
      generalize hM : Int.tmod x n = M at *
      have hi : IntKind.i64.wrap M = M := by rw [IntKind.wrap_i64]; omega
      go_enter Tryz.func35, Tryz.ntmps35
      go_wp2_with fail
      go_ret
      exact ⟨by rw [HE.out]; rfl, rfl⟩
end Go.Proofs.YtokakpbpenndlaaGreatDoor
