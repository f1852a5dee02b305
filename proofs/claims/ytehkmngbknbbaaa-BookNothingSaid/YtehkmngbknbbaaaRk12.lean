/-
  The reference's Bytes; the chapter's small order.
-/
import Derived.Test.YtehkmngbknbbaaaRk11
import Derived.Deep.RegionLaw
import Derived.Test.YtehkmngbknbbaaaRk09
import Derived.Test.YtehkmngbknbbaaaRk08
set_option linter.unusedVariables false
namespace Go.Proofs.Ytehkmngbknbbaaa
open Go.RowKit

def RBRel (w : World) (o : Ord) (A : Option Addr) (cap : Nat) (out i : Value) (wr : World) : Prop :=
  ∃ k : Nat, k ≤ o.ls.length ∧ i = .int .i64 (k : Int) ∧ wr.ownsRow w.heap.size 3 1 out (5 + 2 * k) (iV (o.hd ++ lnInts (o.ls.take k))) ∧ Ext w wr ∧ Blk wr w.heap.size 26 (ordCells o A cap)

set_option maxRecDepth 100000 in
set_option maxHeartbeats 1000000 in
theorem rbytes_any (o : Ord) (A : Option Addr) (cap : Nat) (w : World) (hr : Reads w w.heap.size 2 A o.ls.length (lnCells o.ls)) (hm : o.ls.length ≤ maxLen) :
    Calls Try.prog 20 #[ordV o A cap] w fun e w' => ∃ v, e = .returned (.tuple #[v, .int .i64 o.check.1]) ∧ w'.ownsRow w.heap.size 5 1 v o.bytes.length (bV o.bytes) ∧ Ext w w' ∧ AllP w' v u8P := by
  have RR := fun ob : Obj => hr.ext ((Ext.refl w).alloc ob)
  simp only [ordV]
  by_cases hc : o.check.1 = 0
  · have hb : (o.check.1 != 0) = false := by simp [hc]
    obtain ⟨hk0, hk1, hk2, hk3⟩ := Ord.check_ok hc
    have hi := Ord.hd_i64 hc
    have HC := Lib.hid hc
    have RR := Lib.hid RR
    clear hc hk0
    go_enter Try.func20, Try.ntmps20
    go_wp2_with (go_at_call 18; refine (rcheck_any o A cap _ (RR.out _) hm).mono ?_; rintro e w1 ⟨rfl, hx1⟩; have B1 := (Blk.new _ _ _).ext hx1; obtain ⟨q1, q1'⟩ := B1.cells)
    clear q1 q1'
    have hx0 : Ext w w1 := ((Ext.refl w).alloc _).trans hx1
    go_loopw [6, 7] (fun out i wr => RBRel w o A cap out i wr) (fun _ i _ => o.ls.length - (intOf i).toNat)
    case atStart =>
      refine ⟨0, by omega, rfl, ?_, hx0.alloc _, B1.alloc _⟩
      have := World.ownsRow_lit (base := w.heap.size) (e := 3) (size := 1) w1 (iV o.hd).toArray 5 hx0.size (by simp [maxLen]) rfl
      simpa [lnInts, iV, Ord.hd] using this
    case round =>
      obtain ⟨k, hk, rfl, hown, hx, B2⟩ := hrel
      clear B1 hx1 hx0
      have q0 : wr.cell? ⟨w.heap.size, 4, none⟩ = some (.slice A o.ls.length cap) := B2.cell 4
      by_cases hlt : k < o.ls.length
      · have hd : decide ((k : Int) < (o.ls.length : Int)) = true := by simp; omega
        obtain ⟨g, off, rfl, hg, hcl⟩ := (hr.extB (Nat.le_refl _) hx).cellAt hlt
        obtain ⟨e1, e2⟩ := lnCells_at o.ls k hlt
        have c1 := hcl _ _ e1
        have c2 : wr.cell? ⟨g, off + k * 2 + 1, none⟩ = _ := hcl _ _ e2
        clear hcl e1 e2
        generalize hxe : o.ls[k] = x at *
        have HX := Lib.hid hxe
        clear hxe
        go_wp2_with fail
        go_region_law (refine step_app row_int w _ (.tmp 37) (.tmp 50) rfl rfl rfl (own_ext hown ((Ext.refl wr).alloc _).drew) (hx.alloc _).drew rfl (reads_new' wr #[.int .i64 x.c, .int .i64 x.a] 3 2 1 (by simp) rfl) (by simp [Value.oneCell']) (by omega) (by unfold maxLen; omega) ?_; intro v4 w4 hg4)
        go_wp2_with fail
        all_goals
          go_roundw
          case rel =>
            refine ⟨k + 1, by omega, by go_num, ?_, hg4.ext, hg4.blk (hown.alloc _) (B2.alloc _) (by decide)⟩
            have := hg4.own
            rw [lnInts_snoc _ k hlt, HX.out, ← List.append_assoc]
            simpa [iV, Nat.mul_add, Nat.add_assoc] using this
          case measure => simp [intOf]; omega
      · have hd : decide ((k : Int) < (o.ls.length : Int)) = false := by simp; omega
        have hke : k = o.ls.length := by omega
        subst hke
        obtain ⟨A3, c3, rfl, hc3, hm3, hr3⟩ := own_slice hown
        have hi2 : ∀ n ∈ o.hd ++ lnInts o.ls, i64 n := by
          intro n hn
          rcases List.mem_append.1 hn with hn | hn
          · exact hi n hn
          · simp only [lnInts, List.mem_flatMap] at hn
            obtain ⟨y, hy, hn⟩ := hn
            exact Ln.i64 (hk3 y hy) n hn
        have hlen : (o.hd ++ lnInts o.ls).length = 5 + 2 * o.ls.length := by rw [List.length_append, lnInts_len]; rfl
        rw [List.take_length] at hr3
        have HR := Lib.hid hr3
        have HI := Lib.hid hi2
        have HL := Lib.hid hlen
        clear hr3 hi2 hlen hi hk3
        go_wp2_with (go_at_call 70; rw [← HL.out]; refine (rputs_any (o.hd ++ lnInts o.ls) _ _ _ (by rw [HL.out]; exact HR.out) (by rw [HL.out]; omega) HI.out).mono ?_; rintro e w3 ⟨v3, rfl, ho3, hx3, ha3⟩)
        go_ret2
        refine ⟨v3, ?_, ?_, hx.trans hx3, ha3⟩
        · rw [HC.out]; rfl
        · rw [Ord.bytes, if_pos HC.out]
          exact own_base ho3 hx.size
  · have hb : (o.check.1 != 0) = true := by simp [hc]
    have HB := Lib.hid (Ord.bytes_no hc)
    have RR := Lib.hid RR
    clear hc
    go_enter Try.func20, Try.ntmps20
    go_wp2_with (go_at_call 18; refine (rcheck_any o A cap _ (RR.out _) hm).mono ?_; rintro e w1 ⟨rfl, hx1⟩)
    go_ret2
    refine ⟨_, rfl, ?_, ((Ext.refl w).alloc _).trans hx1, AllP.nil _ _ _ _⟩
    rw [HB.out]; exact World.ownsRow_nil _ _ _ _

def smallO : Ord := ⟨0, 1, 2, -1, [⟨7, 5⟩]⟩
theorem small_any (w : World) :
    Calls Try.prog 64 #[] w fun e w' => ∃ A c, e = .returned (ordV smallO A c) ∧ Reads w' w'.heap.size 2 A 1 (lnCells smallO.ls) ∧ Ext w w' := by
  go_enter Try.func64, Try.ntmps64
  go_wp2
  refine bodyPost_ret (v := ordV smallO (some ⟨w.heap.size + 1, 0, none⟩) 1) (by simp [results, Try.results64, go_sem, ordV, smallO]) rfl ⟨_, _, rfl, ?_, ?_⟩
  · exact reads_new' _ _ _ 1 2 (by simp) rfl
  · exact ((Ext.refl w).alloc _).alloc _
theorem bytes_any (w : World) :
    Calls Try.prog 37 #[] w fun e w' => ∃ v, e = .returned v ∧ w'.ownsRow w.heap.size 5 1 v 7 (bV [0, 2, 4, 1, 2, 14, 10]) ∧ Ext w w' := by
  go_enter Try.func37, Try.ntmps37
  go_wp2
  go_ret
  refine ⟨_, rfl, ?_, (Ext.refl w).alloc _⟩
  exact World.ownsRow_lit (base := w.heap.size) (e := 5) (size := 1) w (bV [0, 2, 4, 1, 2, 14, 10]).toArray 7 (Nat.le_refl _) (by simp [maxLen]) rfl
end Go.Proofs.Ytehkmngbknbbaaa

set_option linter.unusedVariables false
namespace Go.Proofs.Ytehkmngbknbbaaa
open Go.RowKit Go.ChangeShapes Go.WideShapes Go.Deep

theorem opens_i : Opens Try.prog 3 (fun _ cs => ∃ n : Int, cs = [.int .i64 n] ∧ i64 n) :=
  (opens_int Try.underlying3).mono fun _ cs ⟨n, h, hw⟩ => ⟨n, h, by
    simp [Lit.wf, IntKind.min, IntKind.max, IntKind.signed, IntKind.bits] at hw
    exact hw⟩
theorem opens_u8 : Opens Try.prog 5 (fun _ cs => ∃ b : UInt8, cs = [.int .u8 (b.toNat : Int)]) :=
  (opens_int Try.underlying5).mono fun _ cs ⟨n, h, hw⟩ => by
    simp [Lit.wf, IntKind.min, IntKind.max, IntKind.signed, IntKind.bits] at hw
    refine ⟨UInt8.ofNat n.toNat, ?_⟩
    rw [h]
    have : (UInt8.ofNat n.toNat).toNat = n.toNat := by rw [UInt8.toNat_ofNat']; omega
    rw [this]
    have : ((n.toNat : Nat) : Int) = n := by omega
    rw [this]
theorem bV_flat (l : List UInt8) : l.flatMap (fun b => [Value.int .u8 (b.toNat : Int)]) = bV l := by
  unfold bV
  induction l with
  | nil => rfl
  | cons a l ih => rw [List.flatMap_cons, ih]; rfl
theorem opens_bytes : Opens Try.prog 27 (fun w cs => ∃ (A : Option Addr) (cap : Nat) (l : List UInt8), cs = [.slice A l.length cap] ∧ l.length ≤ cap ∧ cap ≤ maxLen ∧ Reads w w.heap.size 1 A l.length (bV l)) :=
  (opens_slice 1 Try.underlying27 (by kernel_rfl) (by decide) opens_u8).mono fun w cs h => by
    obtain ⟨A, cap, l, h1, h2, h3, _, h4⟩ := SliceOf.list (code := fun b : UInt8 => [Value.int .u8 (b.toNat : Int)]) (p := fun _ => True) h (fun x ⟨b, hb⟩ => ⟨b, hb, trivial⟩)
    exact ⟨A, cap, l, h1, h2, h3, by rw [bV_flat] at h4; exact h4⟩
theorem opens_point : Opens Try.prog 23 (fun _ cs => ∃ x y : Int, cs = [.int .i64 x, .int .i64 y] ∧ i64 x ∧ i64 y) :=
  (opens_fields Try.underlying23 (.cons 1 opens_i (by kernel_rfl) (.cons 1 opens_i (by kernel_rfl) .nil)) (by kernel_rfl)).mono fun w cs h => by
    obtain ⟨_, _, rfl, _, ⟨x, rfl, hx⟩, _, _, rfl, _, ⟨y, rfl, hy⟩, rfl⟩ := h
    exact ⟨x, y, rfl, hx, hy⟩
theorem opens_line : Opens Try.prog 110 (fun _ cs => ∃ l : Ln, cs = l.cells ∧ (i64 l.c ∧ i64 l.a)) :=
  (opens_fields Try.underlying110 (.cons 1 opens_i (by kernel_rfl) (.cons 1 opens_i (by kernel_rfl) .nil)) (by kernel_rfl)).mono fun w cs h => by
    obtain ⟨_, _, rfl, _, ⟨x, rfl, hx⟩, _, _, rfl, _, ⟨y, rfl, hy⟩, rfl⟩ := h
    exact ⟨⟨x, y⟩, rfl, hx, hy⟩
theorem opens_lines : Opens Try.prog 24 (fun w cs => ∃ (A : Option Addr) (cap : Nat) (l : List Ln), cs = [.slice A l.length cap] ∧ l.length ≤ cap ∧ cap ≤ maxLen ∧ (∀ x ∈ l, i64 x.c ∧ i64 x.a) ∧ Reads w w.heap.size 2 A l.length (lnCells l)) :=
  (opens_slice 2 Try.underlying24 (by kernel_rfl) (by decide) opens_line).mono fun w cs h =>
    SliceOf.list (code := Ln.cells) (p := fun l => i64 l.c ∧ i64 l.a) h (fun x ⟨l, hl, hp⟩ => ⟨l, hl, hp⟩)
theorem opens_order : Opens Try.prog 26 (fun w cs => ∃ (o : Ord) (A : Option Addr) (cap : Nat), cs = [.int .i64 o.cu, .int .i64 o.day, .int .i64 o.px, .int .i64 o.py, .slice A o.ls.length cap] ∧ Reads w w.heap.size 2 A o.ls.length (lnCells o.ls) ∧ o.ls.length ≤ cap ∧ cap ≤ maxLen) :=
  (opens_fields Try.underlying26 (.cons 1 opens_i (by kernel_rfl) (.cons 1 opens_i (by kernel_rfl) (.cons 2 opens_point (by kernel_rfl) (.cons 1 opens_lines (by kernel_rfl) .nil)))) (by kernel_rfl)).mono fun w cs h => by
    obtain ⟨_, _, rfl, _, ⟨cu, rfl, _⟩, _, _, rfl, _, ⟨day, rfl, _⟩, _, _, rfl, _, ⟨px, py, rfl, _⟩, _, _, rfl, _, ⟨A, cap, l, rfl, h1, h2, _, h3⟩, rfl⟩ := h
    exact ⟨⟨cu, day, px, py, l⟩, A, cap, rfl, h3, h1, h2⟩
end Go.Proofs.Ytehkmngbknbbaaa

namespace Go.Proofs.Ytehkmngbknbbaaa
open Go.RowKit Go.ChangeShapes Go.WideShapes Go.Deep

theorem iV_flat (l : List Int) : l.flatMap (fun n => [Value.int .i64 n]) = iV l := by
  unfold iV
  induction l with
  | nil => rfl
  | cons a l ih => rw [List.flatMap_cons, ih]; rfl
theorem opens_ints : Opens Try.prog 47 (fun w cs => ∃ (A : Option Addr) (cap : Nat) (l : List Int), cs = [.slice A l.length cap] ∧ l.length ≤ cap ∧ cap ≤ maxLen ∧ (∀ n ∈ l, i64 n) ∧ Reads w w.heap.size 1 A l.length (iV l)) :=
  (opens_slice 1 Try.underlying47 (by kernel_rfl) (by decide) opens_i).mono fun w cs h => by
    obtain ⟨A, cap, l, h1, h2, h3, hp, h4⟩ := SliceOf.list (code := fun n : Int => [Value.int .i64 n]) (p := i64) h (fun x ⟨b, hb, hi⟩ => ⟨b, hb, hi⟩)
    exact ⟨A, cap, l, h1, h2, h3, hp, by rw [iV_flat] at h4; exact h4⟩
def Tx.i64 (x : Tx) : Prop := Go.Proofs.Ytehkmngbknbbaaa.i64 x.l ∧ Go.Proofs.Ytehkmngbknbbaaa.i64 x.j ∧ Go.Proofs.Ytehkmngbknbbaaa.i64 x.t ∧ Go.Proofs.Ytehkmngbknbbaaa.i64 x.x ∧ Go.Proofs.Ytehkmngbknbbaaa.i64 x.r ∧ Go.Proofs.Ytehkmngbknbbaaa.i64 x.v
theorem opens_tax : Opens Try.prog 46 (fun _ cs => ∃ x : Tx, cs = x.cl ∧ x.i64) :=
  (opens_fields Try.underlying46 (.cons 1 opens_i (by kernel_rfl) (.cons 1 opens_i (by kernel_rfl) (.cons 1 opens_i (by kernel_rfl) (.cons 1 opens_i (by kernel_rfl) (.cons 1 opens_i (by kernel_rfl) (.cons 1 opens_i (by kernel_rfl) .nil)))))) (by kernel_rfl)).mono fun w cs h => by
    obtain ⟨_, _, rfl, _, ⟨a, rfl, h1⟩, _, _, rfl, _, ⟨b, rfl, h2⟩, _, _, rfl, _, ⟨c, rfl, h3⟩, _, _, rfl, _, ⟨d, rfl, h4⟩, _, _, rfl, _, ⟨e, rfl, h5⟩, _, _, rfl, _, ⟨f, rfl, h6⟩, rfl⟩ := h
    exact ⟨⟨a, b, c, d, e, f⟩, rfl, h1, h2, h3, h4, h5, h6⟩
theorem opens_taxs : Opens Try.prog 49 (fun w cs => ∃ (A : Option Addr) (cap : Nat) (l : List Tx), cs = [.slice A l.length cap] ∧ l.length ≤ cap ∧ cap ≤ maxLen ∧ (∀ x ∈ l, x.i64) ∧ Reads w w.heap.size 6 A l.length (txCells l)) :=
  (opens_slice 6 Try.underlying49 (by kernel_rfl) (by decide) opens_tax).mono fun w cs h =>
    SliceOf.list (code := Tx.cl) (p := Tx.i64) h (fun x ⟨l, hl, hp⟩ => ⟨l, hl, hp⟩)
end Go.Proofs.Ytehkmngbknbbaaa
