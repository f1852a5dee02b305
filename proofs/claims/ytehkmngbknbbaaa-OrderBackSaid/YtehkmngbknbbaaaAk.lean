/-
  A lent list is kept.
-/
import Derived.Test.YtehkmngbknbbaaaAj
import Derived.Deep.RegionHeld3
set_option linter.unusedVariables false
namespace Go.Proofs.Ytehkmngbknbbaaa
open Go.RowKit

set_option maxHeartbeats 800000 in
theorem kept_any (l : List UInt8) (g : Nat) (A : Option Addr) (c : Nat) (w : World) (hB : Blk w g 5 (bV (lentL l)).toArray) (hr : Reads w w.heap.size 1 A l.length (bV l)) (hm : l.length ≤ 1000000) :
    Calls Try.prog 27 #[.slice (some ⟨g, 0, none⟩) l.length (l.length + 3), .slice A l.length c] w fun e w' => e = .returned (.bool true) ∧ Ext w w' := by
  have full : ∀ (W : World) (h : Nat), Blk W h 5 (bV (lentL l)).toArray → Reads W W.heap.size 1 (some ⟨h, 0, none⟩) (l.length + 3) (bV (lentL l)) := fun W h hb =>
    ⟨by simp [bV, lentL], fun _ => ⟨h, 0, rfl, hb.lt, fun j u hu => by rw [Nat.zero_add, hb.cell]; simpa using hu⟩⟩
  have F := Lib.hid full
  clear full
  have R := Lib.hid (fun (W : World) (h : Ext w W) => hr.ext h)
  have RB := Lib.hid hB
  clear hr hB
  have a1 : IntKind.i64.wrap ((l.length : Int) + 3) = (l.length : Int) + 3 := by rw [IntKind.wrap_i64]; omega
  have a2 : (0 : Int) ≤ (l.length : Int) + 3 := by omega
  have a3 : ((l.length : Int) + 3).toNat = l.length + 3 := by omega
  have a4 : (l.length : Int) + 3 ≤ ((l.length + 3 : Nat) : Int) := by omega
  go_enter Try.func27, Try.ntmps27
  go_wp2_with fail
  go_region_held3 (fun _ => True) (trivial) (first | (go_at_call 16; refine (lent_any l A c _ (R.out _ (Ext.refl w).drew) hm).mono ?_; rintro e w1 ⟨g2, rfl, hg2, hB2, hx2⟩) | (go_at_call 23; refine (sameBytes_any (lentL l) (lentL l) _ _ _ _ _ _ _ (F.out _ _ (Blk.ext (Blk.drewN RB.out 1) hx2)) (F.out _ _ hB2)).mono ?_; rintro e w2 ⟨rfl, rfl⟩))
  go_wp2_with fail
  go_ret
  exact ⟨rfl, (Ext.refl w).drew.trans hx2⟩
end Go.Proofs.Ytehkmngbknbbaaa
