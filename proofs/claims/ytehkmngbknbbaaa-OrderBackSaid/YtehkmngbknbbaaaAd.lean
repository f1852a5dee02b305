/-
  Orders as bytes: the walks through both puts and both Bytes.
-/
import Derived.Test.YtehkmngbknbbaaaAb
import Derived.Test.YtehkmngbknbbaaaAc
set_option linter.unusedVariables false
namespace Go.Proofs.Ytehkmngbknbbaaa
open Go.RowKit

/-- Numbers as cells. -/
def iV (l : List Int) : List Value := l.map fun n => .int .i64 n
theorem iV_one (l : List Int) : ∀ u ∈ iV l, u.oneCell' = true := by
  intro u hu
  simp only [iV, List.mem_map] at hu
  obtain ⟨b, _, rfl⟩ := hu
  rfl
theorem iV_at (l : List Int) (k : Nat) (h : k < l.length) : (iV l)[k]? = some (.int .i64 l[k]) := by simp [iV, h]
def PutsRel (w : World) (l : List Int) (o i : Value) (wr : World) : Prop :=
  ∃ k : Nat, k ≤ l.length ∧ i = .int .i64 (k : Int) ∧ wr.ownsRow w.heap.size 5 1 o (putsL (l.take k)).length (bV (putsL (l.take k))) ∧ Ext w wr ∧ AllP wr o u8P
theorem PutsRel.next {w w1 : World} {l : List Int} {k : Nat} {v1 : Value} {n m : Nat} {xs : List Value} (hk : k < l.length) (hg : w1.ownsRow w.heap.size 5 1 v1 n xs) (hn : n = (putsL (l.take k)).length + (putL l[k]).length) (hxs : xs = bV (putsL (l.take k)) ++ bV (putL l[k])) (hx : Ext w w1) (hall : AllP w1 v1 u8P) (hm : m = k + 1) : PutsRel w l v1 (.int .i64 (m : Int)) w1 := by
  subst hm hn hxs
  refine ⟨k + 1, by omega, rfl, ?_, hx, hall⟩
  rw [putsL_snoc l k hk, bV_app, List.length_append]
  exact hg
theorem PutsRel.done {w w1 : World} {l : List Int} {k : Nat} {o : Value} (hk : k = l.length) (h : w1.ownsRow w.heap.size 5 1 o (putsL (l.take k)).length (bV (putsL (l.take k)))) : w1.ownsRow w.heap.size 5 1 o (putsL l).length (bV (putsL l)) := by
  subst hk; rwa [List.take_length] at h

set_option maxHeartbeats 400000 in
theorem oputs_any (l : List Int) (A : Option Addr) (cap : Nat) (w : World) (hr : Reads w w.heap.size 1 A l.length (iV l)) (hl : l.length ≤ 1000000) (hi : ∀ n ∈ l, i64 n) :
    Calls Try.prog 69 #[.slice A l.length cap] w fun e w' => ∃ v, e = .returned v ∧ w'.ownsRow w.heap.size 5 1 v (putsL l).length (bV (putsL l)) ∧ Ext w w' ∧ AllP w' v u8P := by
  go_enter Try.func69, Try.ntmps69
  go_wp2
  go_loopw [3, 8] (fun o i wr => PutsRel w l o i wr) (fun _ i _ => l.length - (intOf i).toNat)
  case atStart => exact ⟨0, by omega, rfl, World.ownsRow_nil _ _ _ _, Ext.refl _, AllP.nil _ _ _ _⟩
  case round =>
    obtain ⟨k, hk, rfl, hown, hx, hall⟩ := hrel
    by_cases hlt : k < l.length
    · have hd : decide ((k : Int) < (l.length : Int)) = true := by simp; omega
      have hr' := hr.extB (Nat.le_refl _) hx
      obtain ⟨b, off, rfl, hadb, hc⟩ := hr'.cellAt hlt
      have c1 := hc _ _ (iV_at l k hlt)
      clear hc hr hr'
      have hn := hi _ (List.getElem_mem hlt)
      have hlen := putL_len l[k]
      have hlen2 := putsL_len (l.take k)
      have hlen3 : (l.take k).length ≤ k := List.length_take_le _ _
      go_wp2_with (first
        | (go_at_call 100; refine (oput_any _ hn.1 hn.2 _).mono ?_; rintro e w1 ⟨v, rfl, hown1, hx1, _⟩; obtain ⟨A1, c1, rfl, hc1, hm1, hr1⟩ := own_slice hown1)
        | (at_builtin; refine wpl_app row_u8 w w1 (.tmp 12) (.tmp 14) rfl rfl rfl (own_ext hown hx1) (hx.trans hx1) rfl hr1 (bV_one _) (by omega) (by unfold maxLen; omega) ?_; intro v2 w2 hg))
      go_roundw
      case rel => exact PutsRel.next hlt hg.own rfl rfl hg.ext (hg.all u8P u8z (u8bb _ _) (hall.ext hx1)) rfl
      case measure => simp [intOf]; omega
    · have hd : decide ((k : Int) < (l.length : Int)) = false := by simp; omega
      have HO := PutsRel.done (by omega) hown
      go_wp2_with fail
      go_ret
      exact ⟨_, rfl, HO, hx, hall⟩

set_option maxHeartbeats 400000 in
theorem rputs_any (l : List Int) (A : Option Addr) (cap : Nat) (w : World) (hr : Reads w w.heap.size 1 A l.length (iV l)) (hl : l.length ≤ 1000000) (hi : ∀ n ∈ l, i64 n) :
    Calls Try.prog 70 #[.slice A l.length cap] w fun e w' => ∃ v, e = .returned v ∧ w'.ownsRow w.heap.size 5 1 v (putsL l).length (bV (putsL l)) ∧ Ext w w' ∧ AllP w' v u8P := by
  go_enter Try.func70, Try.ntmps70
  go_wp2
  go_loopw [3, 4] (fun o i wr => PutsRel w l o i wr) (fun _ i _ => l.length - (intOf i).toNat)
  case atStart => exact ⟨0, by omega, rfl, World.ownsRow_nil _ _ _ _, Ext.refl _, AllP.nil _ _ _ _⟩
  case round =>
    obtain ⟨k, hk, rfl, hown, hx, hall⟩ := hrel
    by_cases hlt : k < l.length
    · have hd : decide ((k : Int) < (l.length : Int)) = true := by simp; omega
      have hr' := hr.extB (Nat.le_refl _) hx
      obtain ⟨b, off, rfl, hadb, hc⟩ := hr'.cellAt hlt
      have c1 := hc _ _ (iV_at l k hlt)
      clear hc hr hr'
      have hn := hi _ (List.getElem_mem hlt)
      have hlen := putL_len l[k]
      have hlen2 := putsL_len (l.take k)
      have hlen3 : (l.take k).length ≤ k := List.length_take_le _ _
      go_wp2_with (first
        | (go_at_call 103; refine (rput_any _ hn.1 hn.2 _).mono ?_; rintro e w1 ⟨v, rfl, hown1, hx1, _⟩; obtain ⟨A1, c1, rfl, hc1, hm1, hr1⟩ := own_slice hown1)
        | (at_builtin; refine wpl_app row_u8 w w1 (.tmp 11) (.tmp 16) rfl rfl rfl (own_ext hown hx1) (hx.trans hx1) rfl hr1 (bV_one _) (by omega) (by unfold maxLen; omega) ?_; intro v2 w2 hg))
      go_roundw
      case rel => exact PutsRel.next hlt hg.own rfl rfl hg.ext (hg.all u8P u8z (u8bb _ _) (hall.ext hx1)) rfl
      case measure => simp [intOf]; omega
    · have hd : decide ((k : Int) < (l.length : Int)) = false := by simp; omega
      have HO := PutsRel.done (by omega) hown
      go_wp2_with fail
      go_ret
      exact ⟨_, rfl, HO, hx, hall⟩
end Go.Proofs.Ytehkmngbknbbaaa
