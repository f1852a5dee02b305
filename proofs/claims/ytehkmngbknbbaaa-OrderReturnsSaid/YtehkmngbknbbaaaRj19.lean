/-
  order.Return, whole.
-/
import Derived.Test.YtehkmngbknbbaaaRj18
import Derived.Test.YtehkmngbknbbaaaRj17
import Derived.Test.YtehkmngbknbbaaaRj04
set_option linter.unusedVariables false
namespace Go.Proofs.Ytehkmngbknbbaaa
open Go.RowKit

/-- What is stored in the result's block, cell by cell. -/
def put6 (W : World) (g : Nat) (a b c d e f : Value) : World := (((((W.setCell ⟨g, 0, none⟩ a).setCell ⟨g, 1, none⟩ b).setCell ⟨g, 2, none⟩ c).setCell ⟨g, 3, none⟩ d).setCell ⟨g, 4, none⟩ e).setCell ⟨g, 5, none⟩ f
theorem put6_blk {W : World} {g : Nat} {t : TypeId} {a b c d e f a' b' c' d' e' f' : Value} (h : Blk W g t #[a', b', c', d', e', f']) : Blk (put6 W g a b c d e f) g t #[a, b, c, d, e, f] :=
  (((((h.set_ 0 a).set_ 1 b).set_ 2 c).set_ 3 d).set_ 4 e).set_ 5 f
theorem put6_ext {V W : World} {g : Nat} {a b c d e f : Value} (h : Ext V W) (hg : V.heap.size ≤ g) : Ext V (put6 W g a b c d e f) :=
  (((((h.set (p := ⟨g, 0, none⟩) hg a).set (p := ⟨g, 1, none⟩) hg b).set (p := ⟨g, 2, none⟩) hg c).set (p := ⟨g, 3, none⟩) hg d).set (p := ⟨g, 4, none⟩) hg e).set (p := ⟨g, 5, none⟩) hg f

set_option maxRecDepth 100000 in
set_option maxHeartbeats 2000000 in
theorem return_any (x : Tx) (b a : Int) (w : World) : Calls Try.prog 30 #[x.V, .int .i64 b, .int .i64 a] w fun r w' => r = .returned (.tuple #[(x.ret b a).1.V, .int .i64 (x.ret b a).2]) ∧ Ext w w' := by
  have B3 := Lib.hid ((Blk.new w 46 #[.int .i64 x.l, .int .i64 x.j, .int .i64 x.t, .int .i64 x.x, .int .i64 x.r, .int .i64 x.v]).alloc (.cells #[.int .i64 0, .int .i64 0, .int .i64 0, .int .i64 0, .int .i64 0, .int .i64 0] 46))
  have B6 : Hid (Blk ((w.alloc (.cells #[.int .i64 x.l, .int .i64 x.j, .int .i64 x.t, .int .i64 x.x, .int .i64 x.r, .int .i64 x.v] 46)).alloc (.cells #[.int .i64 0, .int .i64 0, .int .i64 0, .int .i64 0, .int .i64 0, .int .i64 0] 46)) (w.heap.size + 1) 46 #[.int .i64 0, .int .i64 0, .int .i64 0, .int .i64 0, .int .i64 0, .int .i64 0]) := Lib.hid (by
    have := Blk.new (w.alloc (.cells #[.int .i64 x.l, .int .i64 x.j, .int .i64 x.t, .int .i64 x.x, .int .i64 x.r, .int .i64 x.v] 46)) 46 #[.int .i64 0, .int .i64 0, .int .i64 0, .int .i64 0, .int .i64 0, .int .i64 0]
    simpa using this)
  have kk : w.heap.size ≤ w.heap.size + 1 := by omega
  have nn : w.heap.size + 1 ≠ w.heap.size := by omega
  cases hok : x.ok
  · have HR := Lib.hid (show x.ret b a = (Tx.zero, 5) by unfold Tx.ret; rw [if_pos hok])
    replace hok := Lib.hid hok
    unfold Tx.V taxV
    go_enter Try.func30, Try.ntmps30
    go_wp2_with fail
    refine (one_any x.l x.j x.t x.x x.r x.v _).mono ?_
    rintro e v1 ⟨rfl, hx1⟩
    rw [show Tax1 x.l x.j x.t x.x x.r x.v = false from hok.out]
    have X1 := (((Ext.refl w).alloc _).alloc _).trans hx1
    have C6 := B6.out.ext hx1
    clear hx1 B3 B6
    obtain ⟨q6, q6'⟩ := C6.cells
    go_wp2_with fail
    refine bodyPost_ret (results_ct rfl rfl (ld_tax (put6_blk (a := .int .i64 0) (b := .int .i64 0) (c := .int .i64 0) (d := .int .i64 0) (e := .int .i64 0) (f := .int .i64 0) C6))) rfl ⟨by rw [HR.out]; rfl, put6_ext X1 kk⟩
  · obtain ⟨b1, b2, b3, b4, b5, b6⟩ := Tx.ok_bd hok
    have hu := Lib.hid (show x.ret b a = if (backI x.t (x.t + x.x) b a).2 ≠ 0 then (Tx.zero, (backI x.t (x.t + x.x) b a).2)
      else ({ x with t := (backI x.t (x.t + x.x) b a).1, x := a - b - (backI x.t (x.t + x.x) b a).1, v := (backI x.v (x.t + x.x) b a).1 }, 0) by
        unfold Tx.ret; rw [if_neg (by simp [hok])])
    replace hok := Lib.hid hok
    by_cases he : (backI x.t (x.t + x.x) b a).2 = 0
    · have HR := Lib.hid (hu.out.trans (if_neg (by simpa using he)))
      have hbd := backI_ok he
      have he0 : ((backI x.t (x.t + x.x) b a).2 != 0) = false := by simp [he]
      clear hu
      replace he := Lib.hid he
      generalize hT : (backI x.t (x.t + x.x) b a).1 = T at *
      generalize hE : (backI x.t (x.t + x.x) b a).2 = E at *
      replace hT := Lib.hid hT
      replace hE := Lib.hid hE
      obtain ⟨_, _, c1, c2, c3, c4, c5⟩ := hbd
      unfold Tx.V taxV
      go_enter Try.func30, Try.ntmps30
      go_wp2_with fail
      refine (one_any x.l x.j x.t x.x x.r x.v _).mono ?_
      rintro e v1 ⟨rfl, hx1⟩
      rw [show Tax1 x.l x.j x.t x.x x.r x.v = true from hok.out]
      have X1 := (((Ext.refl w).alloc _).alloc _).trans hx1
      have C3 := B3.out.ext hx1
      have C6 := B6.out.ext hx1
      clear hx1 B3 B6
      obtain ⟨q3, q3'⟩ := C3.cells
      go_wp2_with fail
      refine (back_any x.t (x.t + x.x) b a _).mono ?_
      rintro e v2 ⟨rfl, hx2⟩
      rw [hT.out, hE.out]
      have X2 := X1.trans hx2
      replace C3 := C3.ext hx2
      replace C6 := C6.ext hx2
      clear hx2 X1 q3 q3'
      obtain ⟨q3, q3'⟩ := C3.cells
      go_wp2_with fail
      refine (back_any x.v (x.t + x.x) b a _).mono ?_
      rintro e v3 ⟨rfl, hx3⟩
      have X3 := X2.trans hx3
      replace C3 := C3.ext hx3
      replace C6 := C6.ext hx3
      clear hx3 X2 q3 q3'
      obtain ⟨q3, q3'⟩ := C3.cells
      obtain ⟨q6, q6'⟩ := C6.cells
      generalize hV : (backI x.v (x.t + x.x) b a).1 = V at *
      generalize hV2 : (backI x.v (x.t + x.x) b a).2 = V2 at *
      replace hV := Lib.hid hV
      replace hV2 := Lib.hid hV2
      go_wp2_with fail
      have B : Blk _ (w.heap.size + 1) 46 #[.int .i64 x.l, .int .i64 x.j, .int .i64 T, .int .i64 (a - b - T), .int .i64 x.r, .int .i64 V] :=
        put6_blk (((C6.far (p := ⟨w.heap.size, 5, none⟩) nn (.int .i64 V)).far (p := ⟨w.heap.size, 2, none⟩) nn (.int .i64 T)).far (p := ⟨w.heap.size, 3, none⟩) nn (.int .i64 (a - b - T)))
      refine bodyPost_ret (results_ct rfl rfl (ld_tax B)) rfl ⟨by rw [HR.out]; rfl, put6_ext (((X3.set (p := ⟨w.heap.size, 5, none⟩) (Nat.le_refl _) (.int .i64 V)).set (p := ⟨w.heap.size, 2, none⟩) (Nat.le_refl _) (.int .i64 T)).set (p := ⟨w.heap.size, 3, none⟩) (Nat.le_refl _) (.int .i64 (a - b - T))) kk⟩
    · have HR := Lib.hid (hu.out.trans (if_pos he))
      have he0 : ((backI x.t (x.t + x.x) b a).2 != 0) = true := by simpa using he
      clear hu
      replace he := Lib.hid he
      generalize hT : (backI x.t (x.t + x.x) b a).1 = T at *
      generalize hE : (backI x.t (x.t + x.x) b a).2 = E at *
      replace hT := Lib.hid hT
      replace hE := Lib.hid hE
      unfold Tx.V taxV
      go_enter Try.func30, Try.ntmps30
      go_wp2_with fail
      refine (one_any x.l x.j x.t x.x x.r x.v _).mono ?_
      rintro e v1 ⟨rfl, hx1⟩
      rw [show Tax1 x.l x.j x.t x.x x.r x.v = true from hok.out]
      have X1 := (((Ext.refl w).alloc _).alloc _).trans hx1
      have C3 := B3.out.ext hx1
      have C6 := B6.out.ext hx1
      clear hx1 B3 B6
      obtain ⟨q3, q3'⟩ := C3.cells
      go_wp2_with fail
      refine (back_any x.t (x.t + x.x) b a _).mono ?_
      rintro e v2 ⟨rfl, hx2⟩
      rw [hT.out, hE.out]
      have X2 := X1.trans hx2
      replace C6 := C6.ext hx2
      clear hx2 X1 q3 q3' C3
      obtain ⟨q6, q6'⟩ := C6.cells
      go_wp2_with fail
      refine bodyPost_ret (results_ct rfl rfl (ld_tax (put6_blk (a := .int .i64 0) (b := .int .i64 0) (c := .int .i64 0) (d := .int .i64 0) (e := .int .i64 0) (f := .int .i64 0) C6))) rfl ⟨by rw [HR.out]; rfl, put6_ext X2 kk⟩
end Go.Proofs.Ytehkmngbknbbaaa

set_option linter.unusedVariables false
namespace Go.Proofs.Ytehkmngbknbbaaa
open Go.RowKit

/-- Numbers as cells. -/
def iV (l : List Int) : List Value := l.map fun n => .int .i64 n
theorem iV_one (l : List Int) : ∀ u ∈ iV l, u.oneCell' = true := by
  intro u hu
  simp only [iV, List.mem_map] at hu
  obtain ⟨b, _, rfl⟩ := hu
  rfl
theorem iV_at (l : List Int) (k : Nat) (h : k < l.length) : (iV l)[k]? = some (.int .i64 l[k]) := by simp [iV, h]
def PutsRel (w : World) (l : List Int) (o i : Value) (wr : World) : Prop :=
  ∃ k : Nat, k ≤ l.length ∧ i = .int .i64 (k : Int) ∧ wr.ownsRow w.heap.size 5 1 o (putsL (l.take k)).length (bV (putsL (l.take k))) ∧ Ext w wr ∧ AllP wr o u8P
theorem PutsRel.next {w w1 : World} {l : List Int} {k : Nat} {v1 : Value} {n m : Nat} {xs : List Value} (hk : k < l.length) (hg : w1.ownsRow w.heap.size 5 1 v1 n xs) (hn : n = (putsL (l.take k)).length + (putL l[k]).length) (hxs : xs = bV (putsL (l.take k)) ++ bV (putL l[k])) (hx : Ext w w1) (hall : AllP w1 v1 u8P) (hm : m = k + 1) : PutsRel w l v1 (.int .i64 (m : Int)) w1 := by
  subst hm hn hxs
  refine ⟨k + 1, by omega, rfl, ?_, hx, hall⟩
  rw [putsL_snoc l k hk, bV_app, List.length_append]
  exact hg
theorem PutsRel.done {w w1 : World} {l : List Int} {k : Nat} {o : Value} (hk : k = l.length) (h : w1.ownsRow w.heap.size 5 1 o (putsL (l.take k)).length (bV (putsL (l.take k)))) : w1.ownsRow w.heap.size 5 1 o (putsL l).length (bV (putsL l)) := by
  subst hk; rwa [List.take_length] at h

set_option maxHeartbeats 400000 in
theorem oputs_any (l : List Int) (A : Option Addr) (cap : Nat) (w : World) (hr : Reads w w.heap.size 1 A l.length (iV l)) (hl : l.length ≤ 1000000) (hi : ∀ n ∈ l, i64 n) :
    Calls Try.prog 69 #[.slice A l.length cap] w fun e w' => ∃ v, e = .returned v ∧ w'.ownsRow w.heap.size 5 1 v (putsL l).length (bV (putsL l)) ∧ Ext w w' ∧ AllP w' v u8P := by
  go_enter Try.func69, Try.ntmps69
  go_wp2
  go_loopw [3, 8] (fun o i wr => PutsRel w l o i wr) (fun _ i _ => l.length - (intOf i).toNat)
  case atStart => exact ⟨0, by omega, rfl, World.ownsRow_nil _ _ _ _, Ext.refl _, AllP.nil _ _ _ _⟩
  case round =>
    obtain ⟨k, hk, rfl, hown, hx, hall⟩ := hrel
    by_cases hlt : k < l.length
    · have hd : decide ((k : Int) < (l.length : Int)) = true := by simp; omega
      have hr' := hr.extB (Nat.le_refl _) hx
      obtain ⟨b, off, rfl, hadb, hc⟩ := hr'.cellAt hlt
      have c1 := hc _ _ (iV_at l k hlt)
      clear hc hr hr'
      have hn := hi _ (List.getElem_mem hlt)
      have hlen := putL_len l[k]
      have hlen2 := putsL_len (l.take k)
      have hlen3 : (l.take k).length ≤ k := List.length_take_le _ _
      go_wp2_with (first
        | (go_at_call 100; refine (oput_any _ hn.1 hn.2 _).mono ?_; rintro e w1 ⟨v, rfl, hown1, hx1, _⟩; obtain ⟨A1, c1, rfl, hc1, hm1, hr1⟩ := own_slice hown1)
        | (at_builtin; refine wpl_app row_u8 w w1 (.tmp 12) (.tmp 14) rfl rfl rfl (own_ext hown hx1) (hx.trans hx1) rfl hr1 (bV_one _) (by omega) (by unfold maxLen; omega) ?_; intro v2 w2 hg))
      go_roundw
      case rel => exact PutsRel.next hlt hg.own rfl rfl hg.ext (hg.all u8P u8z (u8bb _ _) (hall.ext hx1)) rfl
      case measure => simp [intOf]; omega
    · have hd : decide ((k : Int) < (l.length : Int)) = false := by simp; omega
      have HO := PutsRel.done (by omega) hown
      go_wp2_with fail
      go_ret
      exact ⟨_, rfl, HO, hx, hall⟩

set_option maxHeartbeats 400000 in
theorem rputs_any (l : List Int) (A : Option Addr) (cap : Nat) (w : World) (hr : Reads w w.heap.size 1 A l.length (iV l)) (hl : l.length ≤ 1000000) (hi : ∀ n ∈ l, i64 n) :
    Calls Try.prog 70 #[.slice A l.length cap] w fun e w' => ∃ v, e = .returned v ∧ w'.ownsRow w.heap.size 5 1 v (putsL l).length (bV (putsL l)) ∧ Ext w w' ∧ AllP w' v u8P := by
  go_enter Try.func70, Try.ntmps70
  go_wp2
  go_loopw [3, 4] (fun o i wr => PutsRel w l o i wr) (fun _ i _ => l.length - (intOf i).toNat)
  case atStart => exact ⟨0, by omega, rfl, World.ownsRow_nil _ _ _ _, Ext.refl _, AllP.nil _ _ _ _⟩
  case round =>
    obtain ⟨k, hk, rfl, hown, hx, hall⟩ := hrel
    by_cases hlt : k < l.length
    · have hd : decide ((k : Int) < (l.length : Int)) = true := by simp; omega
      have hr' := hr.extB (Nat.le_refl _) hx
      obtain ⟨b, off, rfl, hadb, hc⟩ := hr'.cellAt hlt
      have c1 := hc _ _ (iV_at l k hlt)
      clear hc hr hr'
      have hn := hi _ (List.getElem_mem hlt)
      have hlen := putL_len l[k]
      have hlen2 := putsL_len (l.take k)
      have hlen3 : (l.take k).length ≤ k := List.length_take_le _ _
      go_wp2_with (first
        | (go_at_call 103; refine (rput_any _ hn.1 hn.2 _).mono ?_; rintro e w1 ⟨v, rfl, hown1, hx1, _⟩; obtain ⟨A1, c1, rfl, hc1, hm1, hr1⟩ := own_slice hown1)
        | (at_builtin; refine wpl_app row_u8 w w1 (.tmp 11) (.tmp 16) rfl rfl rfl (own_ext hown hx1) (hx.trans hx1) rfl hr1 (bV_one _) (by omega) (by unfold maxLen; omega) ?_; intro v2 w2 hg))
      go_roundw
      case rel => exact PutsRel.next hlt hg.own rfl rfl hg.ext (hg.all u8P u8z (u8bb _ _) (hall.ext hx1)) rfl
      case measure => simp [intOf]; omega
    · have hd : decide ((k : Int) < (l.length : Int)) = false := by simp; omega
      have HO := PutsRel.done (by omega) hown
      go_wp2_with fail
      go_ret
      exact ⟨_, rfl, HO, hx, hall⟩
end Go.Proofs.Ytehkmngbknbbaaa
