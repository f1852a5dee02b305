/-
  Plain: tax lines are read as they were written; what is read of bytes is written as these.
-/
import Derived.Test.YtehkmngbknbbaaaRi10
import Derived.Test.YtehkmngbknbbaaaRi12
import Derived.Test.YtehkmngbknbbaaaRi23
import Derived.Test.YtehkmngbknbbaaaRi24
set_option linter.unusedVariables false
namespace Go.Proofs.Ytehkmngbknbbaaa
open Go.RowKit

def Tx.ints (x : Tx) : List Int := [x.l, x.j, x.t, x.x, x.r, x.v]
def txInts (l : List Tx) : List Int := l.flatMap Tx.ints
theorem txInts_snoc (l : List Tx) (k : Nat) (h : k < l.length) : txInts (l.take (k + 1)) = txInts (l.take k) ++ l[k].ints := by
  rw [List.take_succ_eq_append_getElem h]; unfold txInts; rw [List.flatMap_append, List.flatMap_cons, List.flatMap_nil, List.append_nil]
theorem txInts_len (l : List Tx) : (txInts l).length = 6 * l.length := by
  have : ∀ l : List Tx, (l.flatMap Tx.ints).length = 6 * l.length := by
    intro l
    induction l with
    | nil => rfl
    | cons a l ih => rw [List.flatMap_cons, List.length_append, ih, List.length_cons]; simp [Tx.ints]; omega
  exact this l
/-- P25.2: the bytes of tax lines. -/
def taxBytes (l : List Tx) : List UInt8 := if (checkTax l).1 = 0 then putsL ((l.length : Int) :: txInts l) else []
def TBRel (w : World) (l : List Tx) (out i : Value) (wr : World) : Prop :=
  ∃ k : Nat, k ≤ l.length ∧ i = .int .i64 (k : Int) ∧ wr.ownsRow w.heap.size 5 1 out (putsL ((l.length : Int) :: txInts (l.take k))).length (bV (putsL ((l.length : Int) :: txInts (l.take k)))) ∧ Ext w wr ∧ AllP wr out u8P
theorem TBRel.next {w w1 : World} {l : List Tx} {k : Nat} {v1 : Value} {n m : Nat} {xs : List Value} {x : Tx} (hk : k < l.length) (hx0 : l[k] = x) (hg : w1.ownsRow w.heap.size 5 1 v1 n xs) (hn : n = (putsL ((l.length : Int) :: txInts (l.take k))).length + (putsL x.ints).length) (hxs : xs = bV (putsL ((l.length : Int) :: txInts (l.take k))) ++ bV (putsL x.ints)) (hx : Ext w w1) (hall : AllP w1 v1 u8P) (hm : m = k + 1) : TBRel w l v1 (.int .i64 (m : Int)) w1 := by
  subst hm hn hxs hx0
  refine ⟨k + 1, by omega, rfl, ?_, hx, hall⟩
  rw [txInts_snoc _ k hk, ← List.cons_append, putsL_app ((l.length : Int) :: txInts (l.take k)), bV_app, List.length_append]
  exact hg
theorem TBRel.done {w w1 : World} {l : List Tx} {k : Nat} {out : Value} (hc : (checkTax l).1 = 0) (hk : k = l.length) (h : w1.ownsRow w.heap.size 5 1 out (putsL ((l.length : Int) :: txInts (l.take k))).length (bV (putsL ((l.length : Int) :: txInts (l.take k))))) : w1.ownsRow w.heap.size 5 1 out (taxBytes l).length (bV (taxBytes l)) := by
  subst hk; rw [List.take_length] at h; rw [taxBytes, if_pos hc]; exact h

set_option maxRecDepth 100000 in
set_option maxHeartbeats 4000000 in
theorem taxBytes_any (l : List Tx) (A : Option Addr) (cap : Nat) (w : World) (hr : Reads w w.heap.size 6 A l.length (txCells l)) (hm : l.length ≤ maxLen) :
    Calls Try.prog 60 #[.slice A l.length cap] w fun e w' => ∃ v, e = .returned (.tuple #[v, .int .i64 (checkTax l).1]) ∧ w'.ownsRow w.heap.size 5 1 v (taxBytes l).length (bV (taxBytes l)) ∧ Ext w w' ∧ AllP w' v u8P := by
  by_cases hc : (checkTax l).1 = 0
  case neg =>
    have hb : ((checkTax l).1 != 0) = true := by simpa using hc
    have HB := Lib.hid (show taxBytes l = [] by unfold taxBytes; rw [if_neg hc])
    have HR := Lib.hid hr
    clear hc hr
    go_enter Try.func60, Try.ntmps60
    go_wp2_with fail
    refine (checkTax_any l A cap _ HR.out hm).mono ?_
    rintro e w1 ⟨rfl, hx1⟩
    go_wp2_with fail
    go_ret2
    refine ⟨_, rfl, ?_, hx1, AllP.nil _ _ _ _⟩
    rw [HB.out]; exact World.ownsRow_nil _ _ _ _
  obtain ⟨hl, _⟩ := checkTax_ok hc
  have HM := Lib.hid (checkTax_mem hc)
  have HC := Lib.hid hc
  have hr0 := hr
  clear hc
  go_enter Try.func60, Try.ntmps60
  go_wp2_with fail
  refine (checkTax_any l A cap _ hr hm).mono ?_
  rintro e w1 ⟨rfl, hx1⟩
  rw [HC.out]
  replace hr := hr.ext hx1
  go_wp2_with fail
  refine (oputs_any [(l.length : Int)] _ _ _ (reads_new' w1 #[.int .i64 (l.length : Int)] 3 1 1 rfl rfl) (by simp) (by intro n hn; rw [List.mem_singleton.1 hn]; unfold i64; omega)).mono ?_
  rintro e w2 ⟨v2, rfl, ho2, hx2, ha2⟩
  have hx0 : Ext w w2 := (hx1.alloc _).trans hx2
  have hs1 : w.heap.size ≤ w1.heap.size := hx1.size
  have HO2 := Lib.hid (own_base ho2 (show w.heap.size ≤ (w1.alloc (.cells #[.int .i64 (l.length : Int)] 3)).heap.size by simp; omega))
  replace hr := hr.ext (((Ext.refl w1).alloc _).trans hx2)
  clear ho2 hx1 hx2 hs1
  go_wp2_with fail
  go_loopw [6, 23] (fun out i wr => TBRel w l out i wr) (fun _ i _ => l.length - (intOf i).toNat)
  case atStart => exact ⟨0, by omega, rfl, by simpa [txInts] using HO2.out, hx0, ha2⟩
  case round =>
    obtain ⟨k, hk, rfl, hown, hx, hall⟩ := hrel
    clear HO2 ha2
    by_cases hlt : k < l.length
    · have hd : decide ((k : Int) < (l.length : Int)) = true := by simp; omega
      obtain ⟨g, off, rfl, hg, hcl⟩ := (hr0.extB (Nat.le_refl _) hx).cellAt hlt
      obtain ⟨e1, e2, e3, e4, e5, e6⟩ := txCells_at l k hlt
      have c1 := hcl _ _ e1
      have c2 : wr.cell? ⟨g, off + k * 6 + 1, none⟩ = _ := hcl _ _ e2
      have c3 : wr.cell? ⟨g, off + k * 6 + 2, none⟩ = _ := hcl _ _ e3
      have c4 : wr.cell? ⟨g, off + k * 6 + 3, none⟩ = _ := hcl _ _ e4
      have c5 : wr.cell? ⟨g, off + k * 6 + 4, none⟩ = _ := hcl _ _ e5
      have c6 : wr.cell? ⟨g, off + k * 6 + 5, none⟩ = _ := hcl _ _ e6
      clear hcl e1 e2 e3 e4 e5 e6 hr
      have hi := Tx.i64s (HM.out l[k] (List.getElem_mem hlt))
      have hi2 : ∀ n ∈ l[k].ints, i64 n := by
        intro n hn
        simp only [Tx.ints, List.mem_cons, List.not_mem_nil, or_false] at hn
        rcases hn with rfl | rfl | rfl | rfl | rfl | rfl
        · exact hi.1
        · exact hi.2.1
        · exact hi.2.2.1
        · exact hi.2.2.2.1
        · exact hi.2.2.2.2.1
        · exact hi.2.2.2.2.2
      clear hi
      generalize hxe : l[k] = x at *
      replace hxe := Lib.hid hxe
      have hlen := putsL_len x.ints
      have hlen2 := putsL_len ((l.length : Int) :: txInts (l.take k))
      have hlen3 : ((l.length : Int) :: txInts (l.take k)).length ≤ 1 + 6 * k := by rw [List.length_cons, txInts_len]; simp; omega
      have hlen4 : x.ints.length = 6 := rfl
      replace hlen4 := Nat.le_of_eq hlen4
      have W6 := Lib.hid (fun o1 o2 : Obj => ((Ext.refl wr).alloc o1).alloc o2)
      go_wp2_with fail
      have hrx := reads_new' (wr.alloc (.cells #[.int .i64 x.l, .int .i64 x.j, .int .i64 x.t, .int .i64 x.x, .int .i64 x.r, .int .i64 x.v] 46)) #[.int .i64 x.l, .int .i64 x.j, .int .i64 x.t, .int .i64 x.x, .int .i64 x.r, .int .i64 x.v] 3 (g := wr.heap.size + 1) 6 1 (by simp) rfl
      refine (oputs_any x.ints (some ⟨wr.heap.size + 1, 0, none⟩) 6 _ hrx (by omega) hi2).mono ?_
      rintro e w3 ⟨v3, rfl, ho3, hx3, _⟩
      obtain ⟨A3, c3', rfl, hc3, hm3, hr3⟩ := own_slice ho3
      have hw3 := (W6.out _ _).trans hx3
      clear hrx ho3
      go_wp2_with (at_builtin; refine wpl_app row_u8 w w3 (.tmp 27) (.tmp 41) rfl rfl rfl (own_ext hown hw3) (hx.trans hw3) rfl hr3 (bV_one _) (by omega) (by unfold maxLen; omega) ?_; intro v4 w4 hg4)
      go_roundw
      case rel => exact TBRel.next hlt hxe.out hg4.own rfl rfl hg4.ext (hg4.all u8P u8z (u8bb _ _) (hall.ext hw3)) rfl
      case measure => simp [intOf]; omega
    · have hd : decide ((k : Int) < (l.length : Int)) = false := by simp; omega
      have HO := Lib.hid (TBRel.done HC.out (by omega) hown)
      clear hown
      go_wp2_with fail
      go_ret2
      exact ⟨_, by rw [HC.out]; rfl, HO.out, hx, hall⟩
end Go.Proofs.Ytehkmngbknbbaaa

namespace Go.Proofs.Ytehkmngbknbbaaa

theorem last_below {pre : List Tx} {x : Tx} (h0 : 0 ≤ x.l) : Tx.below pre x = false ↔ ¬ x.l < lastL pre := by
  unfold Tx.below lastL
  cases pre.getLast? with
  | none => simp; omega
  | some y => simp
theorem line_put {s : RS} {ks : List (Int × Int)} {last : Int} {x : Tx} {rest : List UInt8} (h0 : s.fe = 0) (hd : s.b.drop s.at_ = putsL x.ints ++ rest) (hok : x.ok = true) (hl : ¬ x.l < last) (hk : x.key ∉ ks) :
    ∃ s', taxLineP s ks last = ⟨x, 0, s'.fa, s', ks ++ [x.key]⟩ ∧ s'.fe = 0 ∧ s'.b = s.b ∧ s'.b.drop s'.at_ = rest ∧ s'.fa = s.fa := by
  obtain ⟨b1, b2, b3, b4, b5, b6⟩ := Tx.ok_bd hok
  unfold Tx.ints at hd
  rw [putsL_cons, putsL_cons, putsL_cons, putsL_cons, putsL_cons, putsL_one] at hd
  simp only [List.append_assoc] at hd
  obtain ⟨s1, e1, f1, g1, d1, a1⟩ := RS.num_put' (lo := 0) (hi := 99) (above := 5) h0 hd b1.1 b1.2 (by unfold i64; omega)
  obtain ⟨s2, e2, f2, g2, d2, a2⟩ := RS.num_put' (lo := 1) (hi := 1099511627775) (above := 5) f1 d1 b2.1 b2.2 (by unfold i64; omega)
  obtain ⟨s3, e3, f3, g3, d3, a3⟩ := RS.num_put' (lo := 0) (hi := 4611686018427387904) (above := 5) f2 d2 b3.1 b3.2 (by unfold i64; omega)
  obtain ⟨s4, e4, f4, g4, d4, a4⟩ := RS.num_put' (lo := 0) (hi := 4611686018427387904) (above := 5) f3 d3 b4.1 (by omega) (by unfold i64; omega)
  obtain ⟨s5, e5, f5, g5, d5, a5⟩ := RS.num_put' (lo := 0) (hi := 1000000) (above := 5) f4 d4 b5.1 b5.2 (by unfold i64; omega)
  obtain ⟨s6, e6, f6, g6, d6, a6⟩ := RS.num_put' (lo := 0) (hi := 4611686018427387904) (above := 5) f5 d5 b6.1 b6.2 (by unfold i64; omega)
  refine ⟨s6, ?_, f6, by rw [g6, g5, g4, g3, g2, g1], d6, by rw [a6, a5, a4, a3, a2, a1]⟩
  unfold taxLineP
  simp only [e1, e2, e3, e4, e5, e6]
  have hk' : (x.l, x.j) ∉ ks := hk
  rw [if_neg (fun h => hl h.2), if_neg (fun h => hk' h.2), if_neg (fun h => by have := h.2; omega), if_pos f2, f6]
  rfl
theorem line_inv {s : RS} {ks : List (Int × Int)} {last : Int} (h : (taxLineP s ks last).fe = 0) : s.Has (taxLineP s ks last).x.ints (taxLineP s ks last).s ∧ (taxLineP s ks last).x.ok = true ∧ ¬ (taxLineP s ks last).x.l < last ∧ (taxLineP s ks last).x.key ∉ ks ∧ (taxLineP s ks last).ks = ks ++ [(taxLineP s ks last).x.key] := by
  unfold taxLineP at h ⊢
  simp only at h ⊢
  by_cases c1 : (s.num 0 99 5).2.fe = 0 ∧ (s.num 0 99 5).1 < last
  · rw [if_pos c1] at h; cases h
  rw [if_neg c1] at h ⊢
  by_cases c2 : ((s.num 0 99 5).2.num 1 1099511627775 5).2.fe = 0 ∧ ((s.num 0 99 5).1, ((s.num 0 99 5).2.num 1 1099511627775 5).1) ∈ ks
  · rw [if_pos c2] at h; cases h
  rw [if_neg c2] at h ⊢
  by_cases c3 : ((((s.num 0 99 5).2.num 1 1099511627775 5).2.num 0 4611686018427387904 5).2.num 0 4611686018427387904 5).2.fe = 0 ∧ 4611686018427387904 - (((s.num 0 99 5).2.num 1 1099511627775 5).2.num 0 4611686018427387904 5).1 < ((((s.num 0 99 5).2.num 1 1099511627775 5).2.num 0 4611686018427387904 5).2.num 0 4611686018427387904 5).1
  · rw [if_pos c3] at h; cases h
  rw [if_neg c3] at h ⊢
  simp only at h ⊢
  obtain ⟨p6, a6, b6⟩ := RS.num_inv (by decide) h
  obtain ⟨p5, a5, b5⟩ := RS.num_inv (by decide) p6.fe
  obtain ⟨p4, a4, b4⟩ := RS.num_inv (by decide) p5.fe
  obtain ⟨p3, a3, b3⟩ := RS.num_inv (by decide) p4.fe
  obtain ⟨p2, a2, b2⟩ := RS.num_inv (by decide) p3.fe
  obtain ⟨p1, a1, b1⟩ := RS.num_inv (by decide) p2.fe
  refine ⟨?_, ?_, fun h2 => c1 ⟨p2.fe, h2⟩, fun h2 => c2 ⟨p3.fe, h2⟩, ?_⟩
  · have := ((((p1.trans p2).trans p3).trans p4).trans p5).trans p6
    simpa [Tx.ints] using this
  · have h4 : ¬ 4611686018427387904 - (((s.num 0 99 5).2.num 1 1099511627775 5).2.num 0 4611686018427387904 5).1 < ((((s.num 0 99 5).2.num 1 1099511627775 5).2.num 0 4611686018427387904 5).2.num 0 4611686018427387904 5).1 := fun h2 => c3 ⟨p5.fe, h2⟩
    unfold Tx.ok Tax1
    simp only [Bool.and_eq_true]
    refine ⟨⟨⟨⟨⟨?_, ?_⟩, ?_⟩, ?_⟩, ?_⟩, ?_⟩
    all_goals (refine win_mk ?_ ?_ <;> omega)
  · rw [if_pos p3.fe]
    rfl
theorem loop_put : ∀ (suf pre : List Tx) (s : RS) (rest : List UInt8), (ckTx pre suf).1 = 0 → s.fe = 0 → s.b.drop s.at_ = putsL (txInts suf) ++ rest → ∃ s', taxLoop suf.length s (pre.map Tx.key) pre = .ok (pre ++ suf, s') ∧ s'.fe = 0 ∧ s'.b = s.b ∧ s'.b.drop s'.at_ = rest ∧ s'.fa = s.fa
  | [], pre, s, rest, _, h0, hd => ⟨s, by simp [taxLoop], h0, rfl, by simpa [txInts, putsL] using hd, rfl⟩
  | x :: suf, pre, s, rest, hc, h0, hd => by
    unfold ckTx at hc
    by_cases hb : Tx.bad pre x ≠ 0
    · rw [if_pos hb] at hc; exact absurd hc hb
    rw [if_neg hb] at hc
    obtain ⟨k1, k2, k3⟩ := bad_0 (by simpa using hb)
    have hx0 := (Tx.ok_bd k1).1.1
    have hd' : s.b.drop s.at_ = putsL x.ints ++ (putsL (txInts suf) ++ rest) := by
      rw [hd, ← List.append_assoc, ← putsL_app]
      rfl
    obtain ⟨s1, e1, f1, g1, d1, a1⟩ := line_put h0 hd' k1 ((last_below hx0).1 k2) k3
    obtain ⟨s2, e2, f2, g2, d2, a2⟩ := loop_put suf (pre ++ [x]) s1 rest hc f1 d1
    refine ⟨s2, ?_, f2, by rw [g2, g1], d2, by rw [a2, a1]⟩
    rw [List.length_cons, taxLoop, e1]
    simp only
    rw [if_neg (by simp)]
    rw [List.map_append, List.map_cons, List.map_nil] at e2
    rw [e2]
    simp
theorem loop_inv : ∀ (n : Nat) (pre : List Tx) (s : RS) (out : List Tx) (s' : RS), taxLoop n s (pre.map Tx.key) pre = .ok (out, s') → s'.fe = 0 → ∃ suf, out = pre ++ suf ∧ suf.length = n ∧ s.Has (txInts suf) s' ∧ (ckTx pre suf).1 = 0
  | 0, pre, s, out, s', h, h0 => by
    unfold taxLoop at h
    injection h with h
    injection h with h1 h2
    subst h1 h2
    exact ⟨[], by simp, rfl, RS.Has.refl h0, rfl⟩
  | n + 1, pre, s, out, s', h, h0 => by
    unfold taxLoop at h
    by_cases hf : (taxLineP s (pre.map Tx.key) (lastL pre)).fe ≠ 0
    · rw [if_pos hf] at h; cases h
    rw [if_neg hf] at h
    obtain ⟨k1, k2, k3, k4, k5⟩ := line_inv (by simpa using hf)
    rw [k5] at h
    generalize (taxLineP s (pre.map Tx.key) (lastL pre)).x = x at *
    have h' : taxLoop n (taxLineP s (pre.map Tx.key) (lastL pre)).s ((pre ++ [x]).map Tx.key) (pre ++ [x]) = .ok (out, s') := by simpa using h
    obtain ⟨suf, e1, e2, e3, e4⟩ := loop_inv n (pre ++ [x]) _ out s' h' h0
    have hx0 := (Tx.ok_bd k2).1.1
    refine ⟨x :: suf, by rw [e1]; simp, by simp [e2], ?_, ?_⟩
    · have := k1.trans e3
      simpa [txInts] using this
    · unfold ckTx
      rw [if_neg (by rw [bad_no k2 ((last_below hx0).2 k3) k4]; simp)]
      exact e4
/-- P25.5, of tax lines. -/
theorem readTax_put {l : List Tx} (h : (checkTax l).1 = 0) : readTaxP (taxBytes l) = (l, 0, 0) := by
  have hl := (checkTax_ok h).1
  have hb : taxBytes l = putL (l.length : Int) ++ (putsL (txInts l) ++ []) := by unfold taxBytes; rw [if_pos h, putsL_cons, List.append_nil]
  have hck : (ckTx [] l).1 = 0 := by unfold checkTax at h; rw [if_neg (by omega)] at h; exact h
  generalize taxBytes l = b at *
  obtain ⟨s1, e1, f1, g1, d1, a1⟩ := RS.num_put' (s := RS.start b) (lo := 0) (hi := 6400) (above := 3) rfl hb (by omega) (by omega) (by unfold i64; omega)
  obtain ⟨s2, e2, f2, g2, d2, a2⟩ := loop_put l [] s1 [] hck f1 d1
  have hF : s2.fin = (0, 0) := by
    unfold RS.fin
    have hl := drop_end d2
    rw [if_neg (by omega), f2, a2, a1]
    rfl
  unfold readTaxP
  rw [e1]
  simp only [Int.toNat_natCast]
  have e2' : taxLoop l.length s1 [] [] = .ok (l, s2) := by simpa using e2
  rw [e2']
  simp only
  rw [hF]
  simp
theorem readTax_inv {b : List UInt8} (h : (readTaxP b).2.1 = 0) : (checkTax (readTaxP b).1).1 = 0 ∧ taxBytes (readTaxP b).1 = b := by
  have hn := RS.num_any (RS.start b) 0 6400 3 (by omega) (by omega)
  unfold readTaxP at h ⊢
  cases hT : taxLoop ((RS.start b).num 0 6400 3).1.toNat ((RS.start b).num 0 6400 3).2 [] [] with
  | error e =>
    obtain ⟨e, a⟩ := e
    rw [hT] at h
    simp only at h
    subst h
    exfalso
    have : ∀ (n : Nat) (s : RS) (ks : List (Int × Int)) (out : List Tx) (a : Nat), taxLoop n s ks out ≠ .error (0, a) := by
      intro n
      induction n with
      | zero => intro s ks out a h; unfold taxLoop at h; cases h
      | succ n ih =>
        intro s ks out a h
        unfold taxLoop at h
        by_cases hf : (taxLineP s ks (lastL out)).fe ≠ 0
        · rw [if_pos hf] at h
          injection h with h
          injection h with h _
          exact hf h
        · rw [if_neg hf] at h
          exact ih _ _ _ _ h
    exact this _ _ _ _ _ hT
  | ok p =>
    obtain ⟨out, s'⟩ := p
    rw [hT] at h
    simp only at h ⊢
    by_cases hf : s'.fin.1 ≠ 0
    · rw [if_pos hf] at h; exact absurd h hf
    rw [if_neg hf]
    simp only
    have hf' : s'.fin.1 = 0 := by simpa using hf
    have hfe := fin_fe _ hf'
    obtain ⟨suf, e1, e2, e3, e4⟩ := loop_inv _ [] _ out s' (by simpa using hT) hfe
    have e1' : out = suf := by simpa using e1
    subst e1'
    obtain ⟨p1, q1, q2⟩ := RS.num_inv (by decide) e3.fe
    have HH := p1.trans e3
    have hend : b.length ≤ s'.at_ := by
      unfold RS.fin at hf'
      by_cases hc : s'.fe = 0 ∧ s'.at_ < s'.b.length
      · rw [if_pos hc] at hf'; cases hf'
      · have hb : s'.b = b := HH.b
        rw [hb] at hc
        omega
    have hlen : (out.length : Int) = ((RS.start b).num 0 6400 3).1 := by rw [e2]; omega
    have hck : (checkTax out).1 = 0 := by unfold checkTax; rw [if_neg (by omega)]; exact e4
    refine ⟨hck, ?_⟩
    unfold taxBytes
    rw [if_pos hck]
    have ht := HH.txt
    have h0 : (RS.start b).b.drop (RS.start b).at_ = b := by simp [RS.start]
    have h1 : (RS.start b).b.drop s'.at_ = [] := List.drop_eq_nil_of_le hend
    rw [h0, h1, List.append_nil] at ht
    rw [hlen]
    exact ht.symm
end Go.Proofs.Ytehkmngbknbbaaa
