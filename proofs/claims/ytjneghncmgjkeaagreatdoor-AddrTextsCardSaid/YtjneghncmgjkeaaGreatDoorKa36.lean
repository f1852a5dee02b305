/-
  apportionref15: Tokens.
-/
import Derived.Test.YtjneghncmgjkeaaGreatDoorKa35
import Derived.Test.YtjneghncmgjkeaaGreatDoorKa13
set_option linter.unusedVariables false
namespace Go.Proofs.YtjneghncmgjkeaaGreatDoor
open Go.RowKit

theorem clsB_0 (c : UInt8) : clsB c = 0 ↔ (c.toNat ≠ 9 ∧ (c.toNat < 32 ∨ 126 < c.toNat)) := by
  unfold clsB
  repeat' split
  all_goals omega
theorem kindT_ne (t : Bs) : kindT t ≠ 0 := by
  unfold kindT
  repeat' split
  all_goals omega
/-- What next tells, as the reference's place. -/
theorem next_ref {s : Bs} {at_ en : Nat} {out : List Tok} {t : Tok} (h : RefAt s at_ out) (hk : at_ < s.length) (h0 : clsAt s at_ ≠ 0) (hn : NextP s at_ t en) :
    at_ < en ∧ ((t.k = 0 ∧ RefAt s en out) ∨ (t.k ≠ 0 ∧ RefAt s en (out ++ [t]) ∧ clsAt s at_ ≠ 1 ∧ clsAt s at_ ≠ 4)) := by
  rcases hn with ⟨h1, rfl, rfl⟩ | ⟨h1, rfl, rfl⟩ | ⟨hw, h5, h6, rfl, rfl⟩ | ⟨hw, h1, rfl⟩
  · exact ⟨by omega, .inr ⟨by decide, h.sep hk (.inl ⟨h1, rfl⟩), by omega, by omega⟩⟩
  · exact ⟨by omega, .inr ⟨by decide, h.sep hk (.inr ⟨h1, rfl⟩), by omega, by omega⟩⟩
  · exact ⟨by omega, .inl ⟨rfl, h.skip hk hw h0 h5 h6⟩⟩
  · obtain ⟨hr, hs⟩ := h.word hw h1
    obtain ⟨c1, c4, _⟩ := snd_cls hs
    exact ⟨h1, .inr ⟨kindT_ne _, hr, c1, c4⟩⟩
def Tr1 (w0 : World) (s : Bs) (i : Value) (wr : World) : Prop := ∃ k : Nat, k ≤ s.length ∧ i = .int .i64 (k : Int) ∧ Ext w0 wr ∧ ∀ j (h : j < s.length), j < k → clsB s[j] ≠ 0
def Tr2 (w0 : World) (s : Bs) (v i : Value) (wr : World) : Prop := ∃ (k : Nat) (out : List Tok), i = .int .i64 (k : Int) ∧ RefAt s k out ∧ out.length ≤ 40 ∧ wr.ownsRow w0.heap.size 58 2 v out.length (tokCells out) ∧ Ext w0 wr
set_option maxRecDepth 100000 in
set_option maxHeartbeats 2000000 in
theorem rtokens_any (s : Bs) (W : World) (hs : s.length ≤ 100000) :
    Calls Tryz.prog 41 #[.string ⟨s.toArray⟩] W fun e w' => ∃ v, e = .returned (.tuple #[v, .agg #[.int .i64 (tokensP s).2.1, .int .i64 (tokensP s).2.2]]) ∧ w'.ownsRow W.heap.size 58 2 v (tokensP s).1.length (tokCells (tokensP s).1) ∧ Ext W w' := by
  by_cases h200 : 200 < s.length
  · have hd : decide ((200 : Int) < (s.length : Int)) = true := by simp; omega
    have hT : tokensP s = ([], 3, 0) := by unfold tokensP; rw [if_pos h200]
    replace hT := Lib.hid hT
    go_enter Tryz.func41, Tryz.ntmps41
    go_wp2_with fail
    refine bodyPost_ret (results_tc rfl rfl (ld_fault (Blk.new W _ _))) rfl ⟨.slice none 0 0, ?_, ?_, (Ext.refl W).alloc _⟩
    · rw [hT.out]; rfl
    · rw [hT.out]; exact World.ownsRow_nil _ _ _ _
  have hd : decide ((200 : Int) < (s.length : Int)) = false := by simp; omega
  have hs200 : s.length ≤ 200 := by omega
  have hT4 := Lib.hid (fun (k : Nat) (h : badAt s = some k) => (show tokensP s = ([], 4, (k : Int)) by unfold tokensP; rw [if_neg h200, h]))
  go_enter Tryz.func41, Tryz.ntmps41
  go_upto_region 3 with (fail)
  have hsz : (W.alloc (.cells #[.int .i64 0, .int .i64 0] 26)).heap.size = W.heap.size + 1 := by simp
  have X01 := (Ext.refl W).alloc (.cells #[.int .i64 0, .int .i64 0] 26)
  have B0 := Blk.new W 26 #[.int .i64 0, .int .i64 0]
  generalize W.alloc (.cells #[.int .i64 0, .int .i64 0] 26) = w0 at *
  have HB := Lib.hid B0
  have hW0 : W.heap.size ≤ w0.heap.size := by omega
  replace hW0 := Lib.hid hW0
  generalize hgf : W.heap.size = g0 at *
  replace hsz := Lib.hid hsz
  replace hgf := Lib.hid hgf
  replace X01 := Lib.hid X01
  have H0 := Lib.hid (show Tr1 w0 s (.int .i64 ((0 : Nat) : Int)) w0 from ⟨0, by omega, rfl, Ext.refl _, fun j _ h => absurd h (by omega)⟩)
  clear B0 hd h200
  go_wp2_with fail
  go_loopw [4] (fun i wr => Tr1 w0 s i wr) (fun i _ => s.length - (intOf i).toNat)
  case atStart => exact H0.out
  case round =>
    clear H0
    obtain ⟨k, hk, rfl, hx, hgood⟩ := hrel
    by_cases hlt : k < s.length
    · have hdk : decide ((k : Int) < (s.length : Int)) = true := decide_eq_true (by omega)
      have il : (k : Int) < (s.length : Int) := by omega
      have iz : (0 : Int) ≤ (k : Int) := by omega
      obtain ⟨b, hb'⟩ : ∃ b, s[k].toNat = b := ⟨_, rfl⟩
      have hb : ∀ h, ((⟨s.toArray⟩ : ByteArray)[k]'h).toNat = b := fun _ => hb'
      have h0b : clsB s[k] = 0 ↔ (b ≠ 9 ∧ (b < 32 ∨ 126 < b)) := by rw [clsB_0, hb']
      by_cases hbad : b ≠ 9 ∧ (b < 32 ∨ 126 < b)
      · have hT : tokensP s = ([], 4, (k : Int)) := hT4.out k (bad_some hlt hgood (h0b.2 hbad))
        replace hT := Lib.hid hT
        have BB := HB.out.ext hx
        have XX := Lib.hid (X01.out.trans hx)
        obtain ⟨q0, q1⟩ := BB.cells
        have lf := BB.lt
        replace BB := Lib.hid BB
        have d9 : ((b : Int) != 9) = true := by rw [bne_iff_ne]; omega
        by_cases h32 : b < 32
        · have d32 : decide ((b : Int) < 32) = true := decide_eq_true (by omega)
          clear hgood h0b hbad h32 hx
          go_wp2_with fail
          refine bodyPost_ret (results_tc rfl rfl (ld_fault (fault_set BB.out _ _))) rfl ⟨.slice none 0 0, ?_, ?_, ?_⟩
          · rw [hT.out]; rfl
          · rw [hT.out]; exact World.ownsRow_nil _ _ _ _
          · exact (XX.out.set (p := ⟨g0, 0, none⟩) (Nat.le_of_eq hgf.out) _).set (p := ⟨g0, 1, none⟩) (Nat.le_of_eq hgf.out) _
        · have d32 : decide ((b : Int) < 32) = false := decide_eq_false (by omega)
          have d126 : decide (126 < (b : Int)) = true := decide_eq_true (by omega)
          clear hgood h0b hbad h32 hx
          go_wp2_with fail
          refine bodyPost_ret (results_tc rfl rfl (ld_fault (fault_set BB.out _ _))) rfl ⟨.slice none 0 0, ?_, ?_, ?_⟩
          · rw [hT.out]; rfl
          · rw [hT.out]; exact World.ownsRow_nil _ _ _ _
          · exact (XX.out.set (p := ⟨g0, 0, none⟩) (Nat.le_of_eq hgf.out) _).set (p := ⟨g0, 1, none⟩) (Nat.le_of_eq hgf.out) _
      · have HE := Lib.hid (show Tr1 w0 s (.int .i64 ((k + 1 : Nat) : Int)) wr from ⟨k + 1, hlt, rfl, hx, fun j h hj => by
          by_cases e : j = k
          · subst e; exact fun h => hbad (h0b.1 h)
          · exact hgood j h (by omega)⟩)
        by_cases h9 : b = 9
        · have d9 : ((b : Int) != 9) = false := by rw [bne_eq_false_iff_eq]; omega
          clear hgood h0b hbad h9 hx
          go_wp2_with fail
          go_roundw
          case rel => exact HE.out
          case measure => simp [intOf]; omega
        · have d9 : ((b : Int) != 9) = true := by rw [bne_iff_ne]; omega
          have d32 : decide ((b : Int) < 32) = false := decide_eq_false (by omega)
          have d126 : decide (126 < (b : Int)) = false := decide_eq_false (by omega)
          clear hgood h0b hbad h9 hx
          go_wp2_with fail
          go_roundw
          case rel => exact HE.out
          case measure => simp [intOf]; omega
    · obtain rfl : k = s.length := by omega
      have hdk : decide ((s.length : Int) < (s.length : Int)) = false := by simp
      have hbad : badAt s = none := bad_none fun i hi => hgood i hi hi
      have hall := Lib.hid (fun i (hi : i < s.length) => (show clsAt s i ≠ 0 by rw [clsAt_lt hi]; exact hgood i hi hi))
      replace hbad := Lib.hid hbad
      have H1 := Lib.hid (show Tr2 w0 s (.slice none 0 0) (.int .i64 ((0 : Nat) : Int)) wr from ⟨0, [], rfl, RefAt.start s, by simp, World.ownsRow_nil _ _ _ _, hx⟩)
      clear hgood hT4 hx
      go_wp2_with fail
      go_loopw [5, 6] (fun v i wr => Tr2 w0 s v i wr) (fun _ i _ => s.length - (intOf i).toNat)
      case atStart => exact H1.out
      case round =>
        clear H1
        obtain ⟨k, out, rfl, hR, h40, hrow, hx⟩ := hrel
        obtain ⟨w4, rfl⟩ : ∃ w4, w4 = wr := ⟨_, rfl⟩
        obtain ⟨A, cap, rfl, _, _, _⟩ := own_slice hrow
        have hkl := hR.le
        by_cases hlt : k < s.length
        · have hdk : decide ((k : Int) < (s.length : Int)) = true := decide_eq_true (by omega)
          have HN := Lib.hid (fun w => rnext_any s k hlt (by omega) w)
          replace hR := Lib.hid hR
          replace hrow := Lib.hid hrow
          go_wp2_with fail
          refine (HN.out _).mono ?_
          rintro e w5 ⟨⟨tk, tt⟩, en, rfl, hnp, hx5⟩
          obtain ⟨hadv, hcs⟩ := next_ref hR.out hlt (hall.out k hlt) hnp
          replace hrow := Lib.hid (own_ext hrow.out hx5)
          replace hx := hx.trans hx5
          clear hx5 hnp HN
          rcases hcs with ⟨h0, hR2⟩ | ⟨h0, hR2, c1, c4⟩
          · obtain rfl : tk = 0 := h0
            have HE := Lib.hid (fun w (hx' : Ext w5 w) => (show Tr2 w0 s (.slice A out.length cap) (.int .i64 (en : Int)) w from ⟨en, out, rfl, hR2, h40, own_ext hrow.out hx', hx.trans hx'⟩))
            have hen := hR2.le
            clear hR2 hR
            go_wp2_with fail
            go_roundw
            case rel => exact HE.out _ ((Ext.refl _).alloc _)
            case measure => simp [intOf]; omega
          · have dk : (tk != 0) = true := by rw [bne_iff_ne]; exact h0
            by_cases hf : out.length = 40
            · have df : ((out.length : Int) == 40) = true := by rw [beq_iff_eq]; omega
              have hT := Lib.hid (hR.out.full hlt c1 c4 hR2 hf hs200 hbad.out)
              have X5 := hx.alloc (.cells #[.int .i64 tk, .string ⟨tt.toArray⟩] 58)
              have BB := HB.out.ext X5
              have XX := Lib.hid (X01.out.trans X5)
              obtain ⟨q0, q1⟩ := BB.cells
              have lf := BB.lt
              replace BB := Lib.hid BB
              clear X5 hR2 hR h0 c1 c4 hx
              go_wp2_with fail
              refine bodyPost_ret (results_tc rfl rfl (ld_fault (fault_set BB.out _ _))) rfl ⟨.slice none 0 0, ?_, ?_, ?_⟩
              · rw [hT.out]; rfl
              · rw [hT.out]; exact World.ownsRow_nil _ _ _ _
              · exact (XX.out.set (p := ⟨g0, 0, none⟩) (Nat.le_of_eq hgf.out) _).set (p := ⟨g0, 1, none⟩) (Nat.le_of_eq hgf.out) _
            · have df : ((out.length : Int) == 40) = false := by rw [beq_eq_false_iff_ne]; omega
              have HE := Lib.hid (fun (z : Value) (v5 : Value) (w6 w7 : World) (hg : Grew w0 w6 w7 58 2 z (.slice A out.length cap) v5 (out.length + 1) (tokCells out ++ (#[.int .i64 tk, .string ⟨tt.toArray⟩] : Array Value).toList)) => (show Tr2 w0 s v5 (.int .i64 (en : Int)) w7 from ⟨en, out ++ [⟨tk, tt⟩], rfl, hR2, by rw [List.length_append]; simp; omega, by rw [List.length_append, tokCells_snoc]; exact hg.own, hg.ext⟩))
              have hen := hR2.le
              have B7 := Blk.new w5 58 #[.int .i64 tk, .string ⟨tt.toArray⟩]
              have X7 := hx.alloc (.cells #[.int .i64 tk, .string ⟨tt.toArray⟩] 58)
              have R7 := hrow.out.alloc (.cells #[.int .i64 tk, .string ⟨tt.toArray⟩] 58)
              clear hR2 hR h0 c1 c4 hx hrow
              go_upto_region 15 with (fail)
              generalize w5.alloc (.cells #[.int .i64 tk, .string ⟨tt.toArray⟩] 58) = w6 at *
              generalize w5.heap.size = g5 at *
              obtain ⟨b0, b1⟩ := B7.cells
              have lb := B7.lt
              go_wp2_with (first | (at_builtin; refine wpl_app1 row_tk w0 w6 (.tmp 60) (.tmp 62) rfl rfl rfl R7 X7 rfl rfl rfl (by simp [Value.oneCell']) (by omega) (by unfold maxLen; omega) ?_; intro v5 w7 hg5; replace HE := Lib.hid (HE.out _ _ _ _ hg5); obtain ⟨A5, c5, rfl, _, _, _⟩ := own_slice hg5.own; clear hg5) | (refine step_app1 row_tk w0 w6 (.tmp 60) (.tmp 62) rfl rfl rfl R7 X7 rfl rfl rfl (by simp [Value.oneCell']) (by omega) (by unfold maxLen; omega) ?_; intro v5 w7 hg5; replace HE := Lib.hid (HE.out _ _ _ _ hg5); obtain ⟨A5, c5, rfl, _, _, _⟩ := own_slice hg5.own; clear hg5))
              all_goals
                go_roundw
                case rel => exact HE.out
                case measure => simp [intOf]; omega
        · obtain rfl : k = s.length := by omega
          have hdk : decide ((s.length : Int) < (s.length : Int)) = false := by simp
          have hto := hR.done (Nat.le_refl _)
          have hT := Lib.hid (show tokensP s = (out, 0, 0) by rw [tokensP_few hs200 hbad.out (by rw [hto]; exact h40), hto])
          have BB := HB.out.ext hx
          have XX := Lib.hid (X01.out.trans hx)
          obtain ⟨q0, q1⟩ := BB.cells
          have lf := BB.lt
          have hne := Lib.hid (own_blk_ne hrow BB (by decide))
          replace BB := Lib.hid BB
          replace hrow := Lib.hid hrow
          clear hx hR hto
          go_wp2_with fail
          refine bodyPost_ret (results_tc rfl rfl (ld_fault (fault_set BB.out _ _))) rfl ⟨.slice A out.length cap, ?_, ?_, ?_⟩
          · rw [hT.out]; rfl
          · rw [hT.out]
            exact own_base (ownsRow_setCell_other (ownsRow_setCell_other hrow.out hne.out _) hne.out _) (by rw [hgf.out]; exact hW0.out)
          · exact (XX.out.set (p := ⟨g0, 0, none⟩) (Nat.le_of_eq hgf.out) _).set (p := ⟨g0, 1, none⟩) (Nat.le_of_eq hgf.out) _
end Go.Proofs.YtjneghncmgjkeaaGreatDoor

set_option linter.unusedVariables false
namespace Go.Proofs.YtjneghncmgjkeaaGreatDoor
open Go.RowKit

def wpC (p : Wp) : List Value := [.string ⟨p.l.toArray⟩, .string ⟨p.s.toArray⟩]
def wpCells (l : List Wp) : List Value := l.flatMap wpC
/-- A word is not in two pairs. -/
def apartW (l : List Wp) : Bool := l.all fun p => l.all fun q => p == q || (p.l != q.l && p.l != q.s && p.s != q.l && p.s != q.s)
theorem find_apart {l : List Wp} (h : apartW l = true) (w : Bs) {p q : Wp} (hp : p ∈ l) (hq : q ∈ l) (h1 : (p.l == w || p.s == w) = true) (h2 : (q.l == w || q.s == w) = true) : p = q := by
  have := List.all_eq_true.1 (List.all_eq_true.1 h p hp) q hq
  rw [Bool.or_eq_true, beq_iff_eq] at this
  rcases this with e | e
  · exact e
  · simp only [Bool.and_eq_true, bne_iff_ne, ne_eq] at e
    simp only [Bool.or_eq_true, beq_iff_eq] at h1 h2
    rcases h1 with rfl | rfl <;> rcases h2 with h2 | h2
    · exact absurd h2.symm e.1.1.1
    · exact absurd h2.symm e.1.1.2
    · exact absurd h2.symm e.1.2
    · exact absurd h2.symm e.2
theorem words_apart (kind : Int) : apartW (wordsP kind) = true := by
  unfold wordsP
  by_cases h1 : kind = 1
  · rw [if_pos h1]; kernel_rfl
  · rw [if_neg h1]
    by_cases h2 : kind = 2
    · rw [if_pos h2]; kernel_rfl
    · rw [if_neg h2]
      by_cases h3 : kind = 3
      · rw [if_pos h3]; kernel_rfl
      · rw [if_neg h3]
        by_cases h4 : kind = 4
        · rw [if_pos h4]; kernel_rfl
        · rw [if_neg h4]; rfl
theorem shortP_hit {kind : Int} {w : Bs} {p : Wp} (hp : p ∈ wordsP kind) (h : (p.l == w || p.s == w) = true) : shortP kind w = (p.s, true) := by
  unfold shortP
  cases hf : (wordsP kind).reverse.find? fun p => p.l == w || p.s == w with
  | none =>
    have := List.find?_eq_none.1 hf p (List.mem_reverse.2 hp)
    exact absurd h this
  | some q =>
    have h1 := List.find?_some hf
    have h2 := List.mem_reverse.1 (List.mem_of_find?_eq_some hf)
    rw [find_apart (words_apart kind) w hp h2 h h1]
theorem shortP_miss {kind : Int} {w : Bs} (h : ∀ j (hj : j < (wordsP kind).length), ((wordsP kind)[j].l == w || (wordsP kind)[j].s == w) = false) : shortP kind w = ([], false) := by
  unfold shortP
  cases hf : (wordsP kind).reverse.find? fun p => p.l == w || p.s == w with
  | none => rfl
  | some q =>
    have h1 := List.find?_some hf
    have h2 := List.mem_reverse.1 (List.mem_of_find?_eq_some hf)
    obtain ⟨j, hj, rfl⟩ := List.mem_iff_getElem.1 h2
    rw [h j hj] at h1
    cases h1
set_option maxRecDepth 100000 in
set_option maxHeartbeats 2000000 in
theorem pairs_any (kind : Int) (hk : kindOk kind) (W : World) : Calls Tryz.prog 79 #[.int .i64 kind] W fun e w' => ∃ A, e = .returned (.slice A (wordsP kind).length (wordsP kind).length) ∧ Reads w' w'.heap.size 2 A (wordsP kind).length (wpCells (wordsP kind)) ∧ Ext W w' := by
  rcases hk with rfl | rfl | rfl | rfl
  all_goals
    go_enter Tryz.func79, Tryz.ntmps79
    go_wp2_with fail
    go_ret
    exact ⟨_, by kernel_rfl, reads_new' _ _ _ _ _ rfl rfl, (Ext.refl W).alloc _⟩
end Go.Proofs.YtjneghncmgjkeaaGreatDoor

set_option linter.unusedVariables false
namespace Go.Proofs.YtjneghncmgjkeaaGreatDoor
open Go.RowKit

theorem wp_reads {w : World} {B : Nat} {A : Option Addr} {l : List Wp} (h : Reads w B 2 A l.length (wpCells l)) {k : Nat} (hk : k < l.length) : ∃ g o, A = some ⟨g, o, none⟩ ∧ g < B ∧ w.cell? ⟨g, o + k * 2, none⟩ = some (.string ⟨l[k].l.toArray⟩) ∧ w.cell? ⟨g, o + k * 2 + 1, none⟩ = some (.string ⟨l[k].s.toArray⟩) := by
  obtain ⟨g, o, e, hg, hc⟩ := h.cellAt hk
  exact ⟨g, o, e, hg, hc _ _ (flat_get (f := wpC) (c := 2) (fun _ => rfl) l k 0 hk (by decide)), hc _ _ (flat_get (f := wpC) (c := 2) (fun _ => rfl) l k 1 hk (by decide))⟩
def SrAt (W : World) (l : List Wp) (w : Bs) (i : Value) (wr : World) : Prop := ∃ k : Nat, k ≤ l.length ∧ i = .int .i64 (k : Int) ∧ Ext W wr ∧ ∀ j (h : j < l.length), j < k → (l[j].l == w || l[j].s == w) = false
theorem words_len (kind : Int) : (wordsP kind).length ≤ 100 := by
  unfold wordsP
  repeat' split
  all_goals decide
set_option maxRecDepth 100000 in
set_option maxHeartbeats 2000000 in
theorem rshort_any (kind : Int) (hk : kindOk kind) (w : Bs) (W : World) : Calls Tryz.prog 52 #[.int .i64 kind, .string ⟨w.toArray⟩] W fun e w' => e = .returned (.tuple #[.string ⟨(shortP kind w).1.toArray⟩, .bool (shortP kind w).2]) ∧ Ext W w' := by
  have HP := Lib.hid (fun W => pairs_any kind hk W)
  have HH := Lib.hid (fun p (hp : p ∈ wordsP kind) h => shortP_hit (w := w) hp h)
  have HM := Lib.hid (fun h => shortP_miss (kind := kind) (w := w) h)
  have hl := words_len kind
  generalize shortP kind w = R at *
  generalize wordsP kind = l at *
  clear hk
  go_enter Tryz.func52, Tryz.ntmps52
  go_wp2_with fail
  refine (HP.out _).mono ?_
  rintro e w1 ⟨A, rfl, hrd, hx⟩
  have HS := Lib.hid (show SrAt w1 l w (.int .i64 ((0 : Nat) : Int)) w1 from ⟨0, by omega, rfl, Ext.refl _, fun j _ h => absurd h (by omega)⟩)
  have HR := Lib.hid (fun w' (h : Ext w1 w') => hrd.ext h)
  have HX := Lib.hid (fun w' (h : Ext w1 w') => hx.trans h)
  clear hrd hx HP
  go_wp2_with fail
  go_loopw [7] (fun i wr => SrAt w1 l w i wr) (fun i _ => l.length - (intOf i).toNat)
  case atStart => exact HS.out
  case round =>
    clear HS
    obtain ⟨k, hk, rfl, hx, hno⟩ := hrel
    by_cases hlt : k < l.length
    · have hd : decide ((k : Int) < (l.length : Int)) = true := decide_eq_true (by omega)
      have kz : (0 : Int) ≤ (k : Int) := by omega
      have kl : (k : Int) < (l.length : Int) := by omega
      obtain ⟨g, o, rfl, hg, t0, t1⟩ := wp_reads (HR.out _ hx) hlt
      by_cases h0 : l[k].l = w
      · have b0 : (l[k].l == w) = true := by rw [beq_iff_eq]; exact h0
        have hR := Lib.hid (HH.out _ (List.getElem_mem hlt) (by rw [b0]; rfl))
        have HX' := Lib.hid (HX.out _ hx)
        clear hno HH HM HR HX hx h0
        generalize l[k].l = x at *
        generalize l[k].s = y at *
        go_wp2_with fail
        go_ret2
        exact ⟨by rw [hR.out]; rfl, HX'.out⟩
      · have b0 : (l[k].l == w) = false := by rw [beq_eq_false_iff_ne]; exact h0
        by_cases h1 : l[k].s = w
        · have b1 : (l[k].s == w) = true := by rw [beq_iff_eq]; exact h1
          have hR := Lib.hid (HH.out _ (List.getElem_mem hlt) (by rw [b1, Bool.or_true]))
          have HX' := Lib.hid (HX.out _ hx)
          clear hno HH HM HR HX hx h0 h1
          generalize l[k].l = x at *
          generalize l[k].s = y at *
          go_wp2_with fail
          go_ret2
          exact ⟨by rw [hR.out]; rfl, HX'.out⟩
        · have b1 : (l[k].s == w) = false := by rw [beq_eq_false_iff_ne]; exact h1
          have HE := Lib.hid (show SrAt w1 l w (.int .i64 ((k + 1 : Nat) : Int)) wr from ⟨k + 1, hlt, rfl, hx, fun j h hj => by
            by_cases e : j = k
            · subst e; rw [b0, b1]; rfl
            · exact hno j h (by omega)⟩)
          clear hno HH HM HR HX hx h0 h1
          generalize l[k].l = x at *
          generalize l[k].s = y at *
          go_wp2_with fail
          go_roundw
          case rel => exact HE.out
          case measure => simp [intOf]; omega
    · obtain rfl : k = l.length := by omega
      have hd : decide ((l.length : Int) < (l.length : Int)) = false := by simp
      have hR := Lib.hid (HM.out fun j hj => hno j hj hj)
      have HX' := Lib.hid (HX.out _ hx)
      clear hno HH HM HR HX hx
      go_wp2_with fail
      go_ret2
      exact ⟨by rw [hR.out]; rfl, HX'.out⟩
set_option maxRecDepth 100000 in
theorem rhas_any (t : Tok) (kind : Int) (hk : kindOk kind) (W : World) : Calls Tryz.prog 77 #[tokV t, .int .i64 kind] W fun e w' => e = .returned (.bool (shortP kind t.t).2) ∧ Ext W w' := by
  have HS := Lib.hid (fun W => rshort_any kind hk t.t W)
  generalize shortP kind t.t = R at *
  unfold tokV
  clear hk
  go_enter Tryz.func77, Tryz.ntmps77
  go_wp2_with fail
  refine (HS.out _).mono ?_
  rintro e w1 ⟨rfl, hx⟩
  go_wp2_with fail
  go_ret
  exact ⟨rfl, ((Ext.refl W).alloc _).trans hx⟩
set_option maxRecDepth 100000 in
theorem rshortT_any (t : Tok) (kind : Int) (hk : kindOk kind) (W : World) : Calls Tryz.prog 78 #[tokV t, .int .i64 kind] W fun e w' => e = .returned (.string ⟨(shortT t kind).toArray⟩) ∧ Ext W w' := by
  have HS := Lib.hid (fun W => rshort_any kind hk t.t W)
  unfold shortT
  generalize shortP kind t.t = R at *
  unfold tokV
  clear hk
  go_enter Tryz.func78, Tryz.ntmps78
  go_wp2_with fail
  refine (HS.out _).mono ?_
  rintro e w1 ⟨rfl, hx⟩
  go_wp2_with fail
  go_ret
  exact ⟨rfl, ((Ext.refl W).alloc _).trans hx⟩
end Go.Proofs.YtjneghncmgjkeaaGreatDoor
