/-
  order.taxLine: a tax line is read.
-/
import Derived.Test.YtehkmngbknbbaaaDd
import Derived.Test.YtehkmngbknbbaaaDe
import Derived.Test.YtehkmngbknbbaaaCg
import Derived.Test.YtehkmngbknbbaaaBh
import Derived.Test.YtehkmngbknbbaaaPq
set_option linter.unusedVariables false
namespace Go.Proofs.Ytehkmngbknbbaaa
open Go.RowKit Go.Maps

/-- What reading a tax line gives: the line, the fault, its place; the reader, and what was met. -/
structure TL where
  x : Tx
  fe : Int
  fa : Nat
  s : RS
  ks : List (Int × Int)
def taxLineP (s : RS) (ks : List (Int × Int)) (last : Int) : TL :=
  let r1 := s.num 0 99 5
  if r1.2.fe = 0 ∧ r1.1 < last then ⟨Tx.zero, 2, s.at_, r1.2, ks⟩ else
  let r2 := r1.2.num 1 1099511627775 5
  if r2.2.fe = 0 ∧ (r1.1, r2.1) ∈ ks then ⟨Tx.zero, 7, r1.2.at_, r2.2, ks ++ [(r1.1, r2.1)]⟩ else
  let ks' := if r2.2.fe = 0 then ks ++ [(r1.1, r2.1)] else ks
  let r3 := r2.2.num 0 4611686018427387904 5
  let r4 := r3.2.num 0 4611686018427387904 5
  if r4.2.fe = 0 ∧ 4611686018427387904 - r3.1 < r4.1 then ⟨Tx.zero, 5, r3.2.at_, r4.2, ks'⟩ else
  let r5 := r4.2.num 0 1000000 5
  let r6 := r5.2.num 0 4611686018427387904 5
  ⟨⟨r1.1, r2.1, r3.1, r4.1, r5.1, r6.1⟩, r6.2.fe, r6.2.fa, r6.2, ks'⟩

theorem oint_is {s s' : RS} {lo hi n : Int} (he : s.num lo hi 5 = (n, s')) (g : Nat) (w : World) (h : RdO w g s) :
    Calls Try.prog 72 #[.pointer (some ⟨g, 0, none⟩), .int .i64 lo, .int .i64 hi] w fun e w' => e = .returned (.int .i64 n) ∧ RdO w' g s' ∧ w.grownBy w' (some g) := by
  have := oint_any s lo hi g w h
  rw [he] at this
  exact this
theorem ld_taxF {w : World} {g : Nat} {a b c d e f : Value} (h : Blk w g 46 #[a, b, c, d, e, f]) : (loadVar 46 ⟨g, 0, none⟩).run Try.prog w = .ok (.agg #[a, b, c, d, e, f]) w := by
  have q := h.cell
  simp [go_sem, q]
set_option maxRecDepth 100000 in
theorem taxFault_any (e at_ : Int) (w : World) : Calls Try.prog 120 #[.int .i64 e, .int .i64 at_] w fun r w' => r = .returned (.tuple #[.agg #[.int .i64 0, .int .i64 0, .int .i64 0, .int .i64 0, .int .i64 0, .int .i64 0], .agg #[.int .i64 e, .int .i64 at_]]) ∧ Ext w w' := by
  have B1 := (Blk.new w 46 #[.int .i64 0, .int .i64 0, .int .i64 0, .int .i64 0, .int .i64 0, .int .i64 0]).alloc (.cells #[.int .i64 e, .int .i64 at_] 37)
  have B2 : Blk ((w.alloc (.cells #[.int .i64 0, .int .i64 0, .int .i64 0, .int .i64 0, .int .i64 0, .int .i64 0] 46)).alloc (.cells #[.int .i64 e, .int .i64 at_] 37)) (w.heap.size + 1) 37 #[.int .i64 e, .int .i64 at_] := by
    have := Blk.new (w.alloc (.cells #[.int .i64 0, .int .i64 0, .int .i64 0, .int .i64 0, .int .i64 0, .int .i64 0] 46)) 37 #[.int .i64 e, .int .i64 at_]
    simpa using this
  have X := ((Ext.refl w).alloc (.cells #[.int .i64 0, .int .i64 0, .int .i64 0, .int .i64 0, .int .i64 0, .int .i64 0] 46)).alloc (.cells #[.int .i64 e, .int .i64 at_] 37)
  go_enter Try.func120, Try.ntmps120
  go_wp2_with fail
  exact bodyPost_ret (results_cc rfl rfl (ld_taxF B1) rfl (ld_fault B2)) rfl ⟨rfl, X⟩

theorem Chg.drewF {S : List Nat} {a w : World} (h : Chg S a w) : Chg S a w.drew := ⟨h.os, h.tape, h.output, h.size, h.block⟩
theorem Chg.setcF {S : List Nat} {a w : World} (h : Chg S a w) {p : Addr} (hp : p.block ∈ S) (u : Value) : Chg S a (w.setCell p u) := h.then_grown (only_set (World.grownBy.refl w (some p.block)) (.inl rfl) u) (fun k e => .inl (by rw [← Option.some.inj e]; exact hp))
/-- How the world stands while a tax line is read. -/
structure TS (w W : World) (g B n : Nat) (s : RS) (ks : List (Int × Int)) (g6 g7 g8 : Nat) (cs : Array Value) : Prop where
  rd : RdO W g s
  met : MetIs W B n ks
  b6 : Blk W g6 46 #[.int .i64 0, .int .i64 0, .int .i64 0, .int .i64 0, .int .i64 0, .int .i64 0]
  b7 : Blk W g7 37 #[.int .i64 0, .int .i64 0]
  b8 : Blk W g8 46 cs
  chg : Chg [g, B] w W
  l6 : w.heap.size ≤ g6
  l7 : w.heap.size ≤ g7
  l8 : w.heap.size ≤ g8
  ne : g6 ≠ g8
  gB : g < B
  gw : g < w.heap.size
  Bw : B < w.heap.size
theorem TS.to {w W W' : World} {g B n : Nat} {s : RS} {ks : List (Int × Int)} {g6 g7 g8 : Nat} {cs : Array Value} (h : TS w W g B n s ks g6 g7 g8 cs) (hx : Ext W W') : TS w W' g B n s ks g6 g7 g8 cs :=
  ⟨h.rd.ext hx, h.met.ext hx, h.b6.ext hx, h.b7.ext hx, h.b8.ext hx, h.chg.then_ext hx, h.l6, h.l7, h.l8, h.ne, h.gB, h.gw, h.Bw⟩
theorem TS.call {w W W' : World} {g B n : Nat} {s s' : RS} {ks : List (Int × Int)} {g6 g7 g8 : Nat} {cs : Array Value} (h : TS w W g B n s ks g6 g7 g8 cs) (hR : RdO W' g s') (hG : W.grownBy W' (some g)) : TS w W' g B n s' ks g6 g7 g8 cs := by
  have hh := h
  obtain ⟨_, _, _, _, _, _, l6, l7, l8, _, gB, gw, Bw⟩ := hh
  exact ⟨hR, h.met.grown hG (by intro e; have := Option.some.inj e; omega), h.b6.grown hG (by intro e; have := Option.some.inj e; omega), h.b7.grown hG (by intro e; have := Option.some.inj e; omega), h.b8.grown hG (by intro e; have := Option.some.inj e; omega),
    h.chg.then_grown hG (fun k e => .inl (by rw [← Option.some.inj e]; simp)), l6, l7, l8, h.ne, gB, gw, Bw⟩
theorem TS.set8 {w W : World} {g B n : Nat} {s : RS} {ks : List (Int × Int)} {g6 g7 g8 : Nat} {cs : Array Value} (h : TS w W g B n s ks g6 g7 g8 cs) (i : Nat) (v : Value) : TS w (W.setCell ⟨g8, i, none⟩ v) g B n s ks g6 g7 g8 (cs.setIfInBounds i v) := by
  have hG : W.grownBy (W.setCell ⟨g8, i, none⟩ v) (some g8) := only_set (World.grownBy.refl W _) (.inl rfl) v
  have h78 : g7 ≠ g8 := fun e => Blk.ne_ h.b7 h.b8 (by decide) e
  have hh := h
  obtain ⟨_, _, _, _, _, _, l6, l7, l8, hne, gB, gw, Bw⟩ := hh
  exact ⟨h.rd.set (p := ⟨g8, i, none⟩) (by simp only; omega) v, h.met.grown hG (by intro e; have := Option.some.inj e; omega), h.b6.far (p := ⟨g8, i, none⟩) hne v, h.b7.far (p := ⟨g8, i, none⟩) h78 v, h.b8.set_ i v,
    h.chg.then_grown hG (fun k e => .inr (by have := Option.some.inj e; omega)), l6, l7, l8, hne, gB, gw, Bw⟩
theorem TS.twice {w W W' : World} {g B n : Nat} {s : RS} {ks ks' : List (Int × Int)} {g6 g7 g8 : Nat} {cs : Array Value} (h : TS w W g B n s ks g6 g7 g8 cs) (hm : MetIs W' B (n + 1) ks') (hG : W.grownBy W' (some B)) : TS w W' g B (n + 1) s ks' g6 g7 g8 cs := by
  have hh := h
  obtain ⟨_, _, _, _, _, _, l6, l7, l8, hne, gB, gw, Bw⟩ := hh
  have hrd : RdO W' g s := by
    obtain ⟨A, cap, hB, hr, hc, hmx⟩ := h.rd.ex
    exact ⟨⟨A, cap, hB.grown hG (by intro e; have := Option.some.inj e; omega), hr.keep fun b o hb => World.cell?_of_block (a := ⟨b, o, none⟩) (hG.block b (Nat.lt_trans hb hB.lt) (by intro e; have := Option.some.inj e; omega)), hc, hmx⟩, h.rd.ok⟩
  exact ⟨hrd, hm, h.b6.grown hG (by intro e; have := Option.some.inj e; omega), h.b7.grown hG (by intro e; have := Option.some.inj e; omega), h.b8.grown hG (by intro e; have := Option.some.inj e; omega),
    h.chg.then_grown hG (fun k e => .inl (by rw [← Option.some.inj e]; simp)), l6, l7, l8, hne, gB, gw, Bw⟩
theorem TS.more {w W : World} {g B n : Nat} {s : RS} {ks : List (Int × Int)} {g6 g7 g8 : Nat} {cs : Array Value} (h : TS w W g B n s ks g6 g7 g8 cs) : TS w W g B (n + 1) s ks g6 g7 g8 cs :=
  ⟨h.rd, h.met.mono (by omega), h.b6, h.b7, h.b8, h.chg, h.l6, h.l7, h.l8, h.ne, h.gB, h.gw, h.Bw⟩
/-- The results stored. -/
theorem TS.end8 {w W : World} {g B n : Nat} {s : RS} {ks : List (Int × Int)} {g6 g7 g8 : Nat} {cs : Array Value} (h : TS w W g B n s ks g6 g7 g8 cs) (a b c d e f x y : Value) :
    Blk ((((((((W.setCell ⟨g6, 0, none⟩ a).setCell ⟨g6, 1, none⟩ b).setCell ⟨g6, 2, none⟩ c).setCell ⟨g6, 3, none⟩ d).setCell ⟨g6, 4, none⟩ e).setCell ⟨g6, 5, none⟩ f).setCell ⟨g7, 0, none⟩ x).setCell ⟨g7, 1, none⟩ y) g6 46 #[a, b, c, d, e, f] ∧
    Blk ((((((((W.setCell ⟨g6, 0, none⟩ a).setCell ⟨g6, 1, none⟩ b).setCell ⟨g6, 2, none⟩ c).setCell ⟨g6, 3, none⟩ d).setCell ⟨g6, 4, none⟩ e).setCell ⟨g6, 5, none⟩ f).setCell ⟨g7, 0, none⟩ x).setCell ⟨g7, 1, none⟩ y) g7 37 #[x, y] ∧
    RdO ((((((((W.setCell ⟨g6, 0, none⟩ a).setCell ⟨g6, 1, none⟩ b).setCell ⟨g6, 2, none⟩ c).setCell ⟨g6, 3, none⟩ d).setCell ⟨g6, 4, none⟩ e).setCell ⟨g6, 5, none⟩ f).setCell ⟨g7, 0, none⟩ x).setCell ⟨g7, 1, none⟩ y) g s ∧
    MetIs ((((((((W.setCell ⟨g6, 0, none⟩ a).setCell ⟨g6, 1, none⟩ b).setCell ⟨g6, 2, none⟩ c).setCell ⟨g6, 3, none⟩ d).setCell ⟨g6, 4, none⟩ e).setCell ⟨g6, 5, none⟩ f).setCell ⟨g7, 0, none⟩ x).setCell ⟨g7, 1, none⟩ y) B n ks ∧
    Chg [g, B] w ((((((((W.setCell ⟨g6, 0, none⟩ a).setCell ⟨g6, 1, none⟩ b).setCell ⟨g6, 2, none⟩ c).setCell ⟨g6, 3, none⟩ d).setCell ⟨g6, 4, none⟩ e).setCell ⟨g6, 5, none⟩ f).setCell ⟨g7, 0, none⟩ x).setCell ⟨g7, 1, none⟩ y) := by
  have h67 : g6 ≠ g7 := fun e => Blk.ne_ h.b6 h.b7 (by decide) e
  have hh := h
  obtain ⟨_, _, _, _, _, _, l6, l7, l8, hne, gB, gw, Bw⟩ := hh
  have lg6 : g < g6 := by omega
  have lg7 : g < g7 := by omega
  have sG : ∀ (V : World) (q i : Nat) (u : Value), V.grownBy (V.setCell ⟨q, i, none⟩ u) (some q) := fun V q i u => only_set (World.grownBy.refl V _) (.inl rfl) u
  have mS : ∀ {V : World} (q i : Nat) (u : Value), B < q → MetIs V B n ks → MetIs (V.setCell ⟨q, i, none⟩ u) B n ks := fun q i u hq hm => hm.grown (sG _ q i u) (by intro e; have := Option.some.inj e; omega)
  have cS : ∀ {V : World} (q i : Nat) (u : Value), w.heap.size ≤ q → Chg [g, B] w V → Chg [g, B] w (V.setCell ⟨q, i, none⟩ u) := fun q i u hq hm => hm.then_grown (sG _ q i u) (fun k e => .inr (by have := Option.some.inj e; omega))
  have B6 : B < g6 := by omega
  have B7 : B < g7 := by omega
  refine ⟨?_, ?_, ?_, ?_, ?_⟩
  · exact ((((((((h.b6.set_ 0 a).set_ 1 b).set_ 2 c).set_ 3 d).set_ 4 e).set_ 5 f).far (p := ⟨g7, 0, none⟩) h67 x).far (p := ⟨g7, 1, none⟩) h67 y)
  · exact (((((((h.b7.far (p := ⟨g6, 0, none⟩) h67.symm a).far (p := ⟨g6, 1, none⟩) h67.symm b).far (p := ⟨g6, 2, none⟩) h67.symm c).far (p := ⟨g6, 3, none⟩) h67.symm d).far (p := ⟨g6, 4, none⟩) h67.symm e).far (p := ⟨g6, 5, none⟩) h67.symm f).set_ 0 x).set_ 1 y
  · exact (((((((h.rd.set (p := ⟨g6, 0, none⟩) lg6 a).set (p := ⟨g6, 1, none⟩) lg6 b).set (p := ⟨g6, 2, none⟩) lg6 c).set (p := ⟨g6, 3, none⟩) lg6 d).set (p := ⟨g6, 4, none⟩) lg6 e).set (p := ⟨g6, 5, none⟩) lg6 f).set (p := ⟨g7, 0, none⟩) lg7 x).set (p := ⟨g7, 1, none⟩) lg7 y
  · exact mS g7 1 y B7 (mS g7 0 x B7 (mS g6 5 f B6 (mS g6 4 e B6 (mS g6 3 d B6 (mS g6 2 c B6 (mS g6 1 b B6 (mS g6 0 a B6 h.met)))))))
  · exact cS g7 1 y l7 (cS g7 0 x l7 (cS g6 5 f l6 (cS g6 4 e l6 (cS g6 3 d l6 (cS g6 2 c l6 (cS g6 1 b l6 (cS g6 0 a l6 h.chg)))))))
theorem RS.num_any (s : RS) (lo hi above : Int) (h : 0 ≤ lo) (h' : 0 ≤ hi) : 0 ≤ (s.num lo hi above).1 ∧ (s.num lo hi above).1 ≤ hi := by
  unfold RS.num
  by_cases h0 : s.fe ≠ 0
  · rw [if_pos h0]; exact ⟨by simp, h'⟩
  rw [if_neg h0]
  simp only
  repeat' split
  all_goals simp only
  all_goals omega
/-- What a call leaves. -/
structure TLOut (w W : World) (g B n : Nat) (t : TL) : Prop where
  rd : RdO W g t.s
  met : MetIs W B (n + 1) t.ks
  chg : Chg [g, B] w W
end Go.Proofs.Ytehkmngbknbbaaa
