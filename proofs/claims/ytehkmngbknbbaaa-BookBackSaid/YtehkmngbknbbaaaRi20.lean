/-
  The plain side of reading an order.
-/
import Derived.Test.YtehkmngbknbbaaaRi13
import Derived.Test.YtehkmngbknbbaaaRi05
import Derived.Test.YtehkmngbknbbaaaRi09
import Derived.Test.YtehkmngbknbbaaaRi10
import Derived.Test.YtehkmngbknbbaaaRi12
import Derived.Test.YtehkmngbknbbaaaRi19
set_option linter.unusedVariables false
namespace Go.Proofs.Ytehkmngbknbbaaa

/-- n lines read one behind the other; none behind a fault. -/
def linesO : Nat → RS → List Ln × RS
  | 0, s => ([], s)
  | n + 1, s => if s.fe = 0 then (⟨(s.num 1 1099511627775 5).1, ((s.num 1 1099511627775 5).2.num 0 1099511627775 5).1⟩ :: (linesO n ((s.num 1 1099511627775 5).2.num 0 1099511627775 5).2).1, (linesO n ((s.num 1 1099511627775 5).2.num 0 1099511627775 5).2).2) else linesO n s
/-- The reference's: it goes on behind a fault. -/
def linesR : Nat → RS → List Ln × RS
  | 0, s => ([], s)
  | n + 1, s => (⟨(s.num 1 1099511627775 5).1, ((s.num 1 1099511627775 5).2.num 0 1099511627775 5).1⟩ :: (linesR n ((s.num 1 1099511627775 5).2.num 0 1099511627775 5).2).1, (linesR n ((s.num 1 1099511627775 5).2.num 0 1099511627775 5).2).2)
theorem linesR_bad (n : Nat) : ∀ s : RS, s.fe ≠ 0 → (linesR n s).2 = s := by
  induction n with
  | zero => intro s _; rfl
  | succ n ih =>
    intro s h
    simp only [linesR, RS.num_sticky h]
    exact ih s h
theorem linesO_bad (n : Nat) : ∀ s : RS, s.fe ≠ 0 → linesO n s = ([], s) := by
  induction n with
  | zero => intro s _; rfl
  | succ n ih =>
    intro s h
    simp only [linesO, if_neg h]
    exact ih s h
theorem linesOR (n : Nat) : ∀ s : RS, (linesO n s).2 = (linesR n s).2 ∧ ((linesR n s).2.fe = 0 → (linesO n s).1 = (linesR n s).1) := by
  induction n with
  | zero => intro s; exact ⟨rfl, fun _ => rfl⟩
  | succ n ih =>
    intro s
    by_cases h : s.fe = 0
    · simp only [linesO, linesR, if_pos h]
      have := ih ((s.num 1 1099511627775 5).2.num 0 1099511627775 5).2
      exact ⟨this.1, fun h1 => by rw [this.2 h1]⟩
    · have e := linesR_bad (n + 1) s h
      rw [linesO_bad (n + 1) s h]
      exact ⟨e.symm, fun h1 => absurd (by rw [e] at h1; exact h1) h⟩
theorem linesO_len (n : Nat) : ∀ s : RS, (linesO n s).1.length ≤ n := by
  induction n with
  | zero => intro s; simp [linesO]
  | succ n ih =>
    intro s
    unfold linesO
    split
    · simp only [List.length_cons]
      have := ih ((s.num 1 1099511627775 5).2.num 0 1099511627775 5).2
      omega
    · have := ih s; omega
theorem linesR_len (n : Nat) : ∀ s : RS, (linesR n s).1.length = n := by
  induction n with
  | zero => intro s; rfl
  | succ n ih => intro s; simp [linesR, ih]

/-- The head of an order that is read: currency, day, place, count; the place at which the count stands. -/
structure Head where
  cu : Int
  day : Int
  px : Int
  py : Int
  at_ : Nat
  n : Int
  s : RS
def headP (b : List UInt8) : Head :=
  let s0 := RS.start b
  let s1 := s0.num 0 1099511627775 5
  let s2 := s1.2.num 0 3652058 5
  let s3 := s2.2.num (-1099511627775) 1099511627775 5
  let s4 := s3.2.num (-1099511627775) 1099511627775 5
  let s5 := s4.2.num 0 100 3
  ⟨s1.1, s2.1, s3.1, s4.1, s4.2.at_, s5.1, s5.2⟩
/-- What reading an order gives: the order, the fault, its place. -/
def readP (b : List UInt8) : Ord × Int × Nat :=
  let h := headP b
  if h.s.fe = 0 ∧ h.n = 0 then (⟨0, 0, 0, 0, []⟩, 2, h.at_)
  else if (linesO h.n.toNat h.s).2.fin.1 ≠ 0 then (⟨0, 0, 0, 0, []⟩, (linesO h.n.toNat h.s).2.fin.1, (linesO h.n.toNat h.s).2.fin.2)
  else (⟨h.cu, h.day, h.px, h.py, (linesO h.n.toNat h.s).1⟩, 0, 0)
theorem head_n (b : List UInt8) : 0 ≤ (headP b).n ∧ (headP b).n ≤ 100 := RS.num_bd _ 0 100 3 (by decide) (by decide)
theorem fin_fe (s : RS) (h : s.fin.1 = 0) : s.fe = 0 := by
  unfold RS.fin at h
  split at h
  · simp at h
  · exact h
/-- The reference's reading comes to the same. -/
theorem readR (b : List UInt8) : readP b = 
    (let h := headP b
     if h.s.fe = 0 ∧ h.n = 0 then ((⟨0, 0, 0, 0, []⟩ : Ord), (2 : Int), h.at_)
     else if (linesR h.n.toNat h.s).2.fin.1 ≠ 0 then (⟨0, 0, 0, 0, []⟩, (linesR h.n.toNat h.s).2.fin.1, (linesR h.n.toNat h.s).2.fin.2)
     else (⟨h.cu, h.day, h.px, h.py, (linesR h.n.toNat h.s).1⟩, 0, 0)) := by
  unfold readP
  simp only
  obtain ⟨e1, e2⟩ := linesOR (headP b).n.toNat (headP b).s
  by_cases h0 : (headP b).s.fe = 0 ∧ (headP b).n = 0
  · rw [if_pos h0, if_pos h0]
  rw [if_neg h0, if_neg h0, e1]
  by_cases h1 : (linesR (headP b).n.toNat (headP b).s).2.fin.1 ≠ 0
  · rw [if_pos h1, if_pos h1]
  rw [if_neg h1, if_neg h1, e2 (fin_fe _ (by simpa using h1))]
/-- No fault has no place. -/
def RS.clean (s : RS) : Prop := s.fe = 0 → s.fa = 0
theorem RS.num_clean {s : RS} (h : s.clean) (lo hi above : Int) (ha : above ≠ 0) : (s.num lo hi above).2.clean := by
  unfold RS.num
  by_cases h0 : s.fe ≠ 0
  · rw [if_pos h0]; exact h
  rw [if_neg h0]
  simp only
  by_cases h1 : (getN s.b s.at_).fe ≠ 0
  · rw [if_pos h1]; exact fun h2 => absurd h2 h1
  rw [if_neg h1]
  by_cases h2 : hi < (getN s.b s.at_).n
  · rw [if_pos h2]; exact fun h3 => absurd h3 ha
  rw [if_neg h2]
  by_cases h3 : (getN s.b s.at_).n < lo
  · rw [if_pos h3]; exact fun h4 => absurd h4 (by show ¬ (5 : Int) = 0; decide)
  rw [if_neg h3]
  exact h
theorem linesR_clean (n : Nat) : ∀ s : RS, s.clean → (linesR n s).2.clean := by
  induction n with
  | zero => intro s h; exact h
  | succ n ih => intro s h; exact ih _ (RS.num_clean (RS.num_clean h _ _ _ (by decide)) _ _ _ (by decide))
theorem head_clean (b : List UInt8) : (headP b).s.clean :=
  RS.num_clean (RS.num_clean (RS.num_clean (RS.num_clean (RS.num_clean (s := RS.start b) (fun _ => rfl) _ _ _ (by decide)) _ _ _ (by decide)) _ _ _ (by decide)) _ _ _ (by decide)) _ _ _ (by decide)
theorem fin_clean {s : RS} (h : s.clean) (h0 : s.fin.1 = 0) : s.fin.2 = 0 := by
  unfold RS.fin at h0 ⊢
  split at h0
  · simp at h0
  · rename_i hc
    rw [if_neg hc]
    exact h h0
end Go.Proofs.Ytehkmngbknbbaaa

set_option linter.unusedVariables false
namespace Go.Proofs.Ytehkmngbknbbaaa
open Go.RowKit Go.Maps

/-- What reading a tax line gives: the line, the fault, its place; the reader, and what was met. -/
structure TL where
  x : Tx
  fe : Int
  fa : Nat
  s : RS
  ks : List (Int × Int)
def taxLineP (s : RS) (ks : List (Int × Int)) (last : Int) : TL :=
  let r1 := s.num 0 99 5
  if r1.2.fe = 0 ∧ r1.1 < last then ⟨Tx.zero, 2, s.at_, r1.2, ks⟩ else
  let r2 := r1.2.num 1 1099511627775 5
  if r2.2.fe = 0 ∧ (r1.1, r2.1) ∈ ks then ⟨Tx.zero, 7, r1.2.at_, r2.2, ks ++ [(r1.1, r2.1)]⟩ else
  let ks' := if r2.2.fe = 0 then ks ++ [(r1.1, r2.1)] else ks
  let r3 := r2.2.num 0 4611686018427387904 5
  let r4 := r3.2.num 0 4611686018427387904 5
  if r4.2.fe = 0 ∧ 4611686018427387904 - r3.1 < r4.1 then ⟨Tx.zero, 5, r3.2.at_, r4.2, ks'⟩ else
  let r5 := r4.2.num 0 1000000 5
  let r6 := r5.2.num 0 4611686018427387904 5
  ⟨⟨r1.1, r2.1, r3.1, r4.1, r5.1, r6.1⟩, r6.2.fe, r6.2.fa, r6.2, ks'⟩

theorem oint_is {s s' : RS} {lo hi n : Int} (he : s.num lo hi 5 = (n, s')) (g : Nat) (w : World) (h : RdO w g s) :
    Calls Try.prog 72 #[.pointer (some ⟨g, 0, none⟩), .int .i64 lo, .int .i64 hi] w fun e w' => e = .returned (.int .i64 n) ∧ RdO w' g s' ∧ w.grownBy w' (some g) := by
  have := oint_any s lo hi g w h
  rw [he] at this
  exact this
theorem ld_taxF {w : World} {g : Nat} {a b c d e f : Value} (h : Blk w g 46 #[a, b, c, d, e, f]) : (loadVar 46 ⟨g, 0, none⟩).run Try.prog w = .ok (.agg #[a, b, c, d, e, f]) w := by
  have q := h.cell
  simp [go_sem, q]
set_option maxRecDepth 100000 in
theorem taxFault_any (e at_ : Int) (w : World) : Calls Try.prog 120 #[.int .i64 e, .int .i64 at_] w fun r w' => r = .returned (.tuple #[.agg #[.int .i64 0, .int .i64 0, .int .i64 0, .int .i64 0, .int .i64 0, .int .i64 0], .agg #[.int .i64 e, .int .i64 at_]]) ∧ Ext w w' := by
  have B1 := (Blk.new w 46 #[.int .i64 0, .int .i64 0, .int .i64 0, .int .i64 0, .int .i64 0, .int .i64 0]).alloc (.cells #[.int .i64 e, .int .i64 at_] 37)
  have B2 : Blk ((w.alloc (.cells #[.int .i64 0, .int .i64 0, .int .i64 0, .int .i64 0, .int .i64 0, .int .i64 0] 46)).alloc (.cells #[.int .i64 e, .int .i64 at_] 37)) (w.heap.size + 1) 37 #[.int .i64 e, .int .i64 at_] := by
    have := Blk.new (w.alloc (.cells #[.int .i64 0, .int .i64 0, .int .i64 0, .int .i64 0, .int .i64 0, .int .i64 0] 46)) 37 #[.int .i64 e, .int .i64 at_]
    simpa using this
  have X := ((Ext.refl w).alloc (.cells #[.int .i64 0, .int .i64 0, .int .i64 0, .int .i64 0, .int .i64 0, .int .i64 0] 46)).alloc (.cells #[.int .i64 e, .int .i64 at_] 37)
  go_enter Try.func120, Try.ntmps120
  go_wp2_with fail
  exact bodyPost_ret (results_cc rfl rfl (ld_taxF B1) rfl (ld_fault B2)) rfl ⟨rfl, X⟩

theorem Chg.drewF {S : List Nat} {a w : World} (h : Chg S a w) : Chg S a w.drew := ⟨h.os, h.tape, h.output, h.size, h.block⟩
theorem Chg.setcF {S : List Nat} {a w : World} (h : Chg S a w) {p : Addr} (hp : p.block ∈ S) (u : Value) : Chg S a (w.setCell p u) := h.then_grown (only_set (World.grownBy.refl w (some p.block)) (.inl rfl) u) (fun k e => .inl (by rw [← Option.some.inj e]; exact hp))
/-- How the world stands while a tax line is read. -/
structure TS (w W : World) (g B n : Nat) (s : RS) (ks : List (Int × Int)) (g6 g7 g8 : Nat) (cs : Array Value) : Prop where
  rd : RdO W g s
  met : MetIs W B n ks
  b6 : Blk W g6 46 #[.int .i64 0, .int .i64 0, .int .i64 0, .int .i64 0, .int .i64 0, .int .i64 0]
  b7 : Blk W g7 37 #[.int .i64 0, .int .i64 0]
  b8 : Blk W g8 46 cs
  chg : Chg [g, B] w W
  l6 : w.heap.size ≤ g6
  l7 : w.heap.size ≤ g7
  l8 : w.heap.size ≤ g8
  ne : g6 ≠ g8
  gB : g < B
  gw : g < w.heap.size
  Bw : B < w.heap.size
theorem TS.to {w W W' : World} {g B n : Nat} {s : RS} {ks : List (Int × Int)} {g6 g7 g8 : Nat} {cs : Array Value} (h : TS w W g B n s ks g6 g7 g8 cs) (hx : Ext W W') : TS w W' g B n s ks g6 g7 g8 cs :=
  ⟨h.rd.ext hx, h.met.ext hx, h.b6.ext hx, h.b7.ext hx, h.b8.ext hx, h.chg.then_ext hx, h.l6, h.l7, h.l8, h.ne, h.gB, h.gw, h.Bw⟩
theorem TS.call {w W W' : World} {g B n : Nat} {s s' : RS} {ks : List (Int × Int)} {g6 g7 g8 : Nat} {cs : Array Value} (h : TS w W g B n s ks g6 g7 g8 cs) (hR : RdO W' g s') (hG : W.grownBy W' (some g)) : TS w W' g B n s' ks g6 g7 g8 cs := by
  have hh := h
  obtain ⟨_, _, _, _, _, _, l6, l7, l8, _, gB, gw, Bw⟩ := hh
  exact ⟨hR, h.met.grown hG (by intro e; have := Option.some.inj e; omega), h.b6.grown hG (by intro e; have := Option.some.inj e; omega), h.b7.grown hG (by intro e; have := Option.some.inj e; omega), h.b8.grown hG (by intro e; have := Option.some.inj e; omega),
    h.chg.then_grown hG (fun k e => .inl (by rw [← Option.some.inj e]; simp)), l6, l7, l8, h.ne, gB, gw, Bw⟩
theorem TS.set8 {w W : World} {g B n : Nat} {s : RS} {ks : List (Int × Int)} {g6 g7 g8 : Nat} {cs : Array Value} (h : TS w W g B n s ks g6 g7 g8 cs) (i : Nat) (v : Value) : TS w (W.setCell ⟨g8, i, none⟩ v) g B n s ks g6 g7 g8 (cs.setIfInBounds i v) := by
  have hG : W.grownBy (W.setCell ⟨g8, i, none⟩ v) (some g8) := only_set (World.grownBy.refl W _) (.inl rfl) v
  have h78 : g7 ≠ g8 := fun e => Blk.ne_ h.b7 h.b8 (by decide) e
  have hh := h
  obtain ⟨_, _, _, _, _, _, l6, l7, l8, hne, gB, gw, Bw⟩ := hh
  exact ⟨h.rd.set (p := ⟨g8, i, none⟩) (by simp only; omega) v, h.met.grown hG (by intro e; have := Option.some.inj e; omega), h.b6.far (p := ⟨g8, i, none⟩) hne v, h.b7.far (p := ⟨g8, i, none⟩) h78 v, h.b8.set_ i v,
    h.chg.then_grown hG (fun k e => .inr (by have := Option.some.inj e; omega)), l6, l7, l8, hne, gB, gw, Bw⟩
theorem TS.twice {w W W' : World} {g B n : Nat} {s : RS} {ks ks' : List (Int × Int)} {g6 g7 g8 : Nat} {cs : Array Value} (h : TS w W g B n s ks g6 g7 g8 cs) (hm : MetIs W' B (n + 1) ks') (hG : W.grownBy W' (some B)) : TS w W' g B (n + 1) s ks' g6 g7 g8 cs := by
  have hh := h
  obtain ⟨_, _, _, _, _, _, l6, l7, l8, hne, gB, gw, Bw⟩ := hh
  have hrd : RdO W' g s := by
    obtain ⟨A, cap, hB, hr, hc, hmx⟩ := h.rd.ex
    exact ⟨⟨A, cap, hB.grown hG (by intro e; have := Option.some.inj e; omega), hr.keep fun b o hb => World.cell?_of_block (a := ⟨b, o, none⟩) (hG.block b (Nat.lt_trans hb hB.lt) (by intro e; have := Option.some.inj e; omega)), hc, hmx⟩, h.rd.ok⟩
  exact ⟨hrd, hm, h.b6.grown hG (by intro e; have := Option.some.inj e; omega), h.b7.grown hG (by intro e; have := Option.some.inj e; omega), h.b8.grown hG (by intro e; have := Option.some.inj e; omega),
    h.chg.then_grown hG (fun k e => .inl (by rw [← Option.some.inj e]; simp)), l6, l7, l8, hne, gB, gw, Bw⟩
theorem TS.more {w W : World} {g B n : Nat} {s : RS} {ks : List (Int × Int)} {g6 g7 g8 : Nat} {cs : Array Value} (h : TS w W g B n s ks g6 g7 g8 cs) : TS w W g B (n + 1) s ks g6 g7 g8 cs :=
  ⟨h.rd, h.met.mono (by omega), h.b6, h.b7, h.b8, h.chg, h.l6, h.l7, h.l8, h.ne, h.gB, h.gw, h.Bw⟩
/-- The results stored. -/
theorem TS.end8 {w W : World} {g B n : Nat} {s : RS} {ks : List (Int × Int)} {g6 g7 g8 : Nat} {cs : Array Value} (h : TS w W g B n s ks g6 g7 g8 cs) (a b c d e f x y : Value) :
    Blk ((((((((W.setCell ⟨g6, 0, none⟩ a).setCell ⟨g6, 1, none⟩ b).setCell ⟨g6, 2, none⟩ c).setCell ⟨g6, 3, none⟩ d).setCell ⟨g6, 4, none⟩ e).setCell ⟨g6, 5, none⟩ f).setCell ⟨g7, 0, none⟩ x).setCell ⟨g7, 1, none⟩ y) g6 46 #[a, b, c, d, e, f] ∧
    Blk ((((((((W.setCell ⟨g6, 0, none⟩ a).setCell ⟨g6, 1, none⟩ b).setCell ⟨g6, 2, none⟩ c).setCell ⟨g6, 3, none⟩ d).setCell ⟨g6, 4, none⟩ e).setCell ⟨g6, 5, none⟩ f).setCell ⟨g7, 0, none⟩ x).setCell ⟨g7, 1, none⟩ y) g7 37 #[x, y] ∧
    RdO ((((((((W.setCell ⟨g6, 0, none⟩ a).setCell ⟨g6, 1, none⟩ b).setCell ⟨g6, 2, none⟩ c).setCell ⟨g6, 3, none⟩ d).setCell ⟨g6, 4, none⟩ e).setCell ⟨g6, 5, none⟩ f).setCell ⟨g7, 0, none⟩ x).setCell ⟨g7, 1, none⟩ y) g s ∧
    MetIs ((((((((W.setCell ⟨g6, 0, none⟩ a).setCell ⟨g6, 1, none⟩ b).setCell ⟨g6, 2, none⟩ c).setCell ⟨g6, 3, none⟩ d).setCell ⟨g6, 4, none⟩ e).setCell ⟨g6, 5, none⟩ f).setCell ⟨g7, 0, none⟩ x).setCell ⟨g7, 1, none⟩ y) B n ks ∧
    Chg [g, B] w ((((((((W.setCell ⟨g6, 0, none⟩ a).setCell ⟨g6, 1, none⟩ b).setCell ⟨g6, 2, none⟩ c).setCell ⟨g6, 3, none⟩ d).setCell ⟨g6, 4, none⟩ e).setCell ⟨g6, 5, none⟩ f).setCell ⟨g7, 0, none⟩ x).setCell ⟨g7, 1, none⟩ y) := by
  have h67 : g6 ≠ g7 := fun e => Blk.ne_ h.b6 h.b7 (by decide) e
  have hh := h
  obtain ⟨_, _, _, _, _, _, l6, l7, l8, hne, gB, gw, Bw⟩ := hh
  have lg6 : g < g6 := by omega
  have lg7 : g < g7 := by omega
  have sG : ∀ (V : World) (q i : Nat) (u : Value), V.grownBy (V.setCell ⟨q, i, none⟩ u) (some q) := fun V q i u => only_set (World.grownBy.refl V _) (.inl rfl) u
  have mS : ∀ {V : World} (q i : Nat) (u : Value), B < q → MetIs V B n ks → MetIs (V.setCell ⟨q, i, none⟩ u) B n ks := fun q i u hq hm => hm.grown (sG _ q i u) (by intro e; have := Option.some.inj e; omega)
  have cS : ∀ {V : World} (q i : Nat) (u : Value), w.heap.size ≤ q → Chg [g, B] w V → Chg [g, B] w (V.setCell ⟨q, i, none⟩ u) := fun q i u hq hm => hm.then_grown (sG _ q i u) (fun k e => .inr (by have := Option.some.inj e; omega))
  have B6 : B < g6 := by omega
  have B7 : B < g7 := by omega
  refine ⟨?_, ?_, ?_, ?_, ?_⟩
  · exact ((((((((h.b6.set_ 0 a).set_ 1 b).set_ 2 c).set_ 3 d).set_ 4 e).set_ 5 f).far (p := ⟨g7, 0, none⟩) h67 x).far (p := ⟨g7, 1, none⟩) h67 y)
  · exact (((((((h.b7.far (p := ⟨g6, 0, none⟩) h67.symm a).far (p := ⟨g6, 1, none⟩) h67.symm b).far (p := ⟨g6, 2, none⟩) h67.symm c).far (p := ⟨g6, 3, none⟩) h67.symm d).far (p := ⟨g6, 4, none⟩) h67.symm e).far (p := ⟨g6, 5, none⟩) h67.symm f).set_ 0 x).set_ 1 y
  · exact (((((((h.rd.set (p := ⟨g6, 0, none⟩) lg6 a).set (p := ⟨g6, 1, none⟩) lg6 b).set (p := ⟨g6, 2, none⟩) lg6 c).set (p := ⟨g6, 3, none⟩) lg6 d).set (p := ⟨g6, 4, none⟩) lg6 e).set (p := ⟨g6, 5, none⟩) lg6 f).set (p := ⟨g7, 0, none⟩) lg7 x).set (p := ⟨g7, 1, none⟩) lg7 y
  · exact mS g7 1 y B7 (mS g7 0 x B7 (mS g6 5 f B6 (mS g6 4 e B6 (mS g6 3 d B6 (mS g6 2 c B6 (mS g6 1 b B6 (mS g6 0 a B6 h.met)))))))
  · exact cS g7 1 y l7 (cS g7 0 x l7 (cS g6 5 f l6 (cS g6 4 e l6 (cS g6 3 d l6 (cS g6 2 c l6 (cS g6 1 b l6 (cS g6 0 a l6 h.chg)))))))
theorem RS.num_any (s : RS) (lo hi above : Int) (h : 0 ≤ lo) (h' : 0 ≤ hi) : 0 ≤ (s.num lo hi above).1 ∧ (s.num lo hi above).1 ≤ hi := by
  unfold RS.num
  by_cases h0 : s.fe ≠ 0
  · rw [if_pos h0]; exact ⟨by simp, h'⟩
  rw [if_neg h0]
  simp only
  repeat' split
  all_goals simp only
  all_goals omega
/-- What a call leaves. -/
structure TLOut (w W : World) (g B n : Nat) (t : TL) : Prop where
  rd : RdO W g t.s
  met : MetIs W B (n + 1) t.ks
  chg : Chg [g, B] w W
end Go.Proofs.Ytehkmngbknbbaaa
