/-
  The statement RemitBig: the walk. (Printed by wip/tools/genTk.py.)
-/
import Derived.Test.YtokakpbpenndlaaDoorRp44
import Derived.Test.YtokakpbpenndlaaDoorRp45
set_option linter.unusedVariables false
namespace Go.Proofs.YtokakpbpenndlaaDoor
open Go.RowKit Go.Maps

/-- A book in use, beside a row of four numbers. -/
def One1 (w W : World) (bb mb gn : Nat) (cs : Array Value) (K : Bk) : Prop := ∃ v M, BookAt w W bb mb v M ∧ M.b = K ∧ Ext w W ∧ Blk W gn 3 cs ∧ gn ∉ foot bb mb v M
theorem One1.to {w W W' : World} {bb mb gn : Nat} {cs : Array Value} {K : Bk} (h : One1 w W bb mb gn cs K) (hx : Ext W W') : One1 w W' bb mb gn cs K := by
  obtain ⟨v, M, h1, h2, h3, h4, h5⟩ := h
  exact ⟨v, M, h1.ext hx, h2, h3.trans hx, h4.ext hx, h5⟩
theorem One1.one {w W : World} {bb mb gn : Nat} {cs : Array Value} {K : Bk} (h : One1 w W bb mb gn cs K) : One w W bb mb K := by
  obtain ⟨v, M, h1, h2, h3, h4, h5⟩ := h
  exact ⟨v, M, h1, h2, h3⟩
theorem One1.blk {w W : World} {bb mb gn : Nat} {cs : Array Value} {K : Bk} (h : One1 w W bb mb gn cs K) : Blk W gn 3 cs := by
  obtain ⟨v, M, h1, h2, h3, h4, h5⟩ := h
  exact h4
theorem One1.new {w W : World} {bb mb : Nat} {K : Bk} (h : One w W bb mb K) (cs : Array Value) : One1 w (W.alloc (.cells cs 3)) bb mb W.heap.size cs K := by
  obtain ⟨v, M, h1, h2, h3⟩ := h
  refine ⟨v, M, h1.ext ((Ext.refl W).alloc _), h2, h3.alloc _, Blk.new W _ _, fun hm => ?_⟩
  have := (h1.foot_ge _ hm).2
  omega
theorem One1.add {w W : World} {bb mb gn : Nat} {cs : Array Value} {K : Bk} (h : One1 w W bb mb gn cs K) (e : Ent) (Aa At : Option Addr) (ca ct : Nat) (he : EntR W e Aa At) (hs : K.small) (hk : K.length ≤ 100000) {K' : Bk} {l : List Tx} {f : Int} (hE : K.add e = (K', l, f)) {n m q : Nat} (hn : e.am.length = n) (hm : e.tax.length = m) (hq : l.length = q) :
    Calls Tryd.prog 6 #[.pointer (some ⟨bb, 0, none⟩), .agg #[.int .i64 e.k, .int .i64 e.id, .int .i64 e.of_, .int .i64 e.day, .slice Aa n ca, .slice At m ct]] W fun r W' => ∃ A c, r = .returned (.tuple #[.slice A q c, .int .i64 f]) ∧ One1 w W' bb mb gn cs K' := by
  subst hn hm
  obtain ⟨v, M, h1, rfl, h3, h4, h5⟩ := h
  refine (add_is h1 h3 e Aa At ca ct he (by rw [← BkM.len_b]; exact hk) hs hE (n := q) hq).mono ?_
  rintro r W' ⟨A, c, v', M', B1, rfl, hA, hb, hlow, ho⟩
  refine ⟨A, c, rfl, v', M', hA.at_, hb, Chg.to_ext h3 hA.chg (fun k hk => (h1.foot_ge k hk).1), hA.chg.blk h4 h5, fun hm => ?_⟩
  rcases hA.foot _ hm with h | h
  · exact h5 h
  · have := h4.lt
    omega
/-- How the world stands behind i entries. -/
def Rel30 (w : World) (bb mb gn : Nat) (a b : Int) (B : Nat → Bk) (n : Nat) (i : Value) (wr : World) : Prop :=
  ∃ k : Nat, k ≤ n ∧ i = .int .i64 (k : Int) ∧ One1 w wr bb mb gn #[.int .i64 a, .int .i64 b, .int .i64 a, .int .i64 b] (B k)
theorem big_am {W : World} {gn : Nat} {a b : Int} (h : Blk W gn 3 #[.int .i64 a, .int .i64 b, .int .i64 a, .int .i64 b]) (k : Nat) (hk : k < 4) : Reads W W.heap.size 1 (some ⟨gn, k, none⟩) 1 (iV [bigA a b k]) :=
  ⟨rfl, fun _ => ⟨gn, k, rfl, h.lt, fun j u hu => by
    have hj : j < 1 := by
      have := (List.getElem?_eq_some_iff.1 hu).1
      simpa [iV] using this
    obtain rfl : j = 0 := by omega
    rw [Nat.add_zero, h.cell]
    match k, hk with
    | 0, _ => exact hu
    | 1, _ => exact hu
    | 2, _ => exact hu
    | 3, _ => exact hu
    | n + 4, h => omega⟩⟩
def bigT (n : Int) : Array Value := #[.int .i64 0, .int .i64 7, .int .i64 n, .int .i64 0, .int .i64 0, .int .i64 n]
theorem big_S1 (wr : World) (n : Int) (cs : Array Value) (e : TypeId) : Reads ((wr.alloc (.cells (bigT n) 27)).alloc (.cells cs e)).drew ((wr.alloc (.cells (bigT n) 27)).alloc (.cells cs e)).drew.heap.size 6 (some ⟨wr.heap.size, 0, none⟩) 1 (txCells [⟨0, 7, n, 0, 0, n⟩]) :=
  (reads_c wr (bigT n) 27 1 6 (txCells [⟨0, 7, n, 0, 0, n⟩]) rfl rfl).ext (((Ext.refl _).alloc _).drew)
theorem big_S2 (wr : World) (n : Int) (cs : Array Value) (e : TypeId) : Reads ((wr.alloc (.cells cs e)).alloc (.cells (bigT n) 27)).drew ((wr.alloc (.cells cs e)).alloc (.cells (bigT n) 27)).drew.heap.size 6 (some ⟨wr.heap.size + 1, 0, none⟩) 1 (txCells [⟨0, 7, n, 0, 0, n⟩]) := by
  have h := (reads_c (wr.alloc (.cells cs e)) (bigT n) 27 1 6 (txCells [⟨0, 7, n, 0, 0, n⟩]) rfl rfl).ext ((Ext.refl _).drew)
  have e : (wr.alloc (.cells cs e)).heap.size = wr.heap.size + 1 := by simp
  rwa [e] at h
set_option maxRecDepth 100000 in
set_option maxHeartbeats 4000000 in
theorem remitBig_in (a b : Int) (ha0 : 2305843009213693952 < a) (ha : bigN a) (hb0 : 2305843009213693952 < b) (hb : bigN b) (w : World) (ht : Tab10 w) :
    Calls Tryd.prog 3 #[.int .i64 a, .int .i64 b] w fun e w' => e = .returned (.bool true) ∧ Ext w w' := by
  have d1 : decide (a ≤ 2305843009213693952) = false := by simpa using ha0
  have d2 : decide (4611686018427387904 < a) = false := by simpa using ha.2
  have d3 : decide (b ≤ 2305843009213693952) = false := by simpa using hb0
  have d4 : decide (4611686018427387904 < b) = false := by simpa using hb.2
  have HT := Lib.hid ht
  replace ha := Lib.hid ha
  replace hb := Lib.hid hb
  replace ha0 := Lib.hid ha0
  replace hb0 := Lib.hid hb0
  clear ht
  go_enter Tryd.func3, Tryd.ntmps3
  go_wp2_with fail
  refine (awake30_any _ HT.out).mono ?_
  rintro e w1 ⟨rfl, X1⟩
  go_wp2_with fail
  refine (newBook_any _).mono ?_
  rintro r w2 ⟨rfl, hB2, hx2⟩
  have O2 : One w1 w2 (w1.heap.size + 1) w1.heap.size [] := ⟨_, _, hB2, rfl, hx2⟩
  clear hB2 hx2 d1 d2 d3 d4
  generalize w1.heap.size + 1 = bb at *
  generalize w1.heap.size = mb at *
  go_wp2_with fail
  have O3 := One1.new O2 #[.int .i64 a, .int .i64 b, .int .i64 a, .int .i64 b]
  generalize w2.alloc (.cells #[.int .i64 a, .int .i64 b, .int .i64 a, .int .i64 b] 3) = w3 at *
  generalize w2.heap.size = gn at *
  clear O2
  have v1 : IntKind.i64.wrap 1 = 1 := by decide
  have v2 : IntKind.i64.wrap 2 = 2 := by decide
  have v3 : IntKind.i64.wrap 3 = 3 := by decide
  have v4 : IntKind.i64.wrap 4 = 4 := by decide
  go_loopw [8] (fun i wr => Rel30 w1 bb mb gn a b (bigB a b) 4 i wr) (fun i _ => 4 - (intOf i).toNat)
  case atStart => exact ⟨0, by omega, rfl, O3⟩
  clear O3
  case round =>
    obtain ⟨k, hk, rfl, O4⟩ := hrel
    rcases (by omega : k = 0 ∨ k = 1 ∨ k = 2 ∨ k = 3 ∨ k = 4) with rfl | rfl | rfl | rfl | rfl
    all_goals simp only [Int.cast_ofNat_Int] at *
    clear hk
    · have B4 := O4.blk
      have HX := Lib.hid (fun W (h : Ext wr W) => (show W.cell? ⟨gn, 0, none⟩ = some (.int .i64 a) from (B4.ext h).cell 0))
      have s1 := HX.out _ (Ext.refl wr)
      replace B4 := Lib.hid B4
      replace O4 := Lib.hid O4
      go_wp2_with fail
      go_region_held3 (fun w' => w'.cell? ⟨gn, 0, none⟩ = some (.int .i64 a))
        (with_reducible refine HX.out _ ?_; with_reducible repeat (first | exact Ext.refl _ | refine Ext.drew ?_ | refine Ext.alloc ?_ _))
        (fail)
      · have R5 := big_S1 wr a #[.int .i64 1, .int .i64 1, .int .i64 0, .int .i64 5, .slice (some ⟨gn, 0, none⟩) 1 4, .slice (some ⟨wr.heap.size, 0, none⟩) 1 1] 30
        have X5 : Ext wr _ := (((Ext.refl wr).alloc (.cells (bigT a) 27)).alloc (.cells #[.int .i64 1, .int .i64 1, .int .i64 0, .int .i64 5, .slice (some ⟨gn, 0, none⟩) 1 4, .slice (some ⟨wr.heap.size, 0, none⟩) 1 1] 30)).drew
        unfold bigT at R5 X5
        go_wp2_with fail
        generalize ((wr.alloc (.cells #[.int .i64 0, .int .i64 7, .int .i64 a, .int .i64 0, .int .i64 0, .int .i64 a] 27)).alloc (.cells #[.int .i64 1, .int .i64 1, .int .i64 0, .int .i64 5, .slice (some ⟨gn, 0, none⟩) 1 4, .slice (some ⟨wr.heap.size, 0, none⟩) 1 1] 30)).drew = w5 at *
        have B5 := B4.out.ext X5
        have HE : EntR w5 (bigS 1 a) (some ⟨gn, 0, none⟩) (some ⟨wr.heap.size, 0, none⟩) := ⟨big_am B5 0 (by decide), R5, by simp [bigS, maxLen], by simp [bigS, maxLen]⟩
        refine ((O4.out.to X5).add (bigS 1 a) _ _ 4 1 HE (bigB_small _ _ _) (bigB_len _ _ _) (bigB_add ha.out hb.out (i := 0) (by decide)) (n := 1) (m := 1) (q := 1) rfl rfl rfl).mono ?_
        rintro r w6 ⟨A6, c6, rfl, O6⟩
        clear HE R5 X5 B5
        go_wp2_with fail
        go_roundw
        case rel => exact ⟨1, by decide, rfl, O6⟩
        case measure => simp [intOf]
      · have R5 := big_S2 wr a #[.int .i64 1, .int .i64 1, .int .i64 0, .int .i64 5, .slice (some ⟨gn, 0, none⟩) 1 4, .slice (some ⟨wr.heap.size + 1, 0, none⟩) 1 1] 30
        have X5 : Ext wr _ := (((Ext.refl wr).alloc (.cells #[.int .i64 1, .int .i64 1, .int .i64 0, .int .i64 5, .slice (some ⟨gn, 0, none⟩) 1 4, .slice (some ⟨wr.heap.size + 1, 0, none⟩) 1 1] 30)).alloc (.cells (bigT a) 27)).drew
        unfold bigT at R5 X5
        go_wp2_with fail
        generalize ((wr.alloc (.cells #[.int .i64 1, .int .i64 1, .int .i64 0, .int .i64 5, .slice (some ⟨gn, 0, none⟩) 1 4, .slice (some ⟨wr.heap.size + 1, 0, none⟩) 1 1] 30)).alloc (.cells #[.int .i64 0, .int .i64 7, .int .i64 a, .int .i64 0, .int .i64 0, .int .i64 a] 27)).drew = w5 at *
        have B5 := B4.out.ext X5
        have HE : EntR w5 (bigS 1 a) (some ⟨gn, 0, none⟩) (some ⟨wr.heap.size + 1, 0, none⟩) := ⟨big_am B5 0 (by decide), R5, by simp [bigS, maxLen], by simp [bigS, maxLen]⟩
        refine ((O4.out.to X5).add (bigS 1 a) _ _ 4 1 HE (bigB_small _ _ _) (bigB_len _ _ _) (bigB_add ha.out hb.out (i := 0) (by decide)) (n := 1) (m := 1) (q := 1) rfl rfl rfl).mono ?_
        rintro r w6 ⟨A6, c6, rfl, O6⟩
        clear HE R5 X5 B5
        go_wp2_with fail
        go_roundw
        case rel => exact ⟨1, by decide, rfl, O6⟩
        case measure => simp [intOf]
    · have B4 := O4.blk
      have HX := Lib.hid (fun W (h : Ext wr W) => (show W.cell? ⟨gn, 1, none⟩ = some (.int .i64 b) from (B4.ext h).cell 1))
      have s1 := HX.out _ (Ext.refl wr)
      replace B4 := Lib.hid B4
      replace O4 := Lib.hid O4
      go_wp2_with fail
      go_region_held3 (fun w' => w'.cell? ⟨gn, 1, none⟩ = some (.int .i64 b))
        (with_reducible refine HX.out _ ?_; with_reducible repeat (first | exact Ext.refl _ | refine Ext.drew ?_ | refine Ext.alloc ?_ _))
        (fail)
      · have R5 := big_S1 wr b #[.int .i64 1, .int .i64 2, .int .i64 0, .int .i64 5, .slice (some ⟨gn, 1, none⟩) 1 3, .slice (some ⟨wr.heap.size, 0, none⟩) 1 1] 30
        have X5 : Ext wr _ := (((Ext.refl wr).alloc (.cells (bigT b) 27)).alloc (.cells #[.int .i64 1, .int .i64 2, .int .i64 0, .int .i64 5, .slice (some ⟨gn, 1, none⟩) 1 3, .slice (some ⟨wr.heap.size, 0, none⟩) 1 1] 30)).drew
        unfold bigT at R5 X5
        go_wp2_with fail
        generalize ((wr.alloc (.cells #[.int .i64 0, .int .i64 7, .int .i64 b, .int .i64 0, .int .i64 0, .int .i64 b] 27)).alloc (.cells #[.int .i64 1, .int .i64 2, .int .i64 0, .int .i64 5, .slice (some ⟨gn, 1, none⟩) 1 3, .slice (some ⟨wr.heap.size, 0, none⟩) 1 1] 30)).drew = w5 at *
        have B5 := B4.out.ext X5
        have HE : EntR w5 (bigS 2 b) (some ⟨gn, 1, none⟩) (some ⟨wr.heap.size, 0, none⟩) := ⟨big_am B5 1 (by decide), R5, by simp [bigS, maxLen], by simp [bigS, maxLen]⟩
        refine ((O4.out.to X5).add (bigS 2 b) _ _ 3 1 HE (bigB_small _ _ _) (bigB_len _ _ _) (bigB_add ha.out hb.out (i := 1) (by decide)) (n := 1) (m := 1) (q := 1) rfl rfl rfl).mono ?_
        rintro r w6 ⟨A6, c6, rfl, O6⟩
        clear HE R5 X5 B5
        go_wp2_with fail
        go_roundw
        case rel => exact ⟨2, by decide, rfl, O6⟩
        case measure => simp [intOf]
      · have R5 := big_S2 wr b #[.int .i64 1, .int .i64 2, .int .i64 0, .int .i64 5, .slice (some ⟨gn, 1, none⟩) 1 3, .slice (some ⟨wr.heap.size + 1, 0, none⟩) 1 1] 30
        have X5 : Ext wr _ := (((Ext.refl wr).alloc (.cells #[.int .i64 1, .int .i64 2, .int .i64 0, .int .i64 5, .slice (some ⟨gn, 1, none⟩) 1 3, .slice (some ⟨wr.heap.size + 1, 0, none⟩) 1 1] 30)).alloc (.cells (bigT b) 27)).drew
        unfold bigT at R5 X5
        go_wp2_with fail
        generalize ((wr.alloc (.cells #[.int .i64 1, .int .i64 2, .int .i64 0, .int .i64 5, .slice (some ⟨gn, 1, none⟩) 1 3, .slice (some ⟨wr.heap.size + 1, 0, none⟩) 1 1] 30)).alloc (.cells #[.int .i64 0, .int .i64 7, .int .i64 b, .int .i64 0, .int .i64 0, .int .i64 b] 27)).drew = w5 at *
        have B5 := B4.out.ext X5
        have HE : EntR w5 (bigS 2 b) (some ⟨gn, 1, none⟩) (some ⟨wr.heap.size + 1, 0, none⟩) := ⟨big_am B5 1 (by decide), R5, by simp [bigS, maxLen], by simp [bigS, maxLen]⟩
        refine ((O4.out.to X5).add (bigS 2 b) _ _ 3 1 HE (bigB_small _ _ _) (bigB_len _ _ _) (bigB_add ha.out hb.out (i := 1) (by decide)) (n := 1) (m := 1) (q := 1) rfl rfl rfl).mono ?_
        rintro r w6 ⟨A6, c6, rfl, O6⟩
        clear HE R5 X5 B5
        go_wp2_with fail
        go_roundw
        case rel => exact ⟨2, by decide, rfl, O6⟩
        case measure => simp [intOf]
    · have B4 := O4.blk
      have HX := Lib.hid (fun W (h : Ext wr W) => (show W.cell? ⟨gn, 2, none⟩ = some (.int .i64 a) from (B4.ext h).cell 2))
      have s1 := HX.out _ (Ext.refl wr)
      replace B4 := Lib.hid B4
      replace O4 := Lib.hid O4
      go_wp2_with fail
      go_region_held3 (fun w' => w'.cell? ⟨gn, 2, none⟩ = some (.int .i64 a))
        (with_reducible refine HX.out _ ?_; with_reducible repeat (first | exact Ext.refl _ | refine Ext.drew ?_ | refine Ext.alloc ?_ _))
        (fail)
      · have R5 := big_S1 wr a #[.int .i64 1, .int .i64 3, .int .i64 0, .int .i64 5, .slice (some ⟨gn, 2, none⟩) 1 2, .slice (some ⟨wr.heap.size, 0, none⟩) 1 1] 30
        have X5 : Ext wr _ := (((Ext.refl wr).alloc (.cells (bigT a) 27)).alloc (.cells #[.int .i64 1, .int .i64 3, .int .i64 0, .int .i64 5, .slice (some ⟨gn, 2, none⟩) 1 2, .slice (some ⟨wr.heap.size, 0, none⟩) 1 1] 30)).drew
        unfold bigT at R5 X5
        go_wp2_with fail
        generalize ((wr.alloc (.cells #[.int .i64 0, .int .i64 7, .int .i64 a, .int .i64 0, .int .i64 0, .int .i64 a] 27)).alloc (.cells #[.int .i64 1, .int .i64 3, .int .i64 0, .int .i64 5, .slice (some ⟨gn, 2, none⟩) 1 2, .slice (some ⟨wr.heap.size, 0, none⟩) 1 1] 30)).drew = w5 at *
        have B5 := B4.out.ext X5
        have HE : EntR w5 (bigS 3 a) (some ⟨gn, 2, none⟩) (some ⟨wr.heap.size, 0, none⟩) := ⟨big_am B5 2 (by decide), R5, by simp [bigS, maxLen], by simp [bigS, maxLen]⟩
        refine ((O4.out.to X5).add (bigS 3 a) _ _ 2 1 HE (bigB_small _ _ _) (bigB_len _ _ _) (bigB_add ha.out hb.out (i := 2) (by decide)) (n := 1) (m := 1) (q := 1) rfl rfl rfl).mono ?_
        rintro r w6 ⟨A6, c6, rfl, O6⟩
        clear HE R5 X5 B5
        go_wp2_with fail
        go_roundw
        case rel => exact ⟨3, by decide, rfl, O6⟩
        case measure => simp [intOf]
      · have R5 := big_S2 wr a #[.int .i64 1, .int .i64 3, .int .i64 0, .int .i64 5, .slice (some ⟨gn, 2, none⟩) 1 2, .slice (some ⟨wr.heap.size + 1, 0, none⟩) 1 1] 30
        have X5 : Ext wr _ := (((Ext.refl wr).alloc (.cells #[.int .i64 1, .int .i64 3, .int .i64 0, .int .i64 5, .slice (some ⟨gn, 2, none⟩) 1 2, .slice (some ⟨wr.heap.size + 1, 0, none⟩) 1 1] 30)).alloc (.cells (bigT a) 27)).drew
        unfold bigT at R5 X5
        go_wp2_with fail
        generalize ((wr.alloc (.cells #[.int .i64 1, .int .i64 3, .int .i64 0, .int .i64 5, .slice (some ⟨gn, 2, none⟩) 1 2, .slice (some ⟨wr.heap.size + 1, 0, none⟩) 1 1] 30)).alloc (.cells #[.int .i64 0, .int .i64 7, .int .i64 a, .int .i64 0, .int .i64 0, .int .i64 a] 27)).drew = w5 at *
        have B5 := B4.out.ext X5
        have HE : EntR w5 (bigS 3 a) (some ⟨gn, 2, none⟩) (some ⟨wr.heap.size + 1, 0, none⟩) := ⟨big_am B5 2 (by decide), R5, by simp [bigS, maxLen], by simp [bigS, maxLen]⟩
        refine ((O4.out.to X5).add (bigS 3 a) _ _ 2 1 HE (bigB_small _ _ _) (bigB_len _ _ _) (bigB_add ha.out hb.out (i := 2) (by decide)) (n := 1) (m := 1) (q := 1) rfl rfl rfl).mono ?_
        rintro r w6 ⟨A6, c6, rfl, O6⟩
        clear HE R5 X5 B5
        go_wp2_with fail
        go_roundw
        case rel => exact ⟨3, by decide, rfl, O6⟩
        case measure => simp [intOf]
    · have B4 := O4.blk
      have HX := Lib.hid (fun W (h : Ext wr W) => (show W.cell? ⟨gn, 3, none⟩ = some (.int .i64 b) from (B4.ext h).cell 3))
      have s1 := HX.out _ (Ext.refl wr)
      replace B4 := Lib.hid B4
      replace O4 := Lib.hid O4
      go_wp2_with fail
      go_region_held3 (fun w' => w'.cell? ⟨gn, 3, none⟩ = some (.int .i64 b))
        (with_reducible refine HX.out _ ?_; with_reducible repeat (first | exact Ext.refl _ | refine Ext.drew ?_ | refine Ext.alloc ?_ _))
        (fail)
      · have R5 := big_S1 wr b #[.int .i64 1, .int .i64 4, .int .i64 0, .int .i64 5, .slice (some ⟨gn, 3, none⟩) 1 1, .slice (some ⟨wr.heap.size, 0, none⟩) 1 1] 30
        have X5 : Ext wr _ := (((Ext.refl wr).alloc (.cells (bigT b) 27)).alloc (.cells #[.int .i64 1, .int .i64 4, .int .i64 0, .int .i64 5, .slice (some ⟨gn, 3, none⟩) 1 1, .slice (some ⟨wr.heap.size, 0, none⟩) 1 1] 30)).drew
        unfold bigT at R5 X5
        go_wp2_with fail
        generalize ((wr.alloc (.cells #[.int .i64 0, .int .i64 7, .int .i64 b, .int .i64 0, .int .i64 0, .int .i64 b] 27)).alloc (.cells #[.int .i64 1, .int .i64 4, .int .i64 0, .int .i64 5, .slice (some ⟨gn, 3, none⟩) 1 1, .slice (some ⟨wr.heap.size, 0, none⟩) 1 1] 30)).drew = w5 at *
        have B5 := B4.out.ext X5
        have HE : EntR w5 (bigS 4 b) (some ⟨gn, 3, none⟩) (some ⟨wr.heap.size, 0, none⟩) := ⟨big_am B5 3 (by decide), R5, by simp [bigS, maxLen], by simp [bigS, maxLen]⟩
        refine ((O4.out.to X5).add (bigS 4 b) _ _ 1 1 HE (bigB_small _ _ _) (bigB_len _ _ _) (bigB_add ha.out hb.out (i := 3) (by decide)) (n := 1) (m := 1) (q := 1) rfl rfl rfl).mono ?_
        rintro r w6 ⟨A6, c6, rfl, O6⟩
        clear HE R5 X5 B5
        go_wp2_with fail
        go_roundw
        case rel => exact ⟨4, by decide, rfl, O6⟩
        case measure => simp [intOf]
      · have R5 := big_S2 wr b #[.int .i64 1, .int .i64 4, .int .i64 0, .int .i64 5, .slice (some ⟨gn, 3, none⟩) 1 1, .slice (some ⟨wr.heap.size + 1, 0, none⟩) 1 1] 30
        have X5 : Ext wr _ := (((Ext.refl wr).alloc (.cells #[.int .i64 1, .int .i64 4, .int .i64 0, .int .i64 5, .slice (some ⟨gn, 3, none⟩) 1 1, .slice (some ⟨wr.heap.size + 1, 0, none⟩) 1 1] 30)).alloc (.cells (bigT b) 27)).drew
        unfold bigT at R5 X5
        go_wp2_with fail
        generalize ((wr.alloc (.cells #[.int .i64 1, .int .i64 4, .int .i64 0, .int .i64 5, .slice (some ⟨gn, 3, none⟩) 1 1, .slice (some ⟨wr.heap.size + 1, 0, none⟩) 1 1] 30)).alloc (.cells #[.int .i64 0, .int .i64 7, .int .i64 b, .int .i64 0, .int .i64 0, .int .i64 b] 27)).drew = w5 at *
        have B5 := B4.out.ext X5
        have HE : EntR w5 (bigS 4 b) (some ⟨gn, 3, none⟩) (some ⟨wr.heap.size + 1, 0, none⟩) := ⟨big_am B5 3 (by decide), R5, by simp [bigS, maxLen], by simp [bigS, maxLen]⟩
        refine ((O4.out.to X5).add (bigS 4 b) _ _ 1 1 HE (bigB_small _ _ _) (bigB_len _ _ _) (bigB_add ha.out hb.out (i := 3) (by decide)) (n := 1) (m := 1) (q := 1) rfl rfl rfl).mono ?_
        rintro r w6 ⟨A6, c6, rfl, O6⟩
        clear HE R5 X5 B5
        go_wp2_with fail
        go_roundw
        case rel => exact ⟨4, by decide, rfl, O6⟩
        case measure => simp [intOf]
    · go_wp2_with fail
      refine (seven30_any _).mono ?_
      rintro r w7 ⟨A7, rfl, R7, hx7⟩
      have O7 := O4.to hx7
      clear hx7 O4
      have OF := O7.one.file (bigB_small a b 4) (bigB_b3 ha.out hb.out 4) (bigB_len a b 4) [jSeven] A7 1 1 rfl R7 (by simp [maxLen]) 7 0 (big_file ha0.out hb0.out)
      go_wp2_with fail
      refine OF.mono ?_
      rintro r w8 ⟨rfl, _, hx8⟩
      have O8 := O7.to hx8
      clear OF O7 hx8 R7
      go_wp2_with fail
      have O9 := O8.to ((Ext.refl w8).alloc (.cells #[.int .i64 Rep.zero.j, .int .i64 Rep.zero.k, .int .i64 Rep.zero.p, .int .i64 Rep.zero.t, .int .i64 Rep.zero.x, .int .i64 Rep.zero.v, .int .i64 Rep.zero.s, .int .i64 Rep.zero.r] 35))
      clear O8
      generalize w8.alloc (.cells #[.int .i64 Rep.zero.j, .int .i64 Rep.zero.k, .int .i64 Rep.zero.p, .int .i64 Rep.zero.t, .int .i64 Rep.zero.x, .int .i64 Rep.zero.v, .int .i64 Rep.zero.s, .int .i64 Rep.zero.r] 35) = w9 at *
      generalize w8.heap.size = g9 at *
      go_loopw [14] (fun i wr => Rel30 w1 bb mb gn a b (bigC a b) 3 i wr) (fun i _ => 3 - (intOf i).toNat)
      case atStart => exact ⟨0, by omega, rfl, O9⟩
      clear O9
      case round =>
        obtain ⟨k, hk, rfl, O4⟩ := hrel
        rcases (by omega : k = 0 ∨ k = 1 ∨ k = 2 ∨ k = 3) with rfl | rfl | rfl | rfl
        all_goals simp only [Int.cast_ofNat_Int] at *
        clear hk
        · have B4 := O4.blk
          have HE : EntR wr (bigR 11 1 a) (some ⟨gn, 0, none⟩) none := ⟨big_am B4 0 (by decide), Reads.none_, by simp [bigR, maxLen], by simp [bigR, maxLen]⟩
          have OA := O4.add (bigR 11 1 a) _ _ 4 0 HE (bigC_small _ _ _) (bigC_len _ _ _) (bigC_add ha.out hb.out (i := 0) (by decide)) (n := 1) (m := 0) (q := 1) rfl rfl rfl
          replace OA := Lib.hid OA
          clear HE O4 B4
          go_wp2_with fail
          refine OA.out.mono ?_
          rintro r w6 ⟨A6, c6, rfl, O6⟩
          clear OA
          go_wp2_with fail
          go_roundw
          case rel => exact ⟨1, by decide, rfl, O6⟩
          case measure => simp [intOf]
        · have B4 := O4.blk
          have HE : EntR wr (bigR 12 2 b) (some ⟨gn, 1, none⟩) none := ⟨big_am B4 1 (by decide), Reads.none_, by simp [bigR, maxLen], by simp [bigR, maxLen]⟩
          have OA := O4.add (bigR 12 2 b) _ _ 3 0 HE (bigC_small _ _ _) (bigC_len _ _ _) (bigC_add ha.out hb.out (i := 1) (by decide)) (n := 1) (m := 0) (q := 1) rfl rfl rfl
          replace OA := Lib.hid OA
          clear HE O4 B4
          go_wp2_with fail
          refine OA.out.mono ?_
          rintro r w6 ⟨A6, c6, rfl, O6⟩
          clear OA
          go_wp2_with fail
          go_roundw
          case rel => exact ⟨2, by decide, rfl, O6⟩
          case measure => simp [intOf]
        · have B4 := O4.blk
          have HE : EntR wr (bigR 13 3 a) (some ⟨gn, 2, none⟩) none := ⟨big_am B4 2 (by decide), Reads.none_, by simp [bigR, maxLen], by simp [bigR, maxLen]⟩
          have OA := O4.add (bigR 13 3 a) _ _ 2 0 HE (bigC_small _ _ _) (bigC_len _ _ _) (bigC_add ha.out hb.out (i := 2) (by decide)) (n := 1) (m := 0) (q := 1) rfl rfl rfl
          replace OA := Lib.hid OA
          clear HE O4 B4
          go_wp2_with fail
          refine OA.out.mono ?_
          rintro r w6 ⟨A6, c6, rfl, O6⟩
          clear OA
          go_wp2_with fail
          go_roundw
          case rel => exact ⟨3, by decide, rfl, O6⟩
          case measure => simp [intOf]
        · go_wp2_with fail
          refine (seven30_any _).mono ?_
          rintro r w7 ⟨A7, rfl, R7, hx7⟩
          have O7 := O4.to hx7
          clear hx7 O4
          have OF : Calls Tryd.prog 7 #[.pointer (some ⟨bb, 0, none⟩), .slice A7 1 1, .int .i64 7, .int .i64 0] w7 fun r W' => r = .returned (.tuple #[(.agg #[.int .i64 7, .int .i64 1, .int .i64 0, .int .i64 b, .int .i64 0, .int .i64 b, .int .i64 4, .int .i64 3]), .int .i64 0]) ∧ One w1 W' bb mb (bigC a b 3) ∧ Ext w7 W' :=
            O7.one.file (bigC_small a b 3) (bigC_b3 ha.out hb.out 3) (bigC_len a b 3) [jSeven] A7 1 1 rfl R7 (by simp [maxLen]) 7 0 (big_file' hb.out)
          replace OF := Lib.hid OF
          go_wp2_with fail
          refine OF.out.mono ?_
          rintro r w8 ⟨rfl, _, hx8⟩
          have O8 := O7.to hx8
          clear OF O7 hx8 R7
          have heq : ∀ W, (binOp .eql 35 (.agg #[.int .i64 7, .int .i64 1, .int .i64 0, .int .i64 b, .int .i64 0, .int .i64 b, .int .i64 4, .int .i64 3]) (.agg #[.int .i64 7, .int .i64 1, .int .i64 0, .int .i64 b, .int .i64 0, .int .i64 b, .int .i64 4, .int .i64 3])).run Tryd.prog W = .ok (.bool true) W := eql_rep (bigRep b) (bigRep b) true (by simp)
          have X9 := O8.one.x.alloc (.cells #[.int .i64 7, .int .i64 1, .int .i64 0, .int .i64 b, .int .i64 0, .int .i64 b, .int .i64 4, .int .i64 3] 35)
          replace X9 := Lib.hid X9
          clear O8
          have B9 := Blk.new w8 35 #[.int .i64 7, .int .i64 1, .int .i64 0, .int .i64 b, .int .i64 0, .int .i64 b, .int .i64 4, .int .i64 3]
          obtain ⟨q, q'⟩ := B9.cells
          go_wp2_with fail
          go_ret
          exact ⟨rfl, X1.trans X9.out⟩
set_option maxRecDepth 100000 in
set_option maxHeartbeats 1000000 in
theorem remitBig_any (a b : Int) (w : World) (ht : Tab10 w) :
    Calls Tryd.prog 3 #[.int .i64 a, .int .i64 b] w fun e w' => e = .returned (.bool true) ∧ Ext w w' := by
  by_cases h1 : a ≤ 2305843009213693952
  · have d1 : decide (a ≤ 2305843009213693952) = true := by simpa using h1
    go_enter Tryd.func3, Tryd.ntmps3
    go_wp2_with fail
    refine (awake30_any _ ht).mono ?_
    rintro e w1 ⟨rfl, X1⟩
    go_wp2_with fail
    go_ret
    exact ⟨rfl, X1⟩
  have d1 : decide (a ≤ 2305843009213693952) = false := by simpa using h1
  by_cases h2 : 4611686018427387904 < a
  · have d2 : decide (4611686018427387904 < a) = true := by simpa using h2
    go_enter Tryd.func3, Tryd.ntmps3
    go_wp2_with fail
    refine (awake30_any _ ht).mono ?_
    rintro e w1 ⟨rfl, X1⟩
    go_wp2_with fail
    go_ret
    exact ⟨rfl, X1⟩
  have d2 : decide (4611686018427387904 < a) = false := by simpa using h2
  by_cases h3 : b ≤ 2305843009213693952
  · have d3 : decide (b ≤ 2305843009213693952) = true := by simpa using h3
    go_enter Tryd.func3, Tryd.ntmps3
    go_wp2_with fail
    refine (awake30_any _ ht).mono ?_
    rintro e w1 ⟨rfl, X1⟩
    go_wp2_with fail
    go_ret
    exact ⟨rfl, X1⟩
  have d3 : decide (b ≤ 2305843009213693952) = false := by simpa using h3
  by_cases h4 : 4611686018427387904 < b
  · have d4 : decide (4611686018427387904 < b) = true := by simpa using h4
    go_enter Tryd.func3, Tryd.ntmps3
    go_wp2_with fail
    refine (awake30_any _ ht).mono ?_
    rintro e w1 ⟨rfl, X1⟩
    go_wp2_with fail
    go_ret
    exact ⟨rfl, X1⟩
  exact remitBig_in a b (by omega) ⟨by omega, by omega⟩ (by omega) ⟨by omega, by omega⟩ w ht
end Go.Proofs.YtokakpbpenndlaaDoor
