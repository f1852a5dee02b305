/-
  The set of which jurisdiction was in which line: order.met; (order.met).twice.
-/
import Derived.Test.YtokakpbpenndlaaGreatDoorRs07
import Derived.Maps.OwnSet
import Derived.DeepKeys4
set_option linter.unusedVariables false
namespace Go.Proofs.YtokakpbpenndlaaGreatDoor
open Go.RowKit Go.Maps

theorem laidK : laidOutB Tryz.prog = true := by kernel_rfl
theorem law2 : Keyed Tryz.prog 283 := Keyed.of_law (deep_law_laid laidK (m := 2) (by decide) (of_decide_eq_true (by kernel_rfl)) (by kernel_rfl) (by rw [Tryz.underlying283]))
/-- What a key reads as. -/
def kl2 (p : Int × Int) : Lit := .string (keyBytes [.int .i64 p.1, .int .i64 p.2])
theorem kl_t : Tryz.prog.types.size + 1 = Tryz.prog.types.size - 1 + 1 + 1 := by
  have : 1 ≤ Tryz.prog.types.size := of_decide_eq_true (by kernel_rfl)
  omega
theorem i64_wf {n : Int} (h : i64 n) : (Lit.int .i64 n).wf = true := by
  unfold i64 at h
  simp [Lit.wf, IntKind.min, IntKind.max, IntKind.signed, IntKind.bits]
  exact h
theorem key2 (l j : Int) (hl : i64 l) (hj : i64 j) : keyOf Tryz.prog 283 (.agg #[.int .i64 l, .int .i64 j]) = some (kl2 (l, j)) := by
  have h1 : Tryz.prog.keyType 283 = true := by kernel_rfl
  have h2 : Tryz.prog.cellsOf 283 = 2 := by kernel_rfl
  have h3 : Tryz.prog.cellsOf 3 = 1 := by kernel_rfl
  have e1 : ∀ d n, i64 n → Tryz.prog.keyLits (d + 1) 3 [.int .i64 n] = some [.int .i64 n] := by
    intro d n hn
    unfold Program.keyLits
    simp [Tryz.underlying3, i64_wf hn]
  unfold keyOf
  rw [Tryz.underlying283]
  simp only [h1, Value.formed, Tryz.underlying283, h2]
  rw [kl_t]
  unfold Program.keyLits
  simp only [Tryz.underlying283, Value.cells, h2, h3]
  simp [List.range, List.range.loop, e1 _ l hl, e1 _ j hj, kl2]
theorem kl2_inj {p q : Int × Int} (hp : i64 p.1 ∧ i64 p.2) (hq : i64 q.1 ∧ i64 q.2) (h : kl2 p = kl2 q) : p = q := by
  have h1 := key2 p.1 p.2 hp.1 hp.2
  have h2 := key2 q.1 q.2 hq.1 hq.2
  have e1 : (p.1, p.2) = p := rfl
  have e2 : (q.1, q.2) = q := rfl
  rw [e1] at h1
  rw [e2, ← h] at h2
  have := law2.inj h1 h2
  obtain ⟨a, b⟩ := p
  obtain ⟨c, d⟩ := q
  simp at this
  simp [this]
theorem kl2_key (p : Int × Int) : WideAt.IsKeyLit (kl2 p) := by trivial
theorem kl2_same {p q : Int × Int} (hp : i64 p.1 ∧ i64 p.2) (hq : i64 q.1 ∧ i64 q.2) : (kl2 p).sameKey (kl2 q) = decide (p = q) := by
  by_cases h : p = q
  · subst h; simp [kl2, Lit.sameKey]
  · rw [sameKey_ne (fun e => h (kl2_inj hp hq e))]
    simp [h]
/-- Block B is the set of these keys. -/
def MetIs (w : World) (B n : Nat) (ks : List (Int × Int)) : Prop := w.ownsMap Tryz.prog 283 (unitElem (H := Unit)) B n (setOf (.agg []) (ks.map kl2)) ∧ ∀ p ∈ ks, i64 p.1 ∧ i64 p.2
theorem MetIs.has {w : World} {B n : Nat} {ks : List (Int × Int)} (h : MetIs w B n ks) {p : Int × Int} (hp : i64 p.1 ∧ i64 p.2) : Maps.has (setOf (H := Unit) (.agg []) (ks.map kl2)) (kl2 p) = decide (p ∈ ks) := by
  rw [has_setOf _ _ _ (by intro x hx; obtain ⟨q, _, rfl⟩ := List.mem_map.1 hx; exact kl2_key q)]
  rw [Bool.eq_iff_iff]
  simp only [List.any_map, List.any_eq_true, Function.comp_apply, decide_eq_true_eq]
  constructor
  · rintro ⟨q, hq, he⟩
    rw [kl2_same (h.2 q hq) hp] at he
    have : q = p := by simpa using he
    rw [← this]; exact hq
  · intro hm
    exact ⟨p, hm, by rw [kl2_same hp hp]; simp⟩
theorem MetIs.snoc {w : World} {B n : Nat} {ks : List (Int × Int)} {p : Int × Int} (hp : i64 p.1 ∧ i64 p.2) (hk : ∀ q ∈ ks, i64 q.1 ∧ i64 q.2) (h : w.ownsMap Tryz.prog 283 (unitElem (H := Unit)) B n ((setOf (.agg []) (ks.map kl2)).put (kl2 p) (.agg []))) : MetIs w B n (ks ++ [p]) := by
  refine ⟨?_, ?_⟩
  · rw [List.map_append, List.map_cons, List.map_nil, setOf_snoc]; exact h
  · intro q hq
    rcases List.mem_append.1 hq with hq | hq
    · exact hk q hq
    · rw [List.mem_singleton.1 hq]; exact hp
theorem MetIs.made (w : World) : MetIs (w.alloc (.map #[] 0)) w.heap.size 0 [] := ⟨World.ownsMap_made _ _ _ _, by simp⟩
theorem MetIs.grown {w w' : World} {B n : Nat} {ks : List (Int × Int)} {row : Option Nat} (h : MetIs w B n ks) (hg : w.grownBy w' row) (hne : some B ≠ row) : MetIs w' B n ks := ⟨h.1.kept hg hne, h.2⟩
theorem MetIs.lt {w : World} {B n : Nat} {ks : List (Int × Int)} (h : MetIs w B n ks) : B < w.heap.size := by
  obtain ⟨es, clock, hb, _⟩ := h.1
  exact (Array.getElem?_eq_some_iff.1 hb).1
theorem MetIs.ext {w w' : World} {B n : Nat} {ks : List (Int × Int)} (h : MetIs w B n ks) (hx : Ext w w') : MetIs w' B n ks := by
  obtain ⟨es, clock, hb, r⟩ := h.1
  exact ⟨⟨es, clock, by rw [hx.block B h.lt]; exact hb, r⟩, h.2⟩
theorem MetIs.mono {w : World} {B n m : Nat} {ks : List (Int × Int)} (h : MetIs w B n ks) (hn : n ≤ m) : MetIs w B m ks := by
  obtain ⟨es, clock, hb, r, hs, e⟩ := h.1
  exact ⟨⟨es, clock, hb, r, by omega, e⟩, h.2⟩
theorem zeroU (w : World) : (zeroValue 147).run Tryz.prog w = .ok (.agg #[]) w := by kernel_rfl

set_option maxRecDepth 100000 in
set_option maxHeartbeats 1000000 in
theorem twice_any (B n : Nat) (ks : List (Int × Int)) (l j : Int) (hl : i64 l) (hj : i64 j) (w : World) (hn : n < maxLen) (h : MetIs w B n ks) :
    Calls Tryz.prog 233 #[.map (some B), .int .i64 l, .int .i64 j] w fun e w' => e = .returned (.bool (decide ((l, j) ∈ ks))) ∧ MetIs w' B (n + 1) (ks ++ [(l, j)]) ∧ w.grownBy w' (some B) := by
  have hkey := key2 l j hl hj
  have hh := h.has (p := (l, j)) ⟨hl, hj⟩
  have H1 := Lib.hid (h.1)
  have H2 := Lib.hid h.2
  replace hkey := Lib.hid hkey
  replace hh := Lib.hid hh
  clear h
  go_enter Tryz.func233, Tryz.ntmps233
  go_wp2_with (first
    | (at_lookup; refine wpList_lookup_own_unit _ rfl _ _ 281 rfl 283 147 law2 Tryz.underlying281 (zeroU _) B n _ rfl (H1.out.alloc _) _ _ rfl hkey.out ?_)
    | (at_mapUpdate; refine wpList_mapUpdate_own _ rfl _ _ _ 281 rfl 283 147 law2 Tryz.underlying281 _ B n _ rfl ((H1.out.alloc _).alloc _) hn _ _ _ rfl rfl hkey.out (.agg []) [] unitElem_mk ?_; intro w1 hown1 hgrow1))
  go_ret
  refine ⟨ret_bool hh.out, MetIs.snoc ⟨hl, hj⟩ H2.out hown1, ?_⟩
  exact only_trans (only_alloc (only_alloc (World.grownBy.refl _ _) _) _) hgrow1
end Go.Proofs.YtokakpbpenndlaaGreatDoor

set_option linter.unusedVariables false
namespace Go.Proofs.YtokakpbpenndlaaGreatDoor
open Go.RowKit Go.Maps

/-- Where the loop stands. -/
def CkRel (w : World) (l : List Tx) (i : Value) (wr : World) : Prop :=
  ∃ k : Nat, k ≤ l.length ∧ i = .int .i64 (k : Int) ∧ Ext w wr ∧ MetIs wr w.heap.size k ((l.take k).map Tx.key) ∧ ckTx [] l = ckTx (l.take k) (l.drop k)
theorem CkRel.next {w w1 : World} {l : List Tx} {k m : Nat} (hk : k < l.length) (hx : Ext w w1) (hm : MetIs w1 w.heap.size (k + 1) ((l.take k).map Tx.key ++ [(l[k].l, l[k].j)])) (hc : ckTx [] l = ckTx (l.take k) (l.drop k)) (hb : Tx.bad (l.take k) l[k] = 0) (e : m = k + 1) : CkRel w l (.int .i64 (m : Int)) w1 := by
  subst e
  refine ⟨k + 1, by omega, rfl, hx, ?_, by rw [hc, ckTx_step hk hb]⟩
  rw [List.take_succ_eq_append_getElem hk, List.map_append]
  exact hm

set_option maxRecDepth 100000 in
set_option maxHeartbeats 4000000 in
theorem checkTax_any (l : List Tx) (A : Option Addr) (cap : Nat) (w : World) (hr : Reads w w.heap.size 6 A l.length (txCells l)) (hm : l.length ≤ maxLen) :
    Calls Tryz.prog 231 #[.slice A l.length cap] w fun e w' => e = .returned (.tuple #[.int .i64 (checkTax l).1, .int .i64 ((checkTax l).2 : Int)]) ∧ Ext w w' := by
  unfold maxLen at hm
  by_cases h0 : 6400 < l.length
  · have hd : decide ((6400 : Int) < (l.length : Int)) = true := by simp; omega
    have HE := Lib.hid (show checkTax l = (3, 0) by unfold checkTax; rw [if_pos h0])
    go_enter Tryz.func231, Tryz.ntmps231
    go_wp2_with fail
    go_ret2
    exact ⟨by rw [HE.out]; rfl, Ext.refl _⟩
  have hd0 : decide ((6400 : Int) < (l.length : Int)) = false := by simp; omega
  have HE := Lib.hid (show checkTax l = ckTx [] l by unfold checkTax; rw [if_neg h0])
  have hmm := @run_makeMap Tryz.prog
  go_enter Tryz.func231, Tryz.ntmps231
  go_wp2_with fail
  clear hmm hd0
  go_loopw [13] (fun i wr => CkRel w l i wr) (fun i _ => l.length - (intOf i).toNat)
  case atStart => exact ⟨0, by omega, rfl, (Ext.refl w).alloc _, by simpa using MetIs.made w, by simp⟩
  case round =>
    obtain ⟨k, hk, rfl, hx, hM, hc⟩ := hrel
    by_cases hlt : k < l.length
    · have hd : decide ((k : Int) < (l.length : Int)) = true := by simp; omega
      obtain ⟨g, off, rfl, hg, hcl⟩ := (hr.extB (Nat.le_refl _) hx).cellAt hlt
      obtain ⟨e1, e2, e3, e4, e5, e6⟩ := txCells_at l k hlt
      have c1 := hcl _ _ e1
      have c2 : wr.cell? ⟨g, off + k * 6 + 1, none⟩ = _ := hcl _ _ e2
      have c3 : wr.cell? ⟨g, off + k * 6 + 2, none⟩ = _ := hcl _ _ e3
      have c4 : wr.cell? ⟨g, off + k * 6 + 3, none⟩ = _ := hcl _ _ e4
      have c5 : wr.cell? ⟨g, off + k * 6 + 4, none⟩ = _ := hcl _ _ e5
      have c6 : wr.cell? ⟨g, off + k * 6 + 5, none⟩ = _ := hcl _ _ e6
      have hgl : g < wr.heap.size := Nat.lt_of_lt_of_le hg hx.size
      have HC := Lib.hid hc
      obtain ⟨KS, hKS⟩ : ∃ KS, KS = (l.take k).map Tx.key := ⟨_, rfl⟩
      rw [← hKS] at hM
      replace hKS := Lib.hid hKS
      have HM := Lib.hid hM
      have HL := Lib.hid (fun W (h : Ext wr W) => fun j u (hu : (txCells l)[j]? = some u) => (h.cell g (off + j) none hgl).trans (hcl j u hu))
      clear e1 e2 e3 e4 e5 e6 hcl hr hc hM
      have hbad := Lib.hid (rfl : Tx.bad (l.take k) l[k] = Tx.bad (l.take k) l[k])
      generalize hxe : l[k] = x at *
      replace hxe := Lib.hid hxe
      have HB := (Blk.new wr 117 #[.int .i64 x.l, .int .i64 x.j, .int .i64 x.t, .int .i64 x.x, .int .i64 x.r, .int .i64 x.v])
      replace HB := Lib.hid HB
      go_wp2_with fail
      refine (one_any x.l x.j x.t x.x x.r x.v _).mono ?_
      rintro e v1 ⟨rfl, hx1⟩
      have B1 := HB.out.ext hx1
      clear HB
      have X1 := ((Ext.refl wr).alloc (.cells #[.int .i64 x.l, .int .i64 x.j, .int .i64 x.t, .int .i64 x.x, .int .i64 x.r, .int .i64 x.v] 117)).trans hx1
      clear hx1 c1 c2 c3 c4 c5 c6
      generalize wr.heap.size = g6 at B1 ⊢
      obtain ⟨q6, q6'⟩ := B1.cells
      cases hok : x.ok
      · have HH := Lib.hid (HE.out.trans (HC.out.trans (ckTx_hit (e := 5) hlt (by rw [hxe.out]; exact bad_5 hok) (by decide))))
        have hok' : Tax1 x.l x.j x.t x.x x.r x.v = false := hok
        rw [hok']
        clear hok hok'
        go_wp2_with fail
        go_ret2
        exact ⟨by rw [HH.out]; rfl, hx.trans X1⟩
      · have hok' : Tax1 x.l x.j x.t x.x x.r x.v = true := hok
        rw [hok']
        have HO := Lib.hid hok
        clear hok hok'
        rcases Nat.eq_zero_or_pos k with hk0 | hk0
        case' inl =>
          have hz : decide ((0 : Int) < (k : Int)) = false := by simp; omega
          have hz' : decide (0 < k) = false := by simp; omega
          have HW := Lib.hid (show Tx.below (l.take k) x = false by rw [hk0]; exact below_0 x)
          clear hk0
          go_wp2_with fail
          go_quiet (fail)
        case' inr =>
          obtain ⟨m, rfl⟩ : ∃ m, k = m + 1 := ⟨k - 1, by omega⟩
          have hml : m < l.length := by omega
          have hz : decide ((0 : Int) < (m : Int) + 1) = true := by rw [decide_eq_true_eq]; omega
          have hz' : decide (0 < m + 1) = true := by rw [decide_eq_true_eq]; omega
          have e1 := (txCells_at l m hml).1
          have c1 := HL.out _ X1 _ _ e1
          have HW := below_at (l := l) (m := m) hlt
          rw [hxe.out] at HW
          clear e1
          generalize hye : l[m] = y at *
          replace hye := Lib.hid hye
          by_cases hb : x.l < y.l
          case' pos =>
            have hb' : decide (x.l < y.l) = true := by simpa using hb
            rw [hb'] at HW
            have HH := Lib.hid (HE.out.trans (HC.out.trans (ckTx_hit (e := 2) hlt (by rw [hxe.out]; exact bad_2 HO.out HW) (by decide))))
            clear hb HW
            go_wp2_with fail
            go_quiet (fail)
            go_wp2_with fail
            go_ret2
            exact ⟨by rw [HH.out]; rfl, (hx.trans X1).drewN _⟩
          case' neg =>
            have hb' : decide (x.l < y.l) = false := by simpa using hb
            rw [hb'] at HW
            replace HW := Lib.hid HW
            clear hb
            go_wp2_with fail
            go_quiet (fail)
        all_goals
          obtain ⟨il, ij, _⟩ := Tx.i64s HO.out
          go_wp2_with fail
          refine (twice_any _ _ KS x.l x.j il ij _ (by unfold maxLen; omega) ((HM.out.ext X1).ext ((Ext.refl v1).drewN _))).mono ?_
          rintro e v2 ⟨rfl, hM2, hG⟩
          have X2 : Ext w v2 := (hx.trans (X1.drewN _)).grown hG (by intro q hq; have := Option.some.inj hq; omega)
          have HIN := Lib.hid (rfl : decide ((x.l, x.j) ∈ KS) = decide ((x.l, x.j) ∈ KS))
          cases hin : decide ((x.l, x.j) ∈ KS)
          · replace hin := Lib.hid hin
            go_wp2_with fail
            go_roundw
            case rel => exact CkRel.next hlt X2 (by rw [hxe.out, ← hKS.out]; exact hM2) HC.out (by rw [hxe.out]; exact bad_no HO.out HW.out (by rw [← hKS.out]; simpa [Tx.key] using hin.out)) rfl
            case measure => simp [intOf]; omega
          · have HH := Lib.hid (HE.out.trans (HC.out.trans (ckTx_hit (e := 7) hlt (by rw [hxe.out]; exact bad_7 HO.out HW.out (by rw [← hKS.out]; simpa [Tx.key] using hin)) (by decide))))
            replace hin := Lib.hid hin
            go_wp2_with fail
            go_ret2
            exact ⟨by rw [HH.out]; rfl, X2⟩
    · have hd : decide ((k : Int) < (l.length : Int)) = false := by simp; omega
      have HH := Lib.hid (HE.out.trans (hc.trans (ckTx_end (by omega))))
      go_wp2_with fail
      go_ret2
      exact ⟨by rw [HH.out]; rfl, hx⟩
end Go.Proofs.YtokakpbpenndlaaGreatDoor
