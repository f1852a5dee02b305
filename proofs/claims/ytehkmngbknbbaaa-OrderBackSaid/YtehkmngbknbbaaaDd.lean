/-
  The set of which jurisdiction was in which line: order.met; (order.met).twice.
-/
import Derived.Test.YtehkmngbknbbaaaDc
import Derived.Maps.OwnSet
import Derived.DeepKeys4
set_option linter.unusedVariables false
namespace Go.Proofs.Ytehkmngbknbbaaa
open Go.RowKit Go.Maps

theorem laidK : laidOutB Try.prog = true := by kernel_rfl
theorem law2 : Keyed Try.prog 161 := Keyed.of_law (deep_law_laid laidK (m := 2) (by decide) (of_decide_eq_true (by kernel_rfl)) (by kernel_rfl) (by rw [Try.underlying161]))
/-- What a key reads as. -/
def kl2 (p : Int × Int) : Lit := .string (keyBytes [.int .i64 p.1, .int .i64 p.2])
theorem kl_t : Try.prog.types.size + 1 = Try.prog.types.size - 1 + 1 + 1 := by
  have : 1 ≤ Try.prog.types.size := of_decide_eq_true (by kernel_rfl)
  omega
theorem i64_wf {n : Int} (h : i64 n) : (Lit.int .i64 n).wf = true := by
  unfold i64 at h
  simp [Lit.wf, IntKind.min, IntKind.max, IntKind.signed, IntKind.bits]
  exact h
theorem key2 (l j : Int) (hl : i64 l) (hj : i64 j) : keyOf Try.prog 161 (.agg #[.int .i64 l, .int .i64 j]) = some (kl2 (l, j)) := by
  have h1 : Try.prog.keyType 161 = true := by kernel_rfl
  have h2 : Try.prog.cellsOf 161 = 2 := by kernel_rfl
  have h3 : Try.prog.cellsOf 3 = 1 := by kernel_rfl
  have e1 : ∀ d n, i64 n → Try.prog.keyLits (d + 1) 3 [.int .i64 n] = some [.int .i64 n] := by
    intro d n hn
    unfold Program.keyLits
    simp [Try.underlying3, i64_wf hn]
  unfold keyOf
  rw [Try.underlying161]
  simp only [h1, Value.formed, Try.underlying161, h2]
  rw [kl_t]
  unfold Program.keyLits
  simp only [Try.underlying161, Value.cells, h2, h3]
  simp [List.range, List.range.loop, e1 _ l hl, e1 _ j hj, kl2]
theorem kl2_inj {p q : Int × Int} (hp : i64 p.1 ∧ i64 p.2) (hq : i64 q.1 ∧ i64 q.2) (h : kl2 p = kl2 q) : p = q := by
  have h1 := key2 p.1 p.2 hp.1 hp.2
  have h2 := key2 q.1 q.2 hq.1 hq.2
  have e1 : (p.1, p.2) = p := rfl
  have e2 : (q.1, q.2) = q := rfl
  rw [e1] at h1
  rw [e2, ← h] at h2
  have := law2.inj h1 h2
  obtain ⟨a, b⟩ := p
  obtain ⟨c, d⟩ := q
  simp at this
  simp [this]
theorem kl2_key (p : Int × Int) : WideAt.IsKeyLit (kl2 p) := by trivial
theorem kl2_same {p q : Int × Int} (hp : i64 p.1 ∧ i64 p.2) (hq : i64 q.1 ∧ i64 q.2) : (kl2 p).sameKey (kl2 q) = decide (p = q) := by
  by_cases h : p = q
  · subst h; simp [kl2, Lit.sameKey]
  · rw [sameKey_ne (fun e => h (kl2_inj hp hq e))]
    simp [h]
/-- Block B is the set of these keys. -/
def MetIs (w : World) (B n : Nat) (ks : List (Int × Int)) : Prop := w.ownsMap Try.prog 161 (unitElem (H := Unit)) B n (setOf (.agg []) (ks.map kl2)) ∧ ∀ p ∈ ks, i64 p.1 ∧ i64 p.2
theorem MetIs.has {w : World} {B n : Nat} {ks : List (Int × Int)} (h : MetIs w B n ks) {p : Int × Int} (hp : i64 p.1 ∧ i64 p.2) : Maps.has (setOf (H := Unit) (.agg []) (ks.map kl2)) (kl2 p) = decide (p ∈ ks) := by
  rw [has_setOf _ _ _ (by intro x hx; obtain ⟨q, _, rfl⟩ := List.mem_map.1 hx; exact kl2_key q)]
  rw [Bool.eq_iff_iff]
  simp only [List.any_map, List.any_eq_true, Function.comp_apply, decide_eq_true_eq]
  constructor
  · rintro ⟨q, hq, he⟩
    rw [kl2_same (h.2 q hq) hp] at he
    have : q = p := by simpa using he
    rw [← this]; exact hq
  · intro hm
    exact ⟨p, hm, by rw [kl2_same hp hp]; simp⟩
theorem MetIs.snoc {w : World} {B n : Nat} {ks : List (Int × Int)} {p : Int × Int} (hp : i64 p.1 ∧ i64 p.2) (hk : ∀ q ∈ ks, i64 q.1 ∧ i64 q.2) (h : w.ownsMap Try.prog 161 (unitElem (H := Unit)) B n ((setOf (.agg []) (ks.map kl2)).put (kl2 p) (.agg []))) : MetIs w B n (ks ++ [p]) := by
  refine ⟨?_, ?_⟩
  · rw [List.map_append, List.map_cons, List.map_nil, setOf_snoc]; exact h
  · intro q hq
    rcases List.mem_append.1 hq with hq | hq
    · exact hk q hq
    · rw [List.mem_singleton.1 hq]; exact hp
theorem MetIs.made (w : World) : MetIs (w.alloc (.map #[] 0)) w.heap.size 0 [] := ⟨World.ownsMap_made _ _ _ _, by simp⟩
theorem MetIs.grown {w w' : World} {B n : Nat} {ks : List (Int × Int)} {row : Option Nat} (h : MetIs w B n ks) (hg : w.grownBy w' row) (hne : some B ≠ row) : MetIs w' B n ks := ⟨h.1.kept hg hne, h.2⟩
theorem MetIs.lt {w : World} {B n : Nat} {ks : List (Int × Int)} (h : MetIs w B n ks) : B < w.heap.size := by
  obtain ⟨es, clock, hb, _⟩ := h.1
  exact (Array.getElem?_eq_some_iff.1 hb).1
theorem MetIs.ext {w w' : World} {B n : Nat} {ks : List (Int × Int)} (h : MetIs w B n ks) (hx : Ext w w') : MetIs w' B n ks := by
  obtain ⟨es, clock, hb, r⟩ := h.1
  exact ⟨⟨es, clock, by rw [hx.block B h.lt]; exact hb, r⟩, h.2⟩
theorem MetIs.mono {w : World} {B n m : Nat} {ks : List (Int × Int)} (h : MetIs w B n ks) (hn : n ≤ m) : MetIs w B m ks := by
  obtain ⟨es, clock, hb, r, hs, e⟩ := h.1
  exact ⟨⟨es, clock, hb, r, by omega, e⟩, h.2⟩
theorem zeroU (w : World) : (zeroValue 162).run Try.prog w = .ok (.agg #[]) w := by kernel_rfl

set_option maxRecDepth 100000 in
set_option maxHeartbeats 1000000 in
theorem twice_any (B n : Nat) (ks : List (Int × Int)) (l j : Int) (hl : i64 l) (hj : i64 j) (w : World) (hn : n < maxLen) (h : MetIs w B n ks) :
    Calls Try.prog 83 #[.map (some B), .int .i64 l, .int .i64 j] w fun e w' => e = .returned (.bool (decide ((l, j) ∈ ks))) ∧ MetIs w' B (n + 1) (ks ++ [(l, j)]) ∧ w.grownBy w' (some B) := by
  have hkey := key2 l j hl hj
  have hh := h.has (p := (l, j)) ⟨hl, hj⟩
  have H1 := Lib.hid (h.1)
  have H2 := Lib.hid h.2
  replace hkey := Lib.hid hkey
  replace hh := Lib.hid hh
  clear h
  go_enter Try.func83, Try.ntmps83
  go_wp2_with (first
    | (at_lookup; refine wpList_lookup_own_unit _ rfl _ _ 126 rfl 161 162 law2 Try.underlying126 (zeroU _) B n _ rfl (H1.out.alloc _) _ _ rfl hkey.out ?_)
    | (at_mapUpdate; refine wpList_mapUpdate_own _ rfl _ _ _ 126 rfl 161 162 law2 Try.underlying126 _ B n _ rfl ((H1.out.alloc _).alloc _) hn _ _ _ rfl rfl hkey.out (.agg []) [] unitElem_mk ?_; intro w1 hown1 hgrow1))
  go_ret
  refine ⟨ret_bool hh.out, MetIs.snoc ⟨hl, hj⟩ H2.out hown1, ?_⟩
  exact only_trans (only_alloc (only_alloc (World.grownBy.refl _ _) _) _) hgrow1
end Go.Proofs.Ytehkmngbknbbaaa
