/-
  Plain: a table finds an address where the document does; two parts with a number in common.
-/
import Derived.Test.YtjaponmpfdpemaaGreatDoorKb31
import Derived.Test.YtjaponmpfdpemaaGreatDoorKb19
import Derived.Test.YtjaponmpfdpemaaGreatDoorKb30
set_option linter.unusedVariables false
namespace Go.Proofs.YtjaponmpfdpemaaGreatDoor

theorem Sr.meet_iff {s t : Sr} (hs : s.Num) (ht : t.Num) : s.meet t = true ↔ ∃ n, s.hasR n = true ∧ t.hasR n = true := by
  unfold Sr.meet Sr.over
  simp only [Bool.or_eq_true, Bool.and_eq_true, decide_eq_true_eq]
  have go : ∀ p : Int, p = 0 ∨ p = 1 → s.isQ p = true → t.isQ p = true → s.low p ≤ t.high p → t.low p ≤ s.high p → ∃ n, s.hasR n = true ∧ t.hasR n = true := fun p hp q1 q2 o1 o2 => by
    have l1 := Sr.isQ_low q1
    have l2 := Sr.isQ_low q2
    have e1 := (s.low_eq hs p hp).2.2
    have e2 := (t.low_eq ht p hp).2.2
    rcases Int.le_total (s.low p) (t.low p) with h | h
    · refine ⟨t.low p, ?_, ?_⟩
      · rw [s.has_iff hs, e2]; exact ⟨q1, h, o2⟩
      · rw [t.has_iff ht, e2]; exact ⟨q2, Int.le_refl _, l2⟩
    · refine ⟨s.low p, ?_, ?_⟩
      · rw [s.has_iff hs, e1]; exact ⟨q1, Int.le_refl _, l1⟩
      · rw [t.has_iff ht, e1]; exact ⟨q2, h, o1⟩
  constructor
  · rintro (⟨⟨q1, q2⟩, o1, o2⟩ | ⟨⟨q1, q2⟩, o1, o2⟩)
    · exact go 0 (.inl rfl) q1 q2 o1 o2
    · exact go 1 (.inr rfl) q1 q2 o1 o2
  · rintro ⟨n, h1, h2⟩
    rw [s.has_iff hs] at h1
    rw [t.has_iff ht] at h2
    obtain ⟨q1, a1, b1⟩ := h1
    obtain ⟨q2, a2, b2⟩ := h2
    rcases (show n % 2 = 0 ∨ n % 2 = 1 by omega) with e | e <;> rw [e] at q1 a1 b1 q2 a2 b2
    · exact .inl ⟨⟨q1, q2⟩, by omega, by omega⟩
    · exact .inr ⟨⟨q1, q2⟩, by omega, by omega⟩
def maxI (a b : Int) : Int := if a ≤ b then b else a
def minI (a b : Int) : Int := if a ≤ b then a else b
/-- A part of a number and a key: at most one of those that do not clash. -/
theorem Free_.one {l : List Sr} (hF : Free_ l) (hN : ∀ s ∈ l, s.Num) {s t : Sr} (hs : s ∈ l) (ht : t ∈ l) {n : Int} (hk : s.key = t.key) (h1 : s.hasR n = true) (h2 : t.hasR n = true) : s = t := by
  obtain ⟨i, hi, rfl⟩ := List.mem_iff_getElem.1 hs
  obtain ⟨j, hj, rfl⟩ := List.mem_iff_getElem.1 ht
  have hp := List.pairwise_iff_getElem.1 hF
  have hm := (Sr.meet_iff (hN _ hs) (hN _ ht)).2 ⟨n, h1, h2⟩
  rcases Nat.lt_trichotomy i j with h | h | h
  · exact absurd ⟨hk, hm⟩ (hp i j hi hj h)
  · subst h; rfl
  · exact absurd (Sr.clash_comm ⟨hk, hm⟩) (hp j i hj hi h)
theorem findR_some {l : List Sr} (hF : Free_ l) (hN : ∀ s ∈ l, s.Num) {a : Ad} (hc : checkP a = 0) {s : Sr} (hs : s ∈ l) (hk : s.key = a.key) (hh : s.hasR a.n = true) : findR l a = ((s.at_ a.n).1, 0) := by
  unfold findR
  rw [if_neg (by simp [hc])]
  cases hf : l.find? (fun s => decide (s.key = a.key) && s.hasR a.n) with
  | none =>
    rw [List.find?_eq_none] at hf
    exact absurd (by simp [hk, hh]) (hf s hs)
  | some t =>
    have ht := List.mem_of_find?_eq_some hf
    have hp := List.find?_some hf
    simp only [Bool.and_eq_true, decide_eq_true_eq] at hp
    rw [hF.one hN hs ht (hk.trans hp.1.symm) hh hp.2]
theorem findR_none {l : List Sr} {a : Ad} (hc : checkP a = 0) (h : ∀ s ∈ l, s.key = a.key → s.hasR a.n = false) : findR l a = ((0, 0), 6) := by
  unfold findR
  rw [if_neg (by simp [hc])]
  cases hf : l.find? (fun s => decide (s.key = a.key) && s.hasR a.n) with
  | none => rfl
  | some t =>
    have ht := List.mem_of_find?_eq_some hf
    have hp := List.find?_some hf
    simp only [Bool.and_eq_true, decide_eq_true_eq] at hp
    rw [h t ht hp.1] at hp
    cases hp.2
theorem find_eq {l : List Sr} {T : STab} (hN : ∀ s ∈ l, s.Num) (hT : tabP l = some T) (a : Ad) : findP T a = findR l a := by
  by_cases hc : checkP a = 0
  · have hn := (checkP_ok hc).n1
    have hl : tabP (l.take l.length) = some T := by rw [List.take_length]; exact hT
    have hF : Free_ l := by
      have := (tabP_free hN l.length (Nat.le_refl _)).1 ⟨T, hl⟩
      rwa [List.take_length] at this
    have hH : Holds_ l T := by
      have := tabP_holds hN l.length (Nat.le_refl _) T hl
      rwa [List.take_length] at this
    have hO := tabP_ok hN l.length (Nat.le_refl _) T hl
    have hp : a.n % 2 = 0 ∨ a.n % 2 = 1 := by omega
    have e2 : a.n.tmod 2 = a.n % 2 := tmod2 (by omega)
    have hR : Row (a.n % 2) (rowT_ (T a.key) (a.n % 2)) := by
      rcases hp with h | h <;> rw [h]
      · exact hO.even _
      · exact hO.odd _
    have hm : ∀ t, t ∈ rowT_ (T a.key) (a.n % 2) ↔ t ∈ l ∧ t.key = a.key ∧ t.isQ (a.n % 2) = true := fun t => by
      rcases hp with h | h <;> rw [h]
      · exact (hH a.key t).1
      · exact (hH a.key t).2
    unfold findP
    rw [if_neg (by simp [hc]), e2]
    generalize hr : rowT_ (T a.key) (a.n % 2) = r at *
    obtain ⟨hk, h1, h2⟩ := hR.at_ (n := a.n)
    dsimp only
    cases hg : r[plK r (a.n % 2) a.n]? with
    | none =>
      have hK := List.getElem?_eq_none_iff.1 hg
      symm
      refine findR_none hc fun s hs hk' => ?_
      cases hh : s.hasR a.n with
      | false => rfl
      | true =>
        rw [s.has_iff (hN _ hs)] at hh
        obtain ⟨q, b1, b2⟩ := hh
        obtain ⟨i, hi, rfl⟩ := List.mem_iff_getElem.1 ((hm s).2 ⟨hs, hk', q⟩)
        have := h1 i hi (by omega)
        omega
    | some s =>
      obtain ⟨hK, rfl⟩ := List.getElem?_eq_some_iff.1 hg
      have hh := h2 _ hK (Nat.le_refl _)
      obtain ⟨m1, m2, m3⟩ := (hm _).1 (List.getElem_mem hK)
      by_cases hlo : (r[plK r (a.n % 2) a.n]).low (a.n % 2) ≤ a.n
      · dsimp only
        rw [if_pos hlo]
        exact (findR_some hF hN hc m1 m2 ((Sr.has_iff (hN _ m1) a.n).2 ⟨m3, hlo, hh⟩)).symm
      · dsimp only
        rw [if_neg hlo]
        symm
        refine findR_none hc fun s hs hk' => ?_
        cases hh' : s.hasR a.n with
        | false => rfl
        | true =>
          rw [s.has_iff (hN _ hs)] at hh'
          obtain ⟨q, b1, b2⟩ := hh'
          obtain ⟨i, hi, rfl⟩ := List.mem_iff_getElem.1 ((hm s).2 ⟨hs, hk', q⟩)
          rcases Nat.lt_trichotomy i (plK r (a.n % 2) a.n) with h | h | h
          · have := h1 i hi h
            omega
          · subst h; omega
          · have h3 := hR.lt h hi
            have h4 := (hR.mem _ (List.getElem_mem hK)).2
            omega
  · unfold findP findR
    rw [if_pos hc, if_pos hc]
/-- The document's New. -/
def newR (l : List Sr) : Int × Int := if 500 < l.length then (8, 0) else if 0 ≤ srBad l then (2, srBad l) else match (List.range l.length).find? (clashR l) with
  | some k => (7, (k : Int))
  | none => (0, 0)
theorem srBad_num {l : List Sr} (h : ¬ 0 ≤ srBad l) : ∀ s ∈ l, s.check = 0 := fun s hm => by
  by_cases hz : s.check = 0
  · exact hz
  · refine absurd ?_ h
    unfold srBad
    cases hf : l.findIdx? (fun s => decide (s.check ≠ 0)) with
    | some q => exact Int.natCast_nonneg q
    | none =>
      rw [List.findIdx?_eq_none_iff] at hf
      have := hf s hm
      simp [hz] at this
theorem new_eq (l : List Sr) : (newP l).2 = newR l ∧ ((newP l).1.isSome ↔ (newR l).1 = 0) := by
  unfold newP newR
  by_cases h5 : 500 < l.length
  · rw [if_pos h5, if_pos h5]; simp
  · rw [if_neg h5, if_neg h5]
    by_cases hb : 0 ≤ srBad l
    · rw [if_pos hb, if_pos hb]; simp
    · rw [if_neg hb, if_neg hb]
      have hN : ∀ s ∈ l, s.Num := fun s hs => (Sr.check_ok (srBad_num hb s hs)).num
      cases hf : (List.range l.length).find? (clashR l) with
      | none =>
        rw [List.find?_eq_none] at hf
        obtain ⟨T, hT⟩ := tabP_some hN (fun j hj => by simpa using hf j (List.mem_range.2 hj))
        rw [hT]; simp
      | some k =>
        rw [List.find?_range_eq_some] at hf
        obtain ⟨h1, h2, h3⟩ := hf
        obtain ⟨e1, e2⟩ := clashK_of hN (by simpa using h2) (fun j hj => by simpa using h3 j hj) h1
        rw [e1, e2]; simp
end Go.Proofs.YtjaponmpfdpemaaGreatDoor

set_option linter.unusedVariables false
namespace Go.Proofs.YtjaponmpfdpemaaGreatDoor

/-- A number from the lesser of two to the greater. -/
def btw (n a b : Int) : Bool := decide (minI a b ≤ n) && decide (n ≤ maxI a b)
def Sr.back (s : Sr) : Sr := { s with ax := s.bx, ay := s.by_, bx := s.ax, by_ := s.ay }
/-- What the between-law says of a number, plain. -/
structure BtwLaw (s : Sr) (n m : Int) : Prop where
  is : (s.at_ n).2 = (s.side == 3 || ((s.side == 1) == (n.tmod 2 == 1)))
  none : (s.at_ n).2 = false → (s.at_ n).1 = (0, 0)
  box : (s.at_ n).2 = true → btw (s.at_ n).1.1 s.ax s.bx = true ∧ btw (s.at_ n).1.2 s.ay s.by_ = true
  first : (s.at_ n).2 = true → n = s.fr → (s.at_ n).1 = (s.ax, s.ay)
  last : (s.at_ n).2 = true → n = s.to_ → s.fr < s.to_ → (s.at_ n).1 = (s.bx, s.by_)
  more : (s.at_ n).2 = true → (s.at_ m).2 = true → n ≤ m → btw (s.at_ n).1.1 s.ax (s.at_ m).1.1 = true ∧ btw (s.at_ n).1.2 s.ay (s.at_ m).1.2 = true
  was : (s.at_ n).2 = true → (s.back.at_ (s.fr + s.to_ - n)).2 = false → (s.fr + s.to_).tmod 2 = 1 ∧ s.side ≠ 3
  same : (s.at_ n).2 = true → (s.back.at_ (s.fr + s.to_ - n)).2 = true → s.fr ≠ s.to_ → (s.back.at_ (s.fr + s.to_ - n)).1 = (s.at_ n).1
theorem srBad_iff (l : List Sr) : 0 ≤ srBad l ↔ ∃ s ∈ l, s.check ≠ 0 := by
  constructor
  · intro h
    refine Classical.byContradiction fun hc => ?_
    have : srBad l = -1 := srBad_none fun i hi => Classical.byContradiction fun e => hc ⟨l[i], List.getElem_mem hi, e⟩
    omega
  · rintro ⟨s, hs, hc⟩
    refine Classical.byContradiction fun h => hc (srBad_num h s hs)
theorem newR_ok (l : List Sr) : (newR l).1 = 0 ↔ l.length ≤ 500 ∧ (∀ s ∈ l, s.check = 0) ∧ Free_ l := by
  unfold newR
  by_cases h5 : 500 < l.length
  · rw [if_pos h5]
    simp only [Int.reduceEq, false_iff]
    omega
  · rw [if_neg h5]
    by_cases hb : 0 ≤ srBad l
    · rw [if_pos hb]
      obtain ⟨s, hs, hc⟩ := (srBad_iff l).1 hb
      simp only [Int.reduceEq, false_iff]
      exact fun h => hc (h.2.1 s hs)
    · rw [if_neg hb]
      have hC := srBad_num hb
      have hN : ∀ s ∈ l, s.Num := fun s hs => (Sr.check_ok (hC s hs)).num
      have key : (∃ T, tabP l = some T) ↔ Free_ l := by
        have := tabP_free hN l.length (Nat.le_refl _)
        rwa [List.take_length] at this
      have hn := (new_eq l).2
      unfold newP newR at hn
      rw [if_neg h5, if_neg hb, if_neg h5, if_neg hb] at hn
      rw [← hn]
      constructor
      · intro h
        refine ⟨by omega, hC, key.1 ?_⟩
        cases hT : tabP l with
        | some T => exact ⟨T, rfl⟩
        | none => rw [hT] at h; cases h
      · rintro ⟨_, _, hF⟩
        obtain ⟨T, hT⟩ := key.2 hF
        rw [hT]; rfl
end Go.Proofs.YtjaponmpfdpemaaGreatDoor

set_option linter.unusedVariables false
namespace Go.Proofs.YtjaponmpfdpemaaGreatDoor
open Go.RowKit Go.Maps

theorem srOk_fine {s : Sr} (h : s.check = 0) : s.fine = true := by
  unfold Sr.check at h
  cases hf : s.fine with
  | true => rfl
  | false => rw [hf] at h; simp at h
theorem TabAt.set {w0 W : World} {ml n : Nat} {T : List Bs → List Sr × List Sr} (h : TabAt w0 W ml n T) {f : Nat} {t : TypeId} {cs : Array Value} (hf : Blk W f t cs) (ht : 25 ≠ t) (o : Nat) (u : Value) : TabAt w0 (W.setCell ⟨f, o, none⟩ u) ml n T := by
  obtain ⟨D, hm, hk⟩ := h.ex
  refine ⟨D, hm.setCell (fun e => ?_) u, fun k hk' => ?_⟩
  · have e : ml = f := e
    subst e
    obtain ⟨es, clock, hb, _⟩ := hm
    unfold Blk at hf
    rw [hb] at hf
    cases hf
  · obtain ⟨v0, v1, x, y, h1, h2, h3, h4, h5⟩ := hk k hk'
    exact ⟨v0, v1, x, y, h1, h2, h3, own_set h4 (own_blk_ne h4 hf ht) u, own_set h5 (own_blk_ne h5 hf ht) u⟩
theorem TabAt.lookE {w0 W : World} {ml n : Nat} {T : List Bs → List Sr × List Sr} (h : TabAt w0 W ml n T) (k : List Bs) (hk : OkK k) : ∃ v0 v1, (∀ W', Ext W W' → (Instr.lookup 59 (.map (some ml)) (keyV k) false).run Tryz.prog W' = .ok (.agg #[v0, v1]) W') ∧
    W.ownsRow w0.heap.size 25 13 v0 (T k).1.length (srCells (T k).1) ∧ W.ownsRow w0.heap.size 25 13 v1 (T k).2.length (srCells (T k).2) := by
  obtain ⟨D, hm, hK⟩ := h.ex
  obtain ⟨v0, v1, x, y, h1, h2, h3, h4, h5⟩ := hK k hk
  refine ⟨v0, v1, fun W' hx => ?_, h4, h5⟩
  have hm' : W'.ownsMap Tryz.prog 74 twoR ml n D := by
    obtain ⟨es', clock, hb, r⟩ := hm
    exact ⟨es', clock, (hx.block ml (Array.getElem?_eq_some_iff.1 hb).1).trans hb, r⟩
  obtain ⟨v, ps, hrun, hv⟩ := hm'.lookup lawStr Tryz.underlying59 (zeroT W') (zd := .agg [.nil, .nil]) (zp := []) rfl (keyStr k hk)
  rw [h3] at hv
  rw [twoR_inv h1 h2 hv] at hrun
  exact hrun
theorem SrS.okK {s : Sr} (h : SrS s 1000) : OkK s.key := ⟨rfl, fun b hb => by
  simp only [Sr.key, List.mem_cons, List.not_mem_nil, or_false] at hb
  rcases hb with rfl | rfl | rfl | rfl | rfl | rfl
  · have := h.state; omega
  · have := h.city; omega
  · have := h.pre; omega
  · have := h.name; omega
  · have := h.suf; omega
  · have := h.post; omega⟩
abbrev KeyRun (W : World) (ml : Nat) (x : Sr) (v0 v1 : Value) : Prop := (Instr.lookup 59 (.map (some ml)) (.agg #[.string ⟨x.state.toArray⟩, .string ⟨x.city.toArray⟩, .string ⟨x.pre.toArray⟩, .string ⟨x.name.toArray⟩, .string ⟨x.suf.toArray⟩, .string ⟨x.post.toArray⟩]) false).run Tryz.prog W = .ok (.agg #[v0, v1]) W
/-- How far New has come. -/
def NwRel (w : World) (l : List Sr) (f tb ml : Nat) (i : Value) (wr : World) : Prop := ∃ (k : Nat) (T : STab) (c : Nat), k ≤ l.length ∧ i = .int .i64 (k : Int) ∧ tabP (l.take k) = some T ∧ Blk wr f 36 #[.int .i64 0, .int .i64 0] ∧
  Blk wr tb 61 #[.map (some ml), .int .i64 (l.length : Int), .bool true] ∧ c ≤ k ∧ TabAt w wr ml c T ∧ Ext w wr
/-- How far New has come with the two rows of one part's street. -/
def SdRel (w wa : World) (r0 r1 : List Sr) (x : Sr) (g8 : Nat) (i : Value) (wr : World) : Prop := ∃ (j : Nat) (a b : List Sr) (v0 v1 : Value), j ≤ 2 ∧ i = .int .i64 (j : Int) ∧ Blk wr g8 72 #[v0, v1] ∧
  wr.ownsRow w.heap.size 25 13 v0 a.length (srCells a) ∧ wr.ownsRow w.heap.size 25 13 v1 b.length (srCells b) ∧ (j = 0 → a = r0) ∧ (j ≤ 1 → b = r1) ∧ (1 ≤ j → sideP r0 x 0 = some a) ∧ (2 ≤ j → sideP r1 x 1 = some b) ∧ Ext wa wr
theorem SdRel.next {w wa W : World} {r0 r1 : List Sr} {x : Sr} {g8 j : Nat} (h : SdRel w wa r0 r1 x g8 (.int .i64 (j : Int)) W) (hj : j < 2) : ∃ (r : List Sr) (v : Value), W.cell? ⟨g8, j, none⟩ = some v ∧ g8 < W.heap.size ∧ W.ownsRow w.heap.size 25 13 v r.length (srCells r) ∧ (r = if j = 0 then r0 else r1) ∧
    (∃ cs, Blk W g8 72 cs) ∧ Ext wa W ∧
    (∀ W' v' r', Ext wa W' → (∀ cs, Blk W g8 72 cs → Blk W' g8 72 (cs.setIfInBounds j v')) → (∀ v n xs, W.ownsRow w.heap.size 25 13 v n xs → W'.ownsRow w.heap.size 25 13 v n xs) →
      W'.ownsRow w.heap.size 25 13 v' r'.length (srCells r') → sideP r x (j : Int) = some r' → SdRel w wa r0 r1 x g8 (.int .i64 ((j + 1 : Nat) : Int)) W') ∧
    (∀ W', Ext W W' → x.isQ (j : Int) = false → SdRel w wa r0 r1 x g8 (.int .i64 ((j + 1 : Nat) : Int)) W') := by
  obtain ⟨j', a, b, v0, v1, _, hjj, B8, ha, hb, e0, e1, e2, e3, X8⟩ := h
  have : j = j' := by
    have := Value.int.inj hjj
    omega
  subst this
  have hskip : ∀ l, x.isQ (j : Int) = false → sideP l x (j : Int) = some l := fun l hq => by unfold sideP; rw [if_pos hq]
  obtain rfl | rfl : j = 0 ∨ j = 1 := by omega
  · have h0 := e0 rfl
    have h1 := e1 (by omega)
    subst h0 h1
    refine ⟨a, v0, B8.cell 0, B8.lt, ha, by simp, ⟨_, B8⟩, X8, fun W' v' r' hx hB hk ho hs => ?_, fun W' hx hq => ?_⟩
    · exact ⟨1, r', b, v', v1, by omega, rfl, by simpa using hB _ B8, ho, hk _ _ _ hb, fun h => absurd h (by omega), fun _ => rfl, fun _ => hs, fun h => absurd h (by omega), hx⟩
    · exact ⟨1, a, b, v0, v1, by omega, rfl, B8.ext hx, own_ext ha hx, own_ext hb hx, fun h => absurd h (by omega), fun _ => rfl, fun _ => hskip _ hq, fun h => absurd h (by omega), X8.trans hx⟩
  · have h1 := e1 (by omega)
    subst h1
    have h2 := e2 (by omega)
    refine ⟨b, v1, B8.cell 1, B8.lt, hb, by simp, ⟨_, B8⟩, X8, fun W' v' r' hx hB hk ho hs => ?_, fun W' hx hq => ?_⟩
    · exact ⟨2, a, r', v0, v', by omega, rfl, by simpa using hB _ B8, hk _ _ _ ha, ho, fun h => absurd h (by omega), fun h => absurd h (by omega), fun _ => h2, fun _ => hs, hx⟩
    · exact ⟨2, a, b, v0, v1, by omega, rfl, B8.ext hx, own_ext ha hx, own_ext hb hx, fun h => absurd h (by omega), fun h => absurd h (by omega), fun _ => h2, fun _ => hskip _ hq, X8.trans hx⟩
theorem stepT_none {T : STab} {x : Sr} {j : Nat} (hj : j < 2) (h : sideP (if j = 0 then (T x.key).1 else (T x.key).2) x (j : Int) = none) : stepT T x = none := by
  unfold stepT
  obtain rfl | rfl : j = 0 ∨ j = 1 := by omega
  · have h : sideP (T x.key).1 x 0 = none := h
    rw [h]
  · have h : sideP (T x.key).2 x 1 = none := h
    rw [h]
    cases sideP (T x.key).1 x 0 <;> rfl
theorem newP_clash {l : List Sr} {k : Nat} {T : STab} (h5 : ¬ 500 < l.length) (hb : ¬ 0 ≤ srBad l) (hk : k < l.length) (hT : tabP (l.take k) = some T) (hs : stepT T l[k] = none) : newP l = (none, 7, (k : Int)) := by
  have h2 : tabP (l.take (k + 1)) = none := by rw [tabP_take hk, hT]; exact hs
  obtain ⟨a, b⟩ := clashK_is hk hT h2
  unfold newP
  rw [if_neg h5, if_neg hb, a]
  simp only [b]
/-- A table as New makes it. -/
structure StrAt (w0 W : World) (tb n : Nat) (T : STab) : Prop where
  ex : ∃ ml c, c ≤ n ∧ Blk W tb 61 #[.map (some ml), .int .i64 (n : Int), .bool true] ∧ TabAt w0 W ml c T ∧ w0.heap.size ≤ tb ∧ w0.heap.size ≤ ml
theorem own_ne_new {w : World} {base n : Nat} {e : TypeId} {size : Nat} {v : Value} {xs : List Value} (h : w.ownsRow base e size v n xs) : v.ownBlock ≠ some w.heap.size := by
  intro he
  rcases h.2 with ⟨rfl, _⟩ | ⟨g, cap, cur, rfl, _, hg, _⟩
  · cases he
  · have : g = w.heap.size := Option.some.inj he
    have := (Array.getElem?_eq_some_iff.1 hg).1
    omega
theorem own_ne_old {w : World} {base n g : Nat} {e : TypeId} {size : Nat} {v : Value} {xs : List Value} (h : w.ownsRow base e size v n xs) (hb : g < base) : v.ownBlock ≠ some g := by
  intro he
  rcases h.2 with ⟨rfl, _⟩ | ⟨g', cap, cur, rfl, h1, hg, _⟩
  · cases he
  · have : g' = g := Option.some.inj he
    omega
theorem Blk.sr {w : World} {g : Nat} {x : Sr} (h : Blk w g 25 #[.string ⟨x.state.toArray⟩, .string ⟨x.city.toArray⟩, .string ⟨x.pre.toArray⟩, .string ⟨x.name.toArray⟩, .string ⟨x.suf.toArray⟩, .string ⟨x.post.toArray⟩, .int .i64 x.fr, .int .i64 x.to_, .int .i64 x.side, .int .i64 x.ax, .int .i64 x.ay, .int .i64 x.bx, .int .i64 x.by_]) : w.heap[g]? = some (.cells (srC x) 25 (0, 0)) := h
/-- The last statement of a sequence, with what follows a variable: so go_cut may be set round it. -/
theorem wp_last {P : Program} {c : Code} {Q : Exit → Act → World → Prop} {a : Act} {w : World} (h : ∀ K : Act → World → Prop, (∀ a w, Q .normal a w → K a w) → c.wp P (Exit.then K Q) a w) : c.wp P Q a w :=
  Code.wp_mono (Q := Exit.then (fun a w => Q .normal a w) Q) (fun e a w h => by cases e <;> exact h) (h _ (fun _ _ h => h))
end Go.Proofs.YtjaponmpfdpemaaGreatDoor
