/-
  Plain: AddrLoose's law, its letters small, its blanks doubled.
-/
import Derived.Test.YtjneghncmgjkeaaGreatDoorRx35
import Derived.Test.YtjneghncmgjkeaaGreatDoorRx44
set_option linter.unusedVariables false
namespace Go.Proofs.YtjneghncmgjkeaaGreatDoor
end Go.Proofs.YtjneghncmgjkeaaGreatDoor

set_option linter.unusedVariables false
namespace Go.Proofs.YtjneghncmgjkeaaGreatDoor
/-! ### Tokens that are alike -/
def Alike (p : Tok × Tok) : Prop := p.2.k = p.1.k ∧ shortT p.2 1 = shortT p.1 1 ∧ shortT p.2 2 = shortT p.1 2 ∧ shortT p.2 4 = shortT p.1 4 ∧ (p.2 = p.1 ∨ p.2.k = 1)
theorem Alike.short {p : Tok × Tok} (h : Alike p) {k : Int} (hk : k = 1 ∨ k = 2 ∨ k = 4) : shortT p.2 k = shortT p.1 k := by
  rcases hk with rfl | rfl | rfl
  · exact h.2.1
  · exact h.2.2.1
  · exact h.2.2.2.1
abbrev fsts (m : List (Tok × Tok)) : List Tok := m.map (·.1)
abbrev snds (m : List (Tok × Tok)) : List Tok := m.map (·.2)
/-- A short form and its long word, as tokens. -/
def wl (k : Int) (x : Bs) : List (Tok × Tok) := if x = [] then [] else [(⟨1, x⟩, ⟨1, (longP k x).1⟩)]
structure LongOk (k : Int) (x : Bs) : Prop where
  fst : fsts (wl k x) = wd x
  snd : snds (wl k x) = toksOf (longP k x).1
  alike : ∀ p ∈ wl k x, Alike p
  ok : okBs (longP k x).1
  one : (wl k x).length ≤ 1
/-- The tokens of a street's line, and those of its long words. -/
def linePairs (a : Ad) (N : List Tok) : List (Tok × Tok) := wl 2 a.pre ++ N.map (fun t => (t, t)) ++ wl 1 a.suf ++ wl 2 a.post
def halfL (b : Bool) : List Tok := if b then [halfT] else []
end Go.Proofs.YtjneghncmgjkeaaGreatDoor

set_option linter.unusedVariables false
namespace Go.Proofs.YtjneghncmgjkeaaGreatDoor

/-- What is ahead of the first such byte, and behind it. -/
def cutB (c : UInt8) : Bs → Bs × Bs × Bool
  | [] => ([], [], false)
  | x :: s => if x = c then ([], s, true) else (x :: (cutB c s).1, (cutB c s).2.1, (cutB c s).2.2)
theorem cutB_at {c : UInt8} {v : Bs} : ∀ {u : Bs}, (∀ x ∈ u, x ≠ c) → cutB c (u ++ c :: v) = (u, v, true)
  | [], _ => by rw [List.nil_append, cutB, if_pos rfl]
  | x :: u, h => by rw [List.cons_append, cutB, if_neg (h x (by simp)), cutB_at fun y hy => h y (List.mem_cons_of_mem _ hy)]
theorem cutB_none {c : UInt8} : ∀ {u : Bs}, (∀ x ∈ u, x ≠ c) → cutB c u = (u, [], false)
  | [], _ => rfl
  | x :: u, h => by rw [cutB, if_neg (h x (by simp)), cutB_none fun y hy => h y (List.mem_cons_of_mem _ hy)]
noncomputable def unitL (u : Bs) : Bs := if (cutB 32 u).2.2 then (longP 4 (cutB 32 u).1).1 ++ 32 :: (cutB 32 u).2.1 else u
noncomputable def headL (a : Ad) : Bs := (cutB 32 (textA a).1).1 ++ (if a.half then [32, 49, 47, 50, 32] else [])
noncomputable def wordsL (a : Ad) : Bs := (longP 2 a.pre).1 ++ 32 :: (a.name ++ 32 :: ((longP 1 a.suf).1 ++ 32 :: (longP 2 a.post).1))
/-- A unit, its word long. -/
structure UnitLong (u : Bs) : Prop where
  ex : ∃ x y, toksOf (unitL u) = [x, y] ∧ unitP [x, y] = (u, true) ∧ y.t.length ≤ 10 ∧ x.k ≠ 4 ∧ y.k ≠ 4
  ok : okBs (unitL u)
  ne : unitL u ≠ []
structure StateLong (x : Bs) : Prop where
  texts : textsP (toksOf (longP 3 x).1) = (longP 3 x).1
  short : shortP 3 (longP 3 x).1 = (x, true)
  kinds : ∀ t ∈ toksOf (longP 3 x).1, t.k ≠ 4
  len : (toksOf (longP 3 x).1).length ≤ 4
  ok : okBs (longP 3 x).1
/-- What the long words' line comes to. -/
structure LineLong (a : Ad) : Prop where
  toks : toksOf (headL a ++ 32 :: wordsL a) = toksOf (Lib.itoa a.n) ++ (halfL a.half ++ snds (linePairs a (toksOf a.name)))
  ok : okBs (headL a ++ 32 :: wordsL a)
  kinds : ∀ t ∈ halfL a.half ++ snds (linePairs a (toksOf a.name)), t.k ≠ 4
  len : (halfL a.half ++ snds (linePairs a (toksOf a.name))).length ≤ 12
  alike : ∀ p ∈ linePairs a (toksOf a.name), Alike p
  fst : toksOf (lineP a) = halfL a.half ++ fsts (linePairs a (toksOf a.name))
end Go.Proofs.YtjneghncmgjkeaaGreatDoor

set_option linter.unusedVariables false
namespace Go.Proofs.YtjneghncmgjkeaaGreatDoor
open Go.RowKit

theorem cutB_take {s : Bs} {c : UInt8} {k : Nat} (hk : k < s.length) (hc : s[k] = c) (hne : ∀ j (h : j < s.length), j < k → s[j] ≠ c) : cutB c s = (s.take k, s.drop (k + 1), true) := by
  have e : s = s.take k ++ c :: s.drop (k + 1) := by
    rw [← hc, List.getElem_cons_drop, List.take_append_drop]
  rw [e]
  have hl : (s.take k).length = k := by rw [List.length_take]; omega
  rw [cutB_at fun x hx => ?_]
  · rw [← e]
  · obtain ⟨j, hj, rfl⟩ := List.mem_iff_getElem.1 hx
    rw [List.getElem_take]
    exact hne j (by omega) (by omega)
def CuAt (W : World) (s : Bs) (c : UInt8) (i : Value) (wr : World) : Prop := ∃ k : Nat, k ≤ s.length ∧ i = .int .i64 (k : Int) ∧ wr = W ∧ ∀ j (h : j < s.length), j < k → s[j] ≠ c
theorem extract_to (s : Bs) (k : Nat) (hk : k ≤ s.length) : (⟨s.toArray⟩ : ByteArray).extract 0 k = ⟨(s.take k).toArray⟩ := by
  rw [extract_cut s 0 k hk, List.drop_zero]
theorem extract_end (s : Bs) (k : Nat) (hk : k ≤ s.length) : (⟨s.toArray⟩ : ByteArray).extract k s.length = ⟨(s.drop k).toArray⟩ := by
  rw [extract_cut s k s.length (Nat.le_refl _), List.take_length]
set_option maxRecDepth 100000 in
theorem l17cut_any (s : Bs) (c : UInt8) (hs : s.length ≤ 100000) (W : World) : Calls Tryz.prog 23 #[.string ⟨s.toArray⟩, .int .u8 (c.toNat : Int)] W fun e w' => e = .returned (.tuple #[.string ⟨(cutB c s).1.toArray⟩, .string ⟨(cutB c s).2.1.toArray⟩, .bool (cutB c s).2.2]) ∧ Ext W w' := by
  go_enter Tryz.func23, Tryz.ntmps23
  go_wp2_with fail
  go_loopw [7] (fun i wr => CuAt W s c i wr) (fun i _ => s.length - (intOf i).toNat)
  case atStart => exact ⟨0, by omega, rfl, rfl, fun j _ h => absurd h (by omega)⟩
  case round =>
    obtain ⟨k, hk, rfl, rfl, hne⟩ := hrel
    by_cases hlt : k < s.length
    · have hd : decide ((k : Int) < (s.length : Int)) = true := decide_eq_true (by omega)
      have hd' : decide (k < s.length) = true := decide_eq_true hlt
      have kz : (0 : Int) ≤ (k : Int) := by omega
      have kl : (k : Int) < (s.length : Int) := by omega
      obtain ⟨nk, hnk⟩ : ∃ n : Nat, s[k].toNat = n := ⟨_, rfl⟩
      have hb : ∀ h, ((⟨s.toArray⟩ : ByteArray)[k]'h).toNat = nk := fun _ => hnk
      by_cases hc : s[k] = c
      · have hR := Lib.hid (cutB_take hlt hc hne)
        have hq : ((nk : Int) == (c.toNat : Int)) = true := by rw [beq_iff_eq, ← hnk, hc]
        replace hnk := Lib.hid hnk
        clear hc
        have h1 := extract_to s k hk
        have h2 := extract_end s (k + 1) hlt
        have kz2 : (0 : Int) ≤ ((k + 1 : Nat) : Int) := by omega
        have kl2 : ((k + 1 : Nat) : Int) ≤ (s.length : Int) := by omega
        have kl3 : (k : Int) ≤ (s.length : Int) := by omega
        have ew : IntKind.i64.wrap ((k : Int) + 1) = ((k + 1 : Nat) : Int) := by rw [IntKind.wrap_i64]; omega
        clear hne
        go_wp2_with fail
        go_region
        go_wp2_with fail
        exact bodyPost_ret (v := .tuple #[.string ⟨(s.take k).toArray⟩, .string ⟨(s.drop (k + 1)).toArray⟩, .bool true]) (by simp [results, go_sem, Tryz.results23]) rfl ⟨by rw [hR.out], (Ext.refl _).drew⟩
      · have HE := Lib.hid (show CuAt wr s c (.int .i64 ((k + 1 : Nat) : Int)) wr from ⟨k + 1, hlt, rfl, rfl, fun j h hj => by
          by_cases e : j = k
          · subst e; exact hc
          · exact hne j h (by omega)⟩)
        have hq : ((nk : Int) == (c.toNat : Int)) = false := by
          rw [beq_eq_false_iff_ne, ← hnk]
          intro e
          exact hc (UInt8.toNat_inj.1 (by omega))
        replace hnk := Lib.hid hnk
        clear hne hc
        go_wp2_with fail
        exact ⟨HE.out, by simp [intOf]; omega⟩
    · obtain rfl : k = s.length := by omega
      have hd : decide ((s.length : Int) < (s.length : Int)) = false := by simp
      have hR := Lib.hid (cutB_none (c := c) (u := s) fun x hx => by
        obtain ⟨j, hj, rfl⟩ := List.mem_iff_getElem.1 hx
        exact hne j hj hj)
      clear hne
      go_wp2_with fail
      exact bodyPost_ret (v := .tuple #[.string ⟨s.toArray⟩, .string ⟨#[]⟩, .bool false]) (by simp [results, go_sem, Tryz.results23]) rfl ⟨by rw [hR.out], Ext.refl _⟩
/-- Which part is picked. -/
def pickP (x n : Int) : Int := if n < 1 then 0 else if x.tmod n < 0 then x.tmod n + n else x.tmod n
theorem tmodP_bd {x n : Int} (h : 1 ≤ n) : -n < Int.tmod x n ∧ Int.tmod x n < n := by
  refine ⟨?_, Int.tmod_lt_of_pos x (by omega)⟩
  have := Int.tmod_lt_of_pos (-x) (show 0 < n by omega)
  rw [Int.neg_tmod] at this
  omega
theorem pickP_bd (x : Int) {n : Int} (hn : 1 ≤ n) : 0 ≤ pickP x n ∧ pickP x n < n := by
  have := tmodP_bd (x := x) hn
  unfold pickP
  rw [if_neg (by omega)]
  split <;> omega
theorem l17pick_any (x n : Int) (h0 : 1 ≤ n) (hn : n ≤ 1000) (w : World) :
    Calls Tryz.prog 25 #[.int .i64 x, .int .i64 n] w fun e w' => e = .returned (.int .i64 (pickP x n)) ∧ w = w' := by
  have hd : decide (n < 1) = false := decide_eq_false (by omega)
  have hz : (n == 0) = false := by rw [beq_eq_false_iff_ne]; omega
  have hz' : n ≠ 0 := by omega
  obtain ⟨b1, b2⟩ := tmodP_bd (x := x) (n := n) (by omega)
  by_cases hm : Int.tmod x n < 0
  · have hd2 : decide (Int.tmod x n < 0) = true := by simpa using hm
    have HE := Lib.hid (show pickP x n = Int.tmod x n + n by unfold pickP; rw [if_neg (by omega), if_pos hm])
    generalize hM : Int.tmod x n = M at *
    have hi : IntKind.i64.wrap M = M := by rw [IntKind.wrap_i64]; omega
    go_enter Tryz.func25, Tryz.ntmps25
    go_wp2_with fail
    go_ret
    exact ⟨by rw [HE.out]; rfl, rfl⟩
  · have hd2 : decide (Int.tmod x n < 0) = false := by simpa using hm
    have HE := Lib.hid (show pickP x n = Int.tmod x n by unfold pickP; rw [if_neg (by omega), if_neg hm])
    generalize hM : Int.tmod x n = M at *
    have hi : IntKind.i64.wrap M = M := by rw [IntKind.wrap_i64]; omega
    go_enter Tryz.func25, Tryz.ntmps25
    go_wp2_with fail
    go_ret
    exact ⟨by rw [HE.out]; rfl, rfl⟩
end Go.Proofs.YtjneghncmgjkeaaGreatDoor

set_option linter.unusedVariables false
namespace Go.Proofs.YtjneghncmgjkeaaGreatDoor

theorem split_cut : ∀ s : Bs, splitC s = if (cutB 44 s).2.2 then (cutB 44 s).1 :: splitC (cutB 44 s).2.1 else [(cutB 44 s).1]
  | [] => rfl
  | c :: s => by
    have ih := split_cut s
    rw [splitC, cutB]
    by_cases hc : c = 44
    · rw [if_pos hc, if_pos hc]; rfl
    · rw [if_neg hc, if_neg hc, ih]
      by_cases h : (cutB 44 s).2.2 = true
      · rw [if_pos h]
        simp [h]
      · rw [if_neg h]
        simp [h]
theorem cutB_len (c : UInt8) : ∀ s : Bs, (cutB c s).1.length ≤ s.length ∧ (cutB c s).2.1.length ≤ s.length
  | [] => ⟨Nat.le_refl _, Nat.le_refl _⟩
  | x :: s => by
    have ih := cutB_len c s
    rw [cutB]
    by_cases hc : x = c
    · rw [if_pos hc]; simp
    · rw [if_neg hc]
      simp only [List.length_cons]
      omega
theorem join_take : ∀ (l : List Bs) (i : Nat) (h : i < l.length), joinB (l.take (i + 1)) = joinB (l.take i) ++ (if 0 < i then [44] else []) ++ l[i]
  | [], i, h => absurd h (by simp)
  | x :: l, 0, _ => by simp [joinB]
  | x :: l, i + 1, h => by
    have h' : i < l.length := by simpa using h
    have ih := join_take l i h'
    have e2 : (x :: l).take (i + 1 + 1) = x :: l.take (i + 1) := rfl
    have e1 : (x :: l).take (i + 1) = x :: l.take i := rfl
    rw [e2, e1, if_pos (by omega)]
    have hcons : ∀ (m : List Bs), m ≠ [] → joinB (x :: m) = x ++ 44 :: joinB m := fun m hm => by
      cases m with
      | nil => exact absurd rfl hm
      | cons y m => rfl
    have hne : l.take (i + 1) ≠ [] := by
      cases l with
      | nil => simp at h'
      | cons y l => simp
    rw [hcons _ hne, ih]
    cases i with
    | zero => simp [joinB]
    | succ i =>
      have hne2 : l.take (i + 1) ≠ [] := by
        cases l with
        | nil => simp at h'
        | cons y l => simp
      rw [hcons _ hne2, if_pos (by omega)]
      simp
theorem split_len : ∀ s : Bs, ∀ x ∈ splitC s, x.length ≤ s.length
  | [], x, h => by simp [splitC] at h; subst h; exact Nat.le_refl _
  | c :: s, x, h => by
    have ih := split_len s
    rw [splitC] at h
    by_cases hc : c = 44
    · rw [if_pos hc] at h
      rcases List.mem_cons.1 h with rfl | h
      · simp
      · have := ih x h; simp only [List.length_cons]; omega
    · rw [if_neg hc] at h
      cases hs : splitC s with
      | nil => exact absurd hs (splitC_ne s)
      | cons p r =>
        rw [hs] at h ih
        rcases List.mem_cons.1 h with rfl | h
        · have := ih p (by simp); simp only [List.length_cons]; omega
        · have := ih x (by simp [h]); simp only [List.length_cons]; omega
/-- Where the pieces' loop stands. -/
def PtAt (W : World) (L : List Bs) (g : Nat) (v r m : Value) (wr : World) : Prop := ∃ (d : List Bs) (rest : Bs) (more : Bool), r = .string ⟨rest.toArray⟩ ∧ m = .bool more ∧ wr.ownsRow W.heap.size 9 1 v d.length (strC d) ∧ Ext W wr ∧ L = d ++ (if more then splitC rest else []) ∧ g = (if more then (splitC rest).length else 0) ∧ rest.length ≤ 200 ∧ L.length ≤ 4
theorem PtAt.next {W : World} {d L : List Bs} {rest : Bs} {v' : Value} {wr : World} (hL : L = d ++ splitC rest) (hown : wr.ownsRow W.heap.size 9 1 v' (d.length + 1) (strC d ++ [.string ⟨(cutB 44 rest).1.toArray⟩])) (hx : Ext W wr) (hr : rest.length ≤ 200) (h4 : L.length ≤ 4) :
    PtAt W L ((splitC rest).length - 1) v' (.string ⟨(cutB 44 rest).2.1.toArray⟩) (.bool (cutB 44 rest).2.2) wr := by
  refine ⟨d ++ [(cutB 44 rest).1], (cutB 44 rest).2.1, (cutB 44 rest).2.2, rfl, rfl, ?_, hx, ?_, ?_, ?_, h4⟩
  · rw [List.length_append]
    have e : strC (d ++ [(cutB 44 rest).1]) = strC d ++ [.string ⟨(cutB 44 rest).1.toArray⟩] := by simp [strC]
    rw [e]
    exact hown
  · rw [hL, split_cut rest, List.append_assoc]
    by_cases h : (cutB 44 rest).2.2 = true
    · rw [if_pos h, if_pos h]; rfl
    · rw [if_neg h, if_neg h]; rfl
  · rw [split_cut rest]
    by_cases h : (cutB 44 rest).2.2 = true
    · rw [if_pos h, if_pos h]; simp
    · rw [if_neg h, if_neg h]; rfl
  · have := (cutB_len 44 rest).2; omega
/-- Where the joining stands. -/
def JnAt (w0 : World) (M : List Bs) (v i : Value) (wr : World) : Prop := ∃ k : Nat, k ≤ M.length ∧ i = .int .i64 (k : Int) ∧ v = .string ⟨(joinB (M.take k)).toArray⟩ ∧ (joinB (M.take k)).length ≤ k * 200 ∧ wr = w0
theorem JnAt.next {w0 : World} {M : List Bs} {k : Nat} (hk : k < M.length) (hl : (joinB (M.take k)).length ≤ k * 200) (hm : M[k].length ≤ 150) {x : Bs} (hx : x = joinB (M.take k) ++ (if 0 < k then [44] else []) ++ M[k]) : JnAt w0 M (.string ⟨x.toArray⟩) (.int .i64 ((k + 1 : Nat) : Int)) w0 := by
  refine ⟨k + 1, hk, rfl, by rw [join_take M k hk, hx], ?_, rfl⟩
  rw [join_take M k hk, List.length_append, List.length_append]
  have : (if 0 < k then [44] else [] : Bs).length ≤ 1 := by split <;> simp
  omega
end Go.Proofs.YtjneghncmgjkeaaGreatDoor
