/-
  Plain: orders are read as they were written; what is read of bytes is written as these.
-/
import Derived.Test.YtokakpbpenndlaaGreatDoorRs27
import Derived.Test.YtokakpbpenndlaaGreatDoorRs08
set_option linter.unusedVariables false
namespace Go.Proofs.YtokakpbpenndlaaGreatDoor

theorem pow7 (i : Nat) (h : i ≤ 8) : 2 ^ (64 - 7 * i) = 128 * 2 ^ (64 - 7 * (i + 1)) := by
  have e : 64 - 7 * i = (64 - 7 * (i + 1)) + 7 := by omega
  rw [e, Nat.pow_add, Nat.mul_comm]
theorem toNat_of (r : Nat) (h : r < 256) : (UInt8.ofNat r).toNat = r := by rw [UInt8.toNat_ofNat']; omega
theorem step_mul (a r' i : Nat) (P : Nat) : a * P + r' * (P * 128) = (a + 128 * r') * P := by
  rw [Nat.add_mul, Nat.mul_comm P 128, ← Nat.mul_assoc, Nat.mul_comm r' 128]
theorem getGo_leb (at_ : Nat) (rest : List UInt8) : ∀ (f i r rank : Nat), f + i = 10 → (0 < i → 0 < r) → r < 2 ^ (64 - 7 * i) → getGo at_ (lebF f r ++ rest) i rank = ⟨unzig (rank + r * 128 ^ i), at_ + i + (lebF f r).length, 0, 0⟩
  | 0, i, r, rank, hf, h0, hr => by
    have : i = 10 := by omega
    subst this
    have : r < 1 := by simpa using hr
    have := h0 (by decide)
    omega
  | f + 1, i, r, rank, hf, h0, hr => by
    have h9 : i = 9 → r < 2 := fun h => by subst h; simpa using hr
    by_cases hs : r < 128
    · rw [lebF_small f r hs, List.cons_append, List.nil_append, getGo, toNat_of r (by omega), if_neg (by omega), if_neg (by omega), if_pos hs, Nat.mod_eq_of_lt hs]
      rfl
    · have hi : i ≤ 8 := by
        rcases Nat.lt_or_ge i 9 with h | h
        · omega
        · have := h9 (by omega); omega
      rw [lebF_big f r (by omega), List.cons_append, getGo, toNat_of _ (by omega), if_neg (by omega), if_neg (by omega), if_neg (by omega)]
      rw [getGo_leb at_ rest f (i + 1) (r / 128) _ (by omega) (fun _ => by omega) (by
        rw [pow7 i hi] at hr
        exact (Nat.div_lt_iff_lt_mul (by decide)).2 (by rw [Nat.mul_comm]; exact hr))]
      have e1 : (r % 128 + 128) % 128 = r % 128 := by omega
      have e2 : r % 128 + 128 * (r / 128) = r := by omega
      rw [e1, Nat.add_assoc, Nat.pow_succ, step_mul _ _ i, e2, List.length_cons]
      congr 1
      omega
theorem getGo_inv (at_ : Nat) : ∀ (l : List UInt8) (f i rank : Nat), f + i = 10 → i ≤ 9 → (getGo at_ l i rank).fe = 0 → ∃ r, l = lebF f r ++ l.drop ((getGo at_ l i rank).next - (at_ + i)) ∧ (getGo at_ l i rank).n = unzig (rank + r * 128 ^ i) ∧ (0 < i → 0 < r) ∧ r < 2 ^ (64 - 7 * i)
  | [], f, i, rank, _, _, h => by simp [getGo] at h
  | c :: l, f, i, rank, hf, hi, h => by
    obtain ⟨f, rfl⟩ : ∃ g, f = g + 1 := ⟨f - 1, by omega⟩
    have hc : c.toNat < 256 := c.toNat_lt
    rcases getGo_cons at_ c l i rank with ⟨_, e⟩ | ⟨_, _, e⟩ | ⟨h1, h2, h3, e⟩ | ⟨h1, h2, h3, e⟩ <;> rw [e] at h ⊢
    · simp at h
    · simp at h
    · refine ⟨c.toNat, ?_, ?_, fun h0 => by omega, ?_⟩
      · rw [lebF_small f _ h3]
        simp only
        rw [show at_ + i + 1 - (at_ + i) = 1 by omega]
        simp
      · simp only
        rw [Nat.mod_eq_of_lt h3]
      · rcases Nat.lt_or_ge i 9 with h9 | h9
        · have : 2 ^ 7 ≤ 2 ^ (64 - 7 * i) := Nat.pow_le_pow_right (by decide) (by omega)
          omega
        · have : i = 9 := by omega
          subst this
          have : c.toNat < 2 := by omega
          simpa using this
    · have hi8 : i ≤ 8 := by omega
      have hn := getGo_next at_ l (i + 1) _ h
      obtain ⟨r', k1, k2, k3, k4⟩ := getGo_inv at_ l f (i + 1) _ (by omega) (by omega) h
      have k3' := k3 (by omega)
      refine ⟨c.toNat % 128 + 128 * r', ?_, ?_, fun _ => by omega, ?_⟩
      · rw [lebF_big f _ (by omega)]
        have e1 : (c.toNat % 128 + 128 * r') % 128 + 128 = c.toNat := by omega
        have e2 : (c.toNat % 128 + 128 * r') / 128 = r' := by omega
        rw [e1, e2, UInt8.ofNat_toNat, List.cons_append]
        obtain ⟨d, hd⟩ : ∃ d, (getGo at_ l (i + 1) (rank + c.toNat % 128 * 128 ^ i)).next - (at_ + i) = d + 1 := ⟨(getGo at_ l (i + 1) (rank + c.toNat % 128 * 128 ^ i)).next - (at_ + (i + 1)), by omega⟩
        have hd2 : (getGo at_ l (i + 1) (rank + c.toNat % 128 * 128 ^ i)).next - (at_ + (i + 1)) = d := by omega
        rw [hd, List.drop_succ_cons]
        rw [hd2] at k1
        rw [← k1]
      · rw [k2, Nat.add_assoc, Nat.pow_succ, step_mul _ _ i]
      · rw [pow7 i hi8]
        omega
theorem zig_bd {n : Int} (h : i64 n) : zig n < 2 ^ (64 - 7 * 0) := by
  have := zig_lt n h.1 h.2
  simpa using this
theorem unzig_i64 {r : Nat} (h : r < 18446744073709551616) : i64 (unzig r) := by
  unfold unzig i64
  split <;> omega
theorem getN_put {b rest : List UInt8} {at_ : Nat} {n : Int} (h : b.drop at_ = putL n ++ rest) (hn : i64 n) : getN b at_ = ⟨n, at_ + (putL n).length, 0, 0⟩ := by
  unfold getN
  rw [h]
  unfold putL
  rw [getGo_leb at_ rest 10 0 (zig n) 0 (by omega) (fun h => absurd h (by omega)) (zig_bd hn)]
  simp [unzig_zig]
theorem getN_inv {b : List UInt8} {at_ : Nat} (h : (getN b at_).fe = 0) : b.drop at_ = putL (getN b at_).n ++ b.drop (getN b at_).next ∧ i64 (getN b at_).n := by
  unfold getN at h ⊢
  have hn := getGo_next at_ (b.drop at_) 0 0 h
  obtain ⟨r, k1, k2, _, k4⟩ := getGo_inv at_ (b.drop at_) 10 0 0 (by omega) (by omega) h
  have hr : r < 18446744073709551616 := by simpa using k4
  have e : (getGo at_ (b.drop at_) 0 0).n = unzig r := by rw [k2]; simp
  rw [e]
  refine ⟨?_, unzig_i64 hr⟩
  unfold putL
  rw [zig_unzig]
  rw [List.drop_drop] at k1
  have e2 : at_ + ((getGo at_ (b.drop at_) 0 0).next - (at_ + 0)) = (getGo at_ (b.drop at_) 0 0).next := by omega
  rw [e2] at k1
  exact k1

/-- Between two places of a reader stand these numbers. -/
structure RS.Has (s : RS) (l : List Int) (s' : RS) : Prop where
  fe : s.fe = 0
  fe' : s'.fe = 0
  b : s'.b = s.b
  txt : s.b.drop s.at_ = putsL l ++ s.b.drop s'.at_
theorem RS.Has.refl {s : RS} (h : s.fe = 0) : s.Has [] s := ⟨h, h, rfl, by simp [putsL]⟩
theorem RS.Has.trans {s s1 s2 : RS} {l l1 : List Int} (h : s.Has l s1) (k : s1.Has l1 s2) : s.Has (l ++ l1) s2 := by
  refine ⟨h.fe, k.fe', k.b.trans h.b, ?_⟩
  have := k.txt
  rw [h.b] at this
  rw [h.txt, this, putsL_app, List.append_assoc]
theorem putsL_one (n : Int) : putsL [n] = putL n := by simp [putsL]
/-- A number that stands there is read. -/
theorem RS.num_put {s : RS} {n lo hi above : Int} {rest : List UInt8} (h0 : s.fe = 0) (hd : s.b.drop s.at_ = putL n ++ rest) (h1 : lo ≤ n) (h2 : n ≤ hi) (hn : i64 n) : s.num lo hi above = (n, { s with at_ := s.at_ + (putL n).length }) := by
  unfold RS.num
  rw [if_neg (by simpa using h0), getN_put hd hn]
  simp only
  rw [if_neg (by simp), if_neg (by omega), if_neg (by omega)]
theorem drop_put {b rest : List UInt8} {at_ : Nat} {l : List UInt8} (hd : b.drop at_ = l ++ rest) : b.drop (at_ + l.length) = rest := by
  rw [← List.drop_drop, hd, List.drop_left]
/-- A number that is read stood there. -/
theorem RS.num_inv {s : RS} {lo hi above : Int} (ha : above ≠ 0) (h : (s.num lo hi above).2.fe = 0) : s.Has [(s.num lo hi above).1] (s.num lo hi above).2 ∧ lo ≤ (s.num lo hi above).1 ∧ (s.num lo hi above).1 ≤ hi := by
  unfold RS.num at h ⊢
  by_cases h0 : s.fe ≠ 0
  · rw [if_pos h0] at h; exact absurd h h0
  rw [if_neg h0] at h ⊢
  simp only at h ⊢
  by_cases h1 : (getN s.b s.at_).fe ≠ 0
  · rw [if_pos h1] at h; exact absurd h h1
  rw [if_neg h1] at h ⊢
  by_cases h2 : hi < (getN s.b s.at_).n
  · rw [if_pos h2] at h; exact absurd h ha
  rw [if_neg h2] at h ⊢
  by_cases h3 : (getN s.b s.at_).n < lo
  · rw [if_pos h3] at h; cases h
  rw [if_neg h3]
  simp only
  have hg := getN_inv (b := s.b) (at_ := s.at_) (by simpa using h1)
  exact ⟨⟨by simpa using h0, by simpa using h0, rfl, by rw [putsL_one]; exact hg.1⟩, by omega, by omega⟩
end Go.Proofs.YtokakpbpenndlaaGreatDoor

namespace Go.Proofs.YtokakpbpenndlaaGreatDoor

theorem RS.num_put' {s : RS} {n lo hi above : Int} {rest : List UInt8} (h0 : s.fe = 0) (hd : s.b.drop s.at_ = putL n ++ rest) (h1 : lo ≤ n) (h2 : n ≤ hi) (hn : i64 n) : ∃ s', s.num lo hi above = (n, s') ∧ s'.fe = 0 ∧ s'.b = s.b ∧ s'.b.drop s'.at_ = rest ∧ s'.fa = s.fa :=
  ⟨_, RS.num_put h0 hd h1 h2 hn, h0, rfl, drop_put hd, rfl⟩
theorem Ln.ok_bd {l : Ln} (h : l.ok = true) : (1 ≤ l.c ∧ l.c ≤ 1099511627775) ∧ (0 ≤ l.a ∧ l.a ≤ 1099511627775) := by
  unfold Ln.ok at h
  rw [Bool.and_eq_true] at h
  exact ⟨win_bd h.1, win_bd h.2⟩
theorem putsL_cons (n : Int) (l : List Int) : putsL (n :: l) = putL n ++ putsL l := by simp [putsL]
theorem lnInts_cons (x : Ln) (l : List Ln) : lnInts (x :: l) = x.c :: x.a :: lnInts l := by simp [lnInts]
theorem lines_put : ∀ (ls : List Ln) (s : RS) (rest : List UInt8), (∀ x ∈ ls, x.ok = true) → s.fe = 0 → s.b.drop s.at_ = putsL (lnInts ls) ++ rest → ∃ s', linesO ls.length s = (ls, s') ∧ s'.fe = 0 ∧ s'.b = s.b ∧ s'.b.drop s'.at_ = rest ∧ s'.fa = s.fa
  | [], s, rest, _, h0, hd => ⟨s, rfl, h0, rfl, by simpa [putsL, lnInts] using hd, rfl⟩
  | x :: ls, s, rest, hok, h0, hd => by
    obtain ⟨b1, b2⟩ := Ln.ok_bd (hok x (by simp))
    rw [lnInts_cons, putsL_cons, putsL_cons, List.append_assoc, List.append_assoc] at hd
    obtain ⟨s1, e1, f1, g1, d1, a1⟩ := RS.num_put' (lo := 1) (hi := 1099511627775) (above := 5) h0 hd b1.1 b1.2 (by unfold i64; omega)
    obtain ⟨s2, e2, f2, g2, d2, a2⟩ := RS.num_put' (lo := 0) (hi := 1099511627775) (above := 5) f1 d1 b2.1 b2.2 (by unfold i64; omega)
    obtain ⟨s3, e3, f3, g3, d3, a3⟩ := lines_put ls s2 rest (fun y hy => hok y (by simp [hy])) f2 d2
    refine ⟨s3, ?_, f3, by rw [g3, g2, g1], d3, by rw [a3, a2, a1]⟩
    rw [List.length_cons, linesO, if_pos h0]
    simp only [e1, e2, e3]
theorem lines_inv : ∀ (n : Nat) (s : RS), (linesO n s).2.fe = 0 → s.Has (lnInts (linesO n s).1) (linesO n s).2 ∧ (linesO n s).1.length = n ∧ ∀ x ∈ (linesO n s).1, x.ok = true
  | 0, s, h => ⟨RS.Has.refl h, rfl, by simp [linesO]⟩
  | n + 1, s, h => by
    by_cases h0 : s.fe = 0
    case neg => rw [linesO_bad (n + 1) s h0] at h; exact absurd h h0
    unfold linesO at h ⊢
    rw [if_pos h0] at h ⊢
    simp only at h ⊢
    obtain ⟨k1, k2, k3⟩ := lines_inv n _ h
    obtain ⟨p1, p2, p3⟩ := RS.num_inv (by decide) k1.fe
    obtain ⟨q1, q2, q3⟩ := RS.num_inv (by decide) p1.fe
    refine ⟨?_, by simp [k2], fun x hx => ?_⟩
    · rw [lnInts_cons]
      have := (q1.trans p1).trans k1
      simpa using this
    · rcases List.mem_cons.1 hx with rfl | hx
      · unfold Ln.ok
        rw [Bool.and_eq_true]
        exact ⟨win_mk q2 q3, win_mk p2 p3⟩
      · exact k3 x hx
theorem badLn_none (ls : List Ln) : ∀ s, (∀ x ∈ ls, x.ok = true) → badLn ls s = none := by
  induction ls with
  | nil => intro s _; rfl
  | cons l r ih =>
    intro s h
    unfold badLn
    rw [if_pos (h l (by simp))]
    exact ih _ fun x hx => h x (by simp [hx])
theorem Ord.check_mk {o : Ord} (h1 : o.head = true) (h2 : 1 ≤ o.ls.length) (h3 : o.ls.length ≤ 100) (h4 : ∀ x ∈ o.ls, x.ok = true) : o.check = (0, 0) := by
  unfold Ord.check
  rw [if_neg (by simp [h1]), if_neg (by omega), if_neg (by omega), badLn_none _ _ h4]
theorem drop_end {b : List UInt8} {n : Nat} (h : b.drop n = []) : b.length ≤ n := by
  have := congrArg List.length h
  rw [List.length_drop] at this
  simp at this
  omega
/-- P25.5: reading returns what was written. -/
theorem read_bytes {o : Ord} (h : o.check.1 = 0) : readP o.bytes = (o, 0, 0) := by
  obtain ⟨h0, h1, h2, h3⟩ := Ord.check_ok h
  unfold Ord.head at h0
  simp only [Bool.and_eq_true] at h0
  obtain ⟨⟨⟨w1, w2⟩, w3⟩, w4⟩ := h0
  replace w1 := win_bd w1
  replace w2 := win_bd w2
  replace w3 := win_bd w3
  replace w4 := win_bd w4
  have hb := Ord.bytes_ok h
  unfold Ord.hd at hb
  rw [putsL_cons, putsL_cons, putsL_cons, putsL_cons, putsL_one] at hb
  simp only [List.append_assoc] at hb
  generalize o.bytes = b at *
  obtain ⟨s1, e1, f1, g1, d1, a1⟩ := RS.num_put' (s := RS.start b) (lo := 0) (hi := 1099511627775) (above := 5) rfl hb w1.1 w1.2 (by unfold i64; omega)
  obtain ⟨s2, e2, f2, g2, d2, a2⟩ := RS.num_put' (s := s1) (lo := 0) (hi := 3652058) (above := 5) f1 d1 w2.1 w2.2 (by unfold i64; omega)
  obtain ⟨s3, e3, f3, g3, d3, a3⟩ := RS.num_put' (s := s2) (lo := -1099511627775) (hi := 1099511627775) (above := 5) f2 d2 w3.1 w3.2 (by unfold i64; omega)
  obtain ⟨s4, e4, f4, g4, d4, a4⟩ := RS.num_put' (s := s3) (lo := -1099511627775) (hi := 1099511627775) (above := 5) f3 d3 w4.1 w4.2 (by unfold i64; omega)
  obtain ⟨s5, e5, f5, g5, d5, a5⟩ := RS.num_put' (s := s4) (lo := 0) (hi := 100) (above := 3) f4 d4 (by omega) (by omega) (by unfold i64; omega)
  have d5' : s5.b.drop s5.at_ = putsL (lnInts o.ls) ++ [] := by rw [List.append_nil]; exact d5
  obtain ⟨s6, e6, f6, g6, d6, a6⟩ := lines_put o.ls s5 [] h3 f5 d5'
  have hH : headP b = ⟨o.cu, o.day, o.px, o.py, s4.at_, o.ls.length, s5⟩ := by
    unfold headP
    simp only [e1, e2, e3, e4, e5]
  have hF : s6.fin = (0, 0) := by
    unfold RS.fin
    have hl := drop_end d6
    rw [if_neg (by omega), f6, a6, a5, a4, a3, a2, a1]
    rfl
  unfold readP
  rw [hH]
  simp only
  rw [if_neg (by omega), Int.toNat_natCast, e6]
  simp only
  rw [hF]
  simp
theorem headP_inv {b : List UInt8} (h : (headP b).s.fe = 0) : (RS.start b).Has [(headP b).cu, (headP b).day, (headP b).px, (headP b).py, (headP b).n] (headP b).s ∧
    (0 ≤ (headP b).cu ∧ (headP b).cu ≤ 1099511627775) ∧ (0 ≤ (headP b).day ∧ (headP b).day ≤ 3652058) ∧ (-1099511627775 ≤ (headP b).px ∧ (headP b).px ≤ 1099511627775) ∧ (-1099511627775 ≤ (headP b).py ∧ (headP b).py ≤ 1099511627775) ∧ (0 ≤ (headP b).n ∧ (headP b).n ≤ 100) := by
  unfold headP at h ⊢
  simp only at h ⊢
  obtain ⟨p5, a5, b5⟩ := RS.num_inv (by decide) h
  obtain ⟨p4, a4, b4⟩ := RS.num_inv (by decide) p5.fe
  obtain ⟨p3, a3, b3⟩ := RS.num_inv (by decide) p4.fe
  obtain ⟨p2, a2, b2⟩ := RS.num_inv (by decide) p3.fe
  obtain ⟨p1, a1, b1⟩ := RS.num_inv (by decide) p2.fe
  refine ⟨?_, ⟨a1, b1⟩, ⟨a2, b2⟩, ⟨a3, b3⟩, ⟨a4, b4⟩, ⟨a5, b5⟩⟩
  have := (((p1.trans p2).trans p3).trans p4).trans p5
  simpa using this
theorem Ord.bytes_eq {o : Ord} (h : o.check.1 = 0) : o.bytes = putsL (o.hd ++ lnInts o.ls) := by rw [Ord.bytes_ok h, putsL_app]
/-- P25.5: writing returns the bytes that were read. -/
theorem bytes_read {b : List UInt8} (h : (readP b).2.1 = 0) : (readP b).1.check.1 = 0 ∧ (readP b).1.bytes = b ∧ (readP b).2.2 = 0 := by
  have hR : (readP b) = (⟨(headP b).cu, (headP b).day, (headP b).px, (headP b).py, (linesO (headP b).n.toNat (headP b).s).1⟩, 0, 0) ∧ ¬ ((headP b).s.fe = 0 ∧ (headP b).n = 0) ∧ (linesO (headP b).n.toNat (headP b).s).2.fin.1 = 0 := by
    unfold readP at h ⊢
    simp only at h ⊢
    by_cases c1 : (headP b).s.fe = 0 ∧ (headP b).n = 0
    · rw [if_pos c1] at h; cases h
    rw [if_neg c1] at h ⊢
    by_cases c2 : (linesO (headP b).n.toNat (headP b).s).2.fin.1 ≠ 0
    · rw [if_pos c2] at h; exact absurd h c2
    rw [if_neg c2]
    exact ⟨rfl, c1, by simpa using c2⟩
  obtain ⟨hR, hn, hf⟩ := hR
  have hfe := fin_fe _ hf
  obtain ⟨k1, k2, k3⟩ := lines_inv _ _ hfe
  obtain ⟨H, w1, w2, w3, w4, w5⟩ := headP_inv k1.fe
  have hs5 := k1.fe
  have HH := H.trans k1
  generalize linesO (headP b).n.toNat (headP b).s = T at *
  obtain ⟨ls, s'⟩ := T
  simp only at *
  rw [hR]
  have hend : b.length ≤ s'.at_ := by
    unfold RS.fin at hf
    by_cases hc : s'.fe = 0 ∧ s'.at_ < s'.b.length
    · rw [if_pos hc] at hf; cases hf
    · have hb : s'.b = b := HH.b
      rw [hb] at hc
      omega
  have hlen : (ls.length : Int) = (headP b).n := by rw [k2]; omega
  have hck : Ord.check ⟨(headP b).cu, (headP b).day, (headP b).px, (headP b).py, ls⟩ = (0, 0) := by
    refine Ord.check_mk ?_ ?_ ?_ k3
    · unfold Ord.head
      simp only [Bool.and_eq_true]
      exact ⟨⟨⟨win_mk w1.1 w1.2, win_mk w2.1 w2.2⟩, win_mk w3.1 w3.2⟩, win_mk w4.1 w4.2⟩
    · simp only
      have : (headP b).n ≠ 0 := fun e => hn ⟨hs5, e⟩
      omega
    · simp only; omega
  refine ⟨by rw [hck], ?_, rfl⟩
  rw [Ord.bytes_eq (by rw [hck])]
  have ht := HH.txt
  have h0 : (RS.start b).b.drop (RS.start b).at_ = b := by simp [RS.start]
  have h1 : (RS.start b).b.drop s'.at_ = [] := List.drop_eq_nil_of_le hend
  rw [h0, h1, List.append_nil] at ht
  unfold Ord.hd
  simp only
  rw [hlen]
  exact ht.symm
end Go.Proofs.YtokakpbpenndlaaGreatDoor
