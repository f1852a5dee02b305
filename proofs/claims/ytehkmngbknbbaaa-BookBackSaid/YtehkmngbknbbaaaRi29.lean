/-
  Plain: entries are read as they were written; what is read of bytes is written as these.
-/
import Derived.Test.YtehkmngbknbbaaaRi25
import Derived.Test.YtehkmngbknbbaaaRi28
set_option linter.unusedVariables false
namespace Go.Proofs.Ytehkmngbknbbaaa

def Ent.hd (e : Ent) : List Int := [e.k, e.id, e.of_, e.day, (e.am.length : Int)]
/-- P29.5: the bytes of an entry. -/
def Ent.bytes (e : Ent) : List UInt8 := if e.check = 0 then putsL (e.hd ++ e.am) ++ (if e.k = 1 then taxBytes e.tax else []) else []
theorem Ent.i64b {e : Ent} (h : e.check = 0) : (e.am.length ≤ 100) ∧ ∀ n ∈ e.hd ++ e.am, i64 n := by
  obtain ⟨hh, ha, hf⟩ := Ent.check_ok h
  unfold Ent.head at hh
  simp only [Bool.and_eq_true] at hh
  have h1 := win_bd hh.1.1
  have h2 := win_bd hh.1.2
  have h3 := win_bd hh.2
  have hk : (e.k = 1 ∨ e.k = 2 ∨ e.k = 3) ∧ e.am.length ≤ 100 := by
    unfold Ent.fine at hf
    split at hf
    · simp only [Ent.saleFine, manyI, Bool.and_eq_true, decide_eq_true_eq] at hf
      omega
    split at hf
    · simp only [Ent.refundFine, manyI, Bool.and_eq_true, decide_eq_true_eq] at hf
      omega
    split at hf
    · simp only [Ent.voidFine, Bool.and_eq_true, decide_eq_true_eq] at hf
      omega
    · cases hf
  refine ⟨hk.2, fun n hn => ?_⟩
  rcases List.mem_append.1 hn with hn | hn
  · simp only [Ent.hd, List.mem_cons, List.not_mem_nil, or_false] at hn
    unfold i64
    rcases hn with rfl | rfl | rfl | rfl | rfl <;> omega
  · have := win_bd (List.all_eq_true.1 ha n hn)
    unfold i64
    omega

/-- Amounts read one behind the other. -/
def amsO : Nat → RS → List Int × RS
  | 0, s => ([], s)
  | n + 1, s => ((s.num 0 4611686018427387904 5).1 :: (amsO n (s.num 0 4611686018427387904 5).2).1, (amsO n (s.num 0 4611686018427387904 5).2).2)
structure EHead where
  k : Int
  id : Int
  of_ : Int
  day : Int
  n : Int
  s : RS
def eheadP (b : List UInt8) : EHead :=
  let a := (RS.start b).num 1 3 5
  let c := a.2.num 1 1099511627775 5
  let d := c.2.num 0 1099511627775 5
  let f := d.2.num 0 3652058 5
  let n := f.2.num 0 100 3
  ⟨a.1, c.1, d.1, f.1, n.1, n.2⟩
/-- What reading an entry gives: the entry, the error. -/
def readEnt (b : List UInt8) : Ent × Int :=
  let h := eheadP b
  let a := amsO h.n.toNat h.s
  if a.2.fe ≠ 0 then (Ent.zero, 4)
  else if h.k = 1 then
    (if (readTaxP (b.drop a.2.at_)).2.1 ≠ 0 then (Ent.zero, 4)
     else if (⟨h.k, h.id, h.of_, h.day, a.1, (readTaxP (b.drop a.2.at_)).1⟩ : Ent).check ≠ 0 then (Ent.zero, 4)
     else (⟨h.k, h.id, h.of_, h.day, a.1, (readTaxP (b.drop a.2.at_)).1⟩, 0))
  else if a.2.at_ < b.length then (Ent.zero, 4)
  else if (⟨h.k, h.id, h.of_, h.day, a.1, []⟩ : Ent).check ≠ 0 then (Ent.zero, 4)
  else (⟨h.k, h.id, h.of_, h.day, a.1, []⟩, 0)
theorem amsO_len : ∀ (n : Nat) (s : RS), (amsO n s).1.length = n
  | 0, _ => rfl
  | n + 1, s => by unfold amsO; simp [amsO_len n]
theorem amsO_snoc : ∀ (n : Nat) (s : RS), amsO (n + 1) s = ((amsO n s).1 ++ [((amsO n s).2.num 0 4611686018427387904 5).1], ((amsO n s).2.num 0 4611686018427387904 5).2)
  | 0, _ => rfl
  | n + 1, s => by
    rw [amsO, amsO_snoc n]
    simp [amsO]
theorem RS.num_b (s : RS) (lo hi above : Int) : (s.num lo hi above).2.b = s.b := by
  unfold RS.num
  simp only
  repeat' split
  all_goals rfl
theorem amsO_b : ∀ (n : Nat) (s : RS), (amsO n s).2.b = s.b
  | 0, _ => rfl
  | n + 1, s => by unfold amsO; simp only; rw [amsO_b n, RS.num_b]
theorem ehead_b (b : List UInt8) : (eheadP b).s.b = b := by
  unfold eheadP
  simp only [RS.num_b]
  rfl
theorem ehead_n (b : List UInt8) : 0 ≤ (eheadP b).n ∧ (eheadP b).n ≤ 100 := RS.num_bd _ 0 100 3 (by decide) (by decide)
theorem ams_put : ∀ (l : List Int) (s : RS) (rest : List UInt8), (∀ n ∈ l, win n 0 4611686018427387904 = true) → s.fe = 0 → s.b.drop s.at_ = putsL l ++ rest → ∃ s', amsO l.length s = (l, s') ∧ s'.fe = 0 ∧ s'.b = s.b ∧ s'.b.drop s'.at_ = rest ∧ s'.fa = s.fa
  | [], s, rest, _, h0, hd => ⟨s, rfl, h0, rfl, by simpa [putsL] using hd, rfl⟩
  | n :: l, s, rest, hok, h0, hd => by
    have b1 := win_bd (hok n (by simp))
    rw [putsL_cons, List.append_assoc] at hd
    obtain ⟨s1, e1, f1, g1, d1, a1⟩ := RS.num_put' (lo := 0) (hi := 4611686018427387904) (above := 5) h0 hd b1.1 b1.2 (by unfold i64; omega)
    obtain ⟨s3, e3, f3, g3, d3, a3⟩ := ams_put l s1 rest (fun y hy => hok y (by simp [hy])) f1 d1
    refine ⟨s3, ?_, f3, by rw [g3, g1], d3, by rw [a3, a1]⟩
    rw [List.length_cons, amsO, e1]
    simp only [e3]
theorem ams_inv : ∀ (n : Nat) (s : RS), (amsO n s).2.fe = 0 → s.Has (amsO n s).1 (amsO n s).2
  | 0, s, h => RS.Has.refl h
  | n + 1, s, h => by
    unfold amsO at h ⊢
    simp only at h ⊢
    have k1 := ams_inv n _ h
    obtain ⟨p1, p2, p3⟩ := RS.num_inv (by decide) k1.fe
    have := p1.trans k1
    simpa using this
theorem Ent.tax_nil {e : Ent} (h : e.check = 0) (hk : e.k ≠ 1) : e.tax = [] := by
  obtain ⟨_, _, hf⟩ := Ent.check_ok h
  unfold Ent.fine at hf
  rw [if_neg hk] at hf
  split at hf
  · simp only [Ent.refundFine, Bool.and_eq_true, decide_eq_true_eq] at hf
    exact List.eq_nil_of_length_eq_zero hf.2
  split at hf
  · simp only [Ent.voidFine, Bool.and_eq_true, decide_eq_true_eq] at hf
    exact List.eq_nil_of_length_eq_zero (by omega)
  · cases hf
theorem Ent.k_bd {e : Ent} (h : e.check = 0) : 1 ≤ e.k ∧ e.k ≤ 3 := by
  obtain ⟨_, _, hf⟩ := Ent.check_ok h
  unfold Ent.fine at hf
  split at hf
  · omega
  split at hf
  · omega
  split at hf
  · omega
  · cases hf
theorem Ent.tax_fine {e : Ent} (h : e.check = 0) (hk : e.k = 1) : (checkTax e.tax).1 = 0 := by
  obtain ⟨_, _, hf⟩ := Ent.check_ok h
  unfold Ent.fine at hf
  rw [if_pos hk] at hf
  simp only [Ent.saleFine, Bool.and_eq_true, decide_eq_true_eq] at hf
  exact hf.1.1.1
/-- P29.6: reading returns what was written. -/
theorem ent_put {e : Ent} (h : e.check = 0) : readEnt e.bytes = (e, 0) := by
  obtain ⟨hh, ha, _⟩ := Ent.check_ok h
  have hl := (Ent.i64b h).1
  unfold Ent.head at hh
  simp only [Bool.and_eq_true] at hh
  have w1 := win_bd hh.1.1
  have w2 := win_bd hh.1.2
  have w3 := win_bd hh.2
  have wk := Ent.k_bd h
  have hb : e.bytes = putL e.k ++ (putL e.id ++ (putL e.of_ ++ (putL e.day ++ (putL (e.am.length : Int) ++ (putsL e.am ++ (if e.k = 1 then taxBytes e.tax else [])))))) := by
    unfold Ent.bytes Ent.hd
    rw [if_pos h, putsL_app, putsL_cons, putsL_cons, putsL_cons, putsL_cons, putsL_one]
    simp only [List.append_assoc]
  have hT : e.k = 1 → readTaxP (taxBytes e.tax) = (e.tax, 0, 0) := fun hk => readTax_put (Ent.tax_fine h hk)
  have hN := Ent.tax_nil h
  generalize hbe : e.bytes = b at *
  obtain ⟨s1, e1, f1, g1, d1, a1⟩ := RS.num_put' (s := RS.start b) (lo := 1) (hi := 3) (above := 5) rfl hb wk.1 wk.2 (by unfold i64; omega)
  obtain ⟨s2, e2, f2, g2, d2, a2⟩ := RS.num_put' (s := s1) (lo := 1) (hi := 1099511627775) (above := 5) f1 d1 w1.1 w1.2 (by unfold i64; omega)
  obtain ⟨s3, e3, f3, g3, d3, a3⟩ := RS.num_put' (s := s2) (lo := 0) (hi := 1099511627775) (above := 5) f2 d2 w2.1 w2.2 (by unfold i64; omega)
  obtain ⟨s4, e4, f4, g4, d4, a4⟩ := RS.num_put' (s := s3) (lo := 0) (hi := 3652058) (above := 5) f3 d3 w3.1 w3.2 (by unfold i64; omega)
  obtain ⟨s5, e5, f5, g5, d5, a5⟩ := RS.num_put' (s := s4) (lo := 0) (hi := 100) (above := 3) f4 d4 (by omega) (by omega) (by unfold i64; omega)
  obtain ⟨s6, e6, f6, g6, d6, a6⟩ := ams_put e.am s5 _ (fun n hn => List.all_eq_true.1 ha n hn) f5 d5
  have hH : eheadP b = ⟨e.k, e.id, e.of_, e.day, e.am.length, s5⟩ := by
    unfold eheadP
    simp only [e1, e2, e3, e4, e5]
  have hbb : s6.b = b := by rw [g6, g5, g4, g3, g2, g1]; rfl
  rw [hbb] at d6
  unfold readEnt
  rw [hH]
  simp only [Int.toNat_natCast, e6]
  rw [if_neg (by simpa using f6)]
  by_cases hk : e.k = 1
  · rw [if_pos hk]
    rw [if_pos hk] at d6
    rw [d6, hT hk]
    simp only
    rw [if_neg (by simp), if_neg (by simpa using h)]
  · rw [if_neg hk]
    rw [if_neg hk] at d6
    have := drop_end d6
    have hn := hN hk
    obtain ⟨k, i, o, d, am, tx⟩ := e
    simp only at hn
    subst hn
    simp only at h ⊢
    rw [if_neg (by omega), if_neg (by simpa using h)]
theorem ehead_inv {b : List UInt8} (h : (eheadP b).s.fe = 0) : (RS.start b).Has [(eheadP b).k, (eheadP b).id, (eheadP b).of_, (eheadP b).day, (eheadP b).n] (eheadP b).s := by
  unfold eheadP at h ⊢
  simp only at h ⊢
  obtain ⟨p5, a5, b5⟩ := RS.num_inv (by decide) h
  obtain ⟨p4, a4, b4⟩ := RS.num_inv (by decide) p5.fe
  obtain ⟨p3, a3, b3⟩ := RS.num_inv (by decide) p4.fe
  obtain ⟨p2, a2, b2⟩ := RS.num_inv (by decide) p3.fe
  obtain ⟨p1, a1, b1⟩ := RS.num_inv (by decide) p2.fe
  have := (((p1.trans p2).trans p3).trans p4).trans p5
  simpa using this
/-- P29.6: writing returns the bytes that were read. -/
theorem ent_inv {b : List UInt8} (h : (readEnt b).2 = 0) : (readEnt b).1.check = 0 ∧ (readEnt b).1.bytes = b := by
  have hn := ehead_n b
  unfold readEnt at h ⊢
  simp only at h ⊢
  by_cases c1 : (amsO (eheadP b).n.toNat (eheadP b).s).2.fe ≠ 0
  · rw [if_pos c1] at h; cases h
  rw [if_neg c1] at h ⊢
  have hfe : (amsO (eheadP b).n.toNat (eheadP b).s).2.fe = 0 := by simpa using c1
  have k1 := ams_inv _ _ hfe
  have HH := (ehead_inv k1.fe).trans k1
  have hlen := amsO_len (eheadP b).n.toNat (eheadP b).s
  generalize amsO (eheadP b).n.toNat (eheadP b).s = A at *
  obtain ⟨am, s'⟩ := A
  simp only at *
  generalize eheadP b = H at *
  obtain ⟨k, id, of_, day, n, s⟩ := H
  simp only at *
  have hnn : n = (am.length : Int) := by omega
  have ht := HH.txt
  have h0 : (RS.start b).b.drop (RS.start b).at_ = b := by simp [RS.start]
  have h1 : (RS.start b).b = b := rfl
  rw [h0, h1, hnn] at ht
  by_cases c2 : k = 1
  · rw [if_pos c2] at h ⊢
    by_cases c3 : (readTaxP (b.drop s'.at_)).2.1 ≠ 0
    · rw [if_pos c3] at h; cases h
    rw [if_neg c3] at h ⊢
    obtain ⟨q1, q2⟩ := readTax_inv (b := b.drop s'.at_) (by simpa using c3)
    by_cases c4 : (⟨k, id, of_, day, am, (readTaxP (b.drop s'.at_)).1⟩ : Ent).check ≠ 0
    · rw [if_pos c4] at h; cases h
    rw [if_neg c4]
    have c4' : (⟨k, id, of_, day, am, (readTaxP (b.drop s'.at_)).1⟩ : Ent).check = 0 := by simpa using c4
    refine ⟨c4', ?_⟩
    unfold Ent.bytes Ent.hd
    rw [if_pos c4']
    simp only
    rw [if_pos c2, q2]
    exact ht.symm
  · rw [if_neg c2] at h ⊢
    by_cases c3 : s'.at_ < b.length
    · rw [if_pos c3] at h; cases h
    rw [if_neg c3] at h ⊢
    by_cases c4 : (⟨k, id, of_, day, am, []⟩ : Ent).check ≠ 0
    · rw [if_pos c4] at h; cases h
    rw [if_neg c4]
    have c4' : (⟨k, id, of_, day, am, []⟩ : Ent).check = 0 := by simpa using c4
    refine ⟨c4', ?_⟩
    unfold Ent.bytes Ent.hd
    rw [if_pos c4']
    simp only
    rw [if_neg c2]
    rw [List.drop_eq_nil_of_le (show b.length ≤ s'.at_ by omega)] at ht
    exact ht.symm
theorem tbytes_len' {l : List Tx} (h : (checkTax l).1 = 0) : (taxBytes l).length ≤ 1000000 := by
  have h2 := (checkTax_ok h).1
  unfold taxBytes
  rw [if_pos h]
  have := putsL_len ((l.length : Int) :: txInts l)
  rw [List.length_cons, txInts_len] at this
  omega
theorem readEnt_err (b : List UInt8) : (readEnt b).2 = 0 ∨ readEnt b = (Ent.zero, 4) := by
  unfold readEnt
  simp only
  repeat' split
  all_goals first | exact .inl rfl | exact .inr rfl
end Go.Proofs.Ytehkmngbknbbaaa
