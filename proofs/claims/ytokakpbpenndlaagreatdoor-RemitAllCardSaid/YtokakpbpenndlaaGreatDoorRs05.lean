/-
  Shares rounded half to even: plain arithmetic.
-/
import Derived.Test.YtokakpbpenndlaaGreatDoorRs04
import Derived.Test.YtokakpbpenndlaaGreatDoorProg
import Derived.Test.YtokakpbpenndlaaGreatDoorRs01
import Derived.Test.YtokakpbpenndlaaGreatDoorRs02
import Derived.Laws.MakeOwn
import Derived.Laws.CopyOwn
set_option linter.unusedVariables false
namespace Go.Proofs.YtokakpbpenndlaaGreatDoor

/-- Rounded up: the rest is more than half, or just half behind an odd quotient. -/
def evUp (q r c : Nat) : Bool := decide (c - r < r) || (decide (r = c - r) && decide (q % 2 = 1))
/-- a * b / c, rounded half to even. -/
def evenN (a b c : Nat) : Nat := if evUp (a * b / c) (a * b % c) c then a * b / c + 1 else a * b / c

theorem evenN_spec (a b c : Nat) (hc : 0 < c) : 2 * (a * b) ≤ (2 * evenN a b c + 1) * c ∧ 2 * evenN a b c * c ≤ 2 * (a * b) + c ∧
    (2 * (a * b) = (2 * evenN a b c + 1) * c → evenN a b c % 2 = 0) ∧ (2 * evenN a b c * c = 2 * (a * b) + c → evenN a b c % 2 = 0) := by
  have h1 := Nat.div_add_mod (a * b) c
  have h2 := Nat.mod_lt (a * b) hc
  unfold evenN
  generalize a * b / c = q at *
  generalize a * b % c = r at *
  generalize a * b = m at *
  have e1 : c * q = q * c := Nat.mul_comm _ _
  rw [e1] at h1
  have e2 : (2 * q + 1) * c = 2 * (q * c) + c := by rw [Nat.add_mul, Nat.mul_assoc, Nat.one_mul]
  have e3 : 2 * q * c = 2 * (q * c) := Nat.mul_assoc _ _ _
  have e4 : (2 * (q + 1) + 1) * c = 2 * (q * c) + 3 * c := by rw [Nat.add_mul, Nat.mul_assoc, Nat.add_mul, Nat.one_mul]; omega
  have e5 : 2 * (q + 1) * c = 2 * (q * c) + 2 * c := by rw [Nat.mul_assoc, Nat.add_mul, Nat.one_mul]; omega
  by_cases hu : evUp q r c = true
  · rw [if_pos hu, e4, e5]
    unfold evUp at hu
    simp only [Bool.or_eq_true, Bool.and_eq_true, decide_eq_true_eq] at hu
    omega
  · rw [if_neg hu, e2, e3]
    unfold evUp at hu
    simp only [Bool.or_eq_true, Bool.and_eq_true, decide_eq_true_eq] at hu
    omega
/-- Which numbers are the share: one alone. -/
theorem even_le {m m' c q q' : Nat} (hc : 0 < c) (hm : m ≤ m') (h2 : 2 * q * c ≤ 2 * m + c) (h2' : 2 * q * c = 2 * m + c → q % 2 = 0) (h1 : 2 * m' ≤ (2 * q' + 1) * c) (h1' : 2 * m' = (2 * q' + 1) * c → q' % 2 = 0) : q ≤ q' := by
  rcases Nat.lt_or_ge q' q with h | h
  · exfalso
    obtain ⟨k, rfl⟩ : ∃ k, q = q' + 1 + k := ⟨q - q' - 1, by omega⟩
    have e1 : 2 * (q' + 1 + k) * c = 2 * (q' * c) + 2 * c + 2 * (k * c) := by rw [Nat.mul_assoc, Nat.add_mul, Nat.add_mul, Nat.one_mul]; omega
    have e2 : (2 * q' + 1) * c = 2 * (q' * c) + c := by rw [Nat.add_mul, Nat.mul_assoc, Nat.one_mul]
    rw [e1] at h2 h2'
    rw [e2] at h1 h1'
    have hk : k * c = 0 := by omega
    have hk0 : k = 0 := by
      rcases Nat.mul_eq_zero.1 hk with h | h <;> omega
    have a1 := h2' (by omega)
    have a2 := h1' (by omega)
    omega
  · exact h
theorem evenN_mono {a b b' c : Nat} (hc : 0 < c) (h : b ≤ b') : evenN a b c ≤ evenN a b' c := by
  obtain ⟨_, h2, _, h2'⟩ := evenN_spec a b c hc
  obtain ⟨h1, _, h1', _⟩ := evenN_spec a b' c hc
  exact even_le hc (Nat.mul_le_mul_left a h) h2 h2' h1 h1'
theorem evenN_all {a c : Nat} (hc : 0 < c) : evenN a c c = a := by
  unfold evenN
  rw [Nat.mul_div_cancel _ hc, Nat.mul_mod_left]
  rw [if_neg]
  unfold evUp
  simp only [Bool.or_eq_true, Bool.and_eq_true, decide_eq_true_eq]
  omega
theorem evenN_zero {a c : Nat} (hc : 0 < c) : evenN a 0 c = 0 := by
  unfold evenN
  rw [Nat.mul_zero, Nat.zero_div, Nat.zero_mod, if_neg]
  unfold evUp
  simp only [Bool.or_eq_true, Bool.and_eq_true, decide_eq_true_eq]
  omega
theorem evenN_nil (b c : Nat) (hc : 0 < c) : evenN 0 b c = 0 := by
  unfold evenN
  rw [Nat.zero_mul, Nat.zero_div, Nat.zero_mod, if_neg]
  unfold evUp
  simp only [Bool.or_eq_true, Bool.and_eq_true, decide_eq_true_eq]
  omega
theorem evenN_le {a b c : Nat} (hc : 0 < c) (h : b ≤ c) : evenN a b c ≤ a := by
  have := evenN_mono (a := a) hc h
  rwa [evenN_all hc] at this
/-- Shares of rising parts rise by no more than the parts, where the whole of the shares is no more than the whole of the parts. -/
theorem evenN_step {a b b' c : Nat} (hc : 0 < c) (hac : a ≤ c) (h : b ≤ b') : evenN a b' c ≤ evenN a b c + (b' - b) := by
  obtain ⟨d, rfl⟩ : ∃ d, b' = b + d := ⟨b' - b, by omega⟩
  rw [Nat.add_sub_cancel_left]
  obtain ⟨h1, h2, h1', h2'⟩ := evenN_spec a b c hc
  obtain ⟨g1, g2, g1', g2'⟩ := evenN_spec a (b + d) c hc
  rcases Nat.eq_or_lt_of_le hac with hx | hx
  · subst hx
    have e : ∀ n, evenN a n a = n := by
      intro n
      unfold evenN
      rw [Nat.mul_div_cancel_left _ hc, Nat.mul_mod_right, if_neg]
      unfold evUp
      simp only [Bool.or_eq_true, Bool.and_eq_true, decide_eq_true_eq]
      omega
    rw [e, e]
    exact Nat.le_refl _
  · rcases Nat.eq_zero_or_pos d with hd | hd
    · subst hd; simp
    generalize evenN a b c = q at *
    generalize evenN a (b + d) c = p at *
    rcases Nat.lt_or_ge (q + d) p with hlt | hge
    · exfalso
      obtain ⟨k, rfl⟩ : ∃ k, p = q + d + 1 + k := ⟨p - (q + d) - 1, by omega⟩
      have e1 : 2 * (q + d + 1 + k) * c = 2 * (q * c) + 2 * (d * c) + 2 * c + 2 * (k * c) := by rw [Nat.mul_assoc, Nat.add_mul, Nat.add_mul, Nat.add_mul, Nat.one_mul]; omega
      have e2 : (2 * q + 1) * c = 2 * (q * c) + c := by rw [Nat.add_mul, Nat.mul_assoc, Nat.one_mul]
      have e3 : a * (b + d) = a * b + a * d := Nat.mul_add _ _ _
      have e4 : a * d < d * c := by rw [Nat.mul_comm d c]; exact Nat.mul_lt_mul_of_pos_right hx hd
      rw [e1, e3] at g2
      rw [e2] at h1
      omega
    · exact hge
end Go.Proofs.YtokakpbpenndlaaGreatDoor

set_option linter.unusedVariables false
namespace Go.Proofs.YtokakpbpenndlaaGreatDoor
open Go.RowKit

set_option maxRecDepth 100000 in
set_option maxHeartbeats 1000000 in
theorem evup_any (q r c : Nat) (hq : q < 18446744073709551616) (hr : r < c) (hc : c < 18446744073709551616) (bl : Bool) (w : World) :
    Calls Tryz.prog 190 #[.int .u64 (q : Int), .int .u64 (r : Int), .int .u64 (c : Int), .bool bl] w fun e w' => e = .returned (.bool (evUp q r c)) ∧ w = w' := by
  have e1 : IntKind.u64.wrap ((c : Int) - r) = ((c - r : Nat) : Int) := by rw [IntKind.wrap_u64]; omega
  have hH := Lib.hid hr
  unfold evUp
  go_enter Tryz.func190, Tryz.ntmps190
  go_wp2
  all_goals
    go_ret
    refine ⟨ret_bool ?_, rfl⟩
    have hr' := hH.out
    rw [Bool.eq_iff_iff]
    simp
    try omega

theorem sgn_nat (a : Nat) : 0 ≤ sgnI (a : Int) ∧ sgnI (a : Int) ≤ 1 := by unfold sgnI; split <;> (try split) <;> omega

set_option maxRecDepth 100000 in
set_option maxHeartbeats 2000000 in
theorem divide_nat (a b c : Nat) (ha : a < 9223372036854775808) (hb : b < 9223372036854775808) (hc : 0 < c) (hc2 : c < 9223372036854775808) (hq : evenN a b c < 9223372036854775808) (w : World) :
    Calls Tryz.prog 189 #[.int .i64 (a : Int), .int .i64 (b : Int), .int .i64 (c : Int), .func (.func 190) #[] #[]] w fun e w' => e = .returned (.tuple #[.int .i64 (evenN a b c : Int), .int .i64 0]) ∧ Ext w w' := by
  have h1 : ((c : Int) == 0) = false := by rw [beq_eq_false_iff_ne]; omega
  have h2 : decide ((c : Int) ≤ 0) = false := by simp; omega
  have hs : decide (RowKit.wrap64 (sgnI a * sgnI b * sgnI c) < 0) = false := by
    have s1 := sgn_nat a; have s2 := sgn_nat b; have s3 := sgn_nat c
    generalize sgnI (a : Int) = x at *
    generalize sgnI (b : Int) = y at *
    generalize sgnI (c : Int) = z at *
    have hx : x = 0 ∨ x = 1 := by omega
    have hy : y = 0 ∨ y = 1 := by omega
    have hz : z = 0 ∨ z = 1 := by omega
    rcases hx with rfl | rfl <;> rcases hy with rfl | rfl <;> rcases hz with rfl | rfl <;> simp [RowKit.wrap64]
  have hql : a * b / c < 9223372036854775808 := by
    have : a * b / c ≤ evenN a b c := by unfold evenN; split <;> omega
    omega
  have hhi : a * b / 18446744073709551616 < c := by
    rw [Nat.div_lt_iff_lt_mul (by decide)]
    have h1 : a * b < 9223372036854775808 * c := (Nat.div_lt_iff_lt_mul hc).1 hql
    omega
  have hrl := Nat.mod_lt (a * b) hc
  have HQ := Lib.hid hq
  clear hq
  generalize hm : a * b = m at *
  replace hm := Lib.hid hm
  go_enter Tryz.func189, Tryz.ntmps189
  go_wp2_with fail
  refine (wmul_nat a b ha hb _).mono ?_
  rintro e v1 ⟨rfl, rfl⟩
  rw [hm.out]
  have hd := Nat.div_add_mod m 18446744073709551616
  have hml : m % 18446744073709551616 < 18446744073709551616 := Nat.mod_lt _ (by decide)
  generalize m / 18446744073709551616 = mh at *
  generalize m % 18446744073709551616 = ml at *
  have h5 : decide ((c : Int) ≤ (mh : Int)) = false := by simp; omega
  replace hd := Lib.hid hd
  go_wp2_with (first | (go_at_call 202; refine (size_nat c hc2 _).mono ?_; rintro e w' ⟨rfl, rfl⟩) | (go_at_call 203; refine (sign_any _ _).mono ?_; rintro e w' ⟨rfl, rfl⟩))
  refine (div64_any mh ml c hhi hml (by omega) _).mono ?_
  rintro e v2 ⟨rfl, hx⟩
  rw [show mh * 18446744073709551616 + ml = m by rw [Nat.mul_comm]; exact hd.out]
  have HE := Lib.hid (show evenN a b c = if evUp (m / c) (m % c) c then m / c + 1 else m / c by unfold evenN; rw [hm.out])
  generalize m / c = q at *
  generalize m % c = r at *
  go_wp2_with fail
  refine (evup_any q r c (by omega) hrl (by omega) _ _).mono ?_
  rintro e v3 ⟨rfl, rfl⟩
  cases hu : evUp q r c
  · have HE2 := Lib.hid (HE.out.trans (by rw [hu]; rfl) : evenN a b c = q)
    have hq1 : q < 9223372036854775808 := by have := HQ.out; rw [HE2.out] at this; exact this
    go_wp2_with fail
    refine (signed_nat q hq1 _).mono ?_
    rintro e v4 ⟨rfl, rfl⟩
    go_wp2_with fail
    exact bodyPost_ret (results_tmp2 rfl _ _ _) rfl ⟨by rw [HE2.out]; rfl, hx⟩
  · have HE2 := Lib.hid (HE.out.trans (by rw [hu]; rfl) : evenN a b c = q + 1)
    have hq1 : q + 1 < 9223372036854775808 := by have := HQ.out; rw [HE2.out] at this; exact this
    have hb : ((q : Int) == 18446744073709551615) = false := by rw [beq_eq_false_iff_ne]; omega
    have hw : IntKind.u64.wrap ((q : Int) + 1) = ((q + 1 : Nat) : Int) := by rw [IntKind.wrap_u64]; omega
    go_wp2_with fail
    refine (signed_nat (q + 1) hq1 _).mono ?_
    rintro e v4 ⟨rfl, rfl⟩
    go_wp2_with fail
    exact bodyPost_ret (results_tmp2 rfl _ _ _) rfl ⟨by rw [HE2.out]; rfl, hx⟩
end Go.Proofs.YtokakpbpenndlaaGreatDoor

set_option linter.unusedVariables false
namespace Go.Proofs.YtokakpbpenndlaaGreatDoor

def win (n lo hi : Int) : Bool := decide (lo ≤ n) && decide (n ≤ hi)
theorem win_bd {n lo hi : Int} (h : win n lo hi = true) : lo ≤ n ∧ n ≤ hi := by simpa [win] using h
theorem win_mk {n lo hi : Int} (h : lo ≤ n) (h' : n ≤ hi) : win n lo hi = true := by simp [win, h, h']

def mAmt : Int := 1099511627775
structure Ln where
  c : Int
  a : Int
deriving DecidableEq
structure Ord where
  cu : Int
  day : Int
  px : Int
  py : Int
  ls : List Ln
deriving DecidableEq

def Ln.ok (l : Ln) : Bool := win l.c 1 1099511627775 && win l.a 0 1099511627775
/-- The place of the first line that may not be. -/
def badLn : List Ln → Nat → Option Nat
  | [], _ => none
  | l :: r, k => if l.ok then badLn r (k + 1) else some k
theorem badLn_take (ls : List Ln) : ∀ (s k : Nat) (hk : k < ls.length), badLn (ls.take k) s = none → (ls[k]).ok = true → badLn (ls.take (k + 1)) s = none := by
  induction ls with
  | nil => intro s k hk; simp at hk
  | cons l r ih =>
    intro s k hk h h'
    cases k with
    | zero => simp_all [badLn]
    | succ k =>
      simp only [List.take_succ_cons, badLn] at h ⊢
      split at h
      · rename_i hl; rw [if_pos hl]; exact ih _ k (by simpa using hk) h (by simpa using h')
      · cases h
theorem badLn_hit (ls : List Ln) : ∀ (s k : Nat) (hk : k < ls.length), badLn (ls.take k) s = none → (ls[k]).ok = false → badLn ls s = some (s + k) := by
  induction ls with
  | nil => intro s k hk; simp at hk
  | cons l r ih =>
    intro s k hk h h'
    cases k with
    | zero => simp_all [badLn]
    | succ k =>
      simp only [List.take_succ_cons, badLn] at h ⊢
      split at h
      · rename_i hl; rw [if_pos hl, ih (s + 1) k (by simpa using hk) h (by simpa using h')]; congr 1; omega
      · cases h
def Ord.head (o : Ord) : Bool := win o.cu 0 1099511627775 && win o.day 0 3652058 && win o.px (-1099511627775) 1099511627775 && win o.py (-1099511627775) 1099511627775
/-- P25.1: the error, and at which line. -/
def Ord.check (o : Ord) : Int × Int :=
  if o.head = false then (5, 0) else if o.ls.length = 0 then (2, 0) else if 100 < o.ls.length then (3, 0) else
    match badLn o.ls 0 with
    | some k => (5, k)
    | none => (0, 0)

theorem badLn_all (ls : List Ln) : ∀ s, badLn ls s = none → ∀ x ∈ ls, x.ok = true := by
  induction ls with
  | nil => intro s _ x hx; cases hx
  | cons l r ih =>
    intro s h x hx
    unfold badLn at h
    split at h
    · rename_i hl
      rcases List.mem_cons.1 hx with rfl | hx
      · exact hl
      · exact ih _ h x hx
    · cases h
/-- What a checked order is. -/
theorem Ord.check_ok {o : Ord} (h : o.check.1 = 0) : o.head = true ∧ 1 ≤ o.ls.length ∧ o.ls.length ≤ 100 ∧ ∀ x ∈ o.ls, x.ok = true := by
  unfold Ord.check at h
  by_cases h0 : o.head = false
  · rw [if_pos h0] at h; cases h
  rw [if_neg h0] at h
  by_cases h1 : o.ls.length = 0
  · rw [if_pos h1] at h; cases h
  rw [if_neg h1] at h
  by_cases h2 : 100 < o.ls.length
  · rw [if_pos h2] at h; cases h
  rw [if_neg h2] at h
  refine ⟨by simpa using h0, by omega, by omega, ?_⟩
  split at h
  · cases h
  · rename_i hb; exact badLn_all _ _ hb
theorem Ord.check_2 {o : Ord} (h : o.check.1 = 0) : o.check.2 = 0 := by
  unfold Ord.check at h ⊢
  by_cases h0 : o.head = false
  · rw [if_pos h0] at h; cases h
  rw [if_neg h0] at h ⊢
  by_cases h1 : o.ls.length = 0
  · rw [if_pos h1] at h; cases h
  rw [if_neg h1] at h ⊢
  by_cases h2 : 100 < o.ls.length
  · rw [if_pos h2] at h; cases h
  rw [if_neg h2] at h ⊢
  split at h
  · cases h
  · rename_i hb; simp
def lnInts (ls : List Ln) : List Int := ls.flatMap fun l => [l.c, l.a]
theorem lnInts_snoc (ls : List Ln) (k : Nat) (h : k < ls.length) : lnInts (ls.take (k + 1)) = lnInts (ls.take k) ++ [ls[k].c, ls[k].a] := by
  rw [List.take_succ_eq_append_getElem h]; unfold lnInts; rw [List.flatMap_append, List.flatMap_cons, List.flatMap_nil, List.append_nil]
theorem lnInts_len (ls : List Ln) : (lnInts ls).length = 2 * ls.length := by
  induction ls with
  | nil => rfl
  | cons a l ih => simp only [lnInts, List.flatMap_cons, List.length_append, List.length_cons] at *; rw [ih]; simp; omega
def Ord.hd (o : Ord) : List Int := [o.cu, o.day, o.px, o.py, o.ls.length]
end Go.Proofs.YtokakpbpenndlaaGreatDoor

set_option linter.unusedVariables false
namespace Go.Proofs.YtokakpbpenndlaaGreatDoor
open Go.RowKit

theorem within_any (n lo hi : Int) (w : World) :
    Calls Tryz.prog 169 #[.int .i64 n, .int .i64 lo, .int .i64 hi] w fun e w' => e = .returned (.bool (win n lo hi)) ∧ w = w' := by
  unfold win
  by_cases h1 : lo ≤ n <;> by_cases h2 : n ≤ hi
  all_goals
    go_enter Tryz.func169, Tryz.ntmps169
    go_wp2
    go_ret
    exact ⟨ret_bool (by simp [h1, h2]), rfl⟩
def Ln.cells (l : Ln) : List Value := [.int .i64 l.c, .int .i64 l.a]
def lnCells (ls : List Ln) : List Value := ls.flatMap Ln.cells
theorem lnCells_at (ls : List Ln) : ∀ (k : Nat) (h : k < ls.length), (lnCells ls)[k * 2]? = some (.int .i64 ls[k].c) ∧ (lnCells ls)[k * 2 + 1]? = some (.int .i64 ls[k].a) := by
  induction ls with
  | nil => intro k h; simp at h
  | cons l r ih =>
    intro k h
    cases k with
    | zero => simp [lnCells, Ln.cells]
    | succ k =>
      have := ih k (by simpa using h)
      simpa [lnCells, Ln.cells, Nat.add_mul, Nat.add_assoc] using this

end Go.Proofs.YtokakpbpenndlaaGreatDoor

set_option linter.unusedVariables false
namespace Go.Proofs.YtokakpbpenndlaaGreatDoor
open Go.RowKit

theorem run_make_rowN {P : Program} (t e : TypeId) (i : TypeInfo) (z : Value) (ht : P.underlying t = some (.slice e)) (hi : P.info? e = some i) (hz : i.zero = some z)
    (kl kc : IntKind) (n c : Nat) (hnc : n ≤ c) (hbytes : i.bytes * c ≤ 281474976710656) (h63 : c ≤ 9223372036854775807) (w : World) :
    (Instr.makeSlice t (.int kl (n : Int)) (.int kc (c : Int))).run P w = .ok (.slice (some ⟨w.heap.size, 0, none⟩) n c) (w.alloc (.cells (madeCells z.cells (c * i.size)) e)) := by
  have hb : (i.bytes : Int) * (c : Int) ≤ 281474976710656 := by
    have h : ((i.bytes * c : Nat) : Int) ≤ 281474976710656 := by omega
    rwa [Int.natCast_mul] at h
  have hr := run_make (P := P) w t e i z ht hi hz kl kc n c (by omega) (by omega) hb (by omega)
  simp only [Int.toNat_natCast] at hr
  exact hr
/-- n times one value, closed to simp. -/
def reps (n : Nat) (z : Value) : List Value := List.replicate n z
theorem RowT.make {P : Program} {t e : TypeId} {bytes : Nat} {z : Value} (T : RowT P t e 1 bytes z) (hz1 : z.cells = #[z]) (n : Nat) (hbytes : bytes * n ≤ 281474976710656) (h63 : n ≤ 9223372036854775807) (w : World) :
    (Instr.makeSlice t (.int .i64 (n : Int)) (.int .i64 (n : Int))).run P w = .ok (.slice (some ⟨w.heap.size, 0, none⟩) n n) (w.alloc (.cells (reps n z).toArray e)) := by
  obtain ⟨ht, ⟨i, hi, hz, hsize, hby⟩, hzs, hsz⟩ := T
  have := run_make_rowN t e i z ht hi hz .i64 .i64 n n (Nat.le_refl _) (by rw [hby]; exact hbytes) h63 w
  rw [this, hsize, Nat.mul_one]
  rw [hz1]
  unfold reps
  congr 3
  apply Array.ext'
  simpa [reps] using toList_madeCells_one z n

/-- Only block g has turned, and what is new. -/
theorem only_alloc {a w : World} {row : Option Nat} (h : a.grownBy w row) (o : Obj) : a.grownBy (w.alloc o) row :=
  ⟨h.os, h.tape, h.output, Nat.le_trans h.size (by simp), fun i hi hne => (Below.heap_alloc w o i (Nat.lt_of_lt_of_le hi h.size)).trans (h.block i hi hne)⟩
theorem only_drewN {a w : World} {row : Option Nat} (h : a.grownBy w row) (n : Nat) : a.grownBy (w.drewN n) row := ⟨h.os, h.tape, h.output, h.size, h.block⟩
theorem only_ext {a w w' : World} {row : Option Nat} (h : a.grownBy w row) (hx : Ext w w') : a.grownBy w' row :=
  ⟨hx.os.trans h.os, hx.tape.trans h.tape, hx.output.trans h.output, Nat.le_trans h.size hx.size, fun i hi hne => (hx.block i (Nat.lt_of_lt_of_le hi h.size)).trans (h.block i hi hne)⟩
theorem ext_only {a w w' : World} {row : Option Nat} (h : Ext a w) (hx : w.grownBy w' row) (hr : ∀ k, row = some k → a.heap.size ≤ k) : Ext a w' := h.grown hx hr
theorem only_set {a w : World} {g : Nat} (h : a.grownBy w (some g)) {p : Addr} (hp : p.block = g ∨ a.heap.size ≤ p.block) (u : Value) : a.grownBy (w.setCell p u) (some g) :=
  ⟨h.os, h.tape, h.output, by simpa [World.setCell] using h.size, fun i hi hne => (Below.heap_setCell w p u i (by
    rintro rfl
    rcases hp with hp | hp
    · exact hne (by rw [hp])
    · omega)).trans (h.block i hi hne)⟩
theorem only_trans {a b c : World} {row : Option Nat} (h : a.grownBy b row) (k : b.grownBy c row) : a.grownBy c row :=
  ⟨k.os.trans h.os, k.tape.trans h.tape, k.output.trans h.output, Nat.le_trans h.size k.size, fun i hi hne => (k.block i (Nat.lt_of_lt_of_le hi h.size) hne).trans (h.block i hi hne)⟩
theorem own_lit {w0 w : World} (hx : Ext w0 w) (cs : Array Value) (e : TypeId) (n size : Nat) {g : Nat} (hg : g = w.heap.size) (hm : n ≤ maxLen) (hs : cs.size = n * size) : (w.alloc (.cells cs e)).ownsRow w0.heap.size e size (.slice (some ⟨g, 0, none⟩) n n) n cs.toList := by
  subst hg
  exact World.ownsRow_lit w cs n hx.size hm hs
theorem own_set {w : World} {base : Nat} {e : TypeId} {size n : Nat} {v : Value} {xs : List Value} (h : w.ownsRow base e size v n xs) {a : Addr} (ha : v.ownBlock ≠ some a.block) (u : Value) : (w.setCell a u).ownsRow base e size v n xs := ownsRow_setCell_other h ha u

/-! ### Results that lie in memory -/
section
variable {fn : Func} {tmps : Array Value} {P : Program} {w : World}
theorem results_c {p : Tmp} {ty : TypeId} {a : Addr} {v : Value} (h : fn.results = #[.cell p ty]) (ha : tmps.getD p undef = .pointer (some a)) (hv : (loadVar ty a).run P w = .ok v w) : (results fn tmps).run P w = .ok v w := by
  simp only [results, h]
  simp at ha
  simp [ha, asAddr, hv]
theorem results_ct {p u : Tmp} {ty : TypeId} {a : Addr} {v : Value} (h : fn.results = #[.cell p ty, .tmp u]) (ha : tmps.getD p undef = .pointer (some a)) (hv : (loadVar ty a).run P w = .ok v w) : (results fn tmps).run P w = .ok (.tuple #[v, tmps.getD u undef]) w := by
  simp only [results, h]
  simp at ha
  simp [Result.andThen, ha, asAddr, hv]
theorem results_tc {p u : Tmp} {ty : TypeId} {a : Addr} {v : Value} (h : fn.results = #[.tmp u, .cell p ty]) (ha : tmps.getD p undef = .pointer (some a)) (hv : (loadVar ty a).run P w = .ok v w) : (results fn tmps).run P w = .ok (.tuple #[tmps.getD u undef, v]) w := by
  simp only [results, h]
  simp at ha
  simp [Result.andThen, ha, asAddr, hv]
theorem results_ttc {p u u' : Tmp} {ty : TypeId} {a : Addr} {v : Value} (h : fn.results = #[.tmp u, .tmp u', .cell p ty]) (ha : tmps.getD p undef = .pointer (some a)) (hv : (loadVar ty a).run P w = .ok v w) : (results fn tmps).run P w = .ok (.tuple #[tmps.getD u undef, tmps.getD u' undef, v]) w := by
  simp only [results, h]
  simp at ha
  simp [Result.andThen, ha, asAddr, hv]
theorem results_cc {p q : Tmp} {ty tq : TypeId} {a b : Addr} {v u : Value} (h : fn.results = #[.cell p ty, .cell q tq]) (ha : tmps.getD p undef = .pointer (some a)) (hv : (loadVar ty a).run P w = .ok v w) (hb : tmps.getD q undef = .pointer (some b)) (hu : (loadVar tq b).run P w = .ok u w) : (results fn tmps).run P w = .ok (.tuple #[v, u]) w := by
  simp only [results, h]
  simp at ha hb
  simp [Sem.run_bind, Result.andThen, ha, hb, asAddr, hv, hu]
end
end Go.Proofs.YtokakpbpenndlaaGreatDoor
