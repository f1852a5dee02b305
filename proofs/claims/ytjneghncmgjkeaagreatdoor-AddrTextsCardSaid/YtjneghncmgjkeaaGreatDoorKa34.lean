/-
  apportionref15: letter, digit, joins, sound, word.
-/
import Derived.Test.YtjneghncmgjkeaaGreatDoorKa33
import Derived.Test.YtjneghncmgjkeaaGreatDoorKa12
set_option linter.unusedVariables false
namespace Go.Proofs.YtjneghncmgjkeaaGreatDoor
open Go.RowKit

theorem clsB_2 (c : UInt8) : (clsB c == 2) = (decide (65 ≤ c.toNat ∧ c.toNat ≤ 90) || decide (97 ≤ c.toNat ∧ c.toNat ≤ 122)) := by
  unfold clsB
  by_cases h : (65 ≤ c.toNat ∧ c.toNat ≤ 90) ∨ (97 ≤ c.toNat ∧ c.toNat ≤ 122)
  · rw [if_pos h]
    rcases h with h | h
    · rw [decide_eq_true h]; rfl
    · rw [decide_eq_true h, Bool.or_true]; rfl
  · rw [if_neg h, decide_eq_false (fun h' => h (.inl h')), decide_eq_false (fun h' => h (.inr h'))]
    repeat' split
    all_goals rfl
theorem clsB_3 (c : UInt8) : (clsB c == 3) = decide (48 ≤ c.toNat ∧ c.toNat ≤ 57) := by
  unfold clsB
  by_cases h : 48 ≤ c.toNat ∧ c.toNat ≤ 57
  · rw [if_neg (by omega), if_pos h, decide_eq_true h]; rfl
  · rw [decide_eq_false h]
    repeat' split
    all_goals first | rfl | omega
theorem clsB_4 (c : UInt8) : (clsB c == 4) = decide (c.toNat = 45 ∨ c.toNat = 47 ∨ c.toNat = 39 ∨ c.toNat = 46) := by
  unfold clsB
  by_cases h : c.toNat = 45 ∨ c.toNat = 47 ∨ c.toNat = 39 ∨ c.toNat = 46
  · rw [if_neg (by omega), if_neg (by omega), if_pos h, decide_eq_true h]; rfl
  · rw [decide_eq_false h]
    repeat' split
    all_goals first | rfl | omega
theorem rletter_any (c : UInt8) (w : World) : Calls Tryz.prog 124 #[.int .u8 (c.toNat : Int)] w fun e w' => e = .returned (.bool (clsB c == 2)) ∧ w = w' := by
  rw [clsB_2]
  generalize c.toNat = n at *
  by_cases h1 : 65 ≤ n
  · have d1 : decide ((65 : Int) ≤ (n : Int)) = true := decide_eq_true (by omega)
    by_cases h2 : n ≤ 90
    · have d2 : decide ((n : Int) ≤ 90) = true := decide_eq_true (by omega)
      have hR := Lib.hid (show (decide (65 ≤ n ∧ n ≤ 90) || decide (97 ≤ n ∧ n ≤ 122)) = true by rw [decide_eq_true ⟨h1, h2⟩]; rfl)
      clear h1 h2
      go_enter Tryz.func124, Tryz.ntmps124
      go_wp2_with fail
      go_ret
      exact ⟨by rw [hR.out]; rfl, rfl⟩
    · have d2 : decide ((n : Int) ≤ 90) = false := decide_eq_false (by omega)
      by_cases h3 : 97 ≤ n
      · have d3 : decide ((97 : Int) ≤ (n : Int)) = true := decide_eq_true (by omega)
        by_cases h4 : n ≤ 122
        · have d4 : decide ((n : Int) ≤ 122) = true := decide_eq_true (by omega)
          have hR := Lib.hid (show (decide (65 ≤ n ∧ n ≤ 90) || decide (97 ≤ n ∧ n ≤ 122)) = true by rw [decide_eq_true (show 97 ≤ n ∧ n ≤ 122 from ⟨h3, h4⟩), Bool.or_true])
          clear h1 h2 h3 h4
          go_enter Tryz.func124, Tryz.ntmps124
          go_wp2_with fail
          go_ret
          exact ⟨by rw [hR.out]; rfl, rfl⟩
        · have d4 : decide ((n : Int) ≤ 122) = false := decide_eq_false (by omega)
          have hR := Lib.hid (show (decide (65 ≤ n ∧ n ≤ 90) || decide (97 ≤ n ∧ n ≤ 122)) = false by rw [decide_eq_false (show ¬ (65 ≤ n ∧ n ≤ 90) by omega), decide_eq_false (show ¬ (97 ≤ n ∧ n ≤ 122) by omega)]; rfl)
          clear h1 h2 h3 h4
          go_enter Tryz.func124, Tryz.ntmps124
          go_wp2_with fail
          go_ret
          exact ⟨by rw [hR.out, ← d4]; rfl, rfl⟩
      · have d3 : decide ((97 : Int) ≤ (n : Int)) = false := decide_eq_false (by omega)
        have hR := Lib.hid (show (decide (65 ≤ n ∧ n ≤ 90) || decide (97 ≤ n ∧ n ≤ 122)) = false by rw [decide_eq_false (show ¬ (65 ≤ n ∧ n ≤ 90) by omega), decide_eq_false (show ¬ (97 ≤ n ∧ n ≤ 122) by omega)]; rfl)
        clear h1 h2 h3
        go_enter Tryz.func124, Tryz.ntmps124
        go_wp2_with fail
        go_ret
        exact ⟨by rw [hR.out]; rfl, rfl⟩
  · have d1 : decide ((65 : Int) ≤ (n : Int)) = false := decide_eq_false (by omega)
    have d3 : decide ((97 : Int) ≤ (n : Int)) = false := decide_eq_false (by omega)
    have hR := Lib.hid (show (decide (65 ≤ n ∧ n ≤ 90) || decide (97 ≤ n ∧ n ≤ 122)) = false by rw [decide_eq_false (show ¬ (65 ≤ n ∧ n ≤ 90) by omega), decide_eq_false (show ¬ (97 ≤ n ∧ n ≤ 122) by omega)]; rfl)
    clear h1
    go_enter Tryz.func124, Tryz.ntmps124
    go_wp2_with fail
    go_ret
    exact ⟨by rw [hR.out]; rfl, rfl⟩
theorem rdigit_any (c : UInt8) (w : World) : Calls Tryz.prog 125 #[.int .u8 (c.toNat : Int)] w fun e w' => e = .returned (.bool (clsB c == 3)) ∧ w = w' := by
  rw [clsB_3]
  generalize c.toNat = n at *
  by_cases h1 : 48 ≤ n
  · have d1 : decide ((48 : Int) ≤ (n : Int)) = true := decide_eq_true (by omega)
    by_cases h2 : n ≤ 57
    · have d2 : decide ((n : Int) ≤ 57) = true := decide_eq_true (by omega)
      have hR := Lib.hid (show decide (48 ≤ n ∧ n ≤ 57) = true from decide_eq_true ⟨h1, h2⟩)
      clear h1 h2
      go_enter Tryz.func125, Tryz.ntmps125
      go_wp2_with fail
      go_ret
      exact ⟨by rw [hR.out]; rfl, rfl⟩
    · have d2 : decide ((n : Int) ≤ 57) = false := decide_eq_false (by omega)
      have hR := Lib.hid (show decide (48 ≤ n ∧ n ≤ 57) = false from decide_eq_false (by omega))
      clear h1 h2
      go_enter Tryz.func125, Tryz.ntmps125
      go_wp2_with fail
      go_ret
      exact ⟨by rw [hR.out, ← d2]; rfl, rfl⟩
  · have d1 : decide ((48 : Int) ≤ (n : Int)) = false := decide_eq_false (by omega)
    have hR := Lib.hid (show decide (48 ≤ n ∧ n ≤ 57) = false from decide_eq_false (by omega))
    clear h1
    go_enter Tryz.func125, Tryz.ntmps125
    go_wp2_with fail
    go_ret
    exact ⟨by rw [hR.out]; rfl, rfl⟩
theorem rsound_any (c : UInt8) (w : World) : Calls Tryz.prog 122 #[.int .u8 (c.toNat : Int)] w fun e w' => e = .returned (.bool (sndB c)) ∧ w = w' := by
  have H1 := Lib.hid (fun w => rletter_any c w)
  have H2 := Lib.hid (fun w => rdigit_any c w)
  unfold sndB
  generalize (clsB c == 3) = y at *
  generalize (clsB c == 2) = x at *
  generalize c.toNat = n at *
  go_enter Tryz.func122, Tryz.ntmps122
  go_wp2_with fail
  refine (H1.out _).mono ?_
  rintro e w1 ⟨rfl, rfl⟩
  cases x with
  | true =>
    go_wp2_with fail
    go_ret
    exact ⟨rfl, rfl⟩
  | false =>
    go_wp2_with fail
    refine (H2.out _).mono ?_
    rintro e w1 ⟨rfl, rfl⟩
    go_wp2_with fail
    go_ret
    exact ⟨rfl, rfl⟩
theorem rjoins_any (c : UInt8) (w : World) : Calls Tryz.prog 123 #[.int .u8 (c.toNat : Int)] w fun e w' => e = .returned (.bool (clsB c == 4)) ∧ w = w' := by
  rw [clsB_4]
  generalize c.toNat = n at *
  have q : ∀ k : Nat, ((n : Int) == (k : Int)) = decide (n = k) := fun k => by
    by_cases h : n = k
    · rw [decide_eq_true h, beq_iff_eq]; omega
    · rw [decide_eq_false h, beq_eq_false_iff_ne]; omega
  have q1 : ((n : Int) == 45) = decide (n = 45) := q 45
  have q2 : ((n : Int) == 47) = decide (n = 47) := q 47
  have q3 : ((n : Int) == 39) = decide (n = 39) := q 39
  have q4 : ((n : Int) == 46) = decide (n = 46) := q 46
  obtain ⟨b1, h1⟩ : ∃ b, decide (n = 45) = b := ⟨_, rfl⟩
  obtain ⟨b2, h2⟩ : ∃ b, decide (n = 47) = b := ⟨_, rfl⟩
  obtain ⟨b3, h3⟩ : ∃ b, decide (n = 39) = b := ⟨_, rfl⟩
  obtain ⟨b4, h4⟩ : ∃ b, decide (n = 46) = b := ⟨_, rfl⟩
  rw [h1] at q1
  rw [h2] at q2
  rw [h3] at q3
  rw [h4] at q4
  have hR := Lib.hid (show decide (n = 45 ∨ n = 47 ∨ n = 39 ∨ n = 46) = (b1 || (b2 || (b3 || b4))) by rw [← h1, ← h2, ← h3, ← h4]; simp [Bool.decide_or])
  generalize decide (n = 45 ∨ n = 47 ∨ n = 39 ∨ n = 46) = R at *
  clear q h1 h2 h3 h4
  cases b1 <;> cases b2 <;> cases b3 <;> cases b4
  all_goals
    go_enter Tryz.func123, Tryz.ntmps123
    go_wp2_with fail
    go_ret
    exact ⟨by rw [hR.out]; rfl, rfl⟩
end Go.Proofs.YtjneghncmgjkeaaGreatDoor

set_option linter.unusedVariables false
namespace Go.Proofs.YtjneghncmgjkeaaGreatDoor
open Go.RowKit

set_option maxRecDepth 100000 in
theorem rword_any (s : Bs) (i : Nat) (hi : i < s.length) (hs : s.length ≤ 100000) (w : World) : Calls Tryz.prog 101 #[.string ⟨s.toArray⟩, .int .i64 (i : Int)] w fun e w' => e = .returned (.bool (goesOn s i)) ∧ w = w' := by
  have hb : ∀ h, ((⟨s.toArray⟩ : ByteArray)[i]'h).toNat = s[i].toNat := fun _ => rfl
  have kz : (0 : Int) ≤ (i : Int) := by omega
  have kl : (i : Int) < (s.length : Int) := by omega
  have H1 := Lib.hid (fun w => rsound_any s[i] w)
  have H2 := Lib.hid (fun w => rjoins_any s[i] w)
  have hG : goesOn s i = (sndB s[i] || ((clsB s[i] == 4) && sndAt s (i - 1) && sndAt s (i + 1))) := by
    unfold goesOn
    rw [sndAt_lt hi, clsAt_lt hi]
  obtain ⟨R, hR⟩ : ∃ R, goesOn s i = R := ⟨_, rfl⟩
  rw [hR] at hG ⊢
  replace hR := Lib.hid hR
  obtain ⟨x, hx⟩ : ∃ x, sndB s[i] = x := ⟨_, rfl⟩
  obtain ⟨y, hy⟩ : ∃ y, (clsB s[i] == 4) = y := ⟨_, rfl⟩
  rw [hx] at hG H1
  rw [hy] at hG H2
  replace hx := Lib.hid hx
  replace hy := Lib.hid hy
  obtain ⟨n, hn⟩ : ∃ n, s[i].toNat = n := ⟨_, rfl⟩
  rw [hn] at H1 H2
  simp only [hn] at hb
  cases x with
  | true =>
    replace hG := Lib.hid hG
    go_enter Tryz.func101, Tryz.ntmps101
    go_wp2_with fail
    refine (H1.out _).mono ?_
    rintro e w1 ⟨rfl, rfl⟩
    go_wp2_with fail
    go_ret
    exact ⟨by rw [hG.out]; rfl, rfl⟩
  | false =>
    cases y with
    | false =>
      replace hG := Lib.hid hG
      go_enter Tryz.func101, Tryz.ntmps101
      go_wp2_with fail
      refine (H1.out _).mono ?_
      rintro e w1 ⟨rfl, rfl⟩
      go_wp2_with fail
      refine (H2.out _).mono ?_
      rintro e w1 ⟨rfl, rfl⟩
      go_wp2_with fail
      go_ret
      exact ⟨by rw [hG.out]; rfl, rfl⟩
    | true =>
      by_cases h0 : 0 < i
      rotate_left
      · have d0 : decide ((0 : Int) < (i : Int)) = false := decide_eq_false (by omega)
        have d0' : decide (0 < i) = false := decide_eq_false h0
        have hi0 : i - 1 = i := by omega
        have hGf := Lib.hid (show R = false by rw [hG, hi0, sndAt_lt hi, hx.out]; rfl)
        clear hG h0 hi0
        go_enter Tryz.func101, Tryz.ntmps101
        go_wp2_with fail
        refine (H1.out _).mono ?_
        rintro e w1 ⟨rfl, rfl⟩
        go_wp2_with fail
        refine (H2.out _).mono ?_
        rintro e w1 ⟨rfl, rfl⟩
        go_wp2_with fail
        go_ret
        exact ⟨by rw [hGf.out]; rfl, rfl⟩
      have d0 : decide ((0 : Int) < (i : Int)) = true := decide_eq_true (by omega)
      have d0' : decide (0 < i) = true := decide_eq_true h0
      obtain ⟨m, hm⟩ : ∃ m, i = m + 1 := ⟨i - 1, by omega⟩
      have ew1 : IntKind.i64.wrap ((i : Int) - 1) = (m : Int) := by rw [IntKind.wrap_i64]; omega
      have ew2 : IntKind.i64.wrap ((i : Int) + 1) = ((i + 1 : Nat) : Int) := by rw [IntKind.wrap_i64]; omega
      have hml : m < s.length := by omega
      by_cases h1 : i + 1 < s.length
      rotate_left
      · have d1 : decide (((i + 1 : Nat) : Int) < (s.length : Int)) = false := decide_eq_false (by omega)
        have d1' : decide ((i : Int) + 1 < (s.length : Int)) = false := decide_eq_false (by omega)
        have hGf := Lib.hid (show R = false by rw [hG, sndAt_end (i := i + 1) (by omega), Bool.and_false]; rfl)
        clear hG h0 h1 hm
        go_enter Tryz.func101, Tryz.ntmps101
        go_wp2_with fail
        refine (H1.out _).mono ?_
        rintro e w1 ⟨rfl, rfl⟩
        go_wp2_with fail
        refine (H2.out _).mono ?_
        rintro e w1 ⟨rfl, rfl⟩
        go_wp2_with fail
        go_ret
        exact ⟨by rw [hGf.out]; rfl, rfl⟩
      have d1 : decide (((i + 1 : Nat) : Int) < (s.length : Int)) = true := decide_eq_true (by omega)
      have d1' : decide ((i : Int) + 1 < (s.length : Int)) = true := decide_eq_true (by omega)
      have hb1 : ∀ h, ((⟨s.toArray⟩ : ByteArray)[m]'h).toNat = s[m].toNat := fun _ => rfl
      have hb2 : ∀ h, ((⟨s.toArray⟩ : ByteArray)[i + 1]'h).toNat = s[i + 1].toNat := fun _ => rfl
      have H3 := Lib.hid (fun w => rsound_any s[m] w)
      have H4 := Lib.hid (fun w => rsound_any s[i + 1] w)
      have hm1 : i - 1 = m := by omega
      rw [hm1, sndAt_lt hml, sndAt_lt h1] at hG
      generalize sndB s[m] = a at *
      generalize sndB s[i + 1] = b at *
      obtain ⟨n1, hn1⟩ : ∃ n, s[m].toNat = n := ⟨_, rfl⟩
      obtain ⟨n2, hn2⟩ : ∃ n, s[i + 1].toNat = n := ⟨_, rfl⟩
      rw [hn1] at H3
      rw [hn2] at H4
      simp only [hn1] at hb1
      simp only [hn2] at hb2
      have mz : (0 : Int) ≤ (m : Int) := by omega
      have ml : (m : Int) < (s.length : Int) := by omega
      have iz : (0 : Int) ≤ ((i + 1 : Nat) : Int) := by omega
      have il : ((i + 1 : Nat) : Int) < (s.length : Int) := by omega
      replace hG := Lib.hid hG
      replace hm := Lib.hid hm
      clear h0 hm1
      go_enter Tryz.func101, Tryz.ntmps101
      go_wp2_with fail
      refine (H1.out _).mono ?_
      rintro e w1 ⟨rfl, rfl⟩
      go_wp2_with fail
      refine (H2.out _).mono ?_
      rintro e w1 ⟨rfl, rfl⟩
      go_wp2_with fail
      refine (H3.out _).mono ?_
      rintro e w1 ⟨rfl, rfl⟩
      cases a with
      | false =>
        go_wp2_with fail
        go_ret
        exact ⟨by rw [hG.out]; rfl, rfl⟩
      | true =>
        go_wp2_with fail
        refine (H4.out _).mono ?_
        rintro e w1 ⟨rfl, rfl⟩
        go_wp2_with fail
        go_ret
        exact ⟨by rw [hG.out]; cases b <;> rfl, rfl⟩
end Go.Proofs.YtjneghncmgjkeaaGreatDoor
