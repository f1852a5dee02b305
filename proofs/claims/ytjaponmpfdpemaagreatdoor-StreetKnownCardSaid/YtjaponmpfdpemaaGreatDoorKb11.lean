/-
  math/bits.Div64, whole.
-/
import Derived.Test.YtjaponmpfdpemaaGreatDoorKb10
set_option linter.unusedVariables false
namespace Go.Proofs.YtjaponmpfdpemaaGreatDoor
open Go.RowKit


/-- A division's setting, brought up by s bits. -/
structure DivS (h l y s Y y1 y0 u L d1 d0 : Nat) : Prop where
  eY : Y = y * 2 ^ s
  eu : u = h * 2 ^ s + l / 2 ^ (64 - s)
  eL : L = l * 2 ^ s % 2 ^ 64
  e1 : y1 = Y / 4294967296
  e0 : y0 = Y % 4294967296
  f1 : d1 = L / 4294967296
  f0 : d0 = L % 4294967296
  hs : s ≤ 63
  hY1 : 9223372036854775808 ≤ Y
  hY2 : Y < 18446744073709551616
  hh : h < y
  hl : l < 18446744073709551616
theorem p64 (s : Nat) (hs : s ≤ 64) : 2 ^ (64 - s) * 2 ^ s = 18446744073709551616 := by rw [← Nat.pow_add, show 64 - s + s = 64 by omega]
theorem DivS.bit {h l y s Y y1 y0 u L d1 d0 : Nat} (D : DivS h l y s Y y1 y0 u L d1 d0) : l / 2 ^ (64 - s) < 2 ^ s := by
  rw [Nat.div_lt_iff_lt_mul (Nat.pow_pos (by decide)), Nat.mul_comm, p64 s (by have := D.hs; omega)]
  exact D.hl
theorem DivS.hsh {h l y s Y y1 y0 u L d1 d0 : Nat} (D : DivS h l y s Y y1 y0 u L d1 d0) : h * 2 ^ s + 2 ^ s ≤ Y := by
  have : (h + 1) * 2 ^ s ≤ y * 2 ^ s := Nat.mul_le_mul_right _ D.hh
  rw [Nat.add_mul, Nat.one_mul] at this
  rw [D.eY]; exact this
theorem DivS.ulty {h l y s Y y1 y0 u L d1 d0 : Nat} (D : DivS h l y s Y y1 y0 u L d1 d0) : u < Y := by
  have := D.bit; have := D.hsh; have := D.eu; omega
theorem DivS.split {h l y s Y y1 y0 u L d1 d0 : Nat} (D : DivS h l y s Y y1 y0 u L d1 d0) : (h * 18446744073709551616 + l) * 2 ^ s = u * 18446744073709551616 + d1 * 4294967296 + d0 := by
  have hp := p64 s (by have := D.hs; omega)
  have e2 : l * 2 ^ s = l / 2 ^ (64 - s) * 18446744073709551616 + L := by
    rw [D.eL]
    have h1 := Nat.div_add_mod (l * 2 ^ s) (2 ^ 64)
    have h2 : l * 2 ^ s / 2 ^ 64 = l / 2 ^ (64 - s) := by
      rw [show (2 : Nat) ^ 64 = 2 ^ (64 - s) * 2 ^ s by rw [hp], Nat.mul_div_mul_right _ _ (Nat.pow_pos (by decide))]
    rw [h2] at h1
    rw [Nat.mul_comm (2 ^ 64)] at h1
    exact h1.symm
  have e3 : L = d1 * 4294967296 + d0 := by rw [D.f1, D.f0, Nat.mul_comm]; exact (Nat.div_add_mod L 4294967296).symm
  rw [Nat.add_mul, e2, D.eu, Nat.add_mul]
  have e4 : h * 18446744073709551616 * 2 ^ s = h * 2 ^ s * 18446744073709551616 := by rw [Nat.mul_assoc, Nat.mul_comm 18446744073709551616, Nat.mul_assoc]
  rw [e4]
  omega
theorem DivS.half1 {h l y s Y y1 y0 u L d1 d0 : Nat} (D : DivS h l y s Y y1 y0 u L d1 d0) : HalfS Y y1 y0 u d1 := by
  have a := D.e1; have b := D.e0; have c := D.hY1; have d := D.hY2
  refine ⟨by omega, by omega, by omega, by omega, D.ulty, ?_⟩
  have := D.f1; have := D.eL
  have : L < 2 ^ 64 := by rw [D.eL]; exact Nat.mod_lt _ (by decide)
  omega
theorem DivS.half0 {h l y s Y y1 y0 u L d1 d0 : Nat} (D : DivS h l y s Y y1 y0 u L d1 d0) : HalfS Y y1 y0 (hr Y u d1) d0 := by
  have H := D.half1
  exact ⟨H.hy, H.h1, H.h1', H.h0, H.rlt, by have := D.f0; omega⟩
theorem DivS.quo {h l y s Y y1 y0 u L d1 d0 : Nat} (D : DivS h l y s Y y1 y0 u L d1 d0) : hq Y u d1 * 4294967296 + hq Y (hr Y u d1) d0 = (h * 18446744073709551616 + l) / y := by
  have hp : 0 < 2 ^ s := Nat.pow_pos (by decide)
  have := (two_halves Y u d1 d0 D.half1.ypos D.half0.hd).1
  rw [← D.split, D.eY, (scaled _ y _ hp).1] at this
  rw [D.eY]; exact this.symm
theorem DivS.rem {h l y s Y y1 y0 u L d1 d0 : Nat} (D : DivS h l y s Y y1 y0 u L d1 d0) : hr Y (hr Y u d1) d0 / 2 ^ s = (h * 18446744073709551616 + l) % y := by
  have hp : 0 < 2 ^ s := Nat.pow_pos (by decide)
  have := (two_halves Y u d1 d0 D.half1.ypos D.half0.hd).2
  rw [← D.split, D.eY, (scaled _ y _ hp).2] at this
  rw [D.eY, ← this, Nat.mul_div_cancel _ hp]
theorem u64_wrap_nat (n : Nat) (h : n < 18446744073709551616) : IntKind.u64.wrap (n : Int) = (n : Int) := by rw [IntKind.wrap_u64]; omega
theorem DivS.g1 {h l y s Y y1 y0 u L d1 d0 : Nat} (D : DivS h l y s Y y1 y0 u L d1 d0) : IntKind.u64.wrap ((y : Int) * 2 ^ s) = (Y : Int) := by
  have e : ((y : Int) * 2 ^ s) = ((y * 2 ^ s : Nat) : Int) := by simp
  rw [e, ← D.eY, u64_wrap_nat _ D.hY2]
theorem DivS.g4 {h l y s Y y1 y0 u L d1 d0 : Nat} (D : DivS h l y s Y y1 y0 u L d1 d0) : bits BinOp.or IntKind.u64 (IntKind.u64.wrap ((h : Int) * 2 ^ s)) ((l : Int) / 2 ^ (64 - s)) = (u : Int) := by
  have e1 : ((h : Int) * 2 ^ s) = ((h * 2 ^ s : Nat) : Int) := by simp
  have e2 : ((l : Int) / 2 ^ (64 - s)) = ((l / 2 ^ (64 - s) : Nat) : Int) := by simp
  have b := D.bit; have c := D.hsh; have d := D.hY2
  have k1 : h * 2 ^ s < 18446744073709551616 := Nat.lt_of_le_of_lt (Nat.le_trans (Nat.le_add_right _ _) c) d
  have k2 : l / 2 ^ (64 - s) < 18446744073709551616 := Nat.lt_of_lt_of_le b (Nat.le_trans (Nat.le_trans (Nat.le_add_left _ _) c) (Nat.le_of_lt d))
  rw [e1, e2, u64_wrap_nat _ k1, u64_or_nat _ _ k1 k2, D.eu]
  congr 1
  rw [← Nat.shiftLeft_eq, ← Nat.shiftLeft_add_eq_or_of_lt b]
theorem DivS.g5 {h l y s Y y1 y0 u L d1 d0 : Nat} (D : DivS h l y s Y y1 y0 u L d1 d0) : IntKind.u64.wrap ((l : Int) * 2 ^ s) = (L : Int) := by
  have e : ((l : Int) * 2 ^ s) = ((l * 2 ^ s : Nat) : Int) := by simp
  rw [e, IntKind.wrap_u64, D.eL]
  simp
theorem and_half (n : Nat) (h : n < 18446744073709551616) : bits BinOp.and IntKind.u64 (n : Int) 4294967295 = ((n % 4294967296 : Nat) : Int) := by
  have := u64_and_nat n 4294967295 h (by decide)
  rw [show (4294967295 : Nat) = 2 ^ 32 - 1 by decide, Nat.and_two_pow_sub_one_eq_mod] at this
  exact this
theorem DivS.llt {h l y s Y y1 y0 u L d1 d0 : Nat} (D : DivS h l y s Y y1 y0 u L d1 d0) : L < 18446744073709551616 := by rw [D.eL]; exact Nat.mod_lt _ (by decide)

/-- The first guess and its rest, as the machine reckons them. -/
theorem guess {Y y1 y0 u d : Nat} (H : HalfS Y y1 y0 u d) (hY : Y < 18446744073709551616) : IntKind.u64.wrap ((u : Int) / y1) = ((u / y1 : Nat) : Int) ∧ IntKind.u64.wrap ((u : Int) - IntKind.u64.wrap (((u / y1 : Nat) : Int) * y1)) = ((u % y1 : Nat) : Int) := by
  have hu := H.hu
  have h1 := Nat.div_le_self u y1
  have h2 := Nat.div_add_mod u y1
  have e : ((u : Int) / y1) = ((u / y1 : Nat) : Int) := by simp
  have e2 : (((u / y1 : Nat) : Int) * y1) = ((y1 * (u / y1) : Nat) : Int) := by rw [Nat.mul_comm]; simp
  rw [e, e2]
  generalize u / y1 = q at *
  generalize y1 * q = m at *
  generalize u % y1 = r at *
  rw [IntKind.wrap_u64, IntKind.wrap_u64, IntKind.wrap_u64]
  omega
theorem rest64 {Y y1 y0 u d : Nat} (H : HalfS Y y1 y0 u d) (hY : Y < 18446744073709551616) : IntKind.u64.wrap (IntKind.u64.wrap (IntKind.u64.wrap ((u : Int) * 4294967296) + d) - IntKind.u64.wrap ((hq Y u d : Int) * Y)) = (hr Y u d : Int) := by
  have h1 := H.rest
  have h2 := H.rlt
  rw [IntKind.wrap_u64, IntKind.wrap_u64, IntKind.wrap_u64, IntKind.wrap_u64]
  generalize (hq Y u d : Int) * Y = m at *
  generalize hr Y u d = r at *
  omega
/-- A round's way: on, or out by the break, or out by the test. -/
theorem HalfR.ways {Y y1 y0 u d a b : Nat} (H : HalfS Y y1 y0 u d) (hR : HalfR Y y1 u d a b) :
    (b + y1 < 4294967296 ∧ 1 ≤ a ∧ HalfR Y y1 u d (a - 1) (b + y1) ∧ (4294967296 ≤ a ∨ (a < 4294967296 ∧ 4294967296 * b + d < a * y0))) ∨
    (4294967296 ≤ b + y1 ∧ 1 ≤ a ∧ a - 1 = hq Y u d ∧ (4294967296 ≤ a ∨ (a < 4294967296 ∧ 4294967296 * b + d < a * y0))) ∨
    (a = hq Y u d ∧ a < 4294967296 ∧ a * y0 ≤ 4294967296 * b + d) := by
  by_cases ht : 4294967296 ≤ a ∨ 4294967296 * b + d < a * y0
  · obtain ⟨ha, hN⟩ := HalfR.next H hR ht
    have ht' : 4294967296 ≤ a ∨ (a < 4294967296 ∧ 4294967296 * b + d < a * y0) := by
      rcases Nat.lt_or_ge a 4294967296 with h | h
      · exact .inr ⟨h, by omega⟩
      · exact .inl h
    rcases Nat.lt_or_ge (b + y1) 4294967296 with h | h
    · exact .inl ⟨h, ha, hN, ht'⟩
    · exact .inr (.inl ⟨h, ha, HalfR.brk H hN h (by have := hR.le; omega), ht'⟩)
  · exact .inr (.inr ⟨HalfR.done H hR (by omega), by omega, by omega⟩)
theorem mul_lt64 {a b : Nat} (h1 : a < 4294967296) (h2 : b < 4294967296) : a * b < 18446744073709551616 := by
  have := Nat.mul_le_mul (show a ≤ 4294967295 by omega) (show b ≤ 4294967295 by omega)
  omega
theorem dmul {a y0 : Nat} (h1 : a < 4294967296) (h2 : y0 < 4294967296) : IntKind.u64.wrap ((a : Int) * y0) = (a : Int) * y0 := by
  have := mul_lt64 h1 h2
  have e : ((a : Int) * y0) = ((a * y0 : Nat) : Int) := by simp
  rw [e, u64_wrap_nat _ this]
theorem dtest {a y0 b d : Nat} {r : Bool} (h : decide (4294967296 * b + d < a * y0) = r) : decide (4294967296 * (b : Int) + d < (a : Int) * y0) = r := by
  rw [← h]
  have e : ((a : Int) * y0) = ((a * y0 : Nat) : Int) := by simp
  rw [e]
  generalize a * y0 = m
  congr 1
  rw [eq_iff_iff]
  omega
theorem div_end {Q Q' U' s DQ DR : Nat} (h1 : Q * 4294967296 + Q' = DQ) (h2 : U' / 2 ^ s = DR) : Ending.returned (.tuple #[.int .u64 ((Q : Int) * 4294967296 + Q'), .int .u64 ((U' : Int) / 2 ^ s)]) = .returned (.tuple #[.int .u64 (DQ : Int), .int .u64 (DR : Int)]) := by
  subst h1 h2
  simp
def DRel (Y y1 u d : Nat) (q r : Value) : Prop := ∃ a b : Nat, HalfR Y y1 u d a b ∧ b < 4294967296 ∧ q = .int .u64 (a : Int) ∧ r = .int .u64 (b : Int)

set_option maxRecDepth 100000 in
set_option maxHeartbeats 1000000 in
theorem div64_lo (l y : Nat) (hl : l < 18446744073709551616) (hy : 0 < y) (hy2 : y < 18446744073709551616) (w : World) :
    Calls Tryz.prog 99 #[.int .u64 0, .int .u64 (l : Int), .int .u64 (y : Int)] w fun e w' => e = .returned (.tuple #[.int .u64 ((l / y : Nat) : Int), .int .u64 ((l % y : Nat) : Int)]) ∧ Ext w w' := by
  have h1 : ((y : Int) == 0) = false := by rw [beq_eq_false_iff_ne]; omega
  have h2 : decide ((y : Int) ≤ 0) = false := by simp; omega
  have h3 : (y : Int) ≠ 0 := by omega
  go_enter Tryz.func99, Tryz.ntmps99
  go_wp2_with fail
  go_quiet (fail)
  go_wp2_with fail
  refine bodyPost_ret (results_tmp2 rfl _ _ _) rfl ⟨?_, (Ext.refl w).drewN _⟩
  have e : IntKind.u64.wrap ((l : Int) / (y : Int)) = ((l / y : Nat) : Int) := by
    have h := Nat.div_le_self l y
    rw [← Int.natCast_ediv, IntKind.wrap_u64]
    generalize l / y = q at *
    omega
  simp [e]

set_option maxRecDepth 100000 in
set_option maxHeartbeats 4000000 in
theorem div64_hi (h l y : Nat) (hh : 0 < h) (hhy : h < y) (hl : l < 18446744073709551616) (hy2 : y < 18446744073709551616) (w : World) :
    Calls Tryz.prog 99 #[.int .u64 (h : Int), .int .u64 (l : Int), .int .u64 (y : Int)] w fun e w' => e = .returned (.tuple #[.int .u64 (((h * 18446744073709551616 + l) / y : Nat) : Int), .int .u64 (((h * 18446744073709551616 + l) % y : Nat) : Int)]) ∧ Ext w w' := by
  have h1 : ((y : Int) == 0) = false := by rw [beq_eq_false_iff_ne]; omega
  have h2 : decide ((y : Int) ≤ h) = false := by simp; omega
  have h3 : ((h : Int) == 0) = false := by rw [beq_eq_false_iff_ne]; omega
  have hs := (lzN_le y (by omega) hy2).1
  have hn := lz_norm y (by omega) hy2
  have hlz := lz_any y hy2
  generalize lzN y = s at *
  obtain ⟨Y, hY⟩ : ∃ Y : Nat, Y = y * 2 ^ s := ⟨_, rfl⟩
  obtain ⟨u, hu⟩ : ∃ u : Nat, u = h * 2 ^ s + l / 2 ^ (64 - s) := ⟨_, rfl⟩
  obtain ⟨L, hL⟩ : ∃ L : Nat, L = l * 2 ^ s % 2 ^ 64 := ⟨_, rfl⟩
  obtain ⟨y1, hy1⟩ : ∃ y1 : Nat, y1 = Y / 4294967296 := ⟨_, rfl⟩
  obtain ⟨y0, hy0⟩ : ∃ y0 : Nat, y0 = Y % 4294967296 := ⟨_, rfl⟩
  obtain ⟨d1, hd1⟩ : ∃ d1 : Nat, d1 = L / 4294967296 := ⟨_, rfl⟩
  obtain ⟨d0, hd0⟩ : ∃ d0 : Nat, d0 = L % 4294967296 := ⟨_, rfl⟩
  have D : DivS h l y s Y y1 y0 u L d1 d0 := ⟨hY, hu, hL, hy1, hy0, hd1, hd0, hs, by rw [hY]; exact hn.1, by rw [hY]; exact hn.2, hhy, hl⟩
  have g1 := D.g1
  have g2 : (Y : Int) / 4294967296 = (y1 : Int) := by omega
  have g3 : bits BinOp.and IntKind.u64 (Y : Int) 4294967295 = (y0 : Int) := by rw [and_half _ D.hY2, ← hy0]
  have g4 := D.g4
  have g5 := D.g5
  have g6 : (L : Int) / 4294967296 = (d1 : Int) := by omega
  have g7 : bits BinOp.and IntKind.u64 (L : Int) 4294967295 = (d0 : Int) := by rw [and_half _ D.llt, ← hd0]
  clear hY hu hL hy1 hy0 hd1 hd0 hn
  replace hlz := Lib.hid hlz
  have H1 := D.half1
  have b1 := H1.h1
  have b1' := H1.h1'
  have b0 := H1.h0
  have bu := D.ulty
  have bY := D.hY2
  have bL := D.llt
  have bd := H1.hd
  have bd0 := D.half0.hd
  have h4 : ((y1 : Int) == 0) = false := by rw [beq_eq_false_iff_ne]; omega
  have bq := H1.start.le
  obtain ⟨k1, k2⟩ := guess H1 D.hY2
  have HH := Lib.hid H1
  have hquo := D.quo
  have hrem := D.rem
  generalize hDQ : (h * 18446744073709551616 + l) / y = DQ at *
  generalize hDR : (h * 18446744073709551616 + l) % y = DR at *
  replace hDQ := Lib.hid hDQ
  replace hDR := Lib.hid hDR
  have k3 := rest64 H1 D.hY2
  have bQ := H1.qlt
  have H0 := D.half0
  have bU := H0.hu
  generalize hqe : hq Y u d1 = Q at *
  generalize hre : hr Y u d1 = U at *
  replace hqe := Lib.hid hqe
  replace hre := Lib.hid hre
  obtain ⟨k4, k5⟩ := guess H0 D.hY2
  have bq0 := H0.start.le
  have HH0 := Lib.hid H0
  have k6 := rest64 H0 D.hY2
  have bQ' := H0.qlt
  have bU' := H0.rlt
  generalize hqe' : hq Y U d0 = Q' at *
  generalize hre' : hr Y U d0 = U' at *
  replace hqe' := Lib.hid hqe'
  replace hre' := Lib.hid hre'
  replace hquo := Lib.hid hquo
  replace hrem := Lib.hid hrem
  generalize hqa : u / y1 = qa at *
  generalize hra : u % y1 = ra at *
  generalize hqb : U / y1 = qb at *
  generalize hrb : U % y1 = rb at *
  replace k1 : IntKind.u64.wrap ((u : Int) / y1) = (qa : Int) := k1
  replace k4 : IntKind.u64.wrap ((U : Int) / y1) = (qb : Int) := k4
  replace hqa := Lib.hid hqa
  replace hra := Lib.hid hra
  replace hqb := Lib.hid hqb
  replace hrb := Lib.hid hrb
  clear D H0 H1
  go_enter Tryz.func99, Tryz.ntmps99
  go_wp2_with (go_at_call 133; refine (hlz.out _).mono ?_; rintro e w' ⟨rfl, rfl⟩)
  clear g1 g2 g3 g4 g5 g6 g7 h1 h2 h3 hhy hh hl
  go_loop [15, 16] (fun q r => DRel Y y1 u d1 q r) (fun q _ => (intOf q).toNat)
  case atStart => exact ⟨qa, ra, by rw [← hqa.out, ← hra.out]; exact HH.out.start, by have := Nat.mod_lt u (show 0 < y1 by omega); have := hra.out; omega, rfl, rfl⟩
  case round =>
    obtain ⟨a, b, hR, hb, rfl, rfl⟩ := hrel
    have hle := hR.le
    rcases HalfR.ways HH.out hR with ⟨w1, w2, w3, w4⟩ | ⟨w1, w2, w3, w4⟩ | ⟨w1, w2, w3⟩
    case' inl =>
      have HN := Lib.hid w3
      have t2 : decide ((4294967296 : Int) ≤ (b : Int) + y1) = false := by simp; omega
      rcases w4 with w4 | ⟨w4, w5⟩
      case' inl => have t1 : decide ((4294967296 : Int) ≤ (a : Int)) = true := by simp; omega
      case' inr =>
        have t1 : decide ((4294967296 : Int) ≤ (a : Int)) = false := by simp; omega
        have tm := dmul w4 b0
        have t3 := dtest (decide_eq_true w5)
        clear w5
      all_goals
        clear hR w3
        go_wp2
        go_round
        case rel => exact ⟨a - 1, b + y1, HN.out, by omega, by go_num, by go_num⟩
        case measure => simp [intOf]; omega
    case' inr.inl =>
      have hq1 : (a : Int) - 1 = (Q : Int) := by rw [hqe.out] at w3; omega
      replace w3 := Lib.hid w3
      have t2 : decide ((4294967296 : Int) ≤ (b : Int) + y1) = true := by simp; omega
      rcases w4 with w4 | ⟨w4, w5⟩
      case' inl => have t1 : decide ((4294967296 : Int) ≤ (a : Int)) = true := by simp; omega
      case' inr =>
        have t1 : decide ((4294967296 : Int) ≤ (a : Int)) = false := by simp; omega
        have tm := dmul w4 b0
        have t3 := dtest (decide_eq_true w5)
        clear w5
    case' inr.inr =>
      rw [hqe.out] at w1
      subst w1
      have t1 : decide ((4294967296 : Int) ≤ (a : Int)) = false := by simp; omega
      have tm := dmul w2 b0
      have t3 := dtest (decide_eq_false (show ¬ 4294967296 * b + d1 < a * y0 by omega))
      clear w3
    all_goals
      clear hR
      go_wp2
      go_loop [16, 18] (fun r q => DRel Y y1 U d0 q r) (fun _ q => (intOf q).toNat)
      case atStart => exact ⟨qb, rb, by rw [← hqb.out, ← hrb.out]; exact HH0.out.start, by have := Nat.mod_lt U (show 0 < y1 by omega); have := hrb.out; omega, rfl, rfl⟩
      case round =>
        obtain ⟨a', b', hR', hb', rfl, rfl⟩ := hrel
        have hle' := hR'.le
        rcases HalfR.ways HH0.out hR' with ⟨x1, x2, x3, x4⟩ | ⟨x1, x2, x3, x4⟩ | ⟨x1, x2, x3⟩
        case' inl =>
          have HN' := Lib.hid x3
          have s2 : decide ((4294967296 : Int) ≤ (b' : Int) + y1) = false := by simp; omega
          rcases x4 with x4 | ⟨x4, x5⟩
          case' inl => have s1 : decide ((4294967296 : Int) ≤ (a' : Int)) = true := by simp; omega
          case' inr =>
            have s1 : decide ((4294967296 : Int) ≤ (a' : Int)) = false := by simp; omega
            have sm := dmul x4 b0
            have s3 := dtest (decide_eq_true x5)
            clear x5
          all_goals
            clear hR' x3
            go_wp2
            go_round
            case rel => exact ⟨a' - 1, b' + y1, HN'.out, by omega, by go_num, by go_num⟩
            case measure => simp [intOf]; omega
        case' inr.inl =>
          have hq2 : (a' : Int) - 1 = (Q' : Int) := by rw [hqe'.out] at x3; omega
          replace x3 := Lib.hid x3
          have s2 : decide ((4294967296 : Int) ≤ (b' : Int) + y1) = true := by simp; omega
          rcases x4 with x4 | ⟨x4, x5⟩
          case' inl => have s1 : decide ((4294967296 : Int) ≤ (a' : Int)) = true := by simp; omega
          case' inr =>
            have s1 : decide ((4294967296 : Int) ≤ (a' : Int)) = false := by simp; omega
            have sm := dmul x4 b0
            have s3 := dtest (decide_eq_true x5)
            clear x5
        case' inr.inr =>
          rw [hqe'.out] at x1
          subst x1
          have s1 : decide ((4294967296 : Int) ≤ (a' : Int)) = false := by simp; omega
          have sm := dmul x2 b0
          have s3 := dtest (decide_eq_false (show ¬ 4294967296 * b' + d0 < a' * y0 by omega))
          clear x3
        all_goals
          clear hR'
          go_wp2
          go_ret2
          exact ⟨div_end hquo.out hrem.out, Ext.refl _⟩
theorem div64_any (h l y : Nat) (hhy : h < y) (hl : l < 18446744073709551616) (hy2 : y < 18446744073709551616) (w : World) :
    Calls Tryz.prog 99 #[.int .u64 (h : Int), .int .u64 (l : Int), .int .u64 (y : Int)] w fun e w' => e = .returned (.tuple #[.int .u64 (((h * 18446744073709551616 + l) / y : Nat) : Int), .int .u64 (((h * 18446744073709551616 + l) % y : Nat) : Int)]) ∧ Ext w w' := by
  rcases Nat.eq_zero_or_pos h with h0 | h0
  · subst h0
    rw [Nat.zero_mul, Nat.zero_add]
    exact div64_lo l y hl hhy hy2 w
  · exact div64_hi h l y h0 hhy hl hy2 w
end Go.Proofs.YtjaponmpfdpemaaGreatDoor
