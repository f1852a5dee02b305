/-
  math/bits.Div64, whole.
-/
import Derived.Test.YtjaponmpfdpemaaGreatDoorBb09
import Derived.Test.YtjaponmpfdpemaaGreatDoorProg
import Derived.Test.YtjaponmpfdpemaaGreatDoorBb01
import Derived.Test.YtjaponmpfdpemaaGreatDoorBb07
set_option linter.unusedSimpArgs false
set_option linter.unusedVariables false
namespace Go.Proofs.YtjaponmpfdpemaaGreatDoor
open Go.RowKit
structure DivS (h l y s Y y1 y0 u L d1 d0 : Nat) : Prop where
 eY : Y = y * 2 ^ s
 eu : u = h * 2 ^ s + l / 2 ^ (64 - s)
 eL : L = l * 2 ^ s % 2 ^ 64
 e1 : y1 = Y / 4294967296
 e0 : y0 = Y % 4294967296
 f1 : d1 = L / 4294967296
 f0 : d0 = L % 4294967296
 hs : s ≤ 63
 hY1 : 9223372036854775808 ≤ Y
 hY2 : Y < 18446744073709551616
 hh : h < y
 hl : l < 18446744073709551616
theorem p64 (s : Nat) (hs : s ≤ 64) : 2 ^ (64 - s) * 2 ^ s = 18446744073709551616 := by rw [← Nat.pow_add, show 64 - s + s = 64 by omega]
theorem DivS.bit {h l y s Y y1 y0 u L d1 d0 : Nat} (D : DivS h l y s Y y1 y0 u L d1 d0) : l / 2 ^ (64 - s) < 2 ^ s := by
 rw [Nat.div_lt_iff_lt_mul (Nat.pow_pos (by decide)), Nat.mul_comm, p64 s (by have := D.hs; omega)]
 exact D.hl
theorem DivS.hsh {h l y s Y y1 y0 u L d1 d0 : Nat} (D : DivS h l y s Y y1 y0 u L d1 d0) : h * 2 ^ s + 2 ^ s ≤ Y := by
 have : (h + 1) * 2 ^ s ≤ y * 2 ^ s := Nat.mul_le_mul_right _ D.hh
 rw [Nat.add_mul, Nat.one_mul] at this
 rw [D.eY]; exact this
theorem DivS.ulty {h l y s Y y1 y0 u L d1 d0 : Nat} (D : DivS h l y s Y y1 y0 u L d1 d0) : u < Y := by
 have := D.bit; have := D.hsh; have := D.eu; omega
theorem DivS.split {h l y s Y y1 y0 u L d1 d0 : Nat} (D : DivS h l y s Y y1 y0 u L d1 d0) : (h * 18446744073709551616 + l) * 2 ^ s = u * 18446744073709551616 + d1 * 4294967296 + d0 := by
 have hp := p64 s (by have := D.hs; omega)
 have e2 : l * 2 ^ s = l / 2 ^ (64 - s) * 18446744073709551616 + L := by
  rw [D.eL]
  have h1 := Nat.div_add_mod (l * 2 ^ s) (2 ^ 64)
  have h2 : l * 2 ^ s / 2 ^ 64 = l / 2 ^ (64 - s) := by
   rw [show (2 : Nat) ^ 64 = 2 ^ (64 - s) * 2 ^ s by rw [hp], Nat.mul_div_mul_right _ _ (Nat.pow_pos (by decide))]
  rw [h2] at h1
  rw [Nat.mul_comm (2 ^ 64)] at h1
  exact h1.symm
 have e3 : L = d1 * 4294967296 + d0 := by rw [D.f1, D.f0, Nat.mul_comm]; exact (Nat.div_add_mod L 4294967296).symm
 rw [Nat.add_mul, e2, D.eu, Nat.add_mul]
 have e4 : h * 18446744073709551616 * 2 ^ s = h * 2 ^ s * 18446744073709551616 := by rw [Nat.mul_assoc, Nat.mul_comm 18446744073709551616, Nat.mul_assoc]
 rw [e4]
 omega
theorem DivS.half1 {h l y s Y y1 y0 u L d1 d0 : Nat} (D : DivS h l y s Y y1 y0 u L d1 d0) : HalfS Y y1 y0 u d1 := by
 have a := D.e1; have b := D.e0; have c := D.hY1; have d := D.hY2
 refine ⟨by omega, by omega, by omega, by omega, D.ulty, ?_⟩
 have := D.f1; have := D.eL
 have : L < 2 ^ 64 := by rw [D.eL]; exact Nat.mod_lt _ (by decide)
 omega
theorem DivS.half0 {h l y s Y y1 y0 u L d1 d0 : Nat} (D : DivS h l y s Y y1 y0 u L d1 d0) : HalfS Y y1 y0 (hr Y u d1) d0 := by
 have H := D.half1
 exact ⟨H.hy, H.h1, H.h1', H.h0, H.rlt, by have := D.f0; omega⟩
theorem DivS.quo {h l y s Y y1 y0 u L d1 d0 : Nat} (D : DivS h l y s Y y1 y0 u L d1 d0) : hq Y u d1 * 4294967296 + hq Y (hr Y u d1) d0 = (h * 18446744073709551616 + l) / y := by
 have hp : 0 < 2 ^ s := Nat.pow_pos (by decide)
 have := (two_halves Y u d1 d0 D.half1.ypos D.half0.hd).1
 rw [← D.split, D.eY, (scaled _ y _ hp).1] at this
 rw [D.eY]; exact this.symm
theorem DivS.rem {h l y s Y y1 y0 u L d1 d0 : Nat} (D : DivS h l y s Y y1 y0 u L d1 d0) : hr Y (hr Y u d1) d0 / 2 ^ s = (h * 18446744073709551616 + l) % y := by
 have hp : 0 < 2 ^ s := Nat.pow_pos (by decide)
 have := (two_halves Y u d1 d0 D.half1.ypos D.half0.hd).2
 rw [← D.split, D.eY, (scaled _ y _ hp).2] at this
 rw [D.eY, ← this, Nat.mul_div_cancel _ hp]
theorem u64_wrap_nat (n : Nat) (h : n < 18446744073709551616) : IntKind.u64.wrap (n : Int) = (n : Int) := by rw [IntKind.wrap_u64]; omega
theorem DivS.g1 {h l y s Y y1 y0 u L d1 d0 : Nat} (D : DivS h l y s Y y1 y0 u L d1 d0) : IntKind.u64.wrap ((y : Int) * 2 ^ s) = (Y : Int) := by
 have e : ((y : Int) * 2 ^ s) = ((y * 2 ^ s : Nat) : Int) := by simp
 rw [e, ← D.eY, u64_wrap_nat _ D.hY2]
theorem DivS.g4 {h l y s Y y1 y0 u L d1 d0 : Nat} (D : DivS h l y s Y y1 y0 u L d1 d0) : bits BinOp.or IntKind.u64 (IntKind.u64.wrap ((h : Int) * 2 ^ s)) ((l : Int) / 2 ^ (64 - s)) = (u : Int) := by
 have e1 : ((h : Int) * 2 ^ s) = ((h * 2 ^ s : Nat) : Int) := by simp
 have e2 : ((l : Int) / 2 ^ (64 - s)) = ((l / 2 ^ (64 - s) : Nat) : Int) := by simp
 have b := D.bit; have c := D.hsh; have d := D.hY2
 have k1 : h * 2 ^ s < 18446744073709551616 := Nat.lt_of_le_of_lt (Nat.le_trans (Nat.le_add_right _ _) c) d
 have k2 : l / 2 ^ (64 - s) < 18446744073709551616 := Nat.lt_of_lt_of_le b (Nat.le_trans (Nat.le_trans (Nat.le_add_left _ _) c) (Nat.le_of_lt d))
 rw [e1, e2, u64_wrap_nat _ k1, u64_or_nat _ _ k1 k2, D.eu]
 congr 1
 rw [← Nat.shiftLeft_eq, ← Nat.shiftLeft_add_eq_or_of_lt b]
theorem DivS.g5 {h l y s Y y1 y0 u L d1 d0 : Nat} (D : DivS h l y s Y y1 y0 u L d1 d0) : IntKind.u64.wrap ((l : Int) * 2 ^ s) = (L : Int) := by
 have e : ((l : Int) * 2 ^ s) = ((l * 2 ^ s : Nat) : Int) := by simp
 rw [e, IntKind.wrap_u64, D.eL]
 simp
theorem and_half (n : Nat) (h : n < 18446744073709551616) : bits BinOp.and IntKind.u64 (n : Int) 4294967295 = ((n % 4294967296 : Nat) : Int) := by
 have := u64_and_nat n 4294967295 h (by decide)
 rw [show (4294967295 : Nat) = 2 ^ 32 - 1 by decide, Nat.and_two_pow_sub_one_eq_mod] at this
 exact this
theorem DivS.llt {h l y s Y y1 y0 u L d1 d0 : Nat} (D : DivS h l y s Y y1 y0 u L d1 d0) : L < 18446744073709551616 := by rw [D.eL]; exact Nat.mod_lt _ (by decide)
theorem guess {Y y1 y0 u d : Nat} (H : HalfS Y y1 y0 u d) (hY : Y < 18446744073709551616) : IntKind.u64.wrap ((u : Int) / y1) = ((u / y1 : Nat) : Int) ∧ IntKind.u64.wrap ((u : Int) - IntKind.u64.wrap (((u / y1 : Nat) : Int) * y1)) = ((u % y1 : Nat) : Int) := by
 have hu := H.hu
 have h1 := Nat.div_le_self u y1
 have h2 := Nat.div_add_mod u y1
 have e : ((u : Int) / y1) = ((u / y1 : Nat) : Int) := by simp
 have e2 : (((u / y1 : Nat) : Int) * y1) = ((y1 * (u / y1) : Nat) : Int) := by rw [Nat.mul_comm]; simp
 rw [e, e2]
 generalize u / y1 = q at *
 generalize y1 * q = m at *
 generalize u % y1 = r at *
 rw [IntKind.wrap_u64, IntKind.wrap_u64, IntKind.wrap_u64]
 omega
theorem rest64 {Y y1 y0 u d : Nat} (H : HalfS Y y1 y0 u d) (hY : Y < 18446744073709551616) : IntKind.u64.wrap (IntKind.u64.wrap (IntKind.u64.wrap ((u : Int) * 4294967296) + d) - IntKind.u64.wrap ((hq Y u d : Int) * Y)) = (hr Y u d : Int) := by
 have h1 := H.rest
 have h2 := H.rlt
 rw [IntKind.wrap_u64, IntKind.wrap_u64, IntKind.wrap_u64, IntKind.wrap_u64]
 generalize (hq Y u d : Int) * Y = m at *
 generalize hr Y u d = r at *
 omega
theorem HalfR.ways {Y y1 y0 u d a b : Nat} (H : HalfS Y y1 y0 u d) (hR : HalfR Y y1 u d a b) :
  (b + y1 < 4294967296 ∧ 1 ≤ a ∧ HalfR Y y1 u d (a - 1) (b + y1) ∧ (4294967296 ≤ a ∨ (a < 4294967296 ∧ 4294967296 * b + d < a * y0))) ∨
  (4294967296 ≤ b + y1 ∧ 1 ≤ a ∧ a - 1 = hq Y u d ∧ (4294967296 ≤ a ∨ (a < 4294967296 ∧ 4294967296 * b + d < a * y0))) ∨
  (a = hq Y u d ∧ a < 4294967296 ∧ a * y0 ≤ 4294967296 * b + d) := by
 by_cases ht : 4294967296 ≤ a ∨ 4294967296 * b + d < a * y0
 ·obtain ⟨ha, hN⟩ := HalfR.next H hR ht
  have ht' : 4294967296 ≤ a ∨ (a < 4294967296 ∧ 4294967296 * b + d < a * y0) := by
   rcases Nat.lt_or_ge a 4294967296 with h | h
   ·exact .inr ⟨h, by omega⟩
   ·exact .inl h
  rcases Nat.lt_or_ge (b + y1) 4294967296 with h | h
  ·exact .inl ⟨h, ha, hN, ht'⟩
  ·exact .inr (.inl ⟨h, ha, HalfR.brk H hN h (by have := hR.le; omega), ht'⟩)
 ·exact .inr (.inr ⟨HalfR.done H hR (by omega), by omega, by omega⟩)
theorem mul_lt64 {a b : Nat} (h1 : a < 4294967296) (h2 : b < 4294967296) : a * b < 18446744073709551616 := by
 have := Nat.mul_le_mul (show a ≤ 4294967295 by omega) (show b ≤ 4294967295 by omega)
 omega
theorem dmul {a y0 : Nat} (h1 : a < 4294967296) (h2 : y0 < 4294967296) : IntKind.u64.wrap ((a : Int) * y0) = (a : Int) * y0 := by
 have := mul_lt64 h1 h2
 have e : ((a : Int) * y0) = ((a * y0 : Nat) : Int) := by simp
 rw [e, u64_wrap_nat _ this]
theorem dtest {a y0 b d : Nat} {r : Bool} (h : decide (4294967296 * b + d < a * y0) = r) : decide (4294967296 * (b : Int) + d < (a : Int) * y0) = r := by
 rw [← h]
 have e : ((a : Int) * y0) = ((a * y0 : Nat) : Int) := by simp
 rw [e]
 generalize a * y0 = m
 congr 1
 rw [eq_iff_iff]
 omega
theorem div_end {Q Q' U' s DQ DR : Nat} (h1 : Q * 4294967296 + Q' = DQ) (h2 : U' / 2 ^ s = DR) : Ending.returned (.tuple #[.int .u64 ((Q : Int) * 4294967296 + Q'), .int .u64 ((U' : Int) / 2 ^ s)]) = .returned (.tuple #[.int .u64 (DQ : Int), .int .u64 (DR : Int)]) := by
 subst h1 h2
 simp
def DRel (Y y1 u d : Nat) (q r : Value) : Prop := ∃ a b : Nat, HalfR Y y1 u d a b ∧ b < 4294967296 ∧ q = .int .u64 (a : Int) ∧ r = .int .u64 (b : Int)
set_option maxRecDepth 100000 in
set_option maxHeartbeats 1000000 in
theorem div64_lo (l y : Nat) (hl : l < 18446744073709551616) (hy : 0 < y) (hy2 : y < 18446744073709551616) (w : World) :
  Calls Tryz.prog 99 #[.int .u64 0, .int .u64 (l : Int), .int .u64 (y : Int)] w fun e w' => e = .returned (.tuple #[.int .u64 ((l / y : Nat) : Int), .int .u64 ((l % y : Nat) : Int)]) ∧ Ext w w' := by
 have h1 : ((y : Int) == 0) = false := by rw [beq_eq_false_iff_ne]; omega
 have h2 : decide ((y : Int) ≤ 0) = false := by simp; omega
 have h3 : (y : Int) ≠ 0 := by omega
 go_enter Tryz.func99, Tryz.ntmps99
 go_wp2_with fail
 go_quiet (fail)
 go_wp2_with fail
 refine bodyPost_ret (results_tmp2 rfl _ _ _) rfl ⟨?_, (Ext.refl w).drewN _⟩
 have e : IntKind.u64.wrap ((l : Int) / (y : Int)) = ((l / y : Nat) : Int) := by
  have h := Nat.div_le_self l y
  rw [← Int.natCast_ediv, IntKind.wrap_u64]
  generalize l / y = q at *
  omega
 simp [e]
set_option maxRecDepth 100000 in
set_option maxHeartbeats 4000000 in
theorem div64_hi (h l y : Nat) (hh : 0 < h) (hhy : h < y) (hl : l < 18446744073709551616) (hy2 : y < 18446744073709551616) (w : World) :
  Calls Tryz.prog 99 #[.int .u64 (h : Int), .int .u64 (l : Int), .int .u64 (y : Int)] w fun e w' => e = .returned (.tuple #[.int .u64 (((h * 18446744073709551616 + l) / y : Nat) : Int), .int .u64 (((h * 18446744073709551616 + l) % y : Nat) : Int)]) ∧ Ext w w' := by
 have h1 : ((y : Int) == 0) = false := by rw [beq_eq_false_iff_ne]; omega
 have h2 : decide ((y : Int) ≤ h) = false := by simp; omega
 have h3 : ((h : Int) == 0) = false := by rw [beq_eq_false_iff_ne]; omega
 have hs := (lzN_le y (by omega) hy2).1
 have hn := lz_norm y (by omega) hy2
 have hlz := lz_any y hy2
 generalize lzN y = s at *
 obtain ⟨Y, hY⟩ : ∃ Y : Nat, Y = y * 2 ^ s := ⟨_, rfl⟩
 obtain ⟨u, hu⟩ : ∃ u : Nat, u = h * 2 ^ s + l / 2 ^ (64 - s) := ⟨_, rfl⟩
 obtain ⟨L, hL⟩ : ∃ L : Nat, L = l * 2 ^ s % 2 ^ 64 := ⟨_, rfl⟩
 obtain ⟨y1, hy1⟩ : ∃ y1 : Nat, y1 = Y / 4294967296 := ⟨_, rfl⟩
 obtain ⟨y0, hy0⟩ : ∃ y0 : Nat, y0 = Y % 4294967296 := ⟨_, rfl⟩
 obtain ⟨d1, hd1⟩ : ∃ d1 : Nat, d1 = L / 4294967296 := ⟨_, rfl⟩
 obtain ⟨d0, hd0⟩ : ∃ d0 : Nat, d0 = L % 4294967296 := ⟨_, rfl⟩
 have D : DivS h l y s Y y1 y0 u L d1 d0 := ⟨hY, hu, hL, hy1, hy0, hd1, hd0, hs, by rw [hY]; exact hn.1, by rw [hY]; exact hn.2, hhy, hl⟩
 have g1 := D.g1
 have g2 : (Y : Int) / 4294967296 = (y1 : Int) := by omega
 have g3 : bits BinOp.and IntKind.u64 (Y : Int) 4294967295 = (y0 : Int) := by rw [and_half _ D.hY2, ← hy0]
 have g4 := D.g4
 have g5 := D.g5
 have g6 : (L : Int) / 4294967296 = (d1 : Int) := by omega
 have g7 : bits BinOp.and IntKind.u64 (L : Int) 4294967295 = (d0 : Int) := by rw [and_half _ D.llt, ← hd0]
 clear hY hu hL hy1 hy0 hd1 hd0 hn
 replace hlz := Lib.hid hlz
 have H1 := D.half1
 have b1 := H1.h1
 have b1' := H1.h1'
 have b0 := H1.h0
 have bu := D.ulty
 have bY := D.hY2
 have bL := D.llt
 have bd := H1.hd
 have bd0 := D.half0.hd
 have h4 : ((y1 : Int) == 0) = false := by rw [beq_eq_false_iff_ne]; omega
 have bq := H1.start.le
 obtain ⟨k1, k2⟩ := guess H1 D.hY2
 have HH := Lib.hid H1
 have hquo := D.quo
 have hrem := D.rem
 generalize hDQ : (h * 18446744073709551616 + l) / y = DQ at *
 generalize hDR : (h * 18446744073709551616 + l) % y = DR at *
 replace hDQ := Lib.hid hDQ
 replace hDR := Lib.hid hDR
 have k3 := rest64 H1 D.hY2
 have bQ := H1.qlt
 have H0 := D.half0
 have bU := H0.hu
 generalize hqe : hq Y u d1 = Q at *
 generalize hre : hr Y u d1 = U at *
 replace hqe := Lib.hid hqe
 replace hre := Lib.hid hre
 obtain ⟨k4, k5⟩ := guess H0 D.hY2
 have bq0 := H0.start.le
 have HH0 := Lib.hid H0
 have k6 := rest64 H0 D.hY2
 have bQ' := H0.qlt
 have bU' := H0.rlt
 generalize hqe' : hq Y U d0 = Q' at *
 generalize hre' : hr Y U d0 = U' at *
 replace hqe' := Lib.hid hqe'
 replace hre' := Lib.hid hre'
 replace hquo := Lib.hid hquo
 replace hrem := Lib.hid hrem
 generalize hqa : u / y1 = qa at *
 generalize hra : u % y1 = ra at *
 generalize hqb : U / y1 = qb at *
 generalize hrb : U % y1 = rb at *
 replace k1 : IntKind.u64.wrap ((u : Int) / y1) = (qa : Int) := k1
 replace k4 : IntKind.u64.wrap ((U : Int) / y1) = (qb : Int) := k4
 replace hqa := Lib.hid hqa
 replace hra := Lib.hid hra
 replace hqb := Lib.hid hqb
 replace hrb := Lib.hid hrb
 clear D H0 H1
 go_enter Tryz.func99, Tryz.ntmps99
 go_wp2_with (go_at_call 133; refine (hlz.out _).mono ?_; rintro e w' ⟨rfl, rfl⟩)
 clear g1 g2 g3 g4 g5 g6 g7 h1 h2 h3 hhy hh hl
 go_loop [15, 16] (fun q r => DRel Y y1 u d1 q r) (fun q _ => (intOf q).toNat)
 case atStart => exact ⟨qa, ra, by rw [← hqa.out, ← hra.out]; exact HH.out.start, by have := Nat.mod_lt u (show 0 < y1 by omega); have := hra.out; omega, rfl, rfl⟩
 case round =>
  obtain ⟨a, b, hR, hb, rfl, rfl⟩ := hrel
  have hle := hR.le
  rcases HalfR.ways HH.out hR with ⟨w1, w2, w3, w4⟩ | ⟨w1, w2, w3, w4⟩ | ⟨w1, w2, w3⟩
  case' inl =>
   have HN := Lib.hid w3
   have t2 : decide ((4294967296 : Int) ≤ (b : Int) + y1) = false := by simp; omega
   rcases w4 with w4 | ⟨w4, w5⟩
   case' inl => have t1 : decide ((4294967296 : Int) ≤ (a : Int)) = true := by simp; omega
   case' inr =>
    have t1 : decide ((4294967296 : Int) ≤ (a : Int)) = false := by simp; omega
    have tm := dmul w4 b0
    have t3 := dtest (decide_eq_true w5)
    clear w5
   all_goals
    clear hR w3
    go_wp2
    go_round
    case rel => exact ⟨a - 1, b + y1, HN.out, by omega, by go_num, by go_num⟩
    case measure => simp [intOf]; omega
  case' inr.inl =>
   have hq1 : (a : Int) - 1 = (Q : Int) := by rw [hqe.out] at w3; omega
   replace w3 := Lib.hid w3
   have t2 : decide ((4294967296 : Int) ≤ (b : Int) + y1) = true := by simp; omega
   rcases w4 with w4 | ⟨w4, w5⟩
   case' inl => have t1 : decide ((4294967296 : Int) ≤ (a : Int)) = true := by simp; omega
   case' inr =>
    have t1 : decide ((4294967296 : Int) ≤ (a : Int)) = false := by simp; omega
    have tm := dmul w4 b0
    have t3 := dtest (decide_eq_true w5)
    clear w5
  case' inr.inr =>
   rw [hqe.out] at w1
   subst w1
   have t1 : decide ((4294967296 : Int) ≤ (a : Int)) = false := by simp; omega
   have tm := dmul w2 b0
   have t3 := dtest (decide_eq_false (show ¬ 4294967296 * b + d1 < a * y0 by omega))
   clear w3
  all_goals
   clear hR
   go_wp2
   go_loop [16, 18] (fun r q => DRel Y y1 U d0 q r) (fun _ q => (intOf q).toNat)
   case atStart => exact ⟨qb, rb, by rw [← hqb.out, ← hrb.out]; exact HH0.out.start, by have := Nat.mod_lt U (show 0 < y1 by omega); have := hrb.out; omega, rfl, rfl⟩
   case round =>
    obtain ⟨a', b', hR', hb', rfl, rfl⟩ := hrel
    have hle' := hR'.le
    rcases HalfR.ways HH0.out hR' with ⟨x1, x2, x3, x4⟩ | ⟨x1, x2, x3, x4⟩ | ⟨x1, x2, x3⟩
    case' inl =>
     have HN' := Lib.hid x3
     have s2 : decide ((4294967296 : Int) ≤ (b' : Int) + y1) = false := by simp; omega
     rcases x4 with x4 | ⟨x4, x5⟩
     case' inl => have s1 : decide ((4294967296 : Int) ≤ (a' : Int)) = true := by simp; omega
     case' inr =>
      have s1 : decide ((4294967296 : Int) ≤ (a' : Int)) = false := by simp; omega
      have sm := dmul x4 b0
      have s3 := dtest (decide_eq_true x5)
      clear x5
     all_goals
      clear hR' x3
      go_wp2
      go_round
      case rel => exact ⟨a' - 1, b' + y1, HN'.out, by omega, by go_num, by go_num⟩
      case measure => simp [intOf]; omega
    case' inr.inl =>
     have hq2 : (a' : Int) - 1 = (Q' : Int) := by rw [hqe'.out] at x3; omega
     replace x3 := Lib.hid x3
     have s2 : decide ((4294967296 : Int) ≤ (b' : Int) + y1) = true := by simp; omega
     rcases x4 with x4 | ⟨x4, x5⟩
     case' inl => have s1 : decide ((4294967296 : Int) ≤ (a' : Int)) = true := by simp; omega
     case' inr =>
      have s1 : decide ((4294967296 : Int) ≤ (a' : Int)) = false := by simp; omega
      have sm := dmul x4 b0
      have s3 := dtest (decide_eq_true x5)
      clear x5
    case' inr.inr =>
     rw [hqe'.out] at x1
     subst x1
     have s1 : decide ((4294967296 : Int) ≤ (a' : Int)) = false := by simp; omega
     have sm := dmul x2 b0
     have s3 := dtest (decide_eq_false (show ¬ 4294967296 * b' + d0 < a' * y0 by omega))
     clear x3
    all_goals
     clear hR'
     go_wp2
     go_ret2
     exact ⟨div_end hquo.out hrem.out, Ext.refl _⟩
theorem div64_any (h l y : Nat) (hhy : h < y) (hl : l < 18446744073709551616) (hy2 : y < 18446744073709551616) (w : World) :
  Calls Tryz.prog 99 #[.int .u64 (h : Int), .int .u64 (l : Int), .int .u64 (y : Int)] w fun e w' => e = .returned (.tuple #[.int .u64 (((h * 18446744073709551616 + l) / y : Nat) : Int), .int .u64 (((h * 18446744073709551616 + l) % y : Nat) : Int)]) ∧ Ext w w' := by
 rcases Nat.eq_zero_or_pos h with h0 | h0
 ·subst h0
  rw [Nat.zero_mul, Nat.zero_add]
  exact div64_lo l y hl hhy hy2 w
 ·exact div64_hi h l y h0 hhy hl hy2 w
end Go.Proofs.YtjaponmpfdpemaaGreatDoor
set_option linter.unusedSimpArgs false
set_option linter.unusedVariables false
namespace Go.Proofs.YtjaponmpfdpemaaGreatDoor
def evUp (q r c : Nat) : Bool := decide (c - r < r) || (decide (r = c - r) && decide (q % 2 = 1))
def evenN (a b c : Nat) : Nat := if evUp (a * b / c) (a * b % c) c then a * b / c + 1 else a * b / c
end Go.Proofs.YtjaponmpfdpemaaGreatDoor
set_option linter.unusedSimpArgs false
set_option linter.unusedVariables false
namespace Go.Proofs.YtjaponmpfdpemaaGreatDoor
open Go.RowKit
end Go.Proofs.YtjaponmpfdpemaaGreatDoor
set_option linter.unusedSimpArgs false
set_option linter.unusedVariables false
namespace Go.Proofs.YtjaponmpfdpemaaGreatDoor
def win (n lo hi : Int) : Bool := decide (lo ≤ n) && decide (n ≤ hi)
structure Ln where
 c : Int
 a : Int
deriving DecidableEq
structure Ord where
 cu : Int
 day : Int
 px : Int
 py : Int
 ls : List Ln
deriving DecidableEq
def Ln.ok (l : Ln) : Bool := win l.c 1 1099511627775 && win l.a 0 1099511627775
def badLn : List Ln → Nat → Option Nat
 | [], _ => none
 | l :: r, k => if l.ok then badLn r (k + 1) else some k
def Ord.head (o : Ord) : Bool := win o.cu 0 1099511627775 && win o.day 0 3652058 && win o.px (-1099511627775) 1099511627775 && win o.py (-1099511627775) 1099511627775
def Ord.check (o : Ord) : Int × Int :=
 if o.head = false then (5, 0) else if o.ls.length = 0 then (2, 0) else if 100 < o.ls.length then (3, 0) else
  match badLn o.ls 0 with
  | some k => (5, k)
  | none => (0, 0)
theorem badLn_all (ls : List Ln) : ∀ s, badLn ls s = none → ∀ x ∈ ls, x.ok = true := by
 induction ls with
 | nil => intro s _ x hx; cases hx
 | cons l r ih =>
  intro s h x hx
  unfold badLn at h
  split at h
  ·rename_i hl
   rcases List.mem_cons.1 hx with rfl | hx
   ·exact hl
   ·exact ih _ h x hx
  ·cases h
theorem Ord.check_ok {o : Ord} (h : o.check.1 = 0) : o.head = true ∧ 1 ≤ o.ls.length ∧ o.ls.length ≤ 100 ∧ ∀ x ∈ o.ls, x.ok = true := by
 unfold Ord.check at h
 by_cases h0 : o.head = false
 ·rw [if_pos h0] at h; cases h
 rw [if_neg h0] at h
 by_cases h1 : o.ls.length = 0
 ·rw [if_pos h1] at h; cases h
 rw [if_neg h1] at h
 by_cases h2 : 100 < o.ls.length
 ·rw [if_pos h2] at h; cases h
 rw [if_neg h2] at h
 refine ⟨by simpa using h0, by omega, by omega, ?_⟩
 split at h
 ·cases h
 ·rename_i hb; exact badLn_all _ _ hb
def Ord.hd (o : Ord) : List Int := [o.cu, o.day, o.px, o.py, o.ls.length]
end Go.Proofs.YtjaponmpfdpemaaGreatDoor
set_option linter.unusedSimpArgs false
set_option linter.unusedVariables false
namespace Go.Proofs.YtjaponmpfdpemaaGreatDoor
open Go.RowKit
def Ln.cells (l : Ln) : List Value := [.int .i64 l.c, .int .i64 l.a]
end Go.Proofs.YtjaponmpfdpemaaGreatDoor
set_option linter.unusedSimpArgs false
set_option linter.unusedVariables false
namespace Go.Proofs.YtjaponmpfdpemaaGreatDoor
open Go.RowKit
def backI (t n b a : Int) : Int × Int :=
 if win t 0 4611686018427387904 = false ∨ win n 0 4611686018427387904 = false then (0, 5)
 else if b < 0 ∨ a < b ∨ n < a then (0, 2)
 else if n = 0 then (0, 0)
 else ((evenN t.toNat a.toNat n.toNat : Int) - evenN t.toNat b.toNat n.toNat, 0)
def taxV (a b c d e f : Int) : Value := .agg #[.int .i64 a, .int .i64 b, .int .i64 c, .int .i64 d, .int .i64 e, .int .i64 f]
def Tax1 (a b c d e f : Int) : Bool := win a 0 99 && win b 1 1099511627775 && win c 0 4611686018427387904 && win d 0 (4611686018427387904 - c) && win e 0 1000000 && win f 0 4611686018427387904
structure Tx where
 l : Int
 j : Int
 t : Int
 x : Int
 r : Int
 v : Int
deriving DecidableEq
def Tx.V (x : Tx) : Value := taxV x.l x.j x.t x.x x.r x.v
def Tx.zero : Tx := ⟨0, 0, 0, 0, 0, 0⟩
def Tx.ok (x : Tx) : Bool := Tax1 x.l x.j x.t x.x x.r x.v
def Tx.ret (x : Tx) (b a : Int) : Tx × Int :=
 if x.ok = false then (Tx.zero, 5)
 else if (backI x.t (x.t + x.x) b a).2 ≠ 0 then (Tx.zero, (backI x.t (x.t + x.x) b a).2)
 else ({ x with t := (backI x.t (x.t + x.x) b a).1, x := a - b - (backI x.t (x.t + x.x) b a).1, v := (backI x.v (x.t + x.x) b a).1 }, 0)
def Tx.cells (x : Tx) : Array Value := #[.int .i64 x.l, .int .i64 x.j, .int .i64 x.t, .int .i64 x.x, .int .i64 x.r, .int .i64 x.v]
def Tx.z6 : Array Value := #[.int .i64 0, .int .i64 0, .int .i64 0, .int .i64 0, .int .i64 0, .int .i64 0]
end Go.Proofs.YtjaponmpfdpemaaGreatDoor
set_option linter.unusedSimpArgs false
set_option linter.unusedVariables false
namespace Go.Proofs.YtjaponmpfdpemaaGreatDoor
open Go.RowKit
end Go.Proofs.YtjaponmpfdpemaaGreatDoor
set_option linter.unusedSimpArgs false
set_option linter.unusedVariables false
namespace Go.Proofs.YtjaponmpfdpemaaGreatDoor
theorem flat_get {α β : Type} {f : α → List β} {c : Nat} (hf : ∀ a, (f a).length = c) : ∀ (l : List α) (k j : Nat) (h : k < l.length), j < c → (l.flatMap f)[k * c + j]? = (f l[k])[j]?
 | [], k, j, h, _ => by simp at h
 | a :: l, 0, j, _, hj => by
  rw [List.flatMap_cons, Nat.zero_mul, Nat.zero_add, List.getElem?_append_left (by rw [hf]; exact hj)]
  rfl
 | a :: l, k + 1, j, h, hj => by
  rw [List.flatMap_cons, List.getElem?_append_right (by rw [hf, Nat.add_mul]; omega), hf]
  rw [show (k + 1) * c + j - c = k * c + j by rw [Nat.add_mul]; omega]
  exact flat_get hf l k j (by simpa using h) hj
theorem flat_len {α β : Type} {f : α → List β} {c : Nat} (hf : ∀ a, (f a).length = c) (l : List α) : (l.flatMap f).length = l.length * c := by
 induction l with
 | nil => simp
 | cons a l ih => rw [List.flatMap_cons, List.length_append, ih, hf, List.length_cons, Nat.add_mul]; omega
theorem flat_take {α β : Type} {f : α → List β} {c : Nat} (hf : ∀ a, (f a).length = c) (l : List α) (n : Nat) : (l.take n).flatMap f = (l.flatMap f).take (n * c) := by
 have e : l.flatMap f = (l.take n).flatMap f ++ (l.drop n).flatMap f := by rw [← List.flatMap_append, List.take_append_drop]
 rcases Nat.lt_or_ge l.length n with h | h
 ·rw [List.take_of_length_le (by omega), List.take_of_length_le]
  rw [flat_len hf]
  exact Nat.mul_le_mul_right _ (by omega)
 ·have hl : ((l.take n).flatMap f).length = n * c := by rw [flat_len hf, List.length_take, Nat.min_eq_left h]
  rw [e, ← hl, List.take_left]
def Tx.key (x : Tx) : Int × Int := (x.l, x.j)
end Go.Proofs.YtjaponmpfdpemaaGreatDoor
set_option linter.unusedSimpArgs false
set_option linter.unusedVariables false
namespace Go.Proofs.YtjaponmpfdpemaaGreatDoor
open Go.RowKit
theorem skipS_is {s : Bs} : ∀ {j a : Nat}, (∀ i, i < j → clsAt s (a + i) = 1 ∨ clsAt s (a + i) = 4) → clsAt s (a + j) ≠ 1 → clsAt s (a + j) ≠ 4 → skipS (s.drop a) = j
 | 0, a, _, h1, h4 => by
  rcases Nat.lt_or_ge a s.length with h | h
  ·rw [List.drop_eq_getElem_cons h, skipS, ← clsAt_lt h, if_neg (by simp at h1 h4; omega)]
  ·rw [List.drop_eq_nil_of_le h]; rfl
 | j + 1, a, hg, h1, h4 => by
  have h0 := hg 0 (by omega)
  rw [Nat.add_zero] at h0
  have h : a < s.length := by
   rcases Nat.lt_or_ge a s.length with h | h
   ·exact h
   ·rw [clsAt_end h] at h0; omega
  rw [List.drop_eq_getElem_cons h, skipS, ← clsAt_lt h, if_pos h0, skipS_is (j := j) (a := a + 1) (fun i hi => by rw [show a + 1 + i = a + (i + 1) by omega]; exact hg (i + 1) (by omega)) (by rw [show a + 1 + j = a + (j + 1) by omega]; exact h1) (by rw [show a + 1 + j = a + (j + 1) by omega]; exact h4)]
theorem tok_own {w : World} {base g o c : Nat} {out : List Tok} (h : w.ownsRow base 105 2 (.slice (some ⟨g, o, none⟩) out.length c) out.length (tokCells out)) {k : Nat} (hk : k < out.length) : g < w.heap.size ∧ w.cell? ⟨g, o + k * 2, none⟩ = some (.int .i64 out[k].k) ∧ w.cell? ⟨g, o + k * 2 + 1, none⟩ = some (.string ⟨out[k].t.toArray⟩) := by
 obtain ⟨g', o', e, hg, hc⟩ := (Reads.of_own h).cellAt hk
 injection e with e
 injection e with e1 e2 _
 subst e1 e2
 exact ⟨hg, hc _ _ (flat_get (f := tokC) (c := 2) (fun _ => rfl) out k 0 hk (by decide)), hc _ _ (flat_get (f := tokC) (c := 2) (fun _ => rfl) out k 1 hk (by decide))⟩
theorem advS_take {s : Bs} {out : List Tok} {k : Nat} (hk : k < out.length) : advS s 0 (out.take (k + 1)) = advS s 0 (out.take k) + skipS (s.drop (advS s 0 (out.take k))) + out[k].t.length := by
 rw [List.take_succ_eq_append_getElem hk, advS_app]
 rfl
theorem advS_le {s : Bs} {out : List Tok} {k : Nat} : advS s 0 (out.take k) ≤ advS s 0 out := by
 have := advS_app s (out.take k) (out.drop k) 0
 rw [List.take_append_drop] at this
 rw [this]
 exact advS_mono s _ _
def BgOut (W : World) (s : Bs) (out : List Tok) (n : Nat) (at_ k : Value) (wr : World) : Prop := ∃ m a : Nat, m ≤ n ∧ a = advS s 0 (out.take m) ∧ at_ = .int .i64 (a : Int) ∧ k = .int .i64 (m : Int) ∧ Ext W wr
def BgIn (W : World) (s : Bs) (a : Nat) (at_ : Value) (wr : World) : Prop := ∃ j b : Nat, b = a + j ∧ b ≤ a + s.length ∧ at_ = .int .i64 (b : Int) ∧ (∀ i, i < j → clsAt s (a + i) = 1 ∨ clsAt s (a + i) = 4) ∧ Ext W wr
set_option maxRecDepth 100000 in
theorem begins_any {w0 W : World} {g : Nat} {s : Bs} {v : Value} {out : List Tok} {x : Int} (h : CutAt w0 W g s v out x) (n : Nat) (hs : s.length ≤ 200) (hn : n < out.length) (hl : out.length ≤ 1000) (ha : advS s 0 out ≤ 300) :
  Calls Tryz.prog 83 #[.pointer (some ⟨g, 0, none⟩), .int .i64 (n : Int)] W fun e w' => e = .returned (.int .i64 (beginS s 0 out n : Int)) ∧ Ext W w' := by
 have HC := Lib.hid (fun W' (hx : Ext W W') => h.to hx)
 clear h
 go_enter Tryz.func83, Tryz.ntmps83
 go_wp2_with fail
 go_loopw [5, 6] (fun a k wr => BgOut W s out n a k wr) (fun _ k _ => n - (intOf k).toNat)
 case atStart => exact ⟨0, 0, by omega, rfl, rfl, rfl, Ext.refl _⟩
 case round =>
  obtain ⟨m, a, hm, hadv, rfl, rfl, hX⟩ := hrel
  have hale : a ≤ 300 := by
   have := advS_le (s := s) (out := out) (k := m)
   omega
  obtain ⟨w3, rfl⟩ : ∃ w3, w3 = wr := ⟨_, rfl⟩
  replace hadv := Lib.hid hadv
  have HX := Lib.hid hX
  clear hX
  have H1 := Lib.hid (show BgIn w3 s a (.int .i64 (a : Int)) w3 from ⟨0, a, rfl, by omega, rfl, fun i h => absurd h (by omega), Ext.refl _⟩)
  go_wp2_with fail
  go_loopw [5] (fun b wr => BgIn w3 s a b wr) (fun b _ => a + s.length + 1 - (intOf b).toNat)
  case atStart => exact H1.out
  case round =>
   clear H1
   obtain ⟨j, b, hb, hbl, rfl, hg, hx⟩ := hrel
   obtain ⟨w4, rfl⟩ : ∃ w4, w4 = wr := ⟨_, rfl⟩
   have hb5 : b ≤ 500 := by omega
   have HX4 := Lib.hid (HX.out.trans hx)
   have HXi := Lib.hid hx
   have HG := Lib.hid hg
   replace hb := Lib.hid hb
   clear hx hg
   go_wp2_with fail
   refine (class_any (HC.out _ HX4.out).blk b hs (by omega)).mono ?_
   rintro e w5 ⟨rfl, hx5⟩
   obtain ⟨c, hc⟩ : ∃ c, clsAt s b = c := ⟨_, rfl⟩
   rw [hc]
   have HX5 := Lib.hid (HX4.out.trans hx5)
   have HXi5 := Lib.hid (HXi.out.trans hx5)
   have hstep := Lib.hid (fun (w' : World) (hx' : Ext w3 w') (h14 : c = 1 ∨ c = 4) => (show BgIn w3 s a (.int .i64 ((b + 1 : Nat) : Int)) w' from by
    have hlt : b < s.length := by
     rcases Nat.lt_or_ge b s.length with h | h
     ·exact h
     ·rw [clsAt_end h] at hc; omega
    refine ⟨j + 1, b + 1, by have := hb.out; omega, by omega, rfl, fun i hi => ?_, hx'⟩
    by_cases e : i = j
    ·subst e; rw [← hb.out, hc]; exact h14
    ·exact HG.out i (by omega)))
   replace hc := Lib.hid hc
   clear hx5
   by_cases h1 : c = 1
   ·subst h1
    have HE := Lib.hid (hstep.out w5 HXi5.out (.inl rfl))
    have hlt : b < a + s.length + 1 := by omega
    clear hstep
    go_wp2_with fail
    go_roundw
    case rel => exact HE.out
    case measure => simp [intOf]; omega
   ·have d1 : ((c : Int) == 1) = false := by rw [beq_eq_false_iff_ne]; omega
    go_wp2_with fail
    refine (class_any (HC.out _ HX5.out).blk b hs (by omega)).mono ?_
    rintro e w6 ⟨rfl, hx6⟩
    rw [hc.out]
    have HX6 := Lib.hid (HX5.out.trans hx6)
    have HXi6 := Lib.hid (HXi5.out.trans hx6)
    clear hx6
    by_cases h4 : c = 4
    ·subst h4
     have HE := Lib.hid (hstep.out w6 HXi6.out (.inr rfl))
     clear hstep
     go_wp2_with fail
     go_roundw
     case rel => exact HE.out
     case measure => simp [intOf]; omega
    ·have d4 : ((c : Int) == 4) = false := by rw [beq_eq_false_iff_ne]; omega
     have hskip : skipS (s.drop a) = j := skipS_is HG.out (by rw [← hb.out, hc.out]; exact h1) (by rw [← hb.out, hc.out]; exact h4)
     replace hskip := Lib.hid hskip
     clear hstep
     by_cases hmn : m = n
     ·subst hmn
      have e0 : ((m : Int) == (m : Int)) = true := by simp
      have hres : beginS s 0 out m = b := by rw [beginS_adv s out m 0 (by omega), ← hadv.out, hskip.out, hb.out]
      replace hres := Lib.hid hres
      go_wp2_with fail
      go_ret
      exact ⟨by rw [hres.out]; rfl, HX6.out⟩
     ·have e0 : ((m : Int) == (n : Int)) = false := by rw [beq_eq_false_iff_ne]; omega
      have hmo : m < out.length := by omega
      have hCut := HC.out _ HX6.out
      have c257 := (hCut.blk.cell 257).trans (cutC_v s v x)
      have lg := hCut.blk.lt
      obtain ⟨A, cap, rfl, _, _, hrd⟩ := own_slice hCut.row
      obtain ⟨g8, o8, rfl, _, _⟩ := hrd.cellAt hmo
      obtain ⟨lg8, t0, t1⟩ := tok_own hCut.row hmo
      have ml : (m : Int) < (out.length : Int) := by omega
      have mz : (0 : Int) ≤ (m : Int) := by omega
      have hnext : advS s 0 (out.take (m + 1)) = b + out[m].t.length := by rw [advS_take hmo, ← hadv.out, hskip.out, hb.out]
      have hble : b + out[m].t.length ≤ 300 := by rw [← hnext]; exact Nat.le_trans advS_le ha
      have HE := Lib.hid (show BgOut W s out n (.int .i64 ((b + out[m].t.length : Nat) : Int)) (.int .i64 ((m + 1 : Nat) : Int)) w6 from ⟨m + 1, _, by omega, hnext.symm, rfl, rfl, HX6.out⟩)
      clear hnext hCut hrd
      generalize out[m].t = tt at *
      generalize out[m].k = tk at *
      go_wp2_with fail
      go_roundw
      case rel => exact HE.out
      case measure => simp [intOf]; omega
end Go.Proofs.YtjaponmpfdpemaaGreatDoor
set_option linter.unusedSimpArgs false
set_option linter.unusedVariables false
namespace Go.Proofs.YtjaponmpfdpemaaGreatDoor
def unzig (r : Nat) : Int := if r % 2 = 0 then ((r / 2 : Nat) : Int) else -((r / 2 : Nat) : Int) - 1
structure Got where
 n : Int
 next : Nat
 fe : Int
 fa : Nat
deriving DecidableEq
def getGo (at_ : Nat) : List UInt8 → Nat → Nat → Got
 | [], i, _ => ⟨0, 0, 4, at_ + i⟩
 | c :: r, i, rank =>
  if i = 9 ∧ 1 < c.toNat then ⟨0, 0, 5, at_ + i⟩
  else if 0 < i ∧ c.toNat = 0 then ⟨0, 0, 4, at_ + i⟩
  else if c.toNat < 128 then ⟨unzig (rank + c.toNat % 128 * 128 ^ i), at_ + i + 1, 0, 0⟩
  else getGo at_ r (i + 1) (rank + c.toNat % 128 * 128 ^ i)
def getN (b : List UInt8) (at_ : Nat) : Got := getGo at_ (b.drop at_) 0 0
structure RS where
 b : List UInt8
 at_ : Nat
 fe : Int
 fa : Nat
deriving DecidableEq
def RS.start (b : List UInt8) : RS := ⟨b, 0, 0, 0⟩
def RS.num (s : RS) (lo hi above : Int) : Int × RS :=
 if s.fe ≠ 0 then (0, s) else
  let g := getN s.b s.at_
  if g.fe ≠ 0 then (0, { s with fe := g.fe, fa := g.fa })
  else if hi < g.n then (0, { s with fe := above, fa := s.at_ })
  else if g.n < lo then (0, { s with fe := 5, fa := s.at_ })
  else (g.n, { s with at_ := g.next })
def RS.int (s : RS) (lo hi : Int) : Int × RS := s.num lo hi 5
def RS.ok (s : RS) : Prop := s.at_ ≤ s.b.length ∧ s.fa ≤ s.b.length
end Go.Proofs.YtjaponmpfdpemaaGreatDoor
set_option linter.unusedSimpArgs false
set_option linter.unusedVariables false
namespace Go.Proofs.YtjaponmpfdpemaaGreatDoor
open Go.RowKit
theorem ld_fault {w : World} {g : Nat} {a b : Value} (h : Blk w g 36 #[a, b]) : (loadVar 36 ⟨g, 0, none⟩).run Tryz.prog w = .ok (.agg #[a, b]) w := by
 have q := h.cell
 simp [go_sem, q]
theorem fault_set {w : World} {g : Nat} {a b : Value} (h : Blk w g 36 #[a, b]) (x y : Value) : Blk ((w.setCell ⟨g, 0, none⟩ x).setCell ⟨g, 1, none⟩ y) g 36 #[x, y] := (h.set_ 0 x).set_ 1 y
end Go.Proofs.YtjaponmpfdpemaaGreatDoor
