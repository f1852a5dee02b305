/-
  Plain: parts of streets: which numbers one has, whether it may be, where a number lies.
-/
import Derived.Test.YtjaponmpfdpemaaGreatDoorBa02
import Derived.Shelf.LaysC
import Derived.Shelf.Strings.Builder1
import Derived.Shelf.Strconv.AtoiAll
import Derived.Test.YtjaponmpfdpemaaGreatDoorProg
import Derived.Shelf.Strings.SlTrimAscii
set_option linter.unusedVariables false
namespace Go.Proofs.YtjaponmpfdpemaaGreatDoor

/-- A part of a street. -/
structure Sr where
  state : Bs
  city : Bs
  pre : Bs
  name : Bs
  suf : Bs
  post : Bs
  fr : Int
  to_ : Int
  side : Int
  ax : Int
  ay : Int
  bx : Int
  by_ : Int
deriving DecidableEq
def Sr.ad (s : Sr) : Ad := ⟨1, false, s.pre, s.name, s.suf, s.post, [], s.city, s.state, [48, 48, 48, 48, 48], []⟩
/-- Which street a part is of. -/
def Sr.key (s : Sr) : List Bs := [s.state, s.city, s.pre, s.name, s.suf, s.post]
def Ad.key (a : Ad) : List Bs := [a.state, a.city, a.pre, a.name, a.suf, a.post]
/-- Numbers of a parity, as the program tells them. -/
def Sr.hasQ (s : Sr) (p : Int) : Bool := s.side == 3 || ((s.side == 1) == (p == 1))
def Sr.low (s : Sr) (p : Int) : Int := if s.fr.tmod 2 = p then s.fr else s.fr + 1
def Sr.high (s : Sr) (p : Int) : Int := if s.to_.tmod 2 = p then s.to_ else s.to_ - 1
def Sr.isQ (s : Sr) (p : Int) : Bool := s.hasQ p && decide (s.low p ≤ s.high p)
/-- A number, as the document has it. -/
def Sr.hasR (s : Sr) (n : Int) : Bool := !(decide (n < s.fr) || decide (s.to_ < n)) && ((s.side == 3 || (s.side == 1 && n.tmod 2 == 1)) || (s.side == 2 && n.tmod 2 == 0))
def fitP (n : Int) : Bool := decide (-1099511627775 ≤ n) && decide (n ≤ 1099511627775)
def ptP (x y : Int) : Bool := fitP x && fitP y
def Sr.fine (s : Sr) : Bool := decide (checkP s.ad = 0) && decide (1 ≤ s.fr) && decide (s.fr ≤ s.to_) && decide (s.to_ ≤ 999999) && decide (1 ≤ s.side) && decide (s.side ≤ 3)
def Sr.check (s : Sr) : Int := if (!s.fine || !ptP s.ax s.ay || !ptP s.bx s.by_) = true then 2 else if (!s.isQ 1 && !s.isQ 0) = true then 2 else 0
def Sr.checkR (s : Sr) : Int := if (!s.fine || !ptP s.ax s.ay || !ptP s.bx s.by_ || (!s.hasR s.fr && !s.hasR (s.fr + 1))) = true then 2 else 0
/-- What holds of a part whose numbers may be. -/
structure Sr.Num (s : Sr) : Prop where
  f1 : 1 ≤ s.fr
  ft : s.fr ≤ s.to_
  t9 : s.to_ ≤ 999999
  s1 : 1 ≤ s.side
  s3 : s.side ≤ 3
theorem Sr.fine_num {s : Sr} (h : s.fine = true) : s.Num := by
  unfold Sr.fine at h
  simp only [Bool.and_eq_true, decide_eq_true_eq] at h
  exact ⟨h.1.1.1.1.2, h.1.1.1.2, h.1.1.2, h.1.2, h.2⟩
theorem tmod2 {n : Int} (h : 0 ≤ n) : n.tmod 2 = n % 2 := Int.tmod_eq_emod_of_nonneg h
theorem Sr.low_eq {s : Sr} (h : s.Num) (p : Int) (hp : p = 0 ∨ p = 1) : s.fr ≤ s.low p ∧ s.low p ≤ s.fr + 1 ∧ s.low p % 2 = p := by
  have h1 := h.f1
  unfold Sr.low
  rw [tmod2 (by omega)]
  split <;> omega
theorem Sr.high_eq {s : Sr} (h : s.Num) (p : Int) (hp : p = 0 ∨ p = 1) : s.to_ - 1 ≤ s.high p ∧ s.high p ≤ s.to_ ∧ s.high p % 2 = p := by
  have h1 := h.f1
  have h2 := h.ft
  unfold Sr.high
  rw [tmod2 (by omega)]
  split <;> omega
theorem Sr.Num.side_ways {s : Sr} (h : s.Num) : s.side = 1 ∨ s.side = 2 ∨ s.side = 3 := by
  have := h.s1
  have := h.s3
  omega
theorem Sr.hasR_iff {s : Sr} (h : s.Num) (n : Int) : s.hasR n = true ↔ s.fr ≤ n ∧ n ≤ s.to_ ∧ (s.side = 3 ∨ (s.side = 1 ∧ n % 2 = 1) ∨ (s.side = 2 ∧ n % 2 = 0)) := by
  have h1 := h.f1
  unfold Sr.hasR
  simp only [Bool.and_eq_true, Bool.not_eq_true', Bool.or_eq_false_iff, decide_eq_false_iff_not, Bool.or_eq_true, beq_iff_eq]
  constructor
  · rintro ⟨⟨a, b⟩, c⟩
    rw [tmod2 (by omega)] at c
    refine ⟨by omega, by omega, ?_⟩
    rcases c with (c | c) | c
    · exact .inl c
    · exact .inr (.inl c)
    · exact .inr (.inr c)
  · rintro ⟨a, b, c⟩
    rw [tmod2 (by omega)]
    refine ⟨⟨by omega, by omega⟩, ?_⟩
    rcases c with c | c | c
    · exact .inl (.inl c)
    · exact .inl (.inr c)
    · exact .inr c
theorem Sr.hasQ_iff {s : Sr} (h : s.Num) (p : Int) (hp : p = 0 ∨ p = 1) : s.hasQ p = true ↔ s.side = 3 ∨ (s.side = 1 ∧ p = 1) ∨ (s.side = 2 ∧ p = 0) := by
  unfold Sr.hasQ
  rcases h.side_ways with e | e | e <;> rcases hp with rfl | rfl <;> rw [e] <;> simp
theorem Sr.isQ_iff {s : Sr} (h : s.Num) (p : Int) (hp : p = 0 ∨ p = 1) : s.isQ p = true ↔ (s.side = 3 ∨ (s.side = 1 ∧ p = 1) ∨ (s.side = 2 ∧ p = 0)) ∧ s.low p ≤ s.high p := by
  unfold Sr.isQ
  rw [Bool.and_eq_true, decide_eq_true_eq, s.hasQ_iff h p hp]
/-- A number is one of a part's just if it is from its parity's first to the last. -/
theorem Sr.has_iff {s : Sr} (h : s.Num) (n : Int) : s.hasR n = true ↔ s.isQ (n % 2) = true ∧ s.low (n % 2) ≤ n ∧ n ≤ s.high (n % 2) := by
  have hp : n % 2 = 0 ∨ n % 2 = 1 := by omega
  rw [s.hasR_iff h n, s.isQ_iff h _ hp]
  obtain ⟨a1, a2, a3⟩ := s.low_eq h _ hp
  obtain ⟨b1, b2, b3⟩ := s.high_eq h _ hp
  constructor
  · rintro ⟨c1, c2, c3⟩
    exact ⟨⟨c3, by omega⟩, by omega, by omega⟩
  · rintro ⟨⟨c3, _⟩, c1, c2⟩
    exact ⟨by omega, by omega, c3⟩
theorem Sr.some_iff {s : Sr} (h : s.Num) : (s.hasR s.fr = true ∨ s.hasR (s.fr + 1) = true) ↔ (s.isQ 1 = true ∨ s.isQ 0 = true) := by
  have h2 := h.ft
  rw [s.hasR_iff h, s.hasR_iff h, s.isQ_iff h 1 (.inr rfl), s.isQ_iff h 0 (.inl rfl)]
  obtain ⟨a1, a2, a3⟩ := s.low_eq h 1 (.inr rfl)
  obtain ⟨b1, b2, b3⟩ := s.high_eq h 1 (.inr rfl)
  obtain ⟨c1, c2, c3⟩ := s.low_eq h 0 (.inl rfl)
  obtain ⟨d1, d2, d3⟩ := s.high_eq h 0 (.inl rfl)
  rcases h.side_ways with e | e | e <;> rw [e] <;> simp <;> omega
theorem Sr.check_eq (s : Sr) : s.checkR = s.check := by
  unfold Sr.checkR Sr.check
  by_cases hf : s.fine = true
  · have h := s.some_iff (Sr.fine_num hf)
    have e : (!s.hasR s.fr && !s.hasR (s.fr + 1)) = (!s.isQ 1 && !s.isQ 0) := by
      cases h1 : s.hasR s.fr <;> cases h2 : s.hasR (s.fr + 1) <;> cases h3 : s.isQ 1 <;> cases h4 : s.isQ 0 <;> simp [h1, h2, h3, h4] at h ⊢
    rw [e]
    cases (!s.fine || !ptP s.ax s.ay || !ptP s.bx s.by_) <;> cases (!s.isQ 1 && !s.isQ 0) <;> rfl
  · have e : (!s.fine) = true := by simpa using hf
    rw [e]
    rfl
theorem Sr.check_two {s : Sr} (h : s.check ≠ 0) : s.check = 2 := by
  unfold Sr.check at h ⊢
  split
  · rfl
  · rename_i h1
    rw [if_neg h1] at h
    split
    · rfl
    · rename_i h2
      rw [if_neg h2] at h
      exact absurd rfl h
structure Sr.Ok (s : Sr) : Prop where
  num : s.Num
  ad : checkP s.ad = 0
  a : ptP s.ax s.ay = true
  b : ptP s.bx s.by_ = true
  q : s.isQ 1 = true ∨ s.isQ 0 = true
theorem Sr.check_ok {s : Sr} (h : s.check = 0) : s.Ok := by
  unfold Sr.check at h
  split at h
  · cases h
  · rename_i h1
    split at h
    · cases h
    · rename_i h2
      simp only [Bool.or_eq_true, Bool.not_eq_true', not_or, Bool.not_eq_false] at h1
      simp only [Bool.and_eq_true, Bool.not_eq_true'] at h2
      obtain ⟨⟨a1, a2⟩, a3⟩ := h1
      have a4 := a1
      unfold Sr.fine at a4
      simp only [Bool.and_eq_true, decide_eq_true_eq] at a4
      refine ⟨Sr.fine_num a1, a4.1.1.1.1.1, a2, a3, ?_⟩
      cases h3 : s.isQ 1 with
      | true => exact .inl rfl
      | false =>
        cases h4 : s.isQ 0 with
        | true => exact .inr rfl
        | false => exact absurd ⟨h3, h4⟩ h2
/-- Where a number lies. -/
def Sr.place (s : Sr) (n : Int) : Int × Int := if s.fr = s.to_ then (s.ax, s.ay) else (s.ax + (s.bx - s.ax) * (n - s.fr) / (s.to_ - s.fr), s.ay + (s.by_ - s.ay) * (n - s.fr) / (s.to_ - s.fr))
def Sr.at_ (s : Sr) (n : Int) : (Int × Int) × Bool := if s.check = 0 ∧ s.hasR n = true then (s.place n, true) else ((0, 0), false)
theorem Sr.at_prog {s : Sr} (h : s.check = 0) (n : Int) (h1 : s.fr ≤ n) (h2 : n ≤ s.to_) : s.hasR n = s.hasQ (n.tmod 2) := by
  have hn := (Sr.check_ok h).num
  have := hn.f1
  rw [tmod2 (by omega)]
  have hp : n % 2 = 0 ∨ n % 2 = 1 := by omega
  rw [Bool.eq_iff_iff, s.hasR_iff hn, s.hasQ_iff hn _ hp]
  constructor
  · rintro ⟨_, _, c⟩; exact c
  · intro c; exact ⟨h1, h2, c⟩
end Go.Proofs.YtjaponmpfdpemaaGreatDoor

namespace Go.Proofs
open Go.Shelf
def Tryz.lays166_ren : Go.Shelf.Ren := ⟨fun | 156 => 115 | 165 => 143 | 166 => 84 | 169 => 85 | 240 => 127 | 241 => 164 | 276 => 151 | 277 => 179 | n => n, fun | 31 => 82 | 9 => 9 | 3 => 3 | 4 => 4 | 0 => 0 | 20 => 20 | 72 => 131 | 76 => 134 | 70 => 128 | 37 => 129 | 75 => 133 | 127 => 182 | 164 => 203 | 5 => 5 | 80 => 115 | n => n, fun | n => n⟩
theorem Tryz.lays166 : Go.Proofs.Lays.n166 Tryz.prog Tryz.lays166_ren := {
  mixed := by kernel_rfl
  f166 := Tryz.func84.trans (congrArg some (by kernel_rfl))
  f240 := Tryz.func127.trans (congrArg some (by kernel_rfl))
  f276 := Tryz.func151.trans (congrArg some (by kernel_rfl))
  t0 := Tryz.underlying0
  a0 := Tryz.isAgg0
  z0 := Tryz.sizeOf0
  v0 := Tryz.zeroValue0
  t3 := Tryz.underlying3
  a3 := Tryz.isAgg3
  z3 := Tryz.sizeOf3
  v3 := Tryz.zeroValue3
  t4 := Tryz.underlying4
  a4 := Tryz.isAgg4
  z4 := Tryz.sizeOf4
  v4 := Tryz.zeroValue4
  t9 := Tryz.underlying9
  a9 := Tryz.isAgg9
  z9 := Tryz.sizeOf9
  v9 := Tryz.zeroValue9
  t20 := Tryz.underlying20
  a20 := Tryz.isAgg20
  z20 := Tryz.sizeOf20
  v20 := Tryz.zeroValue20
  t37 := Tryz.underlying129
  a37 := Tryz.isAgg129
  z37 := Tryz.sizeOf129
  v37 := Tryz.zeroValue129
  t70 := Tryz.underlying128
  a70 := Tryz.isAgg128
  z70 := Tryz.sizeOf128
  v70 := Tryz.zeroValue128
  t72 := Tryz.underlying131
  a72 := Tryz.isAgg131
  z72 := Tryz.sizeOf131
  v72 := Tryz.zeroValue131
  t75 := Tryz.underlying133
  a75 := Tryz.isAgg133
  z75 := Tryz.sizeOf133
  v75 := Tryz.zeroValue133
  t164 := Tryz.underlying203
  a164 := Tryz.isAgg203
  z164 := Tryz.sizeOf203
  v164 := Tryz.zeroValue203 }
theorem Tryz.Builder_Extra_166 : Builder.Extra Tryz.prog Tryz.lays166_ren := {
  sizeBuilder := by kernel_rfl
  liesBuilder := by kernel_rfl
  t5 := Tryz.underlying5
  a5 := Tryz.isAgg5
  z5 := Tryz.sizeOf5
  v5 := Tryz.zeroValue5
  infoByte := by kernel_rfl
  cellsByte := by kernel_rfl
  sizeByte := by kernel_rfl
  neB5 := by decide }
def Tryz.laysC172_ren : Go.Shelf.Ren := ⟨fun | 172 => 93 | 244 => 128 | 245 => 129 | 247 => 152 | 279 => 153 | 280 => 154 | 281 => 155 | 282 => 156 | 287 => 171 | 316 => 172 | 171 => 174 | 205 => 173 | 321 => 187 | 322 => 188 | 243 => 189 | 246 => 205 | 283 => 216 | 284 => 217 | 285 => 218 | 286 => 219 | 129 => 159 | 317 => 221 | 318 => 222 | 319 => 223 | 320 => 224 | 337 => 225 | 338 => 226 | n => n, fun | 9 => 9 | 3 => 3 | 75 => 133 | 76 => 134 | 4 => 4 | 5 => 5 | 167 => 205 | 37 => 129 | 0 => 0 | 85 => 206 | 2 => 2 | 168 => 208 | 53 => 96 | 175 => 216 | 46 => 165 | 210 => 219 | 127 => 182 | 145 => 234 | 143 => 232 | 21 => 21 | 171 => 270 | 173 => 272 | 212 => 280 | 51 => 235 | 20 => 20 | 213 => 281 | 232 => 282 | 233 => 283 | 80 => 115 | n => n, fun | 15 => 2 | 16 => 3 | 17 => 9 | 18 => 10 | 19 => 11 | n => n⟩
theorem Tryz.laysC172 : Go.Proofs.LaysC.n172 Tryz.prog Tryz.laysC172_ren := {
  mixed := by kernel_rfl
  f129 := Tryz.func159.trans (congrArg some (by kernel_rfl))
  f171 := Tryz.func174.trans (congrArg some (by kernel_rfl))
  f172 := Tryz.func93.trans (congrArg some (by kernel_rfl))
  f205 := Tryz.func173.trans (congrArg some (by kernel_rfl))
  f243 := Tryz.func189.trans (congrArg some (by kernel_rfl))
  f244 := Tryz.func128.trans (congrArg some (by kernel_rfl))
  f245 := Tryz.func129.trans (congrArg some (by kernel_rfl))
  f246 := Tryz.func205.trans (congrArg some (by kernel_rfl))
  f247 := Tryz.func152.trans (congrArg some (by kernel_rfl))
  f279 := Tryz.func153.trans (congrArg some (by kernel_rfl))
  f280 := Tryz.func154.trans (congrArg some (by kernel_rfl))
  f281 := Tryz.func155.trans (congrArg some (by kernel_rfl))
  f282 := Tryz.func156.trans (congrArg some (by kernel_rfl))
  f283 := Tryz.func216.trans (congrArg some (by kernel_rfl))
  f284 := Tryz.func217.trans (congrArg some (by kernel_rfl))
  f285 := Tryz.func218.trans (congrArg some (by kernel_rfl))
  f286 := Tryz.func219.trans (congrArg some (by kernel_rfl))
  f287 := Tryz.func171.trans (congrArg some (by kernel_rfl))
  f316 := Tryz.func172.trans (congrArg some (by kernel_rfl))
  f317 := Tryz.func221.trans (congrArg some (by kernel_rfl))
  f318 := Tryz.func222.trans (congrArg some (by kernel_rfl))
  f319 := Tryz.func223.trans (congrArg some (by kernel_rfl))
  f320 := Tryz.func224.trans (congrArg some (by kernel_rfl))
  f321 := Tryz.func187.trans (congrArg some (by kernel_rfl))
  f322 := Tryz.func188.trans (congrArg some (by kernel_rfl))
  f337 := Tryz.func225.trans (congrArg some (by kernel_rfl))
  f338 := Tryz.func226.trans (congrArg some (by kernel_rfl))
  t0 := Tryz.underlying0
  a0 := Tryz.isAgg0
  z0 := Tryz.sizeOf0
  v0 := Tryz.zeroValue0
  t2 := Tryz.underlying2
  a2 := Tryz.isAgg2
  z2 := Tryz.sizeOf2
  v2 := Tryz.zeroValue2
  t3 := Tryz.underlying3
  a3 := Tryz.isAgg3
  z3 := Tryz.sizeOf3
  v3 := Tryz.zeroValue3
  t4 := Tryz.underlying4
  a4 := Tryz.isAgg4
  z4 := Tryz.sizeOf4
  v4 := Tryz.zeroValue4
  t5 := Tryz.underlying5
  a5 := Tryz.isAgg5
  z5 := Tryz.sizeOf5
  v5 := Tryz.zeroValue5
  t9 := Tryz.underlying9
  a9 := Tryz.isAgg9
  z9 := Tryz.sizeOf9
  v9 := Tryz.zeroValue9
  t20 := Tryz.underlying20
  a20 := Tryz.isAgg20
  z20 := Tryz.sizeOf20
  v20 := Tryz.zeroValue20
  t21 := Tryz.underlying21
  a21 := Tryz.isAgg21
  z21 := Tryz.sizeOf21
  v21 := Tryz.zeroValue21
  t37 := Tryz.underlying129
  a37 := Tryz.isAgg129
  z37 := Tryz.sizeOf129
  v37 := Tryz.zeroValue129
  t46 := Tryz.underlying165
  a46 := Tryz.isAgg165
  z46 := Tryz.sizeOf165
  v46 := Tryz.zeroValue165
  t51 := Tryz.underlying235
  a51 := Tryz.isAgg235
  z51 := Tryz.sizeOf235
  v51 := Tryz.zeroValue235
  t53 := Tryz.underlying96
  a53 := Tryz.isAgg96
  z53 := Tryz.sizeOf96
  v53 := Tryz.zeroValue96
  t75 := Tryz.underlying133
  a75 := Tryz.isAgg133
  z75 := Tryz.sizeOf133
  v75 := Tryz.zeroValue133
  t76 := Tryz.underlying134
  a76 := Tryz.isAgg134
  z76 := Tryz.sizeOf134
  v76 := Tryz.zeroValue134
  t85 := Tryz.underlying206
  a85 := Tryz.isAgg206
  z85 := Tryz.sizeOf206
  v85 := Tryz.zeroValue206
  t127 := Tryz.underlying182
  a127 := Tryz.isAgg182
  z127 := Tryz.sizeOf182
  v127 := Tryz.zeroValue182
  t143 := Tryz.underlying232
  a143 := Tryz.isAgg232
  z143 := Tryz.sizeOf232
  v143 := Tryz.zeroValue232
  t145 := Tryz.underlying234
  a145 := Tryz.isAgg234
  z145 := Tryz.sizeOf234
  v145 := Tryz.zeroValue234
  t167 := Tryz.underlying205
  a167 := Tryz.isAgg205
  z167 := Tryz.sizeOf205
  v167 := Tryz.zeroValue205
  t168 := Tryz.underlying208
  a168 := Tryz.isAgg208
  z168 := Tryz.sizeOf208
  v168 := Tryz.zeroValue208
  t171 := Tryz.underlying270
  a171 := Tryz.isAgg270
  z171 := Tryz.sizeOf270
  v171 := Tryz.zeroValue270
  t173 := Tryz.underlying272
  a173 := Tryz.isAgg272
  z173 := Tryz.sizeOf272
  v173 := Tryz.zeroValue272
  t175 := Tryz.underlying216
  a175 := Tryz.isAgg216
  z175 := Tryz.sizeOf216
  v175 := Tryz.zeroValue216
  t210 := Tryz.underlying219
  a210 := Tryz.isAgg219
  z210 := Tryz.sizeOf219
  v210 := Tryz.zeroValue219
  t212 := Tryz.underlying280
  a212 := Tryz.isAgg280
  z212 := Tryz.sizeOf280
  v212 := Tryz.zeroValue280
  t213 := Tryz.underlying281
  a213 := Tryz.isAgg281
  z213 := Tryz.sizeOf281
  t232 := Tryz.underlying282
  a232 := Tryz.isAgg282
  z232 := Tryz.sizeOf282
  v232 := Tryz.zeroValue282
  t233 := Tryz.underlying283
  a233 := Tryz.isAgg283
  z233 := Tryz.sizeOf283
  v233 := Tryz.zeroValue283
  g15 := by kernel_rfl
  g16 := by kernel_rfl
  g17 := by kernel_rfl
  g18 := by kernel_rfl
  g19 := by kernel_rfl
  t80 := Tryz.underlying115
  a80 := Tryz.isAgg115
  z80 := Tryz.sizeOf115
  v80 := Tryz.zeroValue115
  i0 := by kernel_rfl
  i2 := by kernel_rfl
  i3 := by kernel_rfl
  i4 := by kernel_rfl
  i5 := by kernel_rfl
  i9 := by kernel_rfl
  i20 := by kernel_rfl
  i21 := by kernel_rfl
  i37 := by kernel_rfl
  i46 := by kernel_rfl
  i51 := by kernel_rfl
  i53 := by kernel_rfl
  i75 := by kernel_rfl
  i76 := by kernel_rfl
  i80 := by kernel_rfl
  i85 := by kernel_rfl
  i127 := by kernel_rfl
  i143 := by kernel_rfl
  i145 := by kernel_rfl
  i167 := by kernel_rfl
  i168 := by kernel_rfl
  i171 := by kernel_rfl
  i173 := by kernel_rfl
  i175 := by kernel_rfl
  i210 := by kernel_rfl
  i212 := by kernel_rfl
  i232 := by kernel_rfl
  i233 := by kernel_rfl
  m15 := by kernel_rfl
  m16 := by kernel_rfl
  m17 := by kernel_rfl
  m18 := by kernel_rfl
  m19 := by kernel_rfl
  c0 := by kernel_rfl
  c2 := by kernel_rfl
  c3 := by kernel_rfl
  c4 := by kernel_rfl
  c5 := by kernel_rfl
  c9 := by kernel_rfl
  c20 := by kernel_rfl
  c21 := by kernel_rfl
  c37 := by kernel_rfl
  c46 := by kernel_rfl
  c51 := by kernel_rfl
  c53 := by kernel_rfl
  c75 := by kernel_rfl
  c76 := by kernel_rfl
  c80 := by kernel_rfl
  c85 := by kernel_rfl
  c127 := by kernel_rfl
  c143 := by kernel_rfl
  c145 := by kernel_rfl
  c167 := by kernel_rfl
  c168 := by kernel_rfl
  c171 := by kernel_rfl
  c173 := by kernel_rfl
  c175 := by kernel_rfl
  c210 := by kernel_rfl
  c212 := by kernel_rfl
  c213 := by kernel_rfl
  c232 := by kernel_rfl
  c233 := by kernel_rfl }
end Go.Proofs

namespace Go.Proofs
open Go.Shelf
def Tryz.lays160_ren : Go.Shelf.Ren := ⟨fun | 160 => 80 | 232 => 119 | 231 => 118 | 227 => 120 | 234 => 122 | 233 => 121 | 236 => 124 | 235 => 123 | 228 => 145 | 271 => 148 | 151 => 147 | 197 => 146 | 120 => 170 | 152 => 169 | 260 => 168 | 137 => 185 | 119 => 186 | 224 => 177 | 225 => 176 | 217 => 175 | 266 => 190 | n => n, fun | 9 => 9 | 4 => 4 | 3 => 3 | 5 => 5 | 117 => 177 | 116 => 176 | 0 => 0 | 124 => 180 | 21 => 21 | 105 => 200 | 46 => 165 | 119 => 121 | 139 => 230 | 138 => 229 | n => n, fun | 3 => 6 | 4 => 7 | n => n⟩
theorem Tryz.lays160 : Go.Proofs.Lays.n160 Tryz.prog Tryz.lays160_ren := {
  mixed := by kernel_rfl
  f119 := Tryz.func186.trans (congrArg some (by kernel_rfl))
  f120 := Tryz.func170.trans (congrArg some (by kernel_rfl))
  f137 := Tryz.func185.trans (congrArg some (by kernel_rfl))
  f151 := Tryz.func147.trans (congrArg some (by kernel_rfl))
  f152 := Tryz.func169.trans (congrArg some (by kernel_rfl))
  f160 := Tryz.func80.trans (congrArg some (by kernel_rfl))
  f197 := Tryz.func146.trans (congrArg some (by kernel_rfl))
  f217 := Tryz.func175.trans (congrArg some (by kernel_rfl))
  f224 := Tryz.func177.trans (congrArg some (by kernel_rfl))
  f225 := Tryz.func176.trans (congrArg some (by kernel_rfl))
  f227 := Tryz.func120.trans (congrArg some (by kernel_rfl))
  f228 := Tryz.func145.trans (congrArg some (by kernel_rfl))
  f231 := Tryz.func118.trans (congrArg some (by kernel_rfl))
  f232 := Tryz.func119.trans (congrArg some (by kernel_rfl))
  f233 := Tryz.func121.trans (congrArg some (by kernel_rfl))
  f234 := Tryz.func122.trans (congrArg some (by kernel_rfl))
  f235 := Tryz.func123.trans (congrArg some (by kernel_rfl))
  f236 := Tryz.func124.trans (congrArg some (by kernel_rfl))
  f260 := Tryz.func168.trans (congrArg some (by kernel_rfl))
  f266 := Tryz.func190.trans (congrArg some (by kernel_rfl))
  f271 := Tryz.func148.trans (congrArg some (by kernel_rfl))
  t0 := Tryz.underlying0
  a0 := Tryz.isAgg0
  z0 := Tryz.sizeOf0
  v0 := Tryz.zeroValue0
  t3 := Tryz.underlying3
  a3 := Tryz.isAgg3
  z3 := Tryz.sizeOf3
  v3 := Tryz.zeroValue3
  t4 := Tryz.underlying4
  a4 := Tryz.isAgg4
  z4 := Tryz.sizeOf4
  v4 := Tryz.zeroValue4
  t5 := Tryz.underlying5
  a5 := Tryz.isAgg5
  z5 := Tryz.sizeOf5
  v5 := Tryz.zeroValue5
  t9 := Tryz.underlying9
  a9 := Tryz.isAgg9
  z9 := Tryz.sizeOf9
  v9 := Tryz.zeroValue9
  t21 := Tryz.underlying21
  a21 := Tryz.isAgg21
  z21 := Tryz.sizeOf21
  v21 := Tryz.zeroValue21
  t46 := Tryz.underlying165
  a46 := Tryz.isAgg165
  z46 := Tryz.sizeOf165
  v46 := Tryz.zeroValue165
  t105 := Tryz.underlying200
  a105 := Tryz.isAgg200
  z105 := Tryz.sizeOf200
  v105 := Tryz.zeroValue200
  t116 := Tryz.underlying176
  a116 := Tryz.isAgg176
  z116 := Tryz.sizeOf176
  t117 := Tryz.underlying177
  a117 := Tryz.isAgg177
  z117 := Tryz.sizeOf177
  v117 := Tryz.zeroValue177
  t119 := Tryz.underlying121
  a119 := Tryz.isAgg121
  z119 := Tryz.sizeOf121
  t124 := Tryz.underlying180
  a124 := Tryz.isAgg180
  z124 := Tryz.sizeOf180
  v124 := Tryz.zeroValue180
  t138 := Tryz.underlying229
  a138 := Tryz.isAgg229
  z138 := Tryz.sizeOf229
  v138 := Tryz.zeroValue229
  t139 := Tryz.underlying230
  a139 := Tryz.isAgg230
  z139 := Tryz.sizeOf230
  v139 := Tryz.zeroValue230
  g3 := by kernel_rfl
  g4 := by kernel_rfl }
end Go.Proofs
