/-
  apportionlaw18: StreetEach (printed by tools/genMl.py).
-/
import Derived.Deep.CutRange
import Derived.Deep.RegionHeld3
import Derived.Test.YtjaponmpfdpemaaGreatDoorMs
import Derived.Test.YtjaponmpfdpemaaGreatDoorBa45
import Derived.Test.YtjaponmpfdpemaaGreatDoorBa33
set_option linter.unusedSimpArgs false
set_option linter.unusedVariables false
namespace Go.Proofs.YtjaponmpfdpemaaGreatDoor
open Go.RowKit

noncomputable def eachAt1 (n : Nat) : Code × Code := cut1 (Tryz.f7.body.bind (tailIn n))
noncomputable def eachAt2 (n : Nat) : Code × Code × Code := cut2 (Tryz.f7.body.bind (tailIn n))
/-- How far it has gone through the parts. -/
def EcAt (w0 : World) (l : List Sr) (s : Sr) (n : Int) (f i : Value) (wr : World) : Prop := ∃ k : Nat, k ≤ l.length ∧ i = .int .i64 (k : Int) ∧ f = .int .i64 (((l.take k).countP (eachF s n) : Nat) : Int) ∧ Ext w0 wr
theorem each_step {l : List Sr} {s : Sr} {n : Int} {k : Nat} (hk : k < l.length) : (l.take (k + 1)).countP (eachF s n) = (l.take k).countP (eachF s n) + if eachF s n l[k] = true then 1 else 0 := by
  rw [← List.take_append_getElem hk, List.countP_append]
  simp [List.countP_cons]
theorem eachF_iff (s x : Sr) (n : Int) : eachF s n x = ((x.state == s.state) && (x.city == s.city) && (x.pre == s.pre) && (x.name == s.name) && (x.suf == s.suf) && (x.post == s.post) && (x.at_ n).2) := by
  unfold eachF Sr.key
  rw [Bool.eq_iff_iff]
  simp [and_assoc]
theorem eachA_V (s : Sr) (n : Int) : adV (eachA s n) = .agg #[.int .i64 n, .bool false, .string ⟨s.pre.toArray⟩, .string ⟨s.name.toArray⟩, .string ⟨s.suf.toArray⟩, .string ⟨s.post.toArray⟩, .string ⟨#[]⟩, .string ⟨s.city.toArray⟩, .string ⟨s.state.toArray⟩, .string ⟨#[49, 48, 48, 48, 49]⟩, .string ⟨#[]⟩] := rfl
set_option maxRecDepth 100000 in
set_option maxHeartbeats 4000000 in
theorem each11 (l : List Sr) (hs : ∀ s ∈ l, SrS s 1000) (cn : Nat) (hcn : l.length = cn) (hl : cn ≤ 100) (A : Option Addr) (cap : Nat) (s : Sr) (n : Int) (r : (Int × Int) × Int) (L : EachLaw l s n r) (W w : World) (hS : Std w) (X : Ext W w) (tb g10 g11 : Nat) (B10 : Blk w g10 25 #[.string ⟨s.state.toArray⟩, .string ⟨s.city.toArray⟩, .string ⟨s.pre.toArray⟩, .string ⟨s.name.toArray⟩, .string ⟨s.suf.toArray⟩, .string ⟨s.post.toArray⟩, .int .i64 s.fr, .int .i64 s.to_, .int .i64 s.side, .int .i64 s.ax, .int .i64 s.ay, .int .i64 s.bx, .int .i64 s.by_]) (B11 : Blk w g11 45 #[.int .i64 n, .bool false, .string ⟨s.pre.toArray⟩, .string ⟨s.name.toArray⟩, .string ⟨s.suf.toArray⟩, .string ⟨s.post.toArray⟩, .string ⟨#[]⟩, .string ⟨s.city.toArray⟩, .string ⟨s.state.toArray⟩, .string ⟨#[49, 48, 48, 48, 49]⟩, .string ⟨#[]⟩])
    (hr : Reads w w.heap.size 13 A cn (srCells l))
    (HF : ∀ w', Ext w w' → Calls Tryz.prog 22 #[.pointer (some ⟨tb, 0, none⟩), adV (eachA s n)] w' fun e w3 => e = .returned (.tuple #[ptV r.1, .int .i64 r.2]) ∧ Ext w' w3) ⦃u1 u2 u3 u4 u5 u9 u19 u20 u21 u22 u23 u24 u25 u26 u27 u28 u29 u30 u31 u32 u33 u34 u35 u36 u37 u38 u39 u40 u41 u42 u43 u44 u45 u46 u47 u48 u49 u50 u51 u52 u53 u54 u55 u56 u57 u58 u59 u60 u61 u62 u63 u64 u65 u66 u67 u68 u69 u70 u71 u72 u73 u74 u75 u76 u77 u78 u79 u80 u81 u82 u83 : Value⦄ : KF1 Tryz.prog (bodyPost Tryz.prog Tryz.f7 (fun e w' => e = .returned (.bool true) ∧ Ext W w')) ⟨#[.slice A cn cap, u1, u2, u3, u4, u5, .bool false, .bool true, .pointer (some ⟨tb, 0, none⟩), u9, .pointer (some ⟨g10, 0, none⟩), .pointer (some ⟨g11, 0, none⟩), undef, undef, undef, undef, undef, undef, undef, u19, u20, u21, u22, u23, u24, u25, u26, u27, u28, u29, u30, u31, u32, u33, u34, u35, u36, u37, u38, u39, u40, u41, u42, u43, u44, u45, u46, u47, u48, u49, u50, u51, u52, u53, u54, u55, u56, u57, u58, u59, u60, u61, u62, u63, u64, u65, u66, u67, u68, u69, u70, u71, u72, u73, u74, u75, u76, u77, u78, u79, u80, u81, u82, u83, undef, undef, undef, undef, undef, undef, undef, undef, undef, undef, undef, undef, undef, undef, undef, undef, undef, undef, undef, undef, undef, undef, undef, undef, undef, undef, undef, undef, undef, undef, undef, undef, undef, undef, undef, undef, undef, undef, undef, undef, undef, undef, undef, undef, undef, undef, undef, undef, undef, undef, undef, undef, undef, undef, undef, undef, undef, undef, undef, undef, undef, undef, undef, undef, undef, undef, undef, undef, undef, undef, undef, undef, undef, undef, undef, undef, undef, undef, undef, undef, undef, undef, undef, undef, undef, undef, undef, undef, undef, undef, undef, undef, undef], []⟩ w (eachAt1 11) := by
  subst hcn
  have HA := Lib.hid (fun (k : Nat) (hk : k < l.length) w' (hx : Ext w w') => srat_any l[k] (hs _ (List.getElem_mem hk)) n w' (hS.ext hx))
  have HR := Lib.hid (fun w' (hx : Ext w w') => hr.ext hx)
  have BX := Lib.hid (fun w' (hx : Ext w w') => (show Blk w' g10 25 #[.string ⟨s.state.toArray⟩, .string ⟨s.city.toArray⟩, .string ⟨s.pre.toArray⟩, .string ⟨s.name.toArray⟩, .string ⟨s.suf.toArray⟩, .string ⟨s.post.toArray⟩, .int .i64 s.fr, .int .i64 s.to_, .int .i64 s.side, .int .i64 s.ax, .int .i64 s.ay, .int .i64 s.bx, .int .i64 s.by_] ∧ Blk w' g11 45 #[.int .i64 n, .bool false, .string ⟨s.pre.toArray⟩, .string ⟨s.name.toArray⟩, .string ⟨s.suf.toArray⟩, .string ⟨s.post.toArray⟩, .string ⟨#[]⟩, .string ⟨s.city.toArray⟩, .string ⟨s.state.toArray⟩, .string ⟨#[49, 48, 48, 48, 49]⟩, .string ⟨#[]⟩] from ⟨B10.ext hx, B11.ext hx⟩))
  have HFd := Lib.hid (fun (k : Nat) (hk : k < l.length) => (show l[k].key = s.key → (l[k].at_ n).2 = true → r = ((l[k].at_ n).1, 0) from fun h1 h2 => L.found l[k] (List.getElem_mem hk) h1 h2))
  have HT := Lib.hid L.told
  have HLe := Lib.hid L.le
  rw [eachA_V] at HF
  replace HF := Lib.hid HF
  replace X := Lib.hid X
  obtain ⟨⟨px, py⟩, er⟩ := r
  unfold ptV at HF
  dsimp only at HF HT
  clear hs hr hS L B10 B11
  conv => arg 5; whnf
  conv => arg 5; arg 1; whnf
  conv => arg 5; arg 2; whnf
  unfold KF1
  dsimp only
  intro K1 hK1

  obtain ⟨⟨qb, _⟩, lb⟩ := (fun (h : _ ∧ _) => (⟨h.2.cells, h.2.lt⟩ : _ ∧ _)) (BX.out _ (Ext.refl _))
  go_wp2_with fail
  refine (HF.out _ (Ext.refl _)).mono ?_
  rintro e w1 ⟨rfl, hx⟩
  have Y2 := Lib.hid (hx.alloc (.cells #[.int .i64 px, .int .i64 py] 23))
  have B12 := Blk.new w1 23 #[.int .i64 px, .int .i64 py]
  clear hx qb lb HF
  go_upto_region 12 with (fail)
  generalize w1.alloc (.cells #[.int .i64 px, .int .i64 py] 23) = w2 at *
  generalize w1.heap.size = g12 at *
  replace BX := Lib.hid (fun w' (hx : Ext w2 w') => (show Blk w' g10 25 #[.string ⟨s.state.toArray⟩, .string ⟨s.city.toArray⟩, .string ⟨s.pre.toArray⟩, .string ⟨s.name.toArray⟩, .string ⟨s.suf.toArray⟩, .string ⟨s.post.toArray⟩, .int .i64 s.fr, .int .i64 s.to_, .int .i64 s.side, .int .i64 s.ax, .int .i64 s.ay, .int .i64 s.bx, .int .i64 s.by_] ∧ Blk w' g11 45 #[.int .i64 n, .bool false, .string ⟨s.pre.toArray⟩, .string ⟨s.name.toArray⟩, .string ⟨s.suf.toArray⟩, .string ⟨s.post.toArray⟩, .string ⟨#[]⟩, .string ⟨s.city.toArray⟩, .string ⟨s.state.toArray⟩, .string ⟨#[49, 48, 48, 48, 49]⟩, .string ⟨#[]⟩] ∧ Blk w' g12 23 #[.int .i64 px, .int .i64 py] from ⟨(BX.out _ (Y2.out.trans hx)).1, (BX.out _ (Y2.out.trans hx)).2, B12.ext hx⟩))
  replace HR := Lib.hid (fun w' (hx : Ext w2 w') => HR.out _ (Y2.out.trans hx))
  replace HA := Lib.hid (fun (k : Nat) (hk : k < l.length) w' (hx : Ext w2 w') => HA.out k hk w' (Y2.out.trans hx))
  replace X := Lib.hid (X.out.trans Y2.out)
  clear B12
  have hsz := Lib.hid Y2.out.size
  clear Y2
  have R0 := Lib.hid (show EcAt w2 l s n (.int .i64 0) (.int .i64 ((0 : Nat) : Int)) w2 from ⟨0, Nat.zero_le _, rfl, by simp, Ext.refl _⟩)
  go_wp2_with fail
  go_loopw [14, 15] (fun f i wr => EcAt w2 l s n f i wr) (fun f i _ => l.length - (intOf i).toNat)
  case atStart => exact R0.out
  case round =>
    clear R0
    obtain ⟨k, hk, rfl, rfl, hx⟩ := hrel
    by_cases hlt : k < l.length
    · have hd1 : decide ((k : Int) < (l.length : Int)) = true := decide_eq_true (by omega)
      have kl : (k : Int) < (l.length : Int) := by omega
      have kz : (0 : Int) ≤ (k : Int) := by omega
      obtain ⟨g, off, hAe, hg, c0, c1, c2, c3, c4, c5, c6, c7, c8, c9, c10, c11, c12⟩ := sr_at (HR.out _ hx) hlt
      have hst := each_step (l := l) (s := s) (n := n) hlt
      have hle := HLe.out k
      have hle2 := HLe.out (k + 1)
      replace HA := Lib.hid (HA.out k hlt)
      replace HFd := Lib.hid (HFd.out k hlt)
      have HE := Lib.hid (fun W' (c : Nat) (hc : c = (l.take (k + 1)).countP (eachF s n)) (h2 : Ext wr W') => (show EcAt w2 l s n (.int .i64 (c : Int)) (.int .i64 ((k + 1 : Nat) : Int)) W' from ⟨k + 1, by omega, rfl, by rw [hc], hx.trans h2⟩))
      rw [hst] at HE hle2
      generalize (l.take k).countP (eachF s n) = c at *
      replace hx := Lib.hid hx
      replace HE := Lib.hid (fun W' (c' : Nat) (hc : c' = c + if eachF s n l[k] = true then 1 else 0) (h2 : Ext wr W') => HE.out W' c' hc h2)
      clear hst HR HLe HT
      generalize l[k] = x at *
      rw [eachF_iff] at HE
      subst hAe
      have hFk : x.key = s.key ↔ ((x.state == s.state) && (x.city == s.city) && (x.pre == s.pre) && (x.name == s.name) && (x.suf == s.suf) && (x.post == s.post)) = true := by unfold Sr.key; simp [and_assoc]
      rw [hFk] at HFd
      clear hFk
      obtain ⟨o1, ho1⟩ : ∃ o, off + k * 13 = o := ⟨_, rfl⟩
      simp only [ho1] at c0 c1 c2 c3 c4 c5 c6 c7 c8 c9 c10 c11 c12
      simp only [srV_eq] at HA
      go_upto_region 17 with (fail)
      have B16 := Lib.hid (Blk.new wr 25 #[.string ⟨x.state.toArray⟩, .string ⟨x.city.toArray⟩, .string ⟨x.pre.toArray⟩, .string ⟨x.name.toArray⟩, .string ⟨x.suf.toArray⟩, .string ⟨x.post.toArray⟩, .int .i64 x.fr, .int .i64 x.to_, .int .i64 x.side, .int .i64 x.ax, .int .i64 x.ay, .int .i64 x.bx, .int .i64 x.by_])
      have X2 := Lib.hid ((Ext.refl wr).alloc (.cells #[.string ⟨x.state.toArray⟩, .string ⟨x.city.toArray⟩, .string ⟨x.pre.toArray⟩, .string ⟨x.name.toArray⟩, .string ⟨x.suf.toArray⟩, .string ⟨x.post.toArray⟩, .int .i64 x.fr, .int .i64 x.to_, .int .i64 x.side, .int .i64 x.ax, .int .i64 x.ay, .int .i64 x.bx, .int .i64 x.by_] 25))
      clear c0 c1 c2 c3 c4 c5 c6 c7 c8 c9 c10 c11 c12 hg ho1
      generalize wr.alloc (.cells #[.string ⟨x.state.toArray⟩, .string ⟨x.city.toArray⟩, .string ⟨x.pre.toArray⟩, .string ⟨x.name.toArray⟩, .string ⟨x.suf.toArray⟩, .string ⟨x.post.toArray⟩, .int .i64 x.fr, .int .i64 x.to_, .int .i64 x.side, .int .i64 x.ax, .int .i64 x.ay, .int .i64 x.bx, .int .i64 x.by_] 25) = w3 at *
      generalize wr.heap.size = g16 at *
      obtain ⟨qx, _⟩ := B16.out.cells
      have lx := B16.out.lt
      obtain ⟨b10, b11, b12⟩ := BX.out _ (hx.out.trans X2.out)
      obtain ⟨qa, _⟩ := b10.cells
      have la := b10.lt
      clear b10 b11 b12
      obtain ⟨e0, q0⟩ : ∃ t, (x.state == s.state) = t := ⟨_, rfl⟩
      rw [q0] at HE HFd
      obtain ⟨e1, q1⟩ : ∃ t, (x.city == s.city) = t := ⟨_, rfl⟩
      rw [q1] at HE HFd
      obtain ⟨e2, q2⟩ : ∃ t, (x.pre == s.pre) = t := ⟨_, rfl⟩
      rw [q2] at HE HFd
      obtain ⟨e3, q3⟩ : ∃ t, (x.name == s.name) = t := ⟨_, rfl⟩
      rw [q3] at HE HFd
      obtain ⟨e4, q4⟩ : ∃ t, (x.suf == s.suf) = t := ⟨_, rfl⟩
      rw [q4] at HE HFd
      obtain ⟨e5, q5⟩ : ∃ t, (x.post == s.post) = t := ⟨_, rfl⟩
      rw [q5] at HE HFd
      have p0 : (x.state != s.state) = !e0 := by rw [← q0]; rfl
      have p1 : (x.city != s.city) = !e1 := by rw [← q1]; rfl
      have p2 : (x.pre != s.pre) = !e2 := by rw [← q2]; rfl
      have p3 : (x.name != s.name) = !e3 := by rw [← q3]; rfl
      have p4 : (x.suf != s.suf) = !e4 := by rw [← q4]; rfl
      have p5 : (x.post != s.post) = !e5 := by rw [← q5]; rfl
      cases e0 with
      | false =>
        have hE := Lib.hid (HE.out _ c (by simp) X2.out)
        clear HE HFd HA hle hle2
        go_wp2_with fail
        go_roundw
        case rel => first | exact hE.out | (repeat (with_reducible apply Exists.intro); exact ⟨hE.out, rfl⟩)
        case measure => simp [intOf]; omega
      | true =>
        cases e1 with
        | false =>
          have hE := Lib.hid (HE.out _ c (by simp) X2.out)
          clear HE HFd HA hle hle2
          go_wp2_with fail
          go_roundw
          case rel => first | exact hE.out | (repeat (with_reducible apply Exists.intro); exact ⟨hE.out, rfl⟩)
          case measure => simp [intOf]; omega
        | true =>
          cases e2 with
          | false =>
            have hE := Lib.hid (HE.out _ c (by simp) X2.out)
            clear HE HFd HA hle hle2
            go_wp2_with fail
            go_roundw
            case rel => first | exact hE.out | (repeat (with_reducible apply Exists.intro); exact ⟨hE.out, rfl⟩)
            case measure => simp [intOf]; omega
          | true =>
            cases e3 with
            | false =>
              have hE := Lib.hid (HE.out _ c (by simp) X2.out)
              clear HE HFd HA hle hle2
              go_wp2_with fail
              go_roundw
              case rel => first | exact hE.out | (repeat (with_reducible apply Exists.intro); exact ⟨hE.out, rfl⟩)
              case measure => simp [intOf]; omega
            | true =>
              cases e4 with
              | false =>
                have hE := Lib.hid (HE.out _ c (by simp) X2.out)
                clear HE HFd HA hle hle2
                go_wp2_with fail
                go_roundw
                case rel => first | exact hE.out | (repeat (with_reducible apply Exists.intro); exact ⟨hE.out, rfl⟩)
                case measure => simp [intOf]; omega
              | true =>
                cases e5 with
                | false =>
                  have hE := Lib.hid (HE.out _ c (by simp) X2.out)
                  clear HE HFd HA hle hle2
                  go_wp2_with fail
                  go_roundw
                  case rel => first | exact hE.out | (repeat (with_reducible apply Exists.intro); exact ⟨hE.out, rfl⟩)
                  case measure => simp [intOf]; omega
                | true =>
                  obtain ⟨b11, qb', lb⟩ : ∃ u : Unit, (∀ i, w3.cell? ⟨g11, i, none⟩ = (#[.int .i64 n, .bool false, .string ⟨s.pre.toArray⟩, .string ⟨s.name.toArray⟩, .string ⟨s.suf.toArray⟩, .string ⟨s.post.toArray⟩, .string ⟨#[]⟩, .string ⟨s.city.toArray⟩, .string ⟨s.state.toArray⟩, .string ⟨#[49, 48, 48, 48, 49]⟩, .string ⟨#[]⟩] : Array Value)[i]?) ∧ g11 < w3.heap.size := ⟨(), (BX.out _ (hx.out.trans X2.out)).2.1.cell, (BX.out _ (hx.out.trans X2.out)).2.1.lt⟩
                  obtain ⟨r, hra⟩ : ∃ r, x.at_ n = r := ⟨_, rfl⟩
                  rw [hra] at HA HFd
                  simp only [Bool.and_self, Bool.true_and, hra] at HE HFd
                  clear hra
                  obtain ⟨⟨qx', qy⟩, bb⟩ := r
                  unfold ptV at HA
                  dsimp only at HA HE HFd
                  clear p0 p1 p2 p3 p4 p5
                  have p0 : (x.state != s.state) = false := by rw [bne, q0]; rfl
                  have p1 : (x.city != s.city) = false := by rw [bne, q1]; rfl
                  have p2 : (x.pre != s.pre) = false := by rw [bne, q2]; rfl
                  have p3 : (x.name != s.name) = false := by rw [bne, q3]; rfl
                  have p4 : (x.suf != s.suf) = false := by rw [bne, q4]; rfl
                  have p5 : (x.post != s.post) = false := by rw [bne, q5]; rfl
                  go_wp2_with fail
                  refine (HA.out _ (hx.out.trans X2.out)).mono ?_
                  rintro e w4 ⟨rfl, hx4⟩
                  have X5 := Lib.hid (X2.out.trans (hx4.alloc (.cells #[.int .i64 qx', .int .i64 qy] 23)))
                  have B17 := Lib.hid (Blk.new w4 23 #[.int .i64 qx', .int .i64 qy])
                  clear hx4 qx lx qa la qb' lb HA q0 q1 q2 q3 q4 q5 p0 p1 p2 p3 p4 p5 X2 B16
                  go_upto_region 19 with (fail)
                  generalize w4.alloc (.cells #[.int .i64 qx', .int .i64 qy] 23) = w5 at *
                  generalize w4.heap.size = g17 at *
                  cases bb with
                  | false =>
                    have hE := Lib.hid (HE.out _ c (by simp) X5.out)
                    clear HE HFd hle hle2
                    go_wp2_with fail
                    go_roundw
                    case rel => first | exact hE.out | (repeat (with_reducible apply Exists.intro); exact ⟨hE.out, rfl⟩)
                    case measure => simp [intOf]; omega
                  | true =>
                    have hfd := HFd.out (by simp) rfl
                    simp only [Prod.mk.injEq] at hfd
                    obtain ⟨⟨rfl, rfl⟩, rfl⟩ := hfd
                    have hne := fun w => pt_ne px py px py w
                    simp only [ne_eq, not_true_eq_false, decide_false] at hne
                    obtain ⟨_, _, b12⟩ := BX.out _ (hx.out.trans X5.out)
                    obtain ⟨qp, _⟩ := b12.cells
                    have lp := b12.lt
                    obtain ⟨qq, _⟩ := B17.out.cells
                    have lq := B17.out.lt
                    clear b12
                    have i1 : IntKind.i64.wrap ((c : Int) + 1) = ((c + 1 : Nat) : Int) := by rw [IntKind.wrap_i64]; omega
                    have hE := Lib.hid (HE.out _ (c + 1) (by simp) X5.out)
                    clear HE HFd hle hle2
                    go_wp2_with fail
                    go_roundw
                    case rel => first | exact hE.out | (repeat (with_reducible apply Exists.intro); exact ⟨hE.out, rfl⟩)
                    case measure => simp [intOf]; omega
    · obtain rfl : k = l.length := by omega
      have hd1 : decide ((l.length : Int) < (l.length : Int)) = false := by simp
      have hT := HT.out
      rw [List.take_length]
      have XW := Lib.hid (X.out.trans hx)
      clear HA HR HFd HT HLe hx X BX
      rcases hT with ⟨h1, h2⟩ | ⟨h1, h2⟩
      · rw [h1]
        subst h2
        clear h1
        go_wp2_with fail
        go_ret
        exact ⟨by simp, XW.out⟩
      · rw [h1]
        subst h2
        clear h1
        go_wp2_with fail
        go_ret
        exact ⟨by simp, XW.out⟩
set_option maxRecDepth 100000 in
set_option maxHeartbeats 4000000 in
theorem streetEach_1 (l : List Sr) (A : Option Addr) (cap : Nat) (which n : Int) (hb : longS l = true ∨ 30 < l.length ∨ l.length = 0) (W : World) (hr : Reads W W.heap.size 13 A l.length (srCells l)) (hS : Std W) : Calls Tryz.prog 7 #[.slice A l.length cap, .int .i64 which, .int .i64 n] W fun e w' => e = .returned (.bool true) ∧ Ext W w' := by
  have HW := Lib.hid (fun w (hx : Ext W w) => l18awake_any w (hS.ext hx))
  have HL := Lib.hid (fun w (hx : Ext W w) => l18long_any l A cap w (hr.ext hx))
  obtain ⟨b1, hb1⟩ : ∃ b, longS l = b := ⟨_, rfl⟩
  rw [hb1] at HL hb
  obtain ⟨cn, hn⟩ : ∃ n, l.length = n := ⟨_, rfl⟩
  rw [hn] at HL hb ⊢
  clear hb1 hr hS hn
  cases b1 with
  | true =>
    go_enter Tryz.func7, Tryz.ntmps7
    go_wp2_with fail
    refine (HW.out _ (Ext.refl _)).mono ?_
    rintro e w1 ⟨rfl, hx⟩
    have X1 := Lib.hid hx
    clear hx
    go_wp2_with fail
    refine (HL.out _ X1.out).mono ?_
    rintro e w2 ⟨rfl, hx⟩
    have X2 := Lib.hid (X1.out.trans hx)
    clear hx
    go_wp2_with fail
    go_ret
    exact ⟨rfl, X2.out⟩
  | false =>
    by_cases h30 : 30 < cn
    · have d1 : decide ((30 : Int) < (cn : Int)) = true := decide_eq_true (by omega)
      go_enter Tryz.func7, Tryz.ntmps7
      go_wp2_with fail
      refine (HW.out _ (Ext.refl _)).mono ?_
      rintro e w1 ⟨rfl, hx⟩
      have X1 := Lib.hid hx
      clear hx
      go_wp2_with fail
      refine (HL.out _ X1.out).mono ?_
      rintro e w2 ⟨rfl, hx⟩
      have X2 := Lib.hid (X1.out.trans hx)
      clear hx
      go_wp2_with fail
      go_ret
      exact ⟨rfl, X2.out⟩
    · obtain rfl : cn = 0 := (hb.resolve_left (by simp)).resolve_left h30
      go_enter Tryz.func7, Tryz.ntmps7
      go_wp2_with fail
      refine (HW.out _ (Ext.refl _)).mono ?_
      rintro e w1 ⟨rfl, hx⟩
      have X1 := Lib.hid hx
      clear hx
      go_wp2_with fail
      refine (HL.out _ X1.out).mono ?_
      rintro e w2 ⟨rfl, hx⟩
      have X2 := Lib.hid (X1.out.trans hx)
      clear hx
      go_wp2_with fail
      go_ret
      exact ⟨rfl, X2.out⟩
/-- The number asked. -/
def eachN (s : Sr) (n : Int) : Int := if Int.tmod n 2 = 0 then s.fr + pickP n (s.to_ - s.fr + 1) else 1 + pickP n 999999
set_option maxRecDepth 100000 in
set_option maxHeartbeats 4000000 in
theorem streetEach_2 (l : List Sr) (A : Option Addr) (cap : Nat) (which n : Int) (hb1 : longS l = false) (h30 : ¬ 30 < l.length) (hz : l.length ≠ 0) (W : World) (hr : Reads W W.heap.size 13 A l.length (srCells l)) (hS : Std W) : Calls Tryz.prog 7 #[.slice A l.length cap, .int .i64 which, .int .i64 n] W fun e w' => e = .returned (.bool true) ∧ Ext W w' := by
  have hl := (longS_no hb1).1
  have hs := (longS_no hb1).2
  have HW := Lib.hid (fun w (hx : Ext W w) => l18awake_any w (hS.ext hx))
  have HL := Lib.hid (fun w (hx : Ext W w) => l18long_any l A cap w (hr.ext hx))
  rw [hb1] at HL
  have HN := Lib.hid (fun w (hx : Ext W w) => srnew_two l hs l.length rfl A cap w (hr.ext hx) (by omega) (hS.ext hx))
  have HP := Lib.hid (fun w => pickP_any which (l.length : Int) (by omega) w)
  have HP2 := Lib.hid (fun w => pickP_any n 999999 (by omega) w)
  obtain ⟨B1, B2⟩ := pickP_bd (x := which) (n := (l.length : Int)) (by omega)
  obtain ⟨B3, B4⟩ := pickP_bd (x := n) (n := 999999) (by omega)
  obtain ⟨b, hbb⟩ : ∃ b : Nat, pickP which (l.length : Int) = (b : Int) := ⟨(pickP which (l.length : Int)).toNat, by omega⟩
  rw [hbb] at HP B1 B2
  have hbl : b < l.length := by omega
  have HRd := Lib.hid (fun w (hx : Ext W w) => hr.ext hx)
  have HSt := Lib.hid (fun w (hx : Ext W w) => hS.ext hx)
  have hC := Lib.hid (fun (h0 : (newR l).1 = 0) => (show l[b].check = 0 ∧ ∀ m, 1 ≤ m → m ≤ 999999 → EachLaw l l[b] m (findR l (eachA l[b] m)) from ⟨((newR_ok l).1 h0).2.1 _ (List.getElem_mem hbl), fun m h1 h2 => each_law h0 (List.getElem_mem hbl) h1 h2⟩))
  have hsb := Lib.hid (hs _ (List.getElem_mem hbl))
  have h1 : decide ((30 : Int) < (l.length : Int)) = false := decide_eq_false (by omega)
  have hz1 : ((l.length : Int) == 0) = false := by rw [beq_eq_false_iff_ne]; omega
  obtain ⟨F1, hF1⟩ : ∃ F1, newR l = F1 := ⟨_, rfl⟩
  rw [hF1] at HN hC
  obtain ⟨f1, f2⟩ := F1
  dsimp only at HN hC
  generalize pickP n 999999 = p9 at *
  clear hF1 hbb hr hS hb1 h30 hz
  go_enter Tryz.func7, Tryz.ntmps7
  go_wp2_with fail
  refine (HW.out _ (Ext.refl _)).mono ?_
  rintro e w1 ⟨rfl, hx⟩
  have X1 := Lib.hid hx
  clear hx HW
  go_wp2_with fail
  refine (HL.out _ X1.out).mono ?_
  rintro e w2 ⟨rfl, hx⟩
  have X2 := Lib.hid (X1.out.trans hx)
  clear hx HL X1
  go_wp2_with fail
  refine (HN.out _ X2.out).mono ?_
  rintro e w3 ⟨v, rfl, hx, hT⟩
  have X3 := Lib.hid ((X2.out.trans hx).alloc (.cells #[.int .i64 f1, .int .i64 f2] 36))
  have B9 := Lib.hid (Blk.new w3 36 #[.int .i64 f1, .int .i64 f2])
  have Y4 := Lib.hid ((Ext.refl w3).alloc (.cells #[.int .i64 f1, .int .i64 f2] 36))
  replace hT := Lib.hid hT
  clear hx HN X2
  go_upto_region 5 with (fail)
  generalize w3.alloc (.cells #[.int .i64 f1, .int .i64 f2] 36) = w4 at *
  generalize w3.heap.size = g9 at *
  obtain ⟨qp, _⟩ := B9.out.cells
  have lp := B9.out.lt
  by_cases h0 : f1 = 0
  rotate_left
  · have b1 : (f1 != 0) = true := by simpa using h0
    obtain rfl : v = .pointer none := by
      rcases hT.out with h | h
      · exact absurd h.1 h0
      · exact h.2
    clear hT hC h0
    go_wp2_with fail
    go_ret
    exact ⟨by simp, X3.out⟩
  · subst h0
    obtain ⟨tb, rfl, hF⟩ : ∃ tb, v = .pointer (some ⟨tb, 0, none⟩) ∧ Finds w3 v l := by
      rcases hT.out with h | h
      · exact h.2
      · exact absurd rfl h.1
    obtain ⟨hck, hLaw⟩ := hC.out rfl
    have hN := (Sr.check_ok hck).num
    replace hF := Lib.hid hF
    replace hLaw := Lib.hid hLaw
    have hgo := Lib.hid (fun (x : Sr) (hx : l[b] = x) => hx)
    obtain ⟨g, off, hAe, hg, c0, c1, c2, c3, c4, c5, c6, c7, c8, c9, c10, c11, c12⟩ := sr_at (HRd.out _ X3.out) hbl
    have bl : (b : Int) < (l.length : Int) := by omega
    have bz : (0 : Int) ≤ (b : Int) := by omega
    clear hT hC hck hgo
    generalize l[b] = s at *
    obtain ⟨o1, ho1⟩ : ∃ o, off + b * 13 = o := ⟨_, rfl⟩
    simp only [ho1] at c0 c1 c2 c3 c4 c5 c6 c7 c8 c9 c10 c11 c12
    have f1 := hN.f1
    have ft := hN.ft
    have t9 := hN.t9
    have HP3 := Lib.hid (fun w => pickP_any n (s.to_ - s.fr + 1) (by omega) w)
    obtain ⟨B5, B6⟩ := pickP_bd (x := n) (n := s.to_ - s.fr + 1) (by omega)
    generalize pickP n (s.to_ - s.fr + 1) = p8 at *
    clear hN
    have hA' := hAe
    subst hAe
    go_wp2_with fail
    refine (HP.out _).mono ?_
    rintro e w5 ⟨rfl, rfl⟩
    go_upto_region 8 with (fail)
    have B10 := Lib.hid (Blk.new w4 25 #[.string ⟨s.state.toArray⟩, .string ⟨s.city.toArray⟩, .string ⟨s.pre.toArray⟩, .string ⟨s.name.toArray⟩, .string ⟨s.suf.toArray⟩, .string ⟨s.post.toArray⟩, .int .i64 s.fr, .int .i64 s.to_, .int .i64 s.side, .int .i64 s.ax, .int .i64 s.ay, .int .i64 s.bx, .int .i64 s.by_])
    have X5 := Lib.hid ((Ext.refl w4).alloc (.cells #[.string ⟨s.state.toArray⟩, .string ⟨s.city.toArray⟩, .string ⟨s.pre.toArray⟩, .string ⟨s.name.toArray⟩, .string ⟨s.suf.toArray⟩, .string ⟨s.post.toArray⟩, .int .i64 s.fr, .int .i64 s.to_, .int .i64 s.side, .int .i64 s.ax, .int .i64 s.ay, .int .i64 s.bx, .int .i64 s.by_] 25))
    clear c0 c1 c2 c3 c4 c5 c6 c7 c8 c9 c10 c11 c12 hg ho1 HP
    generalize w4.alloc (.cells #[.string ⟨s.state.toArray⟩, .string ⟨s.city.toArray⟩, .string ⟨s.pre.toArray⟩, .string ⟨s.name.toArray⟩, .string ⟨s.suf.toArray⟩, .string ⟨s.post.toArray⟩, .int .i64 s.fr, .int .i64 s.to_, .int .i64 s.side, .int .i64 s.ax, .int .i64 s.ay, .int .i64 s.bx, .int .i64 s.by_] 25) = w6 at *
    generalize w4.heap.size = g10 at *
    have i1 : IntKind.i64.wrap (1 + p9) = 1 + p9 := by rw [IntKind.wrap_i64]; omega
    have n1 : 1 ≤ 1 + p9 ∧ 1 + p9 ≤ 999999 := by omega
    obtain ⟨N0, hN0⟩ : ∃ N0, 1 + p9 = N0 := ⟨_, rfl⟩
    rw [hN0] at i1 n1
    have S6 := Lib.hid (HSt.out _ (X3.out.trans X5.out))
    have R6 := Lib.hid (HRd.out _ (X3.out.trans X5.out))
    have X6 := Lib.hid (X3.out.trans X5.out)
    have Y6 := Lib.hid (Y4.out.trans X5.out)
    clear X3 X5 Y4 HRd HSt
    have cx := B10.out.cells.1
    have q0 : w6.cell? ⟨g10, 0, none⟩ = some (.string ⟨s.state.toArray⟩) := cx 0
    have q1 : w6.cell? ⟨g10, 1, none⟩ = some (.string ⟨s.city.toArray⟩) := cx 1
    have q2 : w6.cell? ⟨g10, 2, none⟩ = some (.string ⟨s.pre.toArray⟩) := cx 2
    have q3 : w6.cell? ⟨g10, 3, none⟩ = some (.string ⟨s.name.toArray⟩) := cx 3
    have q4 : w6.cell? ⟨g10, 4, none⟩ = some (.string ⟨s.suf.toArray⟩) := cx 4
    have q5 : w6.cell? ⟨g10, 5, none⟩ = some (.string ⟨s.post.toArray⟩) := cx 5
    have q6 : w6.cell? ⟨g10, 6, none⟩ = some (.int .i64 s.fr) := cx 6
    have q7 : w6.cell? ⟨g10, 7, none⟩ = some (.int .i64 s.to_) := cx 7
    have l10 := B10.out.lt
    clear cx
    go_cut [11] from 53 to 68 (fun u wx => ∃ g11, u = .pointer (some ⟨g11, 0, none⟩) ∧ Blk wx g11 45 #[.int .i64 N0, .bool false, .string ⟨s.pre.toArray⟩, .string ⟨s.name.toArray⟩, .string ⟨s.suf.toArray⟩, .string ⟨s.post.toArray⟩, .string ⟨#[]⟩, .string ⟨s.city.toArray⟩, .string ⟨s.state.toArray⟩, .string ⟨#[49, 48, 48, 48, 49]⟩, .string ⟨#[]⟩] ∧ w6.heap.size ≤ g11 ∧ Ext w6 wx)
    case first =>
      go_region_held3 (fun w' => w'.cell? ⟨g10, 0, none⟩ = some (.string ⟨s.state.toArray⟩) ∧ w'.cell? ⟨g10, 1, none⟩ = some (.string ⟨s.city.toArray⟩) ∧ w'.cell? ⟨g10, 2, none⟩ = some (.string ⟨s.pre.toArray⟩) ∧ w'.cell? ⟨g10, 3, none⟩ = some (.string ⟨s.name.toArray⟩) ∧ w'.cell? ⟨g10, 4, none⟩ = some (.string ⟨s.suf.toArray⟩) ∧ w'.cell? ⟨g10, 5, none⟩ = some (.string ⟨s.post.toArray⟩))
        (go_keep)
        (first
          | (go_at_call 19; with_reducible refine (HP2.out _).mono ?_; rintro e w7 ⟨rfl, rfl⟩))
      all_goals go_wp2_with fail
      all_goals go_meet
      all_goals first
        | exact ⟨_, rfl, Blk.new w6 _ _, Nat.le_refl _, (Ext.refl w6).alloc _⟩
        | exact ⟨_, rfl, Blk.new w6.drew _ _, Nat.le_refl _, (Ext.refl w6).drew.alloc _⟩
        | exact ⟨_, rfl, Blk.new w6.drew _ _, Nat.le_refl _, ((Ext.refl w6).alloc _).drew⟩
    case rest =>
      obtain ⟨g11, rfl, B11, hg11, hx⟩ := hcut
      generalize hwk : wc = w7 at *
      clear hwk HP2 q0 q1 q2 q3 q4 q5 q6 q7 l10
      have hap := Lib.hid (fun m => (show AdS (eachA s m) 1000 from (fun (h : AdS s.ad 1000) => ⟨h.pre, h.name, h.suf, h.post, Nat.zero_le _, h.city, h.state, by simp [eachA], Nat.zero_le _⟩) (hsb.out.ad (by omega))))
      by_cases hpar : Int.tmod n 2 = 0
      · have b1 : (Int.tmod n 2 == 0) = true := by simp [hpar]
        clear hpar
        have i2 : IntKind.i64.wrap (s.to_ - s.fr) = s.to_ - s.fr := by rw [IntKind.wrap_i64]; omega
        have i3 : IntKind.i64.wrap (s.to_ - s.fr + 1) = s.to_ - s.fr + 1 := by rw [IntKind.wrap_i64]; omega
        have i4 : IntKind.i64.wrap (s.fr + p8) = s.fr + p8 := by rw [IntKind.wrap_i64]; omega
        have n2 : 1 ≤ IntKind.i64.wrap (s.fr + p8) ∧ IntKind.i64.wrap (s.fr + p8) ≤ 999999 := by rw [i4]; omega
        clear i4
        have hlaw := Lib.hid (hLaw.out (IntKind.i64.wrap (s.fr + p8)) n2.1 n2.2)
        have hfd := Lib.hid (fun w8 (hx8 : Ext w6 w8) w' (hx : Ext w8 w') => hF.out (eachA s (IntKind.i64.wrap (s.fr + p8))) (hap.out (IntKind.i64.wrap (s.fr + p8))) w' (Y6.out.trans (hx8.trans hx)) (S6.out.ext (hx8.trans hx)))
        have HQ6 := Lib.hid (fun w' (hx : Ext w6 w') => (show w'.cell? ⟨g10, 6, none⟩ = some (.int .i64 s.fr) ∧ w'.cell? ⟨g10, 7, none⟩ = some (.int .i64 s.to_) from ⟨(B10.out.ext hx).cell 6, (B10.out.ext hx).cell 7⟩))
        have B11N := Lib.hid (((B11.set_ 0 (.int .i64 (IntKind.i64.wrap (s.fr + p8)))).ext (Ext.refl _).drew))
        have X11 := Lib.hid ((hx.set (p := ⟨g11, 0, none⟩) hg11 (.int .i64 (IntKind.i64.wrap (s.fr + p8)))).drew)
        obtain ⟨q6, q7⟩ := HQ6.out _ hx
        have l10 := (B10.out.ext hx).lt
        obtain ⟨cz, cf⟩ := B11.cells
        have z0 := cz 0
        have l11 := B11.lt
        clear cz
        clear i1 n1 hN0 hLaw hF hap
        go_upto_region 10 with (fail)
        go_region_held3 (fun w' => w'.cell? ⟨g10, 6, none⟩ = some (.int .i64 s.fr) ∧ w'.cell? ⟨g10, 7, none⟩ = some (.int .i64 s.to_))
          (with_reducible refine HQ6.out _ ?_; repeat (first | (with_reducible assumption) | (with_reducible exact Ext.refl _) | (with_reducible refine Ext.drew ?_) | (with_reducible refine Ext.alloc ?_ _) | (with_reducible refine Ext.set ?_ hg11 _)))
          (first
            | (go_at_call 19; with_reducible refine (HP3.out _).mono ?_; rintro e w8 ⟨rfl, rfl⟩))
        go_upto_region 11 with (fail)
        exact each11 l hs l.length rfl hl (some ⟨g, off, none⟩) cap s (IntKind.i64.wrap (s.fr + p8)) _ hlaw.out W (w7.setCell ⟨g11, 0, none⟩ (.int .i64 (IntKind.i64.wrap (s.fr + p8)))).drew (S6.out.ext X11.out) (X6.out.trans X11.out) tb g10 g11 (B10.out.ext X11.out) B11N.out (R6.out.ext X11.out) (hfd.out _ X11.out) _ (by assumption)
      · have b1 : (Int.tmod n 2 == 0) = false := by rw [beq_eq_false_iff_ne]; exact hpar
        clear hpar
        have hlaw := Lib.hid (hLaw.out N0 n1.1 n1.2)
        have hfd := Lib.hid (fun w' (hx' : Ext w7 w') => hF.out (eachA s N0) (hap.out N0) w' (Y6.out.trans (hx.trans hx')) (S6.out.ext (hx.trans hx')))
        replace B11 := Lib.hid B11
        replace hx := Lib.hid hx
        go_upto_region 11 with (fail)
        exact each11 l hs l.length rfl hl (some ⟨g, off, none⟩) cap s N0 _ hlaw.out W w7 (S6.out.ext hx.out) (X6.out.trans hx.out) tb g10 g11 (B10.out.ext hx.out) B11.out (R6.out.ext hx.out) hfd.out _ (by assumption)
theorem streetEach_any (l : List Sr) (A : Option Addr) (cap : Nat) (which n : Int) (W : World) (hr : Reads W W.heap.size 13 A l.length (srCells l)) (hS : Std W) : Calls Tryz.prog 7 #[.slice A l.length cap, .int .i64 which, .int .i64 n] W fun e w' => e = .returned (.bool true) ∧ Ext W w' := by
  by_cases h : longS l = true ∨ 30 < l.length ∨ l.length = 0
  · exact streetEach_1 l A cap which n h W hr hS
  · refine streetEach_2 l A cap which n ?_ ?_ ?_ W hr hS
    · cases e : longS l with
      | true => exact absurd (.inl e) h
      | false => rfl
    · exact fun e => h (.inr (.inl e))
    · exact fun e => h (.inr (.inr e))
end Go.Proofs.YtjaponmpfdpemaaGreatDoor
