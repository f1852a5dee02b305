/-
  apportionref20: At, kind, Check, Find. (Printed by wip/tools/genUg.py out of Sh and Sl.)
-/
import Derived.Test.YtokakpbpenndlaaGreatDoorRt21
set_option linter.unusedVariables false
namespace Go.Proofs.YtokakpbpenndlaaGreatDoor
open Go.RowKit Go.Maps

theorem rkind_any (n : Int) (b : Bool) (hb : four n = b) (w : World) : Calls Tryz.prog 117 #[.int .i64 n] w fun e w' => e = .returned (.bool b) ∧ w = w' := by
  subst hb
  go_enter Tryz.func117, Tryz.ntmps117
  go_wp2
  all_goals (go_ret; exact ⟨ret_bool (by unfold four; first | (simp [*]; done) | (simp [*]; omega) | (simp; omega)), rfl⟩)
set_option maxRecDepth 100000 in
set_option maxHeartbeats 1000000 in
theorem rat20_any (l : List JV) (id : Int) (A : Option Addr) (cap : Nat) (w : World) (hr : Reads w w.heap.size 5 A l.length (jvCells l)) (hm : l.length ≤ maxLen) :
    Calls Tryz.prog 118 #[.slice A l.length cap, .int .i64 id] w fun e w' => e = .returned (.int .i64 (placeJ (jsOf l) id)) ∧ Ext w w' := by
  unfold maxLen at hm
  go_enter Tryz.func118, Tryz.ntmps118
  go_wp2_with fail
  go_loopw [5] (fun i wr => JpRel w l id i wr) (fun i _ => l.length - (intOf i).toNat)
  case atStart => exact ⟨0, by omega, rfl, fun i hi => absurd hi (by omega), Ext.refl _⟩
  case round =>
    obtain ⟨k, hk, rfl, hP, hx⟩ := hrel
    by_cases hlt : k < l.length
    · have hd : decide ((k : Int) < (l.length : Int)) = true := by simp; omega
      obtain ⟨g, off, rfl, hg, hc⟩ := jv_at hr hlt
      obtain ⟨c1, c2, c3, c4, c5⟩ := hc wr hx
      have kl : (k : Int) < (l.length : Int) := by omega
      have kz : (0 : Int) ≤ (k : Int) := by omega
      have HI := Lib.hid (fun h => (placeJ_at (l := jsOf l) (id := id) (k := k) (by rw [jsOf_len]; exact hlt) hP h).1)
      have HK := Lib.hid (fun (h : l[k].j.id ≠ id) (W : World) (hx : Ext w W) => (show JpRel w l id (.int .i64 ((k + 1 : Nat) : Int)) W from ⟨k + 1, by omega, rfl, fun i hi => by
        by_cases e : i = k
        · subst e; rw [jsOf_at l i hlt]; exact h
        · exact hP i (by omega), hx⟩))
      have hj : ((jsOf l).getD k Jur.zero).id = l[k].j.id := by rw [jsOf_at l k hlt]
      rw [hj] at HI
      clear hc hr hP hj
      generalize l[k] = x at *
      by_cases hi : x.j.id = id
      · have HI2 := Lib.hid (HI.out hi)
        have hb : (x.j.id == id) = true := by simpa using hi
        clear HI HK hi
        go_wp2_with fail
        go_ret
        exact ⟨by rw [HI2.out]; rfl, hx⟩
      · have HK2 := Lib.hid (HK.out hi _ hx)
        have hb : (x.j.id == id) = false := by simpa using hi
        clear HI HK hi
        go_wp2_with fail
        go_roundw
        case rel => exact HK2.out
        case measure => simp [intOf]; omega
    · have hd : decide ((k : Int) < (l.length : Int)) = false := by simp; omega
      have HA := Lib.hid (placeJ_none (l := jsOf l) (id := id) (fun i hi => hP i (by rw [jsOf_len] at hi; omega))).1
      clear hP hr
      go_wp2_with fail
      go_ret
      exact ⟨by rw [HA.out]; rfl, hx⟩
set_option maxRecDepth 100000 in
set_option maxHeartbeats 1000000 in
theorem rfind20_any (l : List JV) (id : Int) (A : Option Addr) (cap : Nat) (w : World) (hr : Reads w w.heap.size 5 A l.length (jvCells l)) (hm : l.length ≤ maxLen) :
    Calls Tryz.prog 74 #[.slice A l.length cap, .int .i64 id] w fun e w' => e = .returned (.tuple #[(foundV (findV l id)).v, .bool (findV l id).isSome]) ∧ Ext w w' := by
  have B0 := Blk.new w 83 #[.int .i64 0, .int .i64 0, .int .i64 0, .int .i64 0, .slice none 0 0]
  have X0 := (Ext.refl w).alloc (.cells #[.int .i64 0, .int .i64 0, .int .i64 0, .int .i64 0, .slice none 0 0] 83)
  have HR := Lib.hid (fun W (hx : Ext w W) => hr.ext hx)
  have HB := Lib.hid B0
  unfold maxLen at hm
  have hm' : l.length ≤ maxLen := by unfold maxLen; omega
  rcases findV_cases l id with ⟨a, b⟩ | ⟨k, hk, a, b⟩
  · rw [b]
    replace b := Lib.hid b
    replace a := Lib.hid a
    clear hr B0
    go_enter Tryz.func74, Tryz.ntmps74
    go_wp2_with fail
    refine (rat20_any l id A cap _ (HR.out _ X0) hm').mono ?_
    rintro e w1 ⟨rfl, hx1⟩
    rw [a.out]
    have B1 := HB.out.ext hx1
    have X1 := X0.trans hx1
    obtain ⟨q, q'⟩ := B1.cells
    go_wp2_with fail
    exact bodyPost_ret (results_ct rfl rfl (ld_jur (put5 B1))) rfl ⟨rfl, ext5 (t := 83) X1 (Nat.le_refl _) _ _ _ _ _⟩
  · rw [b]
    obtain ⟨g, off, rfl, hg, hc⟩ := jv_at hr hk
    have HC := Lib.hid hc
    have hd : decide ((k : Int) < 0) = false := by simp
    have kl : (k : Int) < (l.length : Int) := by omega
    have kz : (0 : Int) ≤ (k : Int) := by omega
    replace b := Lib.hid b
    replace a := Lib.hid a
    clear hr B0 hc
    generalize l[k] = x at *
    go_enter Tryz.func74, Tryz.ntmps74
    go_wp2_with fail
    refine (rat20_any l id (some ⟨g, off, none⟩) cap _ (HR.out _ X0) hm').mono ?_
    rintro e w1 ⟨rfl, hx1⟩
    rw [a.out]
    have B1 := HB.out.ext hx1
    have X1 := X0.trans hx1
    obtain ⟨q, q'⟩ := B1.cells
    obtain ⟨c1, c2, c3, c4, c5⟩ := HC.out _ X1
    go_wp2_with fail
    exact bodyPost_ret (results_ct rfl rfl (ld_jur (put5 B1))) rfl ⟨rfl, ext5 (t := 83) X1 (Nat.le_refl _) _ _ _ _ _⟩
set_option maxRecDepth 100000 in
set_option maxHeartbeats 4000000 in
theorem rcheck20_any (l : List JV) (A : Option Addr) (cap : Nat) (w : World) (hr : Reads w w.heap.size 5 A l.length (jvCells l)) (hm : l.length ≤ maxLen) :
    Calls Tryz.prog 73 #[.slice A l.length cap] w fun e w' => e = .returned (.tuple #[.int .i64 (checkJ (jsOf l)).1, .int .i64 ((checkJ (jsOf l)).2 : Int)]) ∧ Ext w w' := by
  have HL := Lib.hid (jsOf_len l)
  have HM := Lib.hid hm
  unfold maxLen at hm
  by_cases hl : 64 < l.length
  · have hd : decide ((64 : Int) < (l.length : Int)) = true := by simp; omega
    have HC := Lib.hid (show checkJ (jsOf l) = (3, 0) by unfold checkJ; rw [if_pos (by rw [HL.out]; exact hl)])
    clear hr hl
    go_enter Tryz.func73, Tryz.ntmps73
    go_wp2_with fail
    go_ret2
    exact ⟨by rw [HC.out]; rfl, Ext.refl _⟩
  have hd64 : decide ((64 : Int) < (l.length : Int)) = false := by simp; omega
  have hl' : ¬ 64 < (jsOf l).length := by rw [HL.out]; exact hl
  have HL' := Lib.hid hl'
  have HR := Lib.hid (fun W (hx : Ext w W) => hr.ext hx)
  have HA := Lib.hid (fun k (hk : k < l.length) => jv_at hr hk)
  clear hr hl'
  go_enter Tryz.func73, Tryz.ntmps73
  go_wp2_with fail
  go_loopw [4] (fun i wr => JcRel w l (jErr1 (jsOf l)) i wr) (fun i _ => l.length - (intOf i).toNat)
  case atStart => exact ⟨0, by omega, rfl, fun i hi => absurd hi (by omega), Ext.refl _⟩
  case round =>
    obtain ⟨k, hk, rfl, hP, hx⟩ := hrel
    by_cases hlt : k < l.length
    · have hd : decide ((k : Int) < (l.length : Int)) = true := by simp; omega
      obtain ⟨g, off, rfl, hg, hc⟩ := HA.out k hlt
      obtain ⟨c1, c2, c3, c4, c5⟩ := hc wr hx
      have kl : (k : Int) < (l.length : Int) := by omega
      have kz : (0 : Int) ≤ (k : Int) := by omega
      have HN := Lib.hid (fun (h : jErr1 (jsOf l) k = 0) (W : World) (hx : Ext w W) => JcRel.next (l := l) hlt hP h hx rfl)
      have HB := Lib.hid (fun (h : jErr1 (jsOf l) k ≠ 0) => checkJ_1 HL'.out (by rw [HL.out]; exact hlt) hP h)
      have HE := Lib.hid (show jErr1 (jsOf l) k = if l[k].j.id < 1 ∨ 1099511627775 < l[k].j.id then 5 else if 0 < k ∧ l[k].j.id ≤ ((jsOf l).getD (k - 1) Jur.zero).id then 7 else if four l[k].j.k = false ∨ four l[k].j.f = false then 2 else 0 by
        unfold jErr1; rw [jsOf_at l k hlt])
      generalize hE : jErr1 (jsOf l) k = E at *
      have HE0 := Lib.hid hE
      have X5 := hx
      have HC5 := Lib.hid hc
      clear hP hE
      by_cases h5 : l[k].j.id < 1 ∨ 1099511627775 < l[k].j.id
      · have hE5 := HE.out.trans (if_pos h5)
        have HBB := HB.out (by rw [hE5]; decide)
        rw [hE5] at HBB
        replace HBB := Lib.hid HBB
        replace hE5 := Lib.hid hE5
        clear HN HB HE hc
        generalize l[k] = x at *
        rcases (show decide (x.j.id < 1) = true ∨ decide (x.j.id < 1) = false ∧ decide (1099511627775 < x.j.id) = true by simp; omega) with h | ⟨h, h'⟩
        all_goals
          clear h5
          go_wp2_with fail
          go_ret2
          exact ⟨by rw [HBB.out]; rfl, X5⟩
      have hE5 := HE.out.trans (if_neg h5)
      have d1 : decide (l[k].j.id < 1) = false := by simp; omega
      have d2 : decide (1099511627775 < l[k].j.id) = false := by simp; omega
      clear h5 HE
      obtain ⟨fk, hfk⟩ : ∃ b, four l[k].j.k = b := ⟨_, rfl⟩
      obtain ⟨ff, hff⟩ : ∃ b, four l[k].j.f = b := ⟨_, rfl⟩
      rcases Nat.eq_zero_or_pos k with hk0 | hk0
      · have g1 : decide ((0 : Int) < (k : Int)) = false := by simp; omega
        have g2 : decide (0 < k) = false := by simp; omega
        rw [if_neg (by omega)] at hE5
        rw [hfk, hff] at hE5
        have K1 := Lib.hid hfk
        have K2 := Lib.hid hff
        clear hfk hff hc hk0
        generalize l[k] = x at *
        by_cases hkf : fk = true ∧ ff = true
        · obtain ⟨rfl, rfl⟩ := hkf
          have hE0 : E = 0 := by rw [hE5]; simp
          have HN2 := Lib.hid (fun W hx => HN.out hE0 W hx)
          replace hE0 := Lib.hid hE0
          replace hE5 := Lib.hid hE5
          clear HN HB
          go_wp2_with fail
          go_quiet (fail)
          go_wp2_with fail
          refine (rkind_any _ _ K1.out _).mono ?_
          rintro e w1 ⟨rfl, rfl⟩
          go_wp2_with fail
          refine (rkind_any _ _ K2.out _).mono ?_
          rintro e w1 ⟨rfl, rfl⟩
          go_wp2_with fail
          go_roundw
          case rel => exact HN2.out _ (X5.drewN _)
          case measure => simp [intOf]; omega
        · have hE2 : E = 2 := by rw [hE5, if_pos]; cases fk <;> cases ff <;> simp_all
          have HBB := Lib.hid (HB.out (by rw [hE2]; decide))
          replace hE5 := Lib.hid hE5
          clear HN HB
          cases fk
          · clear hkf
            go_wp2_with fail
            go_quiet (fail)
            go_wp2_with fail
            refine (rkind_any _ _ K1.out _).mono ?_
            rintro e w1 ⟨rfl, rfl⟩
            go_wp2_with fail
            go_ret2
            exact ⟨by rw [HBB.out, hE2]; rfl, X5.drewN _⟩
          · have hff2 : ff = false := by simpa using hkf
            subst hff2
            clear hkf
            go_wp2_with fail
            go_quiet (fail)
            go_wp2_with fail
            refine (rkind_any _ _ K1.out _).mono ?_
            rintro e w1 ⟨rfl, rfl⟩
            go_wp2_with fail
            refine (rkind_any _ _ K2.out _).mono ?_
            rintro e w1 ⟨rfl, rfl⟩
            go_wp2_with fail
            go_ret2
            exact ⟨by rw [HBB.out, hE2]; rfl, X5.drewN _⟩
      · obtain ⟨m, rfl⟩ : ∃ m, k = m + 1 := ⟨k - 1, by omega⟩
        have g1 : decide ((0 : Int) < ((m + 1 : Nat) : Int)) = true := decide_eq_true (by omega)
        have hlm : m < l.length := by omega
        obtain ⟨g', off', e', _, hc'⟩ := HA.out m hlm
        injection e' with e'
        injection e' with e1 e2 _
        subst e1 e2
        obtain ⟨p1, _⟩ := hc' wr hx
        have hgr : g < wr.heap.size := Nat.lt_of_lt_of_le hg hx.size
        have s1 : (((m + 1 : Nat) : Int)) - 1 = (m : Int) := by omega
        have hp : (jsOf l).getD (m + 1 - 1) Jur.zero = l[m].j := by rw [Nat.add_sub_cancel]; exact jsOf_at l m hlm
        rw [hp] at hE5
        have K1 := Lib.hid hfk
        have K2 := Lib.hid hff
        rw [hfk, hff] at hE5
        have ml : (m : Int) < (l.length : Int) := by omega
        have mz : (0 : Int) ≤ (m : Int) := by omega
        clear hfk hff hc hc' hp hk0
        generalize l[m + 1] = x at *
        generalize l[m].j.id = y at *
        have s2 : IntKind.i64.wrap (m : Int) = (m : Int) := IntWalk.i64_in _ (by omega)
        clear s1
        by_cases h7 : x.j.id ≤ y
        · have hE7 : E = 7 := by rw [hE5, if_pos ⟨by omega, h7⟩]
          have d7 : decide (x.j.id ≤ y) = true := by simpa using h7
          have HBB := Lib.hid (HB.out (by rw [hE7]; decide))
          replace hE5 := Lib.hid hE5
          replace hE7 := Lib.hid hE7
          clear HN HB h7
          go_wp2_with fail
          go_quiet (fail)
          go_wp2_with fail
          go_ret2
          exact ⟨by rw [HBB.out, hE7.out]; rfl, X5.drewN _⟩
        have d7 : decide (x.j.id ≤ y) = false := by simpa using h7
        rw [if_neg (by intro c; exact h7 c.2)] at hE5
        clear h7
        by_cases hkf : fk = true ∧ ff = true
        · obtain ⟨rfl, rfl⟩ := hkf
          have hE0 : E = 0 := by rw [hE5]; simp
          have HN2 := Lib.hid (fun W hx => HN.out hE0 W hx)
          replace hE0 := Lib.hid hE0
          replace hE5 := Lib.hid hE5
          clear HN HB
          go_wp2_with fail
          go_quiet (fail)
          go_wp2_with fail
          refine (rkind_any _ _ K1.out _).mono ?_
          rintro e w1 ⟨rfl, rfl⟩
          go_wp2_with fail
          refine (rkind_any _ _ K2.out _).mono ?_
          rintro e w1 ⟨rfl, rfl⟩
          go_wp2_with fail
          go_roundw
          case rel => exact HN2.out _ (X5.drewN _)
          case measure => simp [intOf]; omega
        · have hE2 : E = 2 := by rw [hE5, if_pos]; cases fk <;> cases ff <;> simp_all
          have HBB := Lib.hid (HB.out (by rw [hE2]; decide))
          replace hE5 := Lib.hid hE5
          clear HN HB
          cases fk
          · clear hkf
            go_wp2_with fail
            go_quiet (fail)
            go_wp2_with fail
            refine (rkind_any _ _ K1.out _).mono ?_
            rintro e w1 ⟨rfl, rfl⟩
            go_wp2_with fail
            go_ret2
            exact ⟨by rw [HBB.out, hE2]; rfl, X5.drewN _⟩
          · have hff2 : ff = false := by simpa using hkf
            subst hff2
            clear hkf
            go_wp2_with fail
            go_quiet (fail)
            go_wp2_with fail
            refine (rkind_any _ _ K1.out _).mono ?_
            rintro e w1 ⟨rfl, rfl⟩
            go_wp2_with fail
            refine (rkind_any _ _ K2.out _).mono ?_
            rintro e w1 ⟨rfl, rfl⟩
            go_wp2_with fail
            go_ret2
            exact ⟨by rw [HBB.out, hE2]; rfl, X5.drewN _⟩
    · have hd : decide ((k : Int) < (l.length : Int)) = false := by simp; omega
      have H1 := Lib.hid (show ∀ i, i < l.length → jErr1 (jsOf l) i = 0 from fun i hi => hP i (by omega))
      have HX0 := Lib.hid hx
      clear hP
      go_wp2_with fail
      go_loopw [5] (fun i wr => JcRel w l (jErr2 (jsOf l)) i wr) (fun i _ => l.length - (intOf i).toNat)
      case atStart => exact ⟨0, by omega, rfl, fun i hi => absurd hi (by omega), HX0.out⟩
      case round =>
        clear hd hlt hk hx HX0
        obtain ⟨k, hk, rfl, hP, hx⟩ := hrel
        by_cases hlt : k < l.length
        · have hd : decide ((k : Int) < (l.length : Int)) = true := by simp; omega
          obtain ⟨g, off, rfl, hg, hc⟩ := HA.out k hlt
          obtain ⟨c1, c2, c3, c4, c5⟩ := hc _ hx
          have kl : (k : Int) < (l.length : Int) := by omega
          have kz : (0 : Int) ≤ (k : Int) := by omega
          have HN := Lib.hid (fun (h : jErr2 (jsOf l) k = 0) (W : World) (hx : Ext w W) => JcRel.next (l := l) hlt hP h hx rfl)
          have HB := Lib.hid (fun (h : jErr2 (jsOf l) k ≠ 0) => checkJ_2 HL'.out (by rw [HL.out]; exact H1.out) (by rw [HL.out]; exact hlt) hP h)
          have HE := show jErr2 (jsOf l) k = parErr (jsOf l) l[k].j by unfold jErr2; rw [jsOf_at l k hlt]
          rw [HE] at HN HB
          clear hP hc HE
          have HJ := Lib.hid (fun par => findV_cases l par)
          have HA2 := Lib.hid HA.out
          generalize l[k] = x at *
          obtain ⟨⟨id, kd, par, f⟩, RA, rn, rc⟩ := x
          have X5 := Ext.alloc hx (.cells #[.int .i64 id, .int .i64 kd, .int .i64 par, .int .i64 f, .slice RA rn rc] 83)
          have B5 := Blk.new wr 83 #[.int .i64 id, .int .i64 kd, .int .i64 par, .int .i64 f, .slice RA rn rc]
          simp only at c1 c2 c3 c4 c5
          generalize hE : parErr (jsOf l) ⟨id, kd, par, f⟩ = E at HN HB
          have HBE := Lib.hid (fun (e : Int) (h : E = e) (h0 : e ≠ 0) => (show checkJ (jsOf l) = (e, k) from by rw [← h]; exact HB.out (by rw [h]; exact h0)))
          have HNE := Lib.hid (fun (h : E = 0) => HN.out h)
          have H5 := Lib.hid B5
          clear HN HB B5
          by_cases hp : par = 0
          · have q0 : (par == 0) = true := by simpa using hp
            have q0' : (par != 0) = false := by simpa using hp
            by_cases h2 : kd = 2 ∨ kd = 3
            · have hE9 := HBE.out 9 (by rw [← hE]; rcases h2 with h | h <;> simp [parErr, hp, h]) (by decide)
              replace hE9 := Lib.hid hE9
              clear HNE HBE hE hp
              rcases h2 with rfl | rfl
              all_goals
                go_wp2_with fail
                go_ret2
                exact ⟨by rw [hE9.out]; rfl, X5⟩
            · have q2 : (kd == 2) = false := by simp; omega
              have q3 : (kd == 3) = false := by simp; omega
              have HN2 := Lib.hid (HNE.out (by rw [← hE]; unfold parErr; rw [if_neg (by simp [hp]; omega), if_pos hp]) _ X5)
              clear HNE HBE hE hp h2
              rcases (show kd = 1 ∨ (kd == 1) = false by simp; omega) with rfl | q1
              all_goals
                go_wp2_with fail
                go_roundw
                case rel => exact HN2.out
                case measure => simp [intOf]; omega
          have q0 : (par == 0) = false := by simpa using hp
          have q0' : (par != 0) = true := by simpa using hp
          by_cases h1 : kd = 1
          · have hE9 := Lib.hid (HBE.out 9 (by rw [← hE]; simp [parErr, hp, h1]) (by decide))
            clear HNE HBE hE hp
            subst h1
            go_wp2_with fail
            go_ret2
            exact ⟨by rw [hE9.out]; rfl, X5⟩
          have q1 : (kd == 1) = false := by simpa using h1
          rw [parErr_find hp h1, findV_j] at hE
          simp only at hE
          have H := Lib.hid (rat20_any l par (some ⟨g, off, none⟩) cap _ (HR.out _ X5) HM.out)
          rcases HJ.out par with ⟨a, b⟩ | ⟨i, hi, a, b⟩
          · rw [b] at hE
            have hE6 := Lib.hid (HBE.out 6 hE.symm (by decide))
            rw [a] at H
            clear HNE HBE hE hp h1 a b HJ
            rcases (show kd = 2 ∨ kd = 3 ∨ ((kd == 2) = false ∧ (kd == 3) = false) by simp; omega) with rfl | rfl | ⟨h2, h3⟩
            all_goals
              go_wp2_with fail
              refine H.out.mono ?_
              rintro e w1 ⟨rfl, hx1⟩
              go_wp2_with fail
              go_ret2
              exact ⟨by rw [hE6.out]; rfl, X5.trans hx1⟩
          · rw [b] at hE
            simp only [Option.map] at hE
            rw [a] at H
            obtain ⟨g', off', e', _, hc'⟩ := HA2.out i hi
            injection e' with e'
            injection e' with e1 e2 _
            subst e1 e2
            have hdi : decide ((i : Int) < 0) = false := by simp
            have il : (i : Int) < (l.length : Int) := by omega
            have iz : (0 : Int) ≤ (i : Int) := by omega
            have HC' := Lib.hid hc'
            clear HJ hc' hp h1 a b HA2
            generalize l[i] = y at *
            by_cases hle : kd ≤ y.j.k
            · rw [if_pos hle] at hE
              have hdl : decide (kd ≤ y.j.k) = true := by simpa using hle
              have hE9 := Lib.hid (HBE.out 9 hE.symm (by decide))
              clear HNE HBE hE hle
              rcases (show kd = 2 ∨ kd = 3 ∨ ((kd == 2) = false ∧ (kd == 3) = false) by simp; omega) with rfl | rfl | ⟨h2, h3⟩
              all_goals
                go_wp2_with fail
                refine H.out.mono ?_
                rintro e w1 ⟨rfl, hx1⟩
                obtain ⟨c1, c2, c3, c4, c5⟩ := HC'.out _ (X5.trans hx1)
                obtain ⟨q, q'⟩ := (H5.out.ext hx1).cells
                go_wp2_with fail
                go_quiet (fail)
                go_wp2_with fail
                go_ret2
                exact ⟨by rw [hE9.out]; rfl, (X5.trans hx1).drewN _⟩
            · rw [if_neg hle] at hE
              have hdl : decide (kd ≤ y.j.k) = false := by simpa using hle
              have HN2 := Lib.hid (HNE.out hE.symm)
              clear HNE HBE hE hle
              rcases (show kd = 2 ∨ kd = 3 ∨ ((kd == 2) = false ∧ (kd == 3) = false) by simp; omega) with rfl | rfl | ⟨h2, h3⟩
              all_goals
                go_wp2_with fail
                refine H.out.mono ?_
                rintro e w1 ⟨rfl, hx1⟩
                obtain ⟨c1, c2, c3, c4, c5⟩ := HC'.out _ (X5.trans hx1)
                obtain ⟨q, q'⟩ := (H5.out.ext hx1).cells
                go_wp2_with fail
                go_quiet (fail)
                go_wp2_with fail
                go_roundw
                case rel => exact HN2.out _ ((X5.trans hx1).drewN _)
                case measure => simp [intOf]; omega
        · have hd : decide ((k : Int) < (l.length : Int)) = false := by simp; omega
          have HC := Lib.hid (checkJ_3 HL'.out (by rw [HL.out]; exact H1.out) (fun i hi => hP i (by rw [HL.out] at hi; omega)))
          clear hP
          go_wp2_with fail
          go_ret2
          exact ⟨by rw [HC.out]; rfl, hx⟩
end Go.Proofs.YtokakpbpenndlaaGreatDoor
