/-
  apportionlaw17: short; AddrFields.
-/
import Derived.Test.YtjneghncmgjkeaaGreatDoorRv45
import Derived.Test.YtjneghncmgjkeaaGreatDoorRv10
set_option linter.unusedVariables false
namespace Go.Proofs.YtjneghncmgjkeaaGreatDoor
open Go.RowKit

set_option maxRecDepth 100000 in
theorem l17short_any (kind : Int) (hk : kindOk kind) (s : Bs) (hs : s.length ≤ 100000) (ho : ownP kind s = true) (W : World) (hS : Std W) :
    Calls Tryz.prog 22 #[.int .i64 kind, .string ⟨s.toArray⟩] W fun e w' => e = .returned (.bool true) ∧ Ext W w' := by
  have HS := Lib.hid (short_any kind hk s hs W hS)
  unfold ownP at ho
  rw [beq_iff_eq] at ho
  rw [ho] at HS
  generalize (shortP kind s).2 = y at *
  clear hk ho
  go_enter Tryz.func22, Tryz.ntmps22
  go_wp2_with fail
  refine HS.out.mono ?_
  rintro e w1 ⟨rfl, hx⟩
  go_wp2_with fail
  go_ret
  exact ⟨rfl, hx⟩
/-- Where the fields' loop stands. -/
def FlAt (W : World) (q : Nat) (l : List Bs) (i : Value) (wr : World) : Prop := ∃ k : Nat, k ≤ l.length ∧ i = .int .i64 (k : Int) ∧ Ext W wr ∧ Blk wr q 9 (strC l).toArray
set_option maxRecDepth 100000 in
set_option maxHeartbeats 4000000 in
theorem addrFields_any (s : Bs) (W : World) (hS : Std W) : Calls Tryz.prog 6 #[.string ⟨s.toArray⟩] W fun e w' => e = .returned (.bool true) ∧ Ext W w' := by
  have HA := Lib.hid (l17awake_any W hS)
  have HS := Lib.hid (fun w (hx : Ext W w) => hS.ext hx)
  by_cases hs : s.length ≤ 1000
  rotate_left
  · have d1 : decide ((1000 : Int) < (s.length : Int)) = true := decide_eq_true (by omega)
    have d2 : decide (1000 < s.length) = true := decide_eq_true (by omega)
    clear hS hs
    go_enter Tryz.func6, Tryz.ntmps6
    go_wp2_with fail
    refine HA.out.mono ?_
    rintro e w1 ⟨rfl, hx1⟩
    go_wp2_with fail
    go_ret
    exact ⟨rfl, hx1⟩
  have d1 : decide ((1000 : Int) < (s.length : Int)) = false := decide_eq_false (by omega)
  have d2 : decide (1000 < s.length) = false := decide_eq_false (by omega)
  have HP := Lib.hid (fun w (hx : Ext W w) => parse_any s (by omega) w (hS.ext hx))
  have HF := Lib.hid (fun h : (parseP s).2.1 = 0 => parseP_fields s h)
  have HAt := Lib.hid (parseP_at s)
  generalize parseP s = r at *
  obtain ⟨a, fe, fa⟩ := r
  dsimp only at HF HAt
  clear hS
  by_cases h0 : fe = 0
  rotate_left
  · have hb : (fe != 0) = true := by simpa using h0
    obtain ⟨a1, a2⟩ := HAt.out
    have a3 : decide (0 ≤ fa) = true := decide_eq_true a1
    have a4 : decide (fa ≤ (s.length : Int)) = true := decide_eq_true a2
    clear h0
    go_enter Tryz.func6, Tryz.ntmps6
    go_wp2_with fail
    refine HA.out.mono ?_
    rintro e w1 ⟨rfl, hx1⟩
    have X1 := Lib.hid hx1
    clear hx1
    go_wp2_with fail
    refine (HP.out _ X1.out).mono ?_
    rintro e w2 ⟨rfl, hx2⟩
    have X2 := Lib.hid (((X1.out.trans hx2).alloc (.cells (adC a) 23)).alloc (.cells #[.int .i64 fe, .int .i64 fa] 26))
    clear hx2
    rw [adV_eq]
    dsimp only
    unfold adC at X2
    go_wp2_with fail
    go_ret
    exact ⟨rfl, X2.out⟩
  have K := HF.out h0
  subst h0
  clear HF HAt
  obtain ⟨⟨n1, n2⟩, hname, hcity, hstate, hzip, hmore, hall, ⟨o1, o2, o3, o4⟩⟩ := K
  obtain ⟨zn, zh, zpre, zname, zsuf, zpost, zunit, zcity, zstate, zzip, zmore⟩ := a
  dsimp only at n1 n2 hname hcity hstate hzip hmore hall o1 o2 o3 o4
  have HO := Lib.hid (fun w (hx : Ext W w) => (show Calls Tryz.prog 22 #[.int .i64 2, .string ⟨zpre.toArray⟩] w (fun e w' => e = .returned (.bool true) ∧ Ext w w') ∧ Calls Tryz.prog 22 #[.int .i64 2, .string ⟨zpost.toArray⟩] w (fun e w' => e = .returned (.bool true) ∧ Ext w w') ∧ Calls Tryz.prog 22 #[.int .i64 1, .string ⟨zsuf.toArray⟩] w (fun e w' => e = .returned (.bool true) ∧ Ext w w') ∧ Calls Tryz.prog 22 #[.int .i64 3, .string ⟨zstate.toArray⟩] w (fun e w' => e = .returned (.bool true) ∧ Ext w w') from
    have q : ∀ x ∈ ([zpre, zname, zsuf, zpost, zunit, zcity, zstate] : List Bs), x.length ≤ 100000 := fun x hx => by have := (hall x hx).len; omega
    ⟨l17short_any 2 (.inr (.inl rfl)) zpre (q _ (by simp)) (by unfold ownP; rw [beq_iff_eq]; exact o1) w (HS.out w hx), l17short_any 2 (.inr (.inl rfl)) zpost (q _ (by simp)) (by unfold ownP; rw [beq_iff_eq]; exact o2) w (HS.out w hx),
     l17short_any 1 (.inl rfl) zsuf (q _ (by simp)) (by unfold ownP; rw [beq_iff_eq]; exact o3) w (HS.out w hx), l17short_any 3 (.inr (.inr (.inl rfl))) zstate (q _ (by simp)) (by unfold ownP; rw [beq_iff_eq]; exact o4) w (HS.out w hx)⟩))
  have HU := Lib.hid (fun (k : Nat) (hk : k < ([zpre, zname, zsuf, zpost, zunit, zcity, zstate] : List Bs).length) w => (show Calls Tryz.prog 21 #[.string ⟨([zpre, zname, zsuf, zpost, zunit, zcity, zstate] : List Bs)[k].toArray⟩] w (fun e w' => e = .returned (.string ⟨([zpre, zname, zsuf, zpost, zunit, zcity, zstate] : List Bs)[k].toArray⟩) ∧ Ext w w') from by
    have q := hall _ (List.getElem_mem hk)
    have := upper_any ([zpre, zname, zsuf, zpost, zunit, zcity, zstate] : List Bs)[k] w (by have := q.len; omega)
    rwa [q.up] at this))
  have HL := Lib.hid (fun (k : Nat) (hk : k < ([zpre, zname, zsuf, zpost, zunit, zcity, zstate] : List Bs).length) => (hall _ (List.getElem_mem hk)).len)
  have t1 : decide (zn < 1) = false := decide_eq_false (by omega)
  have t2 : decide ((999999 : Int) < zn) = false := decide_eq_false (by omega)
  have t3 : zname.isEmpty = false := by cases zname with | nil => exact absurd rfl hname | cons _ _ => rfl
  have t4 : zcity.isEmpty = false := by cases zcity with | nil => exact absurd rfl hcity | cons _ _ => rfl
  have t5 : ((zstate.length : Int) != 2) = false := by rw [hstate]; rfl
  have t6 : ((zzip.length : Int) != 5) = false := by rw [hzip]; rfl
  have t7 : ((zmore.length : Int) != 0) = decide (zmore.length ≠ 0) := by
    rcases hmore with e | e <;> rw [e] <;> rfl
  have t8 : ((zmore.length : Int) != 0) = true → ((zmore.length : Int) != 4) = false := by
    rcases hmore with e | e <;> rw [e] <;> intro h <;> first | rfl | cases h
  have HM := Lib.hid (show ((zmore.length : Int) != 0) = false ∨ (((zmore.length : Int) != 0) = true ∧ ((zmore.length : Int) != 4) = false) from by rcases hmore with e | e <;> rw [e] <;> simp)
  clear n1 n2 hname hcity hstate hzip hmore hall o1 o2 o3 o4 t7 t8
  go_enter Tryz.func6, Tryz.ntmps6
  go_wp2_with fail
  refine HA.out.mono ?_
  rintro e w1 ⟨rfl, hx1⟩
  have X1 := Lib.hid hx1
  clear hx1
  go_wp2_with fail
  refine (HP.out _ X1.out).mono ?_
  rintro e w2 ⟨rfl, hx2⟩
  have X2 := Lib.hid (X1.out.trans hx2)
  clear hx2 X1 HP HA
  rw [adV_eq]
  dsimp only
  go_upto_region 7 with (fail)
  have XX := ((Ext.refl w2).alloc (.cells #[.int .i64 zn, .bool zh, .string ⟨zpre.toArray⟩, .string ⟨zname.toArray⟩, .string ⟨zsuf.toArray⟩, .string ⟨zpost.toArray⟩, .string ⟨zunit.toArray⟩, .string ⟨zcity.toArray⟩, .string ⟨zstate.toArray⟩, .string ⟨zzip.toArray⟩, .string ⟨zmore.toArray⟩] 23)).alloc (.cells #[.int .i64 0, .int .i64 fa] 26)
  have BA := (Blk.new w2 23 #[.int .i64 zn, .bool zh, .string ⟨zpre.toArray⟩, .string ⟨zname.toArray⟩, .string ⟨zsuf.toArray⟩, .string ⟨zpost.toArray⟩, .string ⟨zunit.toArray⟩, .string ⟨zcity.toArray⟩, .string ⟨zstate.toArray⟩, .string ⟨zzip.toArray⟩, .string ⟨zmore.toArray⟩]).alloc (.cells #[.int .i64 0, .int .i64 fa] 26)
  have X3 := Lib.hid (X2.out.trans XX)
  clear XX X2
  generalize (w2.alloc (.cells #[.int .i64 zn, .bool zh, .string ⟨zpre.toArray⟩, .string ⟨zname.toArray⟩, .string ⟨zsuf.toArray⟩, .string ⟨zpost.toArray⟩, .string ⟨zunit.toArray⟩, .string ⟨zcity.toArray⟩, .string ⟨zstate.toArray⟩, .string ⟨zzip.toArray⟩, .string ⟨zmore.toArray⟩] 23)).alloc (.cells #[.int .i64 0, .int .i64 fa] 26) = w3 at *
  generalize w2.heap.size + 1 = g5 at *
  generalize w2.heap.size = g4 at *
  obtain ⟨qa, _⟩ := BA.cells
  have la := BA.lt
  replace BA := Lib.hid BA
  go_cut [75] from 34 to 74 (fun v wx => v = .bool false ∧ wx = w3)
  case first =>
    rcases HM.out with h7 | ⟨h7, h8⟩
    · go_wp2_with fail
      go_meet
      case rel => exact ⟨rfl, rfl⟩
    · go_wp2_with fail
      go_meet
      case rel => exact ⟨rfl, rfl⟩
  case rest =>
    obtain ⟨rfl, rfl⟩ := hcut
    clear t1 t2 t3 t4 t5 t6 HM
    have B7 := Blk.new wc 9 #[.string ⟨zpre.toArray⟩, .string ⟨zname.toArray⟩, .string ⟨zsuf.toArray⟩, .string ⟨zpost.toArray⟩, .string ⟨zunit.toArray⟩, .string ⟨zcity.toArray⟩, .string ⟨zstate.toArray⟩]
    have XX := (Ext.refl wc).alloc (.cells #[.string ⟨zpre.toArray⟩, .string ⟨zname.toArray⟩, .string ⟨zsuf.toArray⟩, .string ⟨zpost.toArray⟩, .string ⟨zunit.toArray⟩, .string ⟨zcity.toArray⟩, .string ⟨zstate.toArray⟩] 9)
    go_upto_block 0 with (fail)
    have HB := Lib.hid (fun w' (hx : Ext (wc.alloc (.cells #[.string ⟨zpre.toArray⟩, .string ⟨zname.toArray⟩, .string ⟨zsuf.toArray⟩, .string ⟨zpost.toArray⟩, .string ⟨zunit.toArray⟩, .string ⟨zcity.toArray⟩, .string ⟨zstate.toArray⟩] 9)) w') => (show (∀ i, w'.cell? ⟨g4, i, none⟩ = (#[.int .i64 zn, .bool zh, .string ⟨zpre.toArray⟩, .string ⟨zname.toArray⟩, .string ⟨zsuf.toArray⟩, .string ⟨zpost.toArray⟩, .string ⟨zunit.toArray⟩, .string ⟨zcity.toArray⟩, .string ⟨zstate.toArray⟩, .string ⟨zzip.toArray⟩, .string ⟨zmore.toArray⟩] : Array Value)[i]?) ∧ g4 < w'.heap.size from
      have B := (BA.out.ext XX).ext hx; ⟨B.cell, B.lt⟩))
    have X0 := Lib.hid (X3.out.trans XX)
    clear qa la XX X3 BA
    generalize wc.alloc (.cells #[.string ⟨zpre.toArray⟩, .string ⟨zname.toArray⟩, .string ⟨zsuf.toArray⟩, .string ⟨zpost.toArray⟩, .string ⟨zunit.toArray⟩, .string ⟨zcity.toArray⟩, .string ⟨zstate.toArray⟩] 9) = w4 at *
    generalize wc.heap.size = gq at *
    have B7' := Lib.hid B7
    clear B7
    go_wp2_with fail
    go_loopw [7] (fun i wr => FlAt w4 gq [zpre, zname, zsuf, zpost, zunit, zcity, zstate] i wr) (fun i _ => 7 - (intOf i).toNat)
    case atStart => exact ⟨0, by omega, rfl, Ext.refl _, B7'.out⟩
    case round =>
      obtain ⟨k, hk, rfl, hx, B7⟩ := hrel
      replace hk : k ≤ 7 := hk
      by_cases hlt : k < 7
      · have hd : decide ((k : Int) < 7) = true := decide_eq_true (by omega)
        have kz : (0 : Int) ≤ (k : Int) := by omega
        have kl : (k : Int) < 7 := by omega
        have ck : wr.cell? ⟨gq, k, none⟩ = some (.string ⟨([zpre, zname, zsuf, zpost, zunit, zcity, zstate] : List Bs)[k].toArray⟩) := by
          rw [B7.cell k]
          simp only [strC, List.getElem?_toArray, List.getElem?_map]
          rw [List.getElem?_eq_getElem (by exact hlt)]
          rfl
        have HUk := Lib.hid (fun w (hx' : Ext wr w) => (HU.out k hlt w).mono fun e w' (h : _ ∧ _) => (show e = .returned (.string ⟨([zpre, zname, zsuf, zpost, zunit, zcity, zstate] : List Bs)[k].toArray⟩) ∧ Ext wr w' from ⟨h.1, hx'.trans h.2⟩))
        have hl := HL.out k hlt
        have HE := Lib.hid (fun w' (hx' : Ext wr w') => (show FlAt w4 gq [zpre, zname, zsuf, zpost, zunit, zcity, zstate] (.int .i64 ((k + 1 : Nat) : Int)) w' from ⟨k + 1, hlt, rfl, hx.trans hx', B7.ext hx'⟩))
        have lq := B7.lt
        have HX := Lib.hid (fun w' (hx' : Ext wr w') => (hx'.cell gq k none lq).trans ck)
        clear hx B7
        generalize ([zpre, zname, zsuf, zpost, zunit, zcity, zstate] : List Bs)[k] = x at *
        have d4 : decide ((40 : Int) < (x.length : Int)) = false := decide_eq_false (by omega)
        have d5 : decide (40 < x.length) = false := decide_eq_false (by omega)
        have Xr := Ext.refl wr
        go_upto_region 13 with (fail)
        go_region_held3 (fun w' => w'.cell? ⟨gq, k, none⟩ = some (.string ⟨x.toArray⟩))
          (with_reducible refine HX.out _ ?_; with_reducible repeat (first | assumption | refine Ext.drew ?_ | refine Ext.alloc ?_ _))
          (first | (go_at_call 21; refine (HUk.out _ (by with_reducible repeat (first | assumption | refine Ext.drew ?_ | refine Ext.alloc ?_ _))).mono ?_; rintro e v1 ⟨rfl, hv1⟩))
        go_wp2_with fail
        go_roundw
        case rel => exact HE.out _ (by with_reducible repeat (first | assumption | refine Ext.drew ?_ | refine Ext.alloc ?_ _))
        case measure => simp [intOf]; omega
      · obtain rfl : k = 7 := by omega
        have X5 := Lib.hid hx
        obtain ⟨qa, la⟩ := HB.out _ X5.out
        clear hx B7
        go_wp2_with fail
        refine ((HO.out _ (X0.out.trans X5.out)).1).mono ?_
        rintro e w6 ⟨rfl, hx⟩
        have X6 := Lib.hid (X5.out.trans hx)
        obtain ⟨qa, la⟩ := HB.out _ X6.out
        clear hx
        go_wp2_with fail
        refine ((HO.out _ (X0.out.trans X6.out)).2.1).mono ?_
        rintro e w7 ⟨rfl, hx⟩
        have X7 := Lib.hid (X6.out.trans hx)
        obtain ⟨qa, la⟩ := HB.out _ X7.out
        clear hx
        go_wp2_with fail
        refine ((HO.out _ (X0.out.trans X7.out)).2.2.1).mono ?_
        rintro e w8 ⟨rfl, hx⟩
        have X8 := Lib.hid (X7.out.trans hx)
        obtain ⟨qa, la⟩ := HB.out _ X8.out
        clear hx
        go_wp2_with fail
        refine ((HO.out _ (X0.out.trans X8.out)).2.2.2).mono ?_
        rintro e w9 ⟨rfl, hx⟩
        have X9 := Lib.hid (X8.out.trans hx)
        obtain ⟨qa, la⟩ := HB.out _ X9.out
        clear hx
        go_wp2_with fail
        go_ret
        exact ⟨rfl, X0.out.trans X9.out⟩
end Go.Proofs.YtjneghncmgjkeaaGreatDoor
