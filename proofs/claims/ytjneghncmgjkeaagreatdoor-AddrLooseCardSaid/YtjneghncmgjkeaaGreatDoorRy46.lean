/-
  apportionlaw17: AddrLoose (printed by tools/genZw.py).
-/
import Derived.Deep.RegionHeld3
import Derived.Test.YtjneghncmgjkeaaGreatDoorRy45
set_option linter.unusedVariables false
namespace Go.Proofs.YtjneghncmgjkeaaGreatDoor
open Go.RowKit

def wordsLen (k : Int) : Bool := (wordsP k).all fun p => decide (p.l.length ≤ 30)
theorem words_len : wordsLen 1 = true ∧ wordsLen 2 = true ∧ wordsLen 3 = true ∧ wordsLen 4 = true := by decide +kernel
theorem longP_len {k : Int} (h : wordsLen k = true) (x : Bs) : (longP k x).1.length ≤ 30 := by
  unfold longP
  cases hq : (wordsP k).reverse.find? fun p => p.s == x with
  | none => simp
  | some q =>
    have h1 := List.mem_of_find?_eq_some hq
    have := List.all_eq_true.1 h q (by simpa using h1)
    simpa using this
theorem small_snoc : ∀ (s : Bs) (c : UInt8), smallP (s ++ [c]) = smallP s ++ (if c = 32 then [32, 32] else [lowB c])
  | [], c => by
    by_cases h : c = 32
    · simp [smallP, h]
    · simp [smallP, h]
  | d :: s, c => by
    rw [List.cons_append, smallP, small_snoc s c, smallP]
    by_cases h : d = 32
    · rw [if_pos h, if_pos h]; rfl
    · rw [if_neg h, if_neg h]; rfl
theorem small_take {t : Bs} {k : Nat} (hk : k < t.length) : smallP (t.take (k + 1)) = smallP (t.take k) ++ (if t[k] = 32 then [32, 32] else [lowB t[k]]) := by
  rw [List.take_succ_eq_append_getElem hk, small_snoc]
def SmAt (W : World) (t : Bs) (v i : Value) (wr : World) : Prop := ∃ k : Nat, k ≤ t.length ∧ i = .int .i64 (k : Int) ∧ v = .string ⟨(smallP (t.take k)).toArray⟩ ∧ Ext W wr
theorem byte_str (w : World) (c : UInt8) : (convert 47 9 (.slice (some ⟨w.heap.size, 0, none⟩) 1 1)).run Tryz.prog (w.alloc (.cells #[.int .u8 (c.toNat : Int)] 5)) = .ok (.string ⟨#[c]⟩) (w.alloc (.cells #[.int .u8 (c.toNat : Int)] 5)) := by
  have h := run_convert_bytes_back (P := Tryz.prog) (w.alloc (.cells #[.int .u8 (c.toNat : Int)] 5)) 47 9 5 ⟨w.heap.size, 0, none⟩ 1 [c] Tryz.underlying47 Tryz.underlying5 Tryz.underlying9 (fun j hj => by
    have hj0 : j = 0 := by simpa using hj
    subst hj0
    rw [add_flat, Nat.zero_add]
    exact (Blk.new w 5 #[.int .u8 (c.toNat : Int)]).cell 0)
  exact h
set_option maxRecDepth 100000 in
set_option maxHeartbeats 4000000 in
theorem addrLoose_1 (a : Ad) (hn : i64 a.n) (hl : longA a = true) (W : World) (hS : Std W) : Calls Tryz.prog 9 #[adV a] W fun e w' => e = .returned (.bool true) ∧ Ext W w' := by
  have HA := Lib.hid (fun w (hx : Ext W w) => l17awake_any w (hS.ext hx))
  have HLg := Lib.hid (fun w => l17long_any a w)
  rw [hl] at HLg
  clear hS hn hl 
  obtain ⟨zn, zh, zpre, zname, zsuf, zpost, zunit, zcity, zstate, zzip, zmore⟩ := a
  rw [adV_eq] at HLg ⊢
  dsimp only at *
  go_enter Tryz.func9, Tryz.ntmps9
  go_upto_region 1 with (fail)
  have BA := Lib.hid (Blk.new W 23 #[.int .i64 zn, .bool zh, .string ⟨zpre.toArray⟩, .string ⟨zname.toArray⟩, .string ⟨zsuf.toArray⟩, .string ⟨zpost.toArray⟩, .string ⟨zunit.toArray⟩, .string ⟨zcity.toArray⟩, .string ⟨zstate.toArray⟩, .string ⟨zzip.toArray⟩, .string ⟨zmore.toArray⟩])
  have X0 := Lib.hid ((Ext.refl W).alloc (.cells #[.int .i64 zn, .bool zh, .string ⟨zpre.toArray⟩, .string ⟨zname.toArray⟩, .string ⟨zsuf.toArray⟩, .string ⟨zpost.toArray⟩, .string ⟨zunit.toArray⟩, .string ⟨zcity.toArray⟩, .string ⟨zstate.toArray⟩, .string ⟨zzip.toArray⟩, .string ⟨zmore.toArray⟩] 23))
  generalize W.alloc (.cells #[.int .i64 zn, .bool zh, .string ⟨zpre.toArray⟩, .string ⟨zname.toArray⟩, .string ⟨zsuf.toArray⟩, .string ⟨zpost.toArray⟩, .string ⟨zunit.toArray⟩, .string ⟨zcity.toArray⟩, .string ⟨zstate.toArray⟩, .string ⟨zzip.toArray⟩, .string ⟨zmore.toArray⟩] 23) = w0 at *
  generalize W.heap.size = ga at *
  have BC := Lib.hid (fun w (hx : Ext w0 w) => (show (∀ i, w.cell? ⟨ga, i, none⟩ = (#[.int .i64 zn, .bool zh, .string ⟨zpre.toArray⟩, .string ⟨zname.toArray⟩, .string ⟨zsuf.toArray⟩, .string ⟨zpost.toArray⟩, .string ⟨zunit.toArray⟩, .string ⟨zcity.toArray⟩, .string ⟨zstate.toArray⟩, .string ⟨zzip.toArray⟩, .string ⟨zmore.toArray⟩] : Array Value)[i]?) ∧ ga < w.heap.size from ⟨(BA.out.ext hx).cell, (BA.out.ext hx).lt⟩))
  clear BA
  go_wp2_with fail
  refine (HA.out _ X0.out).mono ?_
  rintro e w1 ⟨rfl, hx⟩
  have Xw1 := Lib.hid (((Ext.refl w0)).trans hx)
  clear hx
  obtain ⟨qa, la⟩ := BC.out _ Xw1.out
  go_wp2_with fail
  refine (HLg.out _).mono ?_
  rintro e w2 ⟨rfl, hx⟩
  have Xw2 := Lib.hid ((Xw1.out).trans hx)
  clear hx
  go_wp2_with fail
  go_ret
  exact ⟨rfl, X0.out.trans Xw2.out⟩
set_option maxRecDepth 100000 in
set_option maxHeartbeats 4000000 in
theorem addrLoose_2 (a : Ad) (hn : i64 a.n) (hl : longA a = false) (hq : checkP a ≠ 0) (W : World) (hS : Std W) : Calls Tryz.prog 9 #[adV a] W fun e w' => e = .returned (.bool true) ∧ Ext W w' := by
  have HA := Lib.hid (fun w (hx : Ext W w) => l17awake_any w (hS.ext hx))
  have HLg := Lib.hid (fun w => l17long_any a w)
  have HCk := Lib.hid (fun w (hx : Ext W w) => adcheck_any a (longA_no hl) w (hS.ext hx))
  have hqb : (checkP a != 0) = true := by simpa using hq
  generalize checkP a = q at *
  rw [hl] at HLg
  clear hS hn hl hq
  obtain ⟨zn, zh, zpre, zname, zsuf, zpost, zunit, zcity, zstate, zzip, zmore⟩ := a
  rw [adV_eq] at HLg HCk ⊢
  dsimp only at *
  go_enter Tryz.func9, Tryz.ntmps9
  go_upto_region 1 with (fail)
  have BA := Lib.hid (Blk.new W 23 #[.int .i64 zn, .bool zh, .string ⟨zpre.toArray⟩, .string ⟨zname.toArray⟩, .string ⟨zsuf.toArray⟩, .string ⟨zpost.toArray⟩, .string ⟨zunit.toArray⟩, .string ⟨zcity.toArray⟩, .string ⟨zstate.toArray⟩, .string ⟨zzip.toArray⟩, .string ⟨zmore.toArray⟩])
  have X0 := Lib.hid ((Ext.refl W).alloc (.cells #[.int .i64 zn, .bool zh, .string ⟨zpre.toArray⟩, .string ⟨zname.toArray⟩, .string ⟨zsuf.toArray⟩, .string ⟨zpost.toArray⟩, .string ⟨zunit.toArray⟩, .string ⟨zcity.toArray⟩, .string ⟨zstate.toArray⟩, .string ⟨zzip.toArray⟩, .string ⟨zmore.toArray⟩] 23))
  generalize W.alloc (.cells #[.int .i64 zn, .bool zh, .string ⟨zpre.toArray⟩, .string ⟨zname.toArray⟩, .string ⟨zsuf.toArray⟩, .string ⟨zpost.toArray⟩, .string ⟨zunit.toArray⟩, .string ⟨zcity.toArray⟩, .string ⟨zstate.toArray⟩, .string ⟨zzip.toArray⟩, .string ⟨zmore.toArray⟩] 23) = w0 at *
  generalize W.heap.size = ga at *
  have BC := Lib.hid (fun w (hx : Ext w0 w) => (show (∀ i, w.cell? ⟨ga, i, none⟩ = (#[.int .i64 zn, .bool zh, .string ⟨zpre.toArray⟩, .string ⟨zname.toArray⟩, .string ⟨zsuf.toArray⟩, .string ⟨zpost.toArray⟩, .string ⟨zunit.toArray⟩, .string ⟨zcity.toArray⟩, .string ⟨zstate.toArray⟩, .string ⟨zzip.toArray⟩, .string ⟨zmore.toArray⟩] : Array Value)[i]?) ∧ ga < w.heap.size from ⟨(BA.out.ext hx).cell, (BA.out.ext hx).lt⟩))
  clear BA
  go_wp2_with fail
  refine (HA.out _ X0.out).mono ?_
  rintro e w1 ⟨rfl, hx⟩
  have Xw1 := Lib.hid (((Ext.refl w0)).trans hx)
  clear hx
  obtain ⟨qa, la⟩ := BC.out _ Xw1.out
  go_wp2_with fail
  refine (HLg.out _).mono ?_
  rintro e w2 ⟨rfl, hx⟩
  have Xw2 := Lib.hid ((Xw1.out).trans hx)
  clear hx
  obtain ⟨qa, la⟩ := BC.out _ Xw2.out
  go_wp2_with fail
  refine (HCk.out _ (X0.out.trans Xw2.out)).mono ?_
  rintro e w3 ⟨rfl, hx⟩
  have Xw3 := Lib.hid ((Xw2.out).trans hx)
  clear hx
  go_wp2_with fail
  go_ret
  exact ⟨rfl, X0.out.trans Xw3.out⟩
set_option maxRecDepth 100000 in
set_option maxHeartbeats 4000000 in
theorem addrLoose_3 (a : Ad) (hn : i64 a.n) (hl : longA a = false) (hq : checkP a = 0) (W : World) (hS : Std W) : Calls Tryz.prog 9 #[adV a] W fun e w' => e = .returned (.bool true) ∧ Ext W w' := by
  have HA := Lib.hid (fun w (hx : Ext W w) => l17awake_any w (hS.ext hx))
  have HS := Lib.hid (fun w (hx : Ext W w) => hS.ext hx)
  have HLg := Lib.hid (fun w => l17long_any a w)
  have HCk := Lib.hid (fun w (hx : Ext W w) => adcheck_any a (longA_no hl) w (hS.ext hx))
  have HTx := Lib.hid (fun w (hx : Ext W w) => addText_any a (longA_no hl) hn w (hS.ext hx))
  rw [hl] at HLg
  rw [hq] at HCk
  rw [(textA_zero (a := a)).2 hq] at HTx
  obtain ⟨_, l150, _, _⟩ := text_facts hq
  obtain ⟨tt, htt⟩ : ∃ tt, (textA a).1 = tt := ⟨_, rfl⟩
  rw [htt] at HTx l150
  have HP1 := Lib.hid (show parseP (smallP tt) = (a, 0, 0) by rw [← htt]; exact text_small hq)
  have HP2 := Lib.hid (fun h => loose_one hq h)
  have HP3 := Lib.hid (fun h => loose_two hq h)
  have hB := txtB hq
  have hC := checkP_ok hq
  obtain ⟨_, _, hpre3⟩ := own_toks words_fine.2.1 words_word.2.1 hC.pre
  obtain ⟨_, _, hsuf3⟩ := own_toks words_fine.1 words_word.1 hC.suf
  obtain ⟨_, _, hpost3⟩ := own_toks words_fine.2.1 words_word.2.1 hC.post
  have hname3 := hC.name.l40
  have bu := hB.u
  have bc := hB.c
  have bs := hB.s
  have bz := hB.z
  have bm := hB.m
  replace htt := Lib.hid htt
  clear hS hn hl hq hB hC
  have HSm := Lib.hid (fun (k : Nat) (_ : k ≤ tt.length) => (show (smallP (tt.take k)).length ≤ 300 by
    rw [small_len]
    have := spN_le (tt.take k)
    have h2 : (tt.take k).length ≤ tt.length := by rw [List.length_take]; omega
    omega))
  obtain ⟨a0, ha0⟩ : ∃ a0, a0 = a := ⟨_, rfl⟩
  rw [← ha0] at HP1 HP2 HP3 htt
  replace ha0 := Lib.hid ha0
  obtain ⟨zn, zh, zpre, zname, zsuf, zpost, zunit, zcity, zstate, zzip, zmore⟩ := a
  rw [adV_eq] at HLg HCk HTx ⊢
  dsimp only at *
  go_enter Tryz.func9, Tryz.ntmps9
  go_upto_region 1 with (fail)
  have BA := Lib.hid (Blk.new W 23 #[.int .i64 zn, .bool zh, .string ⟨zpre.toArray⟩, .string ⟨zname.toArray⟩, .string ⟨zsuf.toArray⟩, .string ⟨zpost.toArray⟩, .string ⟨zunit.toArray⟩, .string ⟨zcity.toArray⟩, .string ⟨zstate.toArray⟩, .string ⟨zzip.toArray⟩, .string ⟨zmore.toArray⟩])
  have X0 := Lib.hid ((Ext.refl W).alloc (.cells #[.int .i64 zn, .bool zh, .string ⟨zpre.toArray⟩, .string ⟨zname.toArray⟩, .string ⟨zsuf.toArray⟩, .string ⟨zpost.toArray⟩, .string ⟨zunit.toArray⟩, .string ⟨zcity.toArray⟩, .string ⟨zstate.toArray⟩, .string ⟨zzip.toArray⟩, .string ⟨zmore.toArray⟩] 23))
  generalize W.alloc (.cells #[.int .i64 zn, .bool zh, .string ⟨zpre.toArray⟩, .string ⟨zname.toArray⟩, .string ⟨zsuf.toArray⟩, .string ⟨zpost.toArray⟩, .string ⟨zunit.toArray⟩, .string ⟨zcity.toArray⟩, .string ⟨zstate.toArray⟩, .string ⟨zzip.toArray⟩, .string ⟨zmore.toArray⟩] 23) = w0 at *
  generalize W.heap.size = ga at *
  have BC := Lib.hid (fun w (hx : Ext w0 w) => (show (∀ i, w.cell? ⟨ga, i, none⟩ = (#[.int .i64 zn, .bool zh, .string ⟨zpre.toArray⟩, .string ⟨zname.toArray⟩, .string ⟨zsuf.toArray⟩, .string ⟨zpost.toArray⟩, .string ⟨zunit.toArray⟩, .string ⟨zcity.toArray⟩, .string ⟨zstate.toArray⟩, .string ⟨zzip.toArray⟩, .string ⟨zmore.toArray⟩] : Array Value)[i]?) ∧ ga < w.heap.size from ⟨(BA.out.ext hx).cell, (BA.out.ext hx).lt⟩))
  clear BA
  go_wp2_with fail
  refine (HA.out _ X0.out).mono ?_
  rintro e w1 ⟨rfl, hx⟩
  have Xw1 := Lib.hid (((Ext.refl w0)).trans hx)
  clear hx
  obtain ⟨qa, la⟩ := BC.out _ Xw1.out
  go_wp2_with fail
  refine (HLg.out _).mono ?_
  rintro e w2 ⟨rfl, hx⟩
  have Xw2 := Lib.hid ((Xw1.out).trans hx)
  clear hx
  obtain ⟨qa, la⟩ := BC.out _ Xw2.out
  go_wp2_with fail
  refine (HCk.out _ (X0.out.trans Xw2.out)).mono ?_
  rintro e w3 ⟨rfl, hx⟩
  have Xw3 := Lib.hid ((Xw2.out).trans hx)
  clear hx
  obtain ⟨qa, la⟩ := BC.out _ Xw3.out
  go_wp2_with fail
  refine (HTx.out _ (X0.out.trans Xw3.out)).mono ?_
  rintro e w4 ⟨rfl, hx⟩
  have Xw4 := Lib.hid ((Xw3.out).trans hx)
  clear hx
  clear HA HLg HCk HTx Xw1 Xw2 Xw3 qa la
  go_upto_block 0 with (fail)
  go_cut [6] from 42 to 67 (fun v wx => v = .string ⟨(smallP tt).toArray⟩ ∧ Ext w4 wx)
  case first =>
    have H0 := Lib.hid (show SmAt w4 tt (.string ⟨#[]⟩) (.int .i64 ((0 : Nat) : Int)) w4 from ⟨0, by omega, rfl, rfl, Ext.refl _⟩)
    clear BC X0 HS
    go_wp2_with fail
    go_loopw [6, 7] (fun v i wr => SmAt w4 tt v i wr) (fun _ i _ => tt.length - (intOf i).toNat)
    case atStart => exact H0.out
    case round =>
      clear H0
      obtain ⟨k, hk, rfl, rfl, hx⟩ := hrel
      by_cases hlt : k < tt.length
      · have hd : decide ((k : Int) < (tt.length : Int)) = true := decide_eq_true (by omega)
        have hd' : decide (k < tt.length) = true := decide_eq_true hlt
        have kz : (0 : Int) ≤ (k : Int) := by omega
        have kl : (k : Int) < (tt.length : Int) := by omega
        obtain ⟨nk, hnk⟩ : ∃ n : Nat, tt[k].toNat = n := ⟨_, rfl⟩
        have hb : ∀ h, ((⟨tt.toArray⟩ : ByteArray)[k]'h).toNat = nk := fun _ => hnk
        have hst := small_take hlt
        have hal := HSm.out k hk
        obtain ⟨acc, hacc⟩ : ∃ x, smallP (tt.take k) = x := ⟨_, rfl⟩
        rw [hacc] at hal ⊢
        by_cases hup : 65 ≤ nk ∧ nk ≤ 90
        · skip
          have e1 : decide ((65 : Int) ≤ (nk : Int)) = true := decide_eq_true (by omega)
          have e2 : decide ((nk : Int) ≤ 90) = true := decide_eq_true (by omega)
          obtain ⟨lc, hlc⟩ : ∃ lc, lowB tt[k] = lc := ⟨_, rfl⟩
          have hm : lc.toNat = nk + 32 := by rw [← hlc]; unfold lowB; rw [if_pos (by rw [hnk]; omega), lowB_nat (by rw [hnk]; omega), hnk]
          have hw : IntKind.u8.wrap ((nk : Int) + 32) = ((lc.toNat : Nat) : Int) := by rw [hm]; simp [IntKind.wrap, IntKind.bits, IntKind.signed]; omega
          have h32 : ((lc.toNat : Int) == 32) = false := by rw [beq_eq_false_iff_ne]; omega
          have hb2 : ∀ h, ((⟨tt.toArray⟩ : ByteArray)[k]'h).toNat = nk := fun _ => hnk
          have HE := Lib.hid (fun (w' : World) (hx' : Ext w4 w') => (show SmAt w4 tt (.string ⟨(acc ++ [lc]).toArray⟩) (.int .i64 ((k + 1 : Nat) : Int)) w' from ⟨k + 1, hlt, rfl, by rw [hst, hacc, if_neg (fun e => by rw [e] at hnk; have : (32 : UInt8).toNat = 32 := rfl; omega), hlc], hx'⟩))
          have hcv := byte_str wr lc
          have ha : (⟨acc.toArray⟩ ++ ⟨#[lc]⟩ : ByteArray) = ⟨(acc ++ [lc]).toArray⟩ := bs_app acc [lc]
          obtain ⟨ac2, hac2⟩ : ∃ x, acc ++ [lc] = x := ⟨_, rfl⟩
          rw [hac2] at ha HE
          replace hac2 := Lib.hid hac2
          replace hacc := Lib.hid hacc
          replace hnk := Lib.hid hnk
          replace hst := Lib.hid hst
          replace hlc := Lib.hid hlc
          replace hm := Lib.hid hm
          clear hb hup
          go_wp2_with fail
          go_roundw
          case rel => exact HE.out _ (hx.alloc _)
          case measure => simp [intOf]; omega
        · by_cases h32n : nk = 32
          · skip
            have e1 : decide ((65 : Int) ≤ (nk : Int)) = false := decide_eq_false (by omega)
            obtain ⟨lc, hlc⟩ : ∃ lc, lowB tt[k] = lc := ⟨_, rfl⟩
            have hm : lc.toNat = nk := by rw [← hlc]; unfold lowB; rw [if_neg (by rw [hnk]; omega), hnk]
            have h32 : ((lc.toNat : Int) == 32) = true := by rw [beq_iff_eq]; omega
            have hb2 : ∀ h, ((⟨tt.toArray⟩ : ByteArray)[k]'h).toNat = lc.toNat := fun _ => hnk.trans hm.symm
            have HE := Lib.hid (fun (w' : World) (hx' : Ext w4 w') => (show SmAt w4 tt (.string ⟨(acc ++ [lc] ++ [32]).toArray⟩) (.int .i64 ((k + 1 : Nat) : Int)) w' from ⟨k + 1, hlt, rfl, by rw [hst, hacc, if_pos (by rw [← UInt8.toNat_inj, hnk]; show nk = 32; omega)]; rw [show lc = 32 from UInt8.toNat_inj.1 (by rw [hm]; show nk = 32; omega)]; simp, hx'⟩))
            have hcv := byte_str wr lc
            have ha : (⟨acc.toArray⟩ ++ ⟨#[lc]⟩ : ByteArray) = ⟨(acc ++ [lc]).toArray⟩ := bs_app acc [lc]
            obtain ⟨ac2, hac2⟩ : ∃ x, acc ++ [lc] = x := ⟨_, rfl⟩
            have hl2 : ac2.length ≤ 1000 := by rw [← hac2, List.length_append]; simp; omega
            rw [hac2] at ha HE
            have ha2 : (⟨ac2.toArray⟩ ++ ⟨#[32]⟩ : ByteArray) = ⟨(ac2 ++ [32]).toArray⟩ := bs_app ac2 [32]
            replace hac2 := Lib.hid hac2
            have e1' : decide ((65 : Int) ≤ ((lc.toNat : Nat) : Int)) = false := by rw [hm]; exact e1
            replace hacc := Lib.hid hacc
            replace hnk := Lib.hid hnk
            replace hst := Lib.hid hst
            replace hlc := Lib.hid hlc
            replace hm := Lib.hid hm
            clear hb hup
            go_wp2_with fail
            go_roundw
            case rel => exact HE.out _ (hx.alloc _)
            case measure => simp [intOf]; omega
          · by_cases hlo : nk < 65
            · skip
              have e1 : decide ((65 : Int) ≤ (nk : Int)) = false := decide_eq_false (by omega)
              obtain ⟨lc, hlc⟩ : ∃ lc, lowB tt[k] = lc := ⟨_, rfl⟩
              have hm : lc.toNat = nk := by rw [← hlc]; unfold lowB; rw [if_neg (by rw [hnk]; omega), hnk]
              have h32 : ((lc.toNat : Int) == 32) = false := by rw [beq_eq_false_iff_ne]; omega
              have hb2 : ∀ h, ((⟨tt.toArray⟩ : ByteArray)[k]'h).toNat = lc.toNat := fun _ => hnk.trans hm.symm
              have HE := Lib.hid (fun (w' : World) (hx' : Ext w4 w') => (show SmAt w4 tt (.string ⟨(acc ++ [lc]).toArray⟩) (.int .i64 ((k + 1 : Nat) : Int)) w' from ⟨k + 1, hlt, rfl, by rw [hst, hacc, if_neg (fun e => by rw [e] at hnk; have : (32 : UInt8).toNat = 32 := rfl; omega), hlc], hx'⟩))
              have hcv := byte_str wr lc
              have ha : (⟨acc.toArray⟩ ++ ⟨#[lc]⟩ : ByteArray) = ⟨(acc ++ [lc]).toArray⟩ := bs_app acc [lc]
              obtain ⟨ac2, hac2⟩ : ∃ x, acc ++ [lc] = x := ⟨_, rfl⟩
              rw [hac2] at ha HE
              replace hac2 := Lib.hid hac2
              have e1' : decide ((65 : Int) ≤ ((lc.toNat : Nat) : Int)) = false := by rw [hm]; exact e1
              replace hacc := Lib.hid hacc
              replace hnk := Lib.hid hnk
              replace hst := Lib.hid hst
              replace hlc := Lib.hid hlc
              replace hm := Lib.hid hm
              clear hb hup
              go_wp2_with fail
              go_roundw
              case rel => exact HE.out _ (hx.alloc _)
              case measure => simp [intOf]; omega
            · skip
              have e1 : decide ((65 : Int) ≤ (nk : Int)) = true := decide_eq_true (by omega)
              have e2 : decide ((nk : Int) ≤ 90) = false := decide_eq_false (by omega)
              obtain ⟨lc, hlc⟩ : ∃ lc, lowB tt[k] = lc := ⟨_, rfl⟩
              have hm : lc.toNat = nk := by rw [← hlc]; unfold lowB; rw [if_neg (by rw [hnk]; omega), hnk]
              have h32 : ((lc.toNat : Int) == 32) = false := by rw [beq_eq_false_iff_ne]; omega
              have hb2 : ∀ h, ((⟨tt.toArray⟩ : ByteArray)[k]'h).toNat = lc.toNat := fun _ => hnk.trans hm.symm
              have HE := Lib.hid (fun (w' : World) (hx' : Ext w4 w') => (show SmAt w4 tt (.string ⟨(acc ++ [lc]).toArray⟩) (.int .i64 ((k + 1 : Nat) : Int)) w' from ⟨k + 1, hlt, rfl, by rw [hst, hacc, if_neg (fun e => by rw [e] at hnk; have : (32 : UInt8).toNat = 32 := rfl; omega), hlc], hx'⟩))
              have hcv := byte_str wr lc
              have ha : (⟨acc.toArray⟩ ++ ⟨#[lc]⟩ : ByteArray) = ⟨(acc ++ [lc]).toArray⟩ := bs_app acc [lc]
              obtain ⟨ac2, hac2⟩ : ∃ x, acc ++ [lc] = x := ⟨_, rfl⟩
              rw [hac2] at ha HE
              replace hac2 := Lib.hid hac2
              have e1' : decide ((65 : Int) ≤ ((lc.toNat : Nat) : Int)) = true := by rw [hm]; exact e1
              have e2' : decide (((lc.toNat : Nat) : Int) ≤ 90) = false := by rw [hm]; exact e2
              replace hacc := Lib.hid hacc
              replace hnk := Lib.hid hnk
              replace hst := Lib.hid hst
              replace hlc := Lib.hid hlc
              replace hm := Lib.hid hm
              clear hb hup
              go_wp2_with fail
              go_roundw
              case rel => exact HE.out _ (hx.alloc _)
              case measure => simp [intOf]; omega
      · obtain rfl : k = tt.length := by omega
        have hd : decide ((tt.length : Int) < (tt.length : Int)) = false := by simp
        have hT : tt.take tt.length = tt := List.take_length
        rw [hT]
        clear hT
        replace hx := Lib.hid hx
        go_wp2_with fail
        go_meet
        case rel => exact ⟨rfl, hx.out⟩
  case rest =>
    obtain ⟨rfl, hx5⟩ := hcut
    have X5 := Lib.hid (Xw4.out.trans hx5)
    clear hx5 Xw4 HSm
    obtain ⟨lf, hlf⟩ : ∃ lf : Int → Bs → Bs, (fun k s => (longP k s).1) = lf := ⟨_, rfl⟩
    have hll : ∀ s : Bs, (lf 1 s).length ≤ 30 ∧ (lf 2 s).length ≤ 30 ∧ (lf 3 s).length ≤ 30 ∧ (lf 4 s).length ≤ 30 := fun s => by
      rw [← hlf]; exact ⟨longP_len words_len.1 s, longP_len words_len.2.1 s, longP_len words_len.2.2.1 s, longP_len words_len.2.2.2 s⟩
    have HFu := Lib.hid (fun (wb : World) (hb : Ext W wb) (kind : Int) (s : Bs) (hk : kindOk kind) (hs : s.length ≤ 100000) (w : World) (hx : Ext wb w) => (l17full_any kind hk s hs w (HS.out w (hb.trans hx))).mono fun e w' (h : _ ∧ _) => (show e = .returned (.string ⟨(lf kind s).toArray⟩) ∧ Ext wb w' from ⟨by rw [h.1, ← hlf], hx.trans h.2⟩))
    replace hlf := Lib.hid hlf
    obtain ⟨bP, bQ⟩ := And.intro (hll zpre).2.1 (hll zpost).2.1
    have bS := (hll zsuf).1
    have bT := (hll zstate).2.2.1
    replace hll := Lib.hid hll
    obtain ⟨W1, hW1⟩ : ∃ x, lf 2 zpre ++ [32] = x := ⟨_, rfl⟩
    have cW1 : (⟨(lf 2 zpre).toArray⟩ ++ ⟨#[32]⟩ : ByteArray) = ⟨W1.toArray⟩ := by rw [← hW1]; exact bs_app _ _
    have sW1 : (9223372036854775807 < (lf 2 zpre).length + 1) = False := eq_false (by omega)
    have bW1 : W1.length ≤ 31 := by rw [← hW1, List.length_append]; (try simp only [List.length_cons, List.length_nil]); omega
    replace hW1 := Lib.hid hW1
    obtain ⟨W2, hW2⟩ : ∃ x, W1 ++ zname = x := ⟨_, rfl⟩
    have cW2 : (⟨W1.toArray⟩ ++ ⟨zname.toArray⟩ : ByteArray) = ⟨W2.toArray⟩ := by rw [← hW2]; exact bs_app _ _
    have sW2 : (9223372036854775807 < W1.length + List.length zname) = False := eq_false (by omega)
    have bW2 : W2.length ≤ 71 := by rw [← hW2, List.length_append]; (try simp only [List.length_cons, List.length_nil]); omega
    replace hW2 := Lib.hid hW2
    obtain ⟨W3, hW3⟩ : ∃ x, W2 ++ [32] = x := ⟨_, rfl⟩
    have cW3 : (⟨W2.toArray⟩ ++ ⟨#[32]⟩ : ByteArray) = ⟨W3.toArray⟩ := by rw [← hW3]; exact bs_app _ _
    have sW3 : (9223372036854775807 < W2.length + 1) = False := eq_false (by omega)
    have bW3 : W3.length ≤ 72 := by rw [← hW3, List.length_append]; (try simp only [List.length_cons, List.length_nil]); omega
    replace hW3 := Lib.hid hW3
    obtain ⟨W4, hW4⟩ : ∃ x, W3 ++ lf 1 zsuf = x := ⟨_, rfl⟩
    have cW4 : (⟨W3.toArray⟩ ++ ⟨(lf 1 zsuf).toArray⟩ : ByteArray) = ⟨W4.toArray⟩ := by rw [← hW4]; exact bs_app _ _
    have sW4 : (9223372036854775807 < W3.length + (lf 1 zsuf).length) = False := eq_false (by omega)
    have bW4 : W4.length ≤ 102 := by rw [← hW4, List.length_append]; (try simp only [List.length_cons, List.length_nil]); omega
    replace hW4 := Lib.hid hW4
    obtain ⟨W5, hW5⟩ : ∃ x, W4 ++ [32] = x := ⟨_, rfl⟩
    have cW5 : (⟨W4.toArray⟩ ++ ⟨#[32]⟩ : ByteArray) = ⟨W5.toArray⟩ := by rw [← hW5]; exact bs_app _ _
    have sW5 : (9223372036854775807 < W4.length + 1) = False := eq_false (by omega)
    have bW5 : W5.length ≤ 103 := by rw [← hW5, List.length_append]; (try simp only [List.length_cons, List.length_nil]); omega
    replace hW5 := Lib.hid hW5
    obtain ⟨W6, hW6⟩ : ∃ x, W5 ++ lf 2 zpost = x := ⟨_, rfl⟩
    have cW6 : (⟨W5.toArray⟩ ++ ⟨(lf 2 zpost).toArray⟩ : ByteArray) = ⟨W6.toArray⟩ := by rw [← hW6]; exact bs_app _ _
    have sW6 : (9223372036854775807 < W5.length + (lf 2 zpost).length) = False := eq_false (by omega)
    have bW6 : W6.length ≤ 133 := by rw [← hW6, List.length_append]; (try simp only [List.length_cons, List.length_nil]); omega
    replace hW6 := Lib.hid hW6
    have HX := Lib.hid (fun w' (hx : Ext wc w') => (show w'.cell? ⟨ga, 2, none⟩ = some (.string ⟨zpre.toArray⟩) ∧ w'.cell? ⟨ga, 3, none⟩ = some (.string ⟨zname.toArray⟩) ∧ w'.cell? ⟨ga, 4, none⟩ = some (.string ⟨zsuf.toArray⟩) ∧ w'.cell? ⟨ga, 5, none⟩ = some (.string ⟨zpost.toArray⟩) from
      have B := (BC.out _ (X5.out.trans hx)).1; ⟨B 2, B 3, B 4, B 5⟩))
    obtain ⟨k2, k3, k4, k5⟩ := HX.out _ (Ext.refl wc)
    have la := (BC.out _ X5.out).2
    have HFa := Lib.hid (HFu.out wc (X0.out.trans X5.out))
    have Xr := Ext.refl wc
    go_upto_region 15 with (fail)
    go_region_held3 (fun w' => w'.cell? ⟨ga, 2, none⟩ = some (.string ⟨zpre.toArray⟩) ∧ w'.cell? ⟨ga, 3, none⟩ = some (.string ⟨zname.toArray⟩) ∧ w'.cell? ⟨ga, 4, none⟩ = some (.string ⟨zsuf.toArray⟩) ∧ w'.cell? ⟨ga, 5, none⟩ = some (.string ⟨zpost.toArray⟩))
      (with_reducible refine HX.out _ ?_; with_reducible repeat (first | assumption | refine Ext.drew ?_ | refine Ext.alloc ?_ _))
      (first | (go_at_call 26; refine (HFa.out _ _ (by first | exact .inl rfl | exact .inr (.inl rfl)) (by omega) _ (by with_reducible repeat (first | assumption | refine Ext.drew ?_ | refine Ext.alloc ?_ _))).mono ?_; rintro e v1 ⟨rfl, hv1⟩))
    have X6 := Lib.hid (X5.out.trans hv1)
    clear cW1 cW2 cW3 cW4 cW5 cW6 sW1 sW2 sW3 sW4 sW5 sW6 bW1 bW2 bW3 bW4 bW5 k2 k3 k4 k5 la HX HFa Xr hv1
    have HCt := Lib.hid (fun w => (show Calls Tryz.prog 23 #[.string ⟨tt.toArray⟩, .int .u8 32] w fun e w' => e = .returned (.tuple #[.string ⟨(cutB 32 tt).1.toArray⟩, .string ⟨(cutB 32 tt).2.1.toArray⟩, .bool (cutB 32 tt).2.2]) ∧ Ext w w' from l17cut_any tt 32 (by omega) w))
    obtain ⟨ct, hct⟩ : ∃ ct, cutB 32 tt = ct := ⟨_, rfl⟩
    have bc1 : ct.1.length ≤ 150 := by rw [← hct]; have := (cutB_len 32 tt).1; omega
    rw [hct] at HCt
    replace hct := Lib.hid hct
    obtain ⟨c1, c2, c3⟩ := ct
    dsimp only at HCt bc1
    go_upto_region 16 with (fail)
    go_wp2_with fail
    refine (HCt.out _).mono ?_
    rintro e w6 ⟨rfl, hx6⟩
    have X7 := Lib.hid (X6.out.trans hx6)
    clear hx6 X6 X5 HCt
    obtain ⟨qa, la⟩ := BC.out _ X7.out
    obtain ⟨hs, hhs⟩ : ∃ hs : Bs, (if zh then [32, 49, 47, 50, 32] else []) = hs := ⟨_, rfl⟩
    have bhs : hs.length ≤ 5 := by rw [← hhs]; split <;> simp
    replace hhs := Lib.hid hhs
    go_upto_if 92 with (fail)
    go_cut [13] from 91 to 92 (fun v wx => v = .string ⟨hs.toArray⟩ ∧ wx = w6)
    case first =>
      cases zh with
      | true =>
        have HE := Lib.hid (show Value.string ⟨#[32, 49, 47, 50, 32]⟩ = .string ⟨hs.toArray⟩ by rw [← hhs.out]; rfl)
        go_wp2_with fail
        go_meet
        case rel => exact ⟨HE.out, rfl⟩
      | false =>
        have HE := Lib.hid (show Value.string ⟨#[]⟩ = .string ⟨hs.toArray⟩ by rw [← hhs.out]; rfl)
        go_wp2_with fail
        go_meet
        case rel => exact ⟨HE.out, rfl⟩
    case rest =>
    obtain ⟨rfl, rfl⟩ := hcut
    clear qa la
    obtain ⟨V1, hV1⟩ : ∃ x, [44, 32] ++ zcity = x := ⟨_, rfl⟩
    have cV1 : (⟨#[44, 32]⟩ ++ ⟨(zcity).toArray⟩ : ByteArray) = ⟨V1.toArray⟩ := by rw [← hV1]; exact bs_app _ _
    have sV1 : (9223372036854775807 < 2 + List.length zcity) = False := eq_false (by omega)
    have bV1 : V1.length ≤ 42 := by rw [← hV1, List.length_append]; (try simp only [List.length_cons, List.length_nil]); omega
    replace hV1 := Lib.hid hV1
    obtain ⟨V2, hV2⟩ : ∃ x, V1 ++ [44, 32] = x := ⟨_, rfl⟩
    have cV2 : (⟨(V1).toArray⟩ ++ ⟨#[44, 32]⟩ : ByteArray) = ⟨V2.toArray⟩ := by rw [← hV2]; exact bs_app _ _
    have sV2 : (9223372036854775807 < V1.length + 2) = False := eq_false (by omega)
    have bV2 : V2.length ≤ 44 := by rw [← hV2, List.length_append]; (try simp only [List.length_cons, List.length_nil]); omega
    replace hV2 := Lib.hid hV2
    obtain ⟨V3, hV3⟩ : ∃ x, V2 ++ lf 3 zstate = x := ⟨_, rfl⟩
    have cV3 : (⟨(V2).toArray⟩ ++ ⟨(lf 3 zstate).toArray⟩ : ByteArray) = ⟨V3.toArray⟩ := by rw [← hV3]; exact bs_app _ _
    have sV3 : (9223372036854775807 < V2.length + (lf 3 zstate).length) = False := eq_false (by omega)
    have bV3 : V3.length ≤ 74 := by rw [← hV3, List.length_append]; (try simp only [List.length_cons, List.length_nil]); omega
    replace hV3 := Lib.hid hV3
    obtain ⟨V4, hV4⟩ : ∃ x, V3 ++ [32] = x := ⟨_, rfl⟩
    have cV4 : (⟨(V3).toArray⟩ ++ ⟨#[32]⟩ : ByteArray) = ⟨V4.toArray⟩ := by rw [← hV4]; exact bs_app _ _
    have sV4 : (9223372036854775807 < V3.length + 1) = False := eq_false (by omega)
    have bV4 : V4.length ≤ 75 := by rw [← hV4, List.length_append]; (try simp only [List.length_cons, List.length_nil]); omega
    replace hV4 := Lib.hid hV4
    obtain ⟨V5, hV5⟩ : ∃ x, V4 ++ zzip = x := ⟨_, rfl⟩
    have cV5 : (⟨(V4).toArray⟩ ++ ⟨(zzip).toArray⟩ : ByteArray) = ⟨V5.toArray⟩ := by rw [← hV5]; exact bs_app _ _
    have sV5 : (9223372036854775807 < V4.length + List.length zzip) = False := eq_false (by omega)
    have bV5 : V5.length ≤ 80 := by rw [← hV5, List.length_append]; (try simp only [List.length_cons, List.length_nil]); omega
    replace hV5 := Lib.hid hV5
    have HX := Lib.hid (fun w' (hx : Ext wc w') => (show w'.cell? ⟨ga, 7, none⟩ = some (.string ⟨zcity.toArray⟩) ∧ w'.cell? ⟨ga, 8, none⟩ = some (.string ⟨zstate.toArray⟩) ∧ w'.cell? ⟨ga, 9, none⟩ = some (.string ⟨zzip.toArray⟩) from
      have B := (BC.out _ (X7.out.trans hx)).1; ⟨B 7, B 8, B 9⟩))
    obtain ⟨k7, k8, k9⟩ := HX.out _ (Ext.refl wc)
    have la := (BC.out _ X7.out).2
    have HFa := Lib.hid (HFu.out wc (X0.out.trans X7.out))
    have Xr := Ext.refl wc
    go_upto_region 20 with (fail)
    go_region_held3 (fun w' => w'.cell? ⟨ga, 7, none⟩ = some (.string ⟨zcity.toArray⟩) ∧ w'.cell? ⟨ga, 8, none⟩ = some (.string ⟨zstate.toArray⟩) ∧ w'.cell? ⟨ga, 9, none⟩ = some (.string ⟨zzip.toArray⟩))
      (with_reducible refine HX.out _ ?_; with_reducible repeat (first | assumption | refine Ext.drew ?_ | refine Ext.alloc ?_ _))
      (first | (go_at_call 26; refine (HFa.out _ _ (by exact .inr (.inr (.inl rfl))) (by omega) _ (by with_reducible repeat (first | assumption | refine Ext.drew ?_ | refine Ext.alloc ?_ _))).mono ?_; rintro e v1 ⟨rfl, hv1⟩))
    have X8 := Lib.hid (X7.out.trans hv1)
    clear cV1 cV2 cV3 cV4 cV5 sV1 sV2 sV3 sV4 sV5 bV1 bV2 bV3 bV4 k7 k8 k9 la HX HFa Xr hv1 X7
    obtain ⟨qa, la⟩ := BC.out _ X8.out
    obtain ⟨me, hme⟩ : ∃ b, zmore.isEmpty = b := ⟨_, rfl⟩
    have hme1 : decide (zmore = []) = me := by rw [← hme]; cases zmore <;> simp
    obtain ⟨V6, hV6⟩ : ∃ x, V5 ++ [45] = x := ⟨_, rfl⟩
    have cV6 : (⟨(V5).toArray⟩ ++ ⟨#[45]⟩ : ByteArray) = ⟨V6.toArray⟩ := by rw [← hV6]; exact bs_app _ _
    have bV6 : V6.length ≤ 81 := by rw [← hV6, List.length_append]; (try simp only [List.length_cons, List.length_nil]); omega
    replace hV6 := Lib.hid hV6
    obtain ⟨V7, hV7⟩ : ∃ x, V6 ++ zmore = x := ⟨_, rfl⟩
    have cV7 : (⟨(V6).toArray⟩ ++ ⟨(zmore).toArray⟩ : ByteArray) = ⟨V7.toArray⟩ := by rw [← hV7]; exact bs_app _ _
    have bV7 : V7.length ≤ 85 := by rw [← hV7, List.length_append]; (try simp only [List.length_cons, List.length_nil]); omega
    replace hV7 := Lib.hid hV7
    obtain ⟨pl, hpl⟩ : ∃ pl, (if me then V5 else V7) = pl := ⟨_, rfl⟩
    have bpl : pl.length ≤ 85 := by rw [← hpl]; split <;> omega
    replace hpl := Lib.hid hpl
    have hmeH := Lib.hid hme1
    go_upto_if 107 with (fail)
    go_cut [14] from 105 to 112 (fun v wx => v = .string ⟨pl.toArray⟩ ∧ wx = v1)
    case first =>
      cases me with
      | true =>
        have HE := Lib.hid (show Value.string ⟨V5.toArray⟩ = .string ⟨pl.toArray⟩ by rw [← hpl.out]; rfl)
        go_wp2_with fail
        go_meet
        case rel => exact ⟨HE.out, rfl⟩
      | false =>
        have HE := Lib.hid (show Value.string ⟨V7.toArray⟩ = .string ⟨pl.toArray⟩ by rw [← hpl.out]; rfl)
        go_wp2_with fail
        go_meet
        case rel => exact ⟨HE.out, rfl⟩
    case rest =>
    obtain ⟨rfl, rfl⟩ := hcut
    clear hme hme1 cV6 cV7 bV5 bV6 bV7
    have HCt := Lib.hid (fun w => (show Calls Tryz.prog 23 #[.string ⟨zunit.toArray⟩, .int .u8 32] w fun e w' => e = .returned (.tuple #[.string ⟨(cutB 32 zunit).1.toArray⟩, .string ⟨(cutB 32 zunit).2.1.toArray⟩, .bool (cutB 32 zunit).2.2]) ∧ Ext w w' from l17cut_any zunit 32 (by omega) w))
    obtain ⟨uc, huc⟩ : ∃ ct, cutB 32 zunit = ct := ⟨_, rfl⟩
    have bu1 : uc.1.length ≤ 17 ∧ uc.2.1.length ≤ 17 := by rw [← huc]; have := cutB_len 32 zunit; omega
    rw [huc] at HCt
    replace huc := Lib.hid huc
    obtain ⟨u1, u2, u3⟩ := uc
    dsimp only at HCt bu1
    obtain ⟨bu1, bu2⟩ := bu1
    go_wp2_with fail
    refine (HCt.out _).mono ?_
    rintro e wu ⟨rfl, hx6⟩
    have X9 := Lib.hid (X8.out.trans hx6)
    clear hx6 X8 HCt qa la
    have bF := (hll.out u1).2.2.2
    obtain ⟨U1, hU1⟩ : ∃ x, lf 4 u1 ++ [32] = x := ⟨_, rfl⟩
    have cU1 : (⟨(lf 4 u1).toArray⟩ ++ ⟨#[32]⟩ : ByteArray) = ⟨U1.toArray⟩ := by rw [← hU1]; exact bs_app _ _
    have bU1 : U1.length ≤ 31 := by rw [← hU1, List.length_append]; (try simp only [List.length_cons, List.length_nil]); omega
    replace hU1 := Lib.hid hU1
    obtain ⟨U2, hU2⟩ : ∃ x, U1 ++ u2 = x := ⟨_, rfl⟩
    have cU2 : (⟨(U1).toArray⟩ ++ ⟨(u2).toArray⟩ : ByteArray) = ⟨U2.toArray⟩ := by rw [← hU2]; exact bs_app _ _
    have bU2 : U2.length ≤ 48 := by rw [← hU2, List.length_append]; (try simp only [List.length_cons, List.length_nil]); omega
    replace hU2 := Lib.hid hU2
    obtain ⟨ul, hul⟩ : ∃ ul, (if u3 then U2 else zunit) = ul := ⟨_, rfl⟩
    have bul : ul.length ≤ 48 := by rw [← hul]; split <;> omega
    replace hul := Lib.hid hul
    have HFa := Lib.hid (HFu.out wu (X0.out.trans X9.out))
    go_upto_if 122 with (fail)
    go_cut [15] from 122 to 127 (fun v wx => v = .string ⟨ul.toArray⟩ ∧ Ext wu wx)
    case first =>
      cases u3 with
      | true =>
        have HE := Lib.hid (show Value.string ⟨U2.toArray⟩ = .string ⟨ul.toArray⟩ by rw [← hul.out]; rfl)
        go_wp2_with fail
        refine (HFa.out 4 u1 (.inr (.inr (.inr rfl))) (by omega) _ (Ext.refl wu)).mono ?_
        rintro e v2 ⟨rfl, hv2⟩
        replace hv2 := Lib.hid hv2
        go_wp2_with fail
        go_meet
        case rel => exact ⟨HE.out, hv2.out⟩
      | false =>
        have HE := Lib.hid (show Value.string ⟨zunit.toArray⟩ = .string ⟨ul.toArray⟩ by rw [← hul.out]; rfl)
        go_wp2_with fail
        go_meet
        case rel => exact ⟨HE.out, Ext.refl wu⟩
    case rest =>
    obtain ⟨rfl, hxc⟩ := hcut
    replace X9 := Lib.hid (X9.out.trans hxc)
    clear hxc cU1 cU2 bU1 bU2 bF HFa
    obtain ⟨ue, hue⟩ : ∃ b, ul.isEmpty = b := ⟨_, rfl⟩
    have hue1 : decide (ul = []) = ue := by rw [← hue]; cases ul <;> simp
    obtain ⟨A1, hA1⟩ : ∃ x, [44, 32] ++ ul = x := ⟨_, rfl⟩
    have cA1 : (⟨#[44, 32]⟩ ++ ⟨(ul).toArray⟩ : ByteArray) = ⟨A1.toArray⟩ := by rw [← hA1]; exact bs_app _ _
    have bA1 : A1.length ≤ 50 := by rw [← hA1, List.length_append]; (try simp only [List.length_cons, List.length_nil]); omega
    replace hA1 := Lib.hid hA1
    obtain ⟨ap, hap⟩ : ∃ ap, (if ue then [] else A1) = ap := ⟨_, rfl⟩
    have bap : ap.length ≤ 50 := by rw [← hap]; split <;> first | exact Nat.zero_le _ | omega
    replace hap := Lib.hid hap
    have hueH := Lib.hid hue1
    go_upto_if 129 with (fail)
    go_cut [19] from 128 to 131 (fun v wx => v = .string ⟨ap.toArray⟩ ∧ wx = wc)
    case first =>
      cases ue with
      | true =>
        have HE := Lib.hid (show Value.string ⟨#[]⟩ = .string ⟨ap.toArray⟩ by rw [← hap.out]; rfl)
        go_wp2_with fail
        go_meet
        case rel => exact ⟨HE.out, rfl⟩
      | false =>
        have HE := Lib.hid (show Value.string ⟨A1.toArray⟩ = .string ⟨ap.toArray⟩ by rw [← hap.out]; rfl)
        go_wp2_with fail
        go_meet
        case rel => exact ⟨HE.out, rfl⟩
    case rest =>
    obtain ⟨rfl, rfl⟩ := hcut
    clear hue hue1 cA1 bA1
    obtain ⟨O1, hO1⟩ : ∃ x, c1 ++ hs = x := ⟨_, rfl⟩
    have cO1 : (⟨(c1).toArray⟩ ++ ⟨(hs).toArray⟩ : ByteArray) = ⟨O1.toArray⟩ := by rw [← hO1]; exact bs_app _ _
    have bO1 : O1.length ≤ 155 := by rw [← hO1, List.length_append]; (try simp only [List.length_cons, List.length_nil]); omega
    replace hO1 := Lib.hid hO1
    obtain ⟨O2, hO2⟩ : ∃ x, O1 ++ [32] = x := ⟨_, rfl⟩
    have cO2 : (⟨(O1).toArray⟩ ++ ⟨#[32]⟩ : ByteArray) = ⟨O2.toArray⟩ := by rw [← hO2]; exact bs_app _ _
    have bO2 : O2.length ≤ 156 := by rw [← hO2, List.length_append]; (try simp only [List.length_cons, List.length_nil]); omega
    replace hO2 := Lib.hid hO2
    obtain ⟨O3, hO3⟩ : ∃ x, O2 ++ W6 = x := ⟨_, rfl⟩
    have cO3 : (⟨(O2).toArray⟩ ++ ⟨(W6).toArray⟩ : ByteArray) = ⟨O3.toArray⟩ := by rw [← hO3]; exact bs_app _ _
    have bO3 : O3.length ≤ 289 := by rw [← hO3, List.length_append]; (try simp only [List.length_cons, List.length_nil]); omega
    replace hO3 := Lib.hid hO3
    obtain ⟨O4, hO4⟩ : ∃ x, O3 ++ ap = x := ⟨_, rfl⟩
    have cO4 : (⟨(O3).toArray⟩ ++ ⟨(ap).toArray⟩ : ByteArray) = ⟨O4.toArray⟩ := by rw [← hO4]; exact bs_app _ _
    have bO4 : O4.length ≤ 339 := by rw [← hO4, List.length_append]; (try simp only [List.length_cons, List.length_nil]); omega
    replace hO4 := Lib.hid hO4
    obtain ⟨O5, hO5⟩ : ∃ x, O4 ++ pl = x := ⟨_, rfl⟩
    have cO5 : (⟨(O4).toArray⟩ ++ ⟨(pl).toArray⟩ : ByteArray) = ⟨O5.toArray⟩ := by rw [← hO5]; exact bs_app _ _
    have bO5 : O5.length ≤ 424 := by rw [← hO5, List.length_append]; (try simp only [List.length_cons, List.length_nil]); omega
    replace hO5 := Lib.hid hO5
    obtain ⟨T4, hT4⟩ : ∃ x, O3 ++ [32] = x := ⟨_, rfl⟩
    have cT4 : (⟨(O3).toArray⟩ ++ ⟨#[32]⟩ : ByteArray) = ⟨T4.toArray⟩ := by rw [← hT4]; exact bs_app _ _
    have bT4 : T4.length ≤ 290 := by rw [← hT4, List.length_append]; (try simp only [List.length_cons, List.length_nil]); omega
    replace hT4 := Lib.hid hT4
    obtain ⟨T5, hT5⟩ : ∃ x, T4 ++ ul = x := ⟨_, rfl⟩
    have cT5 : (⟨(T4).toArray⟩ ++ ⟨(ul).toArray⟩ : ByteArray) = ⟨T5.toArray⟩ := by rw [← hT5]; exact bs_app _ _
    have bT5 : T5.length ≤ 338 := by rw [← hT5, List.length_append]; (try simp only [List.length_cons, List.length_nil]); omega
    replace hT5 := Lib.hid hT5
    obtain ⟨T6, hT6⟩ : ∃ x, T5 ++ pl = x := ⟨_, rfl⟩
    have cT6 : (⟨(T5).toArray⟩ ++ ⟨(pl).toArray⟩ : ByteArray) = ⟨T6.toArray⟩ := by rw [← hT6]; exact bs_app _ _
    have bT6 : T6.length ≤ 423 := by rw [← hT6, List.length_append]; (try simp only [List.length_cons, List.length_nil]); omega
    replace hT6 := Lib.hid hT6
    have hone : O5 = oneP a0 ∧ T6 = twoP a0 := by
      have e1 : c1 = (cutB 32 (textA a0).1).1 := by rw [htt.out, hct.out]
      have e2 : ul = unitL a0.unit := by
        have e3 : a0.unit = zunit := by rw [ha0.out]
        unfold unitL
        rw [e3, huc.out, ← hul.out, ← hU2.out, ← hU1.out, ← hlf.out]
        cases u3 <;> simp
      have e4 : W6 = wordsL a0 := by
        rw [← hW6.out, ← hW5.out, ← hW4.out, ← hW3.out, ← hW2.out, ← hW1.out, ha0.out, ← hlf.out]
        simp [wordsL]
      have e5 : pl = placeL a0 := by
        rw [← hpl.out, ← hV7.out, ← hV6.out, ← hV5.out, ← hV4.out, ← hV3.out, ← hV2.out, ← hV1.out, ha0.out, ← hlf.out, ← hmeH.out]
        unfold placeL zipS
        by_cases hm : zmore = [] <;> simp [hm]
      have e6 : hs = (if a0.half then [32, 49, 47, 50, 32] else []) := by rw [← hhs.out, ha0.out]
      have e7 : ap = (if unitL a0.unit = [] then [] else 44 :: 32 :: unitL a0.unit) := by
        rw [← hap.out, ← hA1.out, ← hueH.out, ← e2]
        by_cases hu : ul = [] <;> simp [hu]
      rw [← hO5.out, ← hO4.out, ← hT6.out, ← hT5.out, ← hT4.out, ← hO3.out, ← hO2.out, ← hO1.out, e1, e2, e4, e5, e6, e7]
      unfold oneP twoP headL
      simp
    have H1 := Lib.hid (fun w (hx : Ext W w) => (show Calls Tryz.prog 10 #[.string ⟨(smallP tt).toArray⟩] w (fun e w' => e = .returned (.tuple #[.agg #[.int .i64 zn, .bool zh, .string ⟨zpre.toArray⟩, .string ⟨zname.toArray⟩, .string ⟨zsuf.toArray⟩, .string ⟨zpost.toArray⟩, .string ⟨zunit.toArray⟩, .string ⟨zcity.toArray⟩, .string ⟨zstate.toArray⟩, .string ⟨zzip.toArray⟩, .string ⟨zmore.toArray⟩], .agg #[.int .i64 0, .int .i64 0]]) ∧ Ext w w') from by
      have h := parse_any (smallP tt) (by rw [small_len]; have := spN_le tt; omega) w (HS.out w hx)
      rw [HP1.out, ha0.out] at h
      exact h))
    have H2 := Lib.hid (fun w (hx : Ext W w) => parse_any O5 (by omega) w (HS.out w hx))
    have H3 := Lib.hid (fun w (hx : Ext W w) => parse_any T6 (by omega) w (HS.out w hx))
    have K2 := Lib.hid (fun h : O5.length ≤ 200 => (show parseP O5 = (⟨zn, zh, zpre, zname, zsuf, zpost, zunit, zcity, zstate, zzip, zmore⟩, 0, 0) by rw [hone.1, HP2.out (by rw [← hone.1]; exact h), ha0.out]))
    have K3 := Lib.hid (fun h : T6.length ≤ 200 => (show parseP T6 = (⟨zn, zh, zpre, zname, zsuf, zpost, zunit, zcity, zstate, zzip, zmore⟩, 0, 0) by rw [hone.2, HP3.out (by rw [← hone.2]; exact h), ha0.out]))
    clear hone HP1 HP2 HP3
    go_wp2_with fail
    refine (H1.out _ (X0.out.trans X9.out)).mono ?_
    rintro e w1 ⟨rfl, hx⟩
    have X1 := Lib.hid (X9.out.trans hx)
    clear hx X9 H1 cO1 cO2 cO3 cO4 cO5 cT4 cT5 cT6
    go_upto_region 33 with (fail)
    have BB := (Blk.new w1 23 #[.int .i64 zn, .bool zh, .string ⟨zpre.toArray⟩, .string ⟨zname.toArray⟩, .string ⟨zsuf.toArray⟩, .string ⟨zpost.toArray⟩, .string ⟨zunit.toArray⟩, .string ⟨zcity.toArray⟩, .string ⟨zstate.toArray⟩, .string ⟨zzip.toArray⟩, .string ⟨zmore.toArray⟩]).alloc (.cells #[.int .i64 0, .int .i64 0] 26)
    have BF := Blk.new (w1.alloc (.cells #[.int .i64 zn, .bool zh, .string ⟨zpre.toArray⟩, .string ⟨zname.toArray⟩, .string ⟨zsuf.toArray⟩, .string ⟨zpost.toArray⟩, .string ⟨zunit.toArray⟩, .string ⟨zcity.toArray⟩, .string ⟨zstate.toArray⟩, .string ⟨zzip.toArray⟩, .string ⟨zmore.toArray⟩] 23)) 26 #[.int .i64 0, .int .i64 0]
    rw [show (w1.alloc (.cells #[.int .i64 zn, .bool zh, .string ⟨zpre.toArray⟩, .string ⟨zname.toArray⟩, .string ⟨zsuf.toArray⟩, .string ⟨zpost.toArray⟩, .string ⟨zunit.toArray⟩, .string ⟨zcity.toArray⟩, .string ⟨zstate.toArray⟩, .string ⟨zzip.toArray⟩, .string ⟨zmore.toArray⟩] 23)).heap.size = w1.heap.size + 1 by simp] at BF
    have X2 := Lib.hid ((X1.out.alloc (.cells #[.int .i64 zn, .bool zh, .string ⟨zpre.toArray⟩, .string ⟨zname.toArray⟩, .string ⟨zsuf.toArray⟩, .string ⟨zpost.toArray⟩, .string ⟨zunit.toArray⟩, .string ⟨zcity.toArray⟩, .string ⟨zstate.toArray⟩, .string ⟨zzip.toArray⟩, .string ⟨zmore.toArray⟩] 23)).alloc (.cells #[.int .i64 0, .int .i64 0] 26))
    clear X1
    generalize (w1.alloc (.cells #[.int .i64 zn, .bool zh, .string ⟨zpre.toArray⟩, .string ⟨zname.toArray⟩, .string ⟨zsuf.toArray⟩, .string ⟨zpost.toArray⟩, .string ⟨zunit.toArray⟩, .string ⟨zcity.toArray⟩, .string ⟨zstate.toArray⟩, .string ⟨zzip.toArray⟩, .string ⟨zmore.toArray⟩] 23)).alloc (.cells #[.int .i64 0, .int .i64 0] 26) = w2 at *
    generalize w1.heap.size + 1 = g2 at *
    generalize w1.heap.size = g1 at *
    replace BB := Lib.hid BB
    replace BF := Lib.hid BF
    go_wp2_with fail
    refine (H2.out _ (X0.out.trans X2.out)).mono ?_
    rintro e w3 ⟨rfl, hx⟩
    have X3 := Lib.hid (X2.out.trans hx)
    obtain ⟨qb, _⟩ := (BB.out.ext hx).cells
    have lb := (BB.out.ext hx).lt
    obtain ⟨qf, _⟩ := (BF.out.ext hx).cells
    have lf2 := (BF.out.ext hx).lt
    obtain ⟨qa, la⟩ := BC.out _ X3.out
    clear hx X2 BB BF H2
    by_cases h1 : O5.length ≤ 200
    · have d1 : decide ((O5.length : Int) ≤ 200) = true := decide_eq_true (by omega)
      have d2 : decide (O5.length ≤ 200) = true := decide_eq_true h1
      rw [K2.out h1, adV_eq]
      dsimp only
      clear h1 K2
      go_wp2_with fail
      refine (H3.out _ (X0.out.trans ((X3.out.alloc _).alloc _))).mono ?_
      rintro e w4 ⟨rfl, hx⟩
      have X4 := Lib.hid ((((X3.out.alloc _).alloc _)).trans hx)
      obtain ⟨qa, la⟩ := BC.out _ X4.out
      clear hx H3
      by_cases h2 : T6.length ≤ 200
      · have d3 : decide ((200 : Int) < (T6.length : Int)) = false := decide_eq_false (by omega)
        have d4 : decide (200 < T6.length) = false := decide_eq_false (by omega)
        rw [K3.out h2, adV_eq]
        dsimp only
        clear h2
        go_wp2_with fail
        go_ret
        exact ⟨rfl, X0.out.trans ((X4.out.alloc _).alloc _)⟩
      · have d3 : decide ((200 : Int) < (T6.length : Int)) = true := decide_eq_true (by omega)
        have d4 : decide (200 < T6.length) = true := decide_eq_true (by omega)
        clear h2 K3
        generalize parseP T6 = r3
        obtain ⟨⟨y1, y2, y3, y4, y5, y6, y7, y8, y9, y10, y11⟩, y12, y13⟩ := r3
        rw [adV_eq]
        dsimp only
        go_wp2_with fail
        go_ret
        exact ⟨rfl, X0.out.trans ((X4.out.alloc _).alloc _)⟩
    · have d1 : decide ((O5.length : Int) ≤ 200) = false := decide_eq_false (by omega)
      have d2 : decide (O5.length ≤ 200) = false := decide_eq_false h1
      clear h1 K2
      generalize parseP O5 = r2
      obtain ⟨⟨x1, x2, x3, x4, x5, x6, x7, x8, x9, x10, x11⟩, x12, x13⟩ := r2
      rw [adV_eq]
      dsimp only
      go_wp2_with fail
      refine (H3.out _ (X0.out.trans ((X3.out.alloc _).alloc _))).mono ?_
      rintro e w4 ⟨rfl, hx⟩
      have X4 := Lib.hid ((((X3.out.alloc _).alloc _)).trans hx)
      obtain ⟨qa, la⟩ := BC.out _ X4.out
      clear hx H3
      by_cases h2 : T6.length ≤ 200
      · have d3 : decide ((200 : Int) < (T6.length : Int)) = false := decide_eq_false (by omega)
        have d4 : decide (200 < T6.length) = false := decide_eq_false (by omega)
        rw [K3.out h2, adV_eq]
        dsimp only
        clear h2
        go_wp2_with fail
        go_ret
        exact ⟨rfl, X0.out.trans ((X4.out.alloc _).alloc _)⟩
      · have d3 : decide ((200 : Int) < (T6.length : Int)) = true := decide_eq_true (by omega)
        have d4 : decide (200 < T6.length) = true := decide_eq_true (by omega)
        clear h2 K3
        generalize parseP T6 = r3
        obtain ⟨⟨y1, y2, y3, y4, y5, y6, y7, y8, y9, y10, y11⟩, y12, y13⟩ := r3
        rw [adV_eq]
        dsimp only
        go_wp2_with fail
        go_ret
        exact ⟨rfl, X0.out.trans ((X4.out.alloc _).alloc _)⟩
theorem addrLoose_any (a : Ad) (hn : i64 a.n) (W : World) (hS : Std W) : Calls Tryz.prog 9 #[adV a] W fun e w' => e = .returned (.bool true) ∧ Ext W w' := by
  cases hl : longA a with
  | true => exact addrLoose_1 a hn hl W hS
  | false =>
    by_cases hq : checkP a = 0
    · exact addrLoose_3 a hn hl hq W hS
    · exact addrLoose_2 a hn hl hq W hS
end Go.Proofs.YtjneghncmgjkeaaGreatDoor
