/-
  token: Tokens.
-/
import Derived.Test.YtjaponmpfdpemaaGreatDoorBb09
import Derived.Test.YtjaponmpfdpemaaGreatDoorBb10
import Derived.Test.YtjaponmpfdpemaaGreatDoorBb07
import Derived.Maps.Own
import Derived.Maps.OwnOps
import Derived.Maps.OwnSet
import Derived.StringKeys
set_option linter.unusedSimpArgs false
set_option linter.unusedVariables false
namespace Go.Proofs.YtjaponmpfdpemaaGreatDoor
open Go.RowKit
theorem build_cut (s : Bs) : (Array.foldl (fun cs x => cs.setIfInBounds (1 + x.snd) x.fst) (Tryz.zeroCells124.setIfInBounds 0 (Value.string ⟨s.toArray⟩)) clsA.zipIdx 0 clsA.size) = cutC s (.slice none 0 0) 0 := by kernel_rfl
theorem bad_none {s : Bs} (h : ∀ i (h : i < s.length), clsB s[i] ≠ 0) : badAt s = none := by
 unfold badAt
 rw [List.findIdx?_eq_none_iff]
 intro c hc
 obtain ⟨i, hi, rfl⟩ := List.mem_iff_getElem.1 hc
 simpa using h i hi
theorem bad_some {s : Bs} {k : Nat} (hk : k < s.length) (h : ∀ i (hi : i < s.length), i < k → clsB s[i] ≠ 0) (h0 : clsB s[k] = 0) : badAt s = some k := by
 unfold badAt
 rw [List.findIdx?_eq_some_iff_getElem]
 exact ⟨hk, by simpa using h0, fun j hj => by simpa using h j (by omega) hj⟩
def Tk1 (w0 : World) (g : Nat) (s : Bs) (i : Value) (wr : World) : Prop := ∃ k : Nat, k ≤ s.length ∧ i = .int .i64 (k : Int) ∧ CutAt w0 wr g s (.slice none 0 0) [] 0 ∧ ∀ j (h : j < s.length), j < k → clsB s[j] ≠ 0
def Tk2 (w0 : World) (g : Nat) (s : Bs) (f i : Value) (wr : World) : Prop := ∃ (k : Nat) (v : Value) (a : Int), k ≤ s.length + 1 ∧ i = .int .i64 (k : Int) ∧ f = stV (runS s k).inn ∧ CutAt w0 wr g s v (runS s k).out a ∧ ((runS s k).inn = true → a = ((runS s k).at_ : Int))
set_option maxRecDepth 100000 in
theorem tokens_any (s : Bs) (W : World) (hs : s.length ≤ 100000) :
  Calls Tryz.prog 53 #[.string ⟨s.toArray⟩] W fun e w' => ∃ v, e = .returned (.tuple #[v, .agg #[.int .i64 (tokensP s).2.1, .int .i64 (tokensP s).2.2]]) ∧ w'.ownsRow W.heap.size 105 2 v (tokensP s).1.length (tokCells (tokensP s).1) ∧ Ext W w' := by
 by_cases h200 : 200 < s.length
 ·have hd : decide ((200 : Int) < (s.length : Int)) = true := by simp; omega
  have hT : tokensP s = ([], 3, 0) := by unfold tokensP; rw [if_pos h200]
  replace hT := Lib.hid hT
  go_enter Tryz.func53, Tryz.ntmps53
  go_wp2_with fail
  refine bodyPost_ret (results_tc rfl rfl (ld_fault (Blk.new W _ _))) rfl ⟨.slice none 0 0, ?_, ?_, (Ext.refl W).alloc _⟩
  ·rw [hT.out]; rfl
  ·rw [hT.out]; exact World.ownsRow_nil _ _ _ _
 have hd : decide ((200 : Int) < (s.length : Int)) = false := by simp; omega
 have hs200 : s.length ≤ 200 := by omega
 have hT4 := Lib.hid (fun (k : Nat) (h : badAt s = some k) => (show tokensP s = ([], 4, (k : Int)) by unfold tokensP; rw [if_neg h200, h]))
 have hT0 := Lib.hid (fun (h : badAt s = none) => (show tokensP s = if 40 < (toksOf s).length then ([], 8, (beginS s 0 (toksOf s) 40 : Int)) else (toksOf s, 0, 0) by unfold tokensP; rw [if_neg h200, h]))
 go_enter Tryz.func53, Tryz.ntmps53
 go_wp2_with fail
 refine (classes_any _).mono ?_
 rintro e w1 ⟨rfl, hx1⟩
 have hsz : (W.alloc (.cells #[.int .i64 0, .int .i64 0] 36)).heap.size = W.heap.size + 1 := by simp
 have X01 := (Ext.refl W).alloc (.cells #[.int .i64 0, .int .i64 0] 36)
 have B0 := Blk.new W 36 #[.int .i64 0, .int .i64 0]
 generalize W.alloc (.cells #[.int .i64 0, .int .i64 0] 36) = w0 at *
 go_wp2_with fail
 rw [build_cut]
 have HC : CutAt w0 (w1.alloc (.cells (cutC s (.slice none 0 0) 0) 124)) w1.heap.size s (.slice none 0 0) [] 0 :=
  ⟨Blk.new _ _ _, World.ownsRow_nil _ _ _ _, hx1.alloc _, hx1.size⟩
 generalize w1.alloc (.cells (cutC s (.slice none 0 0) 0) 124) = w2 at *
 generalize w1.heap.size = g at *
 clear hx1
 have HB := Lib.hid B0
 have hW0 : W.heap.size ≤ w0.heap.size := by omega
 replace hW0 := Lib.hid hW0
 generalize hgf : W.heap.size = g0 at *
 replace hsz := Lib.hid hsz
 replace hgf := Lib.hid hgf
 replace X01 := Lib.hid X01
 have H0 := Lib.hid (show Tk1 w0 g s (.int .i64 ((0 : Nat) : Int)) w2 from ⟨0, by omega, rfl, HC, fun j _ h => absurd h (by omega)⟩)
 clear HC B0
 go_loopw [18] (fun i wr => Tk1 w0 g s i wr) (fun i _ => s.length - (intOf i).toNat)
 case atStart => exact H0.out
 case round =>
  clear H0
  obtain ⟨k, hk, rfl, HC, hgood⟩ := hrel
  obtain ⟨w3, rfl⟩ : ∃ w3, w3 = wr := ⟨_, rfl⟩
  by_cases hlt : k < s.length
  ·have hdk : decide ((k : Int) < (s.length : Int)) = true := by simp; omega
   have il : (k : Int) < (s.length : Int) := by omega
   have iz : (0 : Int) ≤ (k : Int) := by omega
   obtain ⟨b, hb'⟩ : ∃ b, s[k].toNat = b := ⟨_, rfl⟩
   have hb2 : b < 256 := by rw [← hb']; exact UInt8.toNat_lt _
   have hb : ∀ h, ((⟨s.toArray⟩ : ByteArray)[k]'h).toNat = b := fun _ => hb'
   have ck := (HC.blk.cell (1 + b)).trans (cutC_cls s _ _ hb2)
   have bz : (0 : Int) ≤ (b : Int) := by omega
   have bl : (b : Int) < 256 := by omega
   have lg := HC.blk.lt
   have hcl : clsB s[k] = clsB (UInt8.ofNat b) := by rw [← hb', UInt8.ofNat_toNat]
   by_cases hc0 : clsB s[k] = 0
   ·have hT : tokensP s = ([], 4, (k : Int)) := hT4.out k (bad_some hlt hgood hc0)
    replace hT := Lib.hid hT
    rw [hc0] at hcl
    rw [← hcl] at ck
    replace hcl := Lib.hid hcl
    replace hb' := Lib.hid hb'
    have e0 : (((0 : Nat) : Int) == 0) = true := rfl
    have BB := HB.out.ext HC.ext
    have XX := X01.out.trans HC.ext
    replace XX := Lib.hid XX
    obtain ⟨q0, q1⟩ := BB.cells
    have lf := BB.lt
    clear hgood HC hc0
    go_upto_region 7 with (fail)
    go_quiet (fail)
    have BB' := Lib.hid (Blk.drewN BB nq)
    have XX' := Lib.hid (XX.out.drewN nq)
    clear BB XX
    go_wp2_with fail
    refine bodyPost_ret (results_tc rfl rfl (ld_fault (fault_set BB'.out _ _))) rfl ⟨.slice none 0 0, ?_, ?_, ?_⟩
    ·rw [hT.out]; rfl
    ·rw [hT.out]; exact World.ownsRow_nil _ _ _ _
    ·exact (XX'.out.set (p := ⟨g0, 0, none⟩) (Nat.le_of_eq hgf.out) _).set (p := ⟨g0, 1, none⟩) (Nat.le_of_eq hgf.out) _
   ·have hne : (((clsB (UInt8.ofNat b) : Nat) : Int) == 0) = false := by rw [← hcl, beq_eq_false_iff_ne]; omega
    have HE := Lib.hid (fun n => (show Tk1 w0 g s (.int .i64 ((k + 1 : Nat) : Int)) (w3.drewN n) from ⟨k + 1, by omega, rfl, HC.to ((Ext.refl w3).drewN n), fun j h hj => by
     by_cases e : j = k
     ·subst e; exact hc0
     ·exact hgood j h (by omega)⟩))
    replace hcl := Lib.hid hcl
    replace hb' := Lib.hid hb'
    generalize clsB (UInt8.ofNat b) = c at *
    clear hgood HC hc0
    go_upto_region 7 with (fail)
    go_quiet (fail)
    go_wp2_with fail
    go_roundw
    case rel => exact HE.out _
    case measure => simp [intOf]; omega
  ·obtain rfl : k = s.length := by omega
   have hdk : decide ((s.length : Int) < (s.length : Int)) = false := by simp
   have hbad : badAt s = none := bad_none fun i hi => hgood i hi hi
   have hTP := Lib.hid (hT0.out hbad)
   clear hT0 hT4
   have H1 := Lib.hid (show Tk2 w0 g s (stV false) (.int .i64 ((0 : Nat) : Int)) w3 from ⟨0, _, 0, by omega, rfl, rfl, HC, fun h => by cases h⟩)
   clear hgood HC hbad
   go_wp2_with fail
   go_loopw [6, 7] (fun f i wr => Tk2 w0 g s f i wr) (fun _ i _ => s.length + 1 - (intOf i).toNat)
   case atStart => exact H1.out
   case round =>
    clear H1
    obtain ⟨k, v, a, hk, rfl, rfl, HC, ha⟩ := hrel
    obtain ⟨w4, rfl⟩ : ∃ w4, w4 = wr := ⟨_, rfl⟩
    have hok := runS_ok s k hk
    by_cases hle : k ≤ s.length
    ·have hdk : decide ((k : Int) ≤ (s.length : Int)) = true := by simp; omega
     have HN := Lib.hid (fun w' v' (h : CutAt w0 w' g s v' (stepS s (runS s k) k).out ((stepS s (runS s k) k).at_ : Int)) => (show Tk2 w0 g s (stV (stepS s (runS s k) k).inn) (.int .i64 ((k + 1 : Nat) : Int)) w' from ⟨k + 1, v', _, by omega, rfl, rfl, h, fun _ => rfl⟩))
     have hlen := hok.len
     have hlt := hok.lt
     clear hok
     generalize runS s k = st at *
     obtain ⟨at_, inn, out⟩ := st
     cases inn with
     | true =>
      obtain ⟨l1, l2, l3⟩ := hlt rfl
      obtain rfl := ha rfl
      simp only [if_true] at hlen
      obtain ⟨q, hq⟩ : ∃ q, q + 1 = k := ⟨k - 1, by omega⟩
      have hW := Lib.hid (twithin_any HC k q hq hs200 l1 hle l3 (by show out.length ≤ 900; have h1 : out.length + 1 ≤ k := hlen; omega))
      clear hq l1 l2 l3 hlt ha HC
      unfold stV
      simp only [if_true]
      go_wp2_with fail
      refine hW.out.mono ?_
      rintro e w5 ⟨rfl, v', H5⟩
      have HE := Lib.hid (HN.out _ _ H5)
      clear H5 HN hW
      generalize stV (stepS s ⟨at_, true, out⟩ k).inn = fv at *
      go_wp2_with fail
      go_roundw
      case rel => exact HE.out
      case measure => simp [intOf]; omega
     | false =>
      simp only [Bool.false_eq_true, if_false] at hlen
      have hW := Lib.hid (apart_any HC k hs200 (by omega) (by simpa using (by omega : out.length ≤ 1000)))
      have hS : stepS s ⟨at_, false, out⟩ k = stepA s out k := rfl
      have hat := stepA_at s out k
      rw [hS, hat] at HN
      clear hlt ha HC hS hat
      unfold stV
      simp only [Bool.false_eq_true, if_false]
      go_wp2_with fail
      refine hW.out.mono ?_
      rintro e w5 ⟨rfl, v', H5⟩
      have HE := Lib.hid (HN.out _ _ H5)
      clear H5 HN hW
      generalize stV (stepA s out k).inn = fv at *
      go_wp2_with fail
      go_roundw
      case rel => exact HE.out
      case measure => simp [intOf]; omega
    ·obtain rfl : k = s.length + 1 := by omega
     have hdk : decide (((s.length + 1 : Nat) : Int) ≤ (s.length : Int)) = false := by simp; omega
     have hto : (runS s (s.length + 1)).out = toksOf s := rfl
     have hlen := hok.len
     have hadv := hok.adv
     have hin : (runS s (s.length + 1)).inn = false := by
      cases h : (runS s (s.length + 1)).inn with
      | false => rfl
      | true => have := (hok.lt h).2.1; omega
     rw [hin] at hlen hadv
     simp only [Bool.false_eq_true, if_false] at hlen hadv
     rw [hto] at hlen hadv HC
     rw [hin]
     have c257 := (HC.blk.cell 257).trans (cutC_v s v a)
     have lg := HC.blk.lt
     obtain ⟨A, cap, rfl, hcl, hcm, _⟩ := own_slice HC.row
     replace HC := Lib.hid HC
     clear ha hok hin hto
     generalize htk : toksOf s = tk at *
     by_cases h40 : 40 < tk.length
     ·have hT : tokensP s = ([], 8, (beginS s 0 tk 40 : Int)) := by rw [hTP.out, if_pos h40]
      have hdn : decide ((40 : Int) < (tk.length : Int)) = true := by simp; omega
      have hB := Lib.hid (begins_any HC.out 40 hs200 h40 (by omega) (by omega))
      replace hT := Lib.hid hT
      replace htk := Lib.hid htk
      go_wp2_with fail
      refine hB.out.mono ?_
      rintro e w5 ⟨rfl, hx5⟩
      have X5 := HC.out.ext.trans hx5
      have BB := HB.out.ext X5
      have XX := Lib.hid (X01.out.trans X5)
      obtain ⟨q0, q1⟩ := BB.cells
      have lf := BB.lt
      replace BB := Lib.hid BB
      clear hx5 X5
      go_wp2_with fail
      refine bodyPost_ret (results_tc rfl rfl (ld_fault (fault_set BB.out _ _))) rfl ⟨.slice none 0 0, ?_, ?_, ?_⟩
      ·rw [hT.out]; rfl
      ·rw [hT.out]; exact World.ownsRow_nil _ _ _ _
      ·exact (XX.out.set (p := ⟨g0, 0, none⟩) (Nat.le_of_eq hgf.out) _).set (p := ⟨g0, 1, none⟩) (Nat.le_of_eq hgf.out) _
     ·have hT : tokensP s = (tk, 0, 0) := by rw [hTP.out, if_neg h40]
      have hdn : decide ((40 : Int) < (tk.length : Int)) = false := by simp; omega
      replace hT := Lib.hid hT
      replace htk := Lib.hid htk
      have X5 := HC.out.ext
      have BB := HB.out.ext X5
      have XX := Lib.hid (X01.out.trans X5)
      obtain ⟨q0, q1⟩ := BB.cells
      have lf := BB.lt
      have hne := own_blk_ne HC.out.row BB (by decide)
      replace BB := Lib.hid BB
      clear X5
      go_wp2_with fail
      refine bodyPost_ret (results_tc rfl rfl (ld_fault (fault_set BB.out _ _))) rfl ⟨.slice A tk.length cap, ?_, ?_, ?_⟩
      ·rw [hT.out]; rfl
      ·rw [hT.out]
       exact own_base (ownsRow_setCell_other (ownsRow_setCell_other HC.out.row hne _) hne _) (by rw [hgf.out]; exact hW0.out)
      ·exact (XX.out.set (p := ⟨g0, 0, none⟩) (Nat.le_of_eq hgf.out) _).set (p := ⟨g0, 1, none⟩) (Nat.le_of_eq hgf.out) _
end Go.Proofs.YtjaponmpfdpemaaGreatDoor
set_option linter.unusedSimpArgs false
set_option linter.unusedVariables false
namespace Go.Proofs.YtjaponmpfdpemaaGreatDoor
open Go.RowKit Go.Maps
def wpOf (f : Bs) : Wp := ⟨Lib.replaceAll (Lib.cut f [61]).1 [95] [32], (Lib.cut f [61]).2.1⟩
def txtP (kind : Int) : Bs := if kind = 1 then sufText else if kind = 2 then dirText else if kind = 3 then staText else if kind = 4 then uniText else []
def wdsOk (k : Int) : Bool := ((Lib.fields (txtP k)).map wpOf == wordsP k) && (txtP k).all (fun b => decide (b.toNat < 128)) && decide ((txtP k).length ≤ 1000) && decide ((Lib.fields (txtP k)).length ≤ 60) && (Lib.fields (txtP k)).all fun f => decide (f.length ≤ 100) && decide (Lib.countB ⟨(Lib.cut f [61]).1.toArray⟩ ⟨#[95]⟩ ≤ 1000) && decide ((Lib.cut f [61]).1.length ≤ 1000) && decide ((wpOf f).l.length ≤ 1000)
theorem wds_ok : wdsOk 1 = true ∧ wdsOk 2 = true ∧ wdsOk 3 = true ∧ wdsOk 4 = true := by decide +kernel
def formR : Value → Option (DataW Unit × List MemPlace)
 | .agg cs => match cs.toList with
  | [.string s] => some (.lit (.string s.data.toList), [])
  | _ => none
 | _ => none
def formV (b : Bs) : Value := .agg #[.string ⟨b.toArray⟩]
theorem formR_mk (b : Bs) : formR (formV b) = some (.lit (.string b), []) := by unfold formR formV; simp
theorem formR_inv {v : Value} {b : Bs} {ps : List MemPlace} (h : formR v = some (.lit (.string b), ps)) : v = formV b := by
 unfold formR at h
 cases v with
 | agg cs =>
  simp only at h
  split at h
  ·rename_i s e
   simp only [Option.some.injEq, Prod.mk.injEq, DataW.lit.injEq, Lit.string.injEq] at h
   have : cs = #[.string s] := by apply Array.ext'; rw [e]
   rw [this]
   unfold formV
   rw [← h.1]
  ·cases h
 | _ => simp at h
abbrev klS (b : Bs) : Lit := .string b
def putSh (m : DataW Unit) (p : Wp) : DataW Unit := (m.put (klS p.l) (.lit (.string p.s))).put (klS p.s) (.lit (.string p.s))
def putLg (m : DataW Unit) (p : Wp) : DataW Unit := m.put (klS p.s) (.lit (.string p.l))
def shortD (l : List Wp) : DataW Unit := l.foldl putSh (.map [])
def longD' (l : List Wp) : DataW Unit := l.foldl putLg (.map [])
theorem klS_key (b : Bs) : WideAt.IsKeyLit (klS b) := by trivial
theorem shortD_snoc (l : List Wp) (p : Wp) : shortD (l ++ [p]) = putSh (shortD l) p := by unfold shortD; rw [List.foldl_append]; rfl
theorem longD'_snoc (l : List Wp) (p : Wp) : longD' (l ++ [p]) = putLg (longD' l) p := by unfold longD'; rw [List.foldl_append]; rfl
def shortF (l : List Wp) (w : Bs) : Bs × Bool := match l.find? fun p => p.l == w || p.s == w with | some p => (p.s, true) | none => ([], false)
theorem shortD_at : ∀ (r l : List Wp) (w : Bs), l.reverse = r → IsMap (shortD l) ∧ (shortD l).atKey (klS w) (.lit (.string [])) = .lit (.string (shortF r w).1) ∧ has (shortD l) (klS w) = (shortF r w).2
 | [], l, w, h => by
  obtain rfl : l = [] := by simpa using h
  exact ⟨⟨_, rfl⟩, rfl, rfl⟩
 | p :: r, l, w, h => by
  obtain ⟨l', rfl⟩ : ∃ l', l = l' ++ [p] := ⟨r.reverse, by rw [← List.reverse_reverse l, h, List.reverse_cons]⟩
  obtain ⟨h0, h1, h2⟩ := shortD_at r l' w (by simpa using h)
  rw [shortD_snoc]
  unfold putSh
  refine ⟨(h0.put _ _).put _ _, ?_⟩
  unfold shortF
  rw [List.find?_cons]
  by_cases hs : w = p.s
  ·have e : (p.l == w || p.s == w) = true := by rw [hs]; simp
   rw [e, hs, atKey_put_same (h0.put _ _) (klS_key _), has_put_same (h0.put _ _) (klS_key _)]
   exact ⟨rfl, rfl⟩
  ·have hne : klS w ≠ klS p.s := fun e => hs (by injection e)
   rw [atKey_put_other hne, has_put_other hne]
   by_cases hl : w = p.l
   ·have e : (p.l == w || p.s == w) = true := by rw [hl]; simp
    rw [e, hl, atKey_put_same h0 (klS_key _), has_put_same h0 (klS_key _)]
    exact ⟨rfl, rfl⟩
   ·have hnl : klS w ≠ klS p.l := fun e => hl (by injection e)
    have e : (p.l == w || p.s == w) = false := by
     rw [Bool.or_eq_false_iff, beq_eq_false_iff_ne, beq_eq_false_iff_ne]
     exact ⟨fun e => hl e.symm, fun e => hs e.symm⟩
    rw [e, atKey_put_other hnl, has_put_other hnl]
    exact ⟨h1, h2⟩
theorem keyedS : Keyed Tryz.prog 9 := string_keyed Tryz.underlying9
theorem keyS (b : Bs) (h : b.length ≤ 100000) : keyOf Tryz.prog 9 (.string ⟨b.toArray⟩) = some (klS b) := by
 have := Go.WideMaps.keyOf_string_mk Tryz.underlying9 (s := ⟨b.toArray⟩) (by unfold maxLen; show b.toArray.size ≤ _; simp; omega)
 simpa using this
theorem zeroForm (w : World) : (zeroValue 168).run Tryz.prog w = .ok (formV []) w := by kernel_rfl
end Go.Proofs.YtjaponmpfdpemaaGreatDoor
set_option linter.unusedSimpArgs false
set_option linter.unusedVariables false
namespace Go.Proofs.YtjaponmpfdpemaaGreatDoor
open Go.RowKit Go.Maps
theorem row_strS : RowT Tryz.prog 82 9 1 16 (.string ByteArray.empty) := rowT_mk Tryz.underlying82 (by kernel_rfl) rfl (by decide)
def strC (l : List Bs) : List Value := l.map fun b => .string ⟨b.toArray⟩
theorem strC_snoc (l : List Bs) (b : Bs) : strC (l ++ [b]) = strC l ++ [.string ⟨b.toArray⟩] := by simp [strC]
structure CtAt (w0 wr : World) (gr gt b1 b2 F : Nat) (fs : List Bs) (k j : Nat) (v : Value) : Prop where
 ext : Ext w0 wr
 r : Blk wr gr 172 #[.map none, .map none, .slice none 0 0]
 blk : Blk wr gt 172 #[.map (some b1), .map (some b2), v]
 m1 : wr.ownsMap Tryz.prog 9 formR b1 (2 * k) (shortD ((fs.take k).map wpOf))
 m2 : wr.ownsMap Tryz.prog 9 formR b2 k (longD' ((fs.take k).map wpOf))
 row : wr.ownsRow w0.heap.size 9 1 v j (strC (((fs.take j).map wpOf).map Wp.s))
 f : Blk wr F 9 (strC fs).toArray
 ne : v.ownBlock ≠ some F
 lt : w0.heap.size ≤ gt
 l1 : w0.heap.size ≤ b1
 l2 : w0.heap.size ≤ b2
 lr : w0.heap.size ≤ gr
 nr : gr ≠ gt
 n12 : b1 ≠ b2
theorem map_ext {wr w' : World} {b n : Nat} {D : DataW Unit} (h : wr.ownsMap Tryz.prog 9 formR b n D) (hx : Ext wr w') : w'.ownsMap Tryz.prog 9 formR b n D := by
 have hl := h.lt
 obtain ⟨es, clock, hb, r⟩ := h
 exact ⟨es, clock, (hx.block b hl).trans hb, r⟩
theorem CtAt.to {w0 wr w' : World} {gr gt b1 b2 F : Nat} {fs : List Bs} {k j : Nat} {v : Value} (h : CtAt w0 wr gr gt b1 b2 F fs k j v) (hx : Ext wr w') : CtAt w0 w' gr gt b1 b2 F fs k j v :=
 ⟨h.ext.trans hx, h.r.ext hx, h.blk.ext hx, map_ext h.m1 hx, map_ext h.m2 hx, own_ext h.row hx, h.f.ext hx, h.ne, h.lt, h.l1, h.l2, h.lr, h.nr, h.n12⟩
theorem blk_map_ne {w : World} {g b n : Nat} {t : TypeId} {cs : Array Value} {D : DataW Unit} (hg : Blk w g t cs) (h : w.ownsMap Tryz.prog 9 formR b n D) : g ≠ b := by
 rintro rfl
 obtain ⟨es, clock, hb, _⟩ := h
 have := hg.symm.trans hb
 cases this
theorem own_map_ne {w : World} {base b n m : Nat} {e : TypeId} {v : Value} {xs : List Value} {D : DataW Unit} (ho : w.ownsRow base e 1 v n xs) (h : w.ownsMap Tryz.prog 9 formR b m D) : v.ownBlock ≠ some b := by
 rcases ho.2 with ⟨rfl, _⟩ | ⟨g', cap, cur, rfl, _, hh, _⟩
 ·simp [Value.ownBlock]
 ·intro he
  have : g' = b := by simpa [Value.ownBlock] using he
  subst this
  obtain ⟨es, clock, hb, _⟩ := h
  have := hh.symm.trans hb
  cases this
theorem CtAt.maps {w0 w : World} {gr gt b1 b2 F : Nat} {fs : List Bs} {k : Nat} {v : Value} (h : CtAt w0 w gr gt b1 b2 F fs k k v) (hk : k < fs.length) (hf : fs.length ≤ 60) {pl ps : Bs} (hl : (wpOf fs[k]).l = pl) (hs : (wpOf fs[k]).s = ps) (l1 : pl.length ≤ 100000) (l2 : ps.length ≤ 100000) :
  ∃ wa wb wc, (Instr.mapUpdate 170 (.map (some b1)) (.string ⟨pl.toArray⟩) (.agg #[.string ⟨ps.toArray⟩])).run Tryz.prog w = .ok () wa ∧
   (Instr.mapUpdate 170 (.map (some b1)) (.string ⟨ps.toArray⟩) (.agg #[.string ⟨ps.toArray⟩])).run Tryz.prog wa = .ok () wb ∧
   (Instr.mapUpdate 170 (.map (some b2)) (.string ⟨ps.toArray⟩) (.agg #[.string ⟨pl.toArray⟩])).run Tryz.prog wb = .ok () wc ∧ CtAt w0 wc gr gt b1 b2 F fs (k + 1) k v ∧ Blk wa gt 172 #[.map (some b1), .map (some b2), v] ∧ Blk wb gt 172 #[.map (some b1), .map (some b2), v] := by
 have hb : 2 * k + 1 < maxLen := by unfold maxLen; omega
 have hu := Tryz.underlying170
 obtain ⟨wa, ra, oa, ga⟩ := h.m1.update keyedS hu (by omega) (keyS pl l1) (formR_mk ps)
 obtain ⟨wb, rb, ob, gb⟩ := oa.update keyedS hu hb (keyS ps l2) (formR_mk ps)
 have n12 : some b2 ≠ some b1 := fun e => h.n12 (Option.some.inj e).symm
 have m2 := (h.m2.kept ga n12).kept gb n12
 obtain ⟨wc, rc, oc, gc⟩ := m2.update keyedS hu (by omega) (keyS ps l2) (formR_mk pl)
 have hgo : ∀ {g : Nat} {t : TypeId} {cs : Array Value}, Blk w g t cs → Blk wc g t cs := fun {g t cs} B => by
  have h1 := blk_map_ne B h.m1
  have h2 := blk_map_ne B h.m2
  exact ((B.grown ga (fun e => h1 (Option.some.inj e))).grown gb (fun e => h1 (Option.some.inj e))).grown gc (fun e => h2 (Option.some.inj e))
 have hts : (fs.take (k + 1)).map wpOf = (fs.take k).map wpOf ++ [⟨pl, ps⟩] := by
  rw [List.take_succ_eq_append_getElem hk, List.map_append, List.map_singleton, ← hl, ← hs]
 have h1 := blk_map_ne h.blk h.m1
 have Ba := h.blk.grown ga (fun e => h1 (Option.some.inj e))
 refine ⟨wa, wb, wc, ra, rb, rc, ⟨((h.ext.grown ga ?_).grown gb ?_).grown gc ?_, hgo h.r, hgo h.blk, ?_, ?_, ?_, hgo h.f, h.ne, h.lt, h.l1, h.l2, h.lr, h.nr, h.n12⟩, Ba, Ba.grown gb (fun e => h1 (Option.some.inj e))⟩
 ·intro x hx; cases hx; exact h.l1
 ·intro x hx; cases hx; exact h.l1
 ·intro x hx; cases hx; exact h.l2
 ·rw [hts, shortD_snoc]
  exact (ob.kept gc (fun e => h.n12 (Option.some.inj e))).mono (by omega)
 ·rw [hts, longD'_snoc]
  exact oc
 ·have r1 := own_map_ne h.row h.m1
  have r2 := own_map_ne h.row h.m2
  exact ((h.row.kept ga (.inr r1)).kept gb (.inr r1)).kept gc (.inr r2)
theorem CtAt.push {w0 w W5 : World} {gr gt b1 b2 F : Nat} {fs : List Bs} {k : Nat} {v v5 z : Value} (h : CtAt w0 w gr gt b1 b2 F fs (k + 1) k v) (hk : k < fs.length) {ps : Bs} (hs : (wpOf fs[k]).s = ps)
  (hg : Grew w0 (w.alloc (.cells #[.string ⟨ps.toArray⟩] 9)) W5 9 1 z v v5 (k + 1) (strC (((fs.take k).map wpOf).map Wp.s) ++ #[Value.string ⟨ps.toArray⟩].toList)) :
  CtAt w0 (W5.setCell ⟨gt, 2, none⟩ v5) gr gt b1 b2 F fs (k + 1) (k + 1) v5 ∧ W5.cell? ⟨gt, 2, none⟩ = some v ∧ W5.frozen? ⟨gt, 2, none⟩ = false ∧ gt < W5.heap.size := by
 have X := (Ext.refl w).alloc (.cells #[.string ⟨ps.toArray⟩] 9)
 have H := h.to X
 have B5 := hg.blk H.row H.blk (by decide)
 have R5 := hg.blk H.row H.r (by decide)
 have F5 : Blk W5 F 9 (strC fs).toArray := H.f.grown hg.grown (fun e => H.ne e.symm)
 have M1 := H.m1.kept hg.grown (fun e => own_map_ne H.row H.m1 e.symm)
 have M2 := H.m2.kept hg.grown (fun e => own_map_ne H.row H.m2 e.symm)
 have hts : (fs.take (k + 1)).map wpOf = (fs.take k).map wpOf ++ [wpOf fs[k]] := by rw [List.take_succ_eq_append_getElem hk, List.map_append, List.map_singleton]
 have hrow : W5.ownsRow w0.heap.size 9 1 v5 (k + 1) (strC (((fs.take (k + 1)).map wpOf).map Wp.s)) := by
  rw [hts, List.map_append, List.map_singleton, strC_snoc, hs]
  exact hg.own
 have hne : v5.ownBlock ≠ some F := by
  rcases hg.at_ with e | e
  ·rw [e]; exact h.ne
  ·rw [e]
   intro e2
   have e3 := Option.some.inj e2
   have := H.f.lt
   omega
 refine ⟨⟨hg.ext.set (p := ⟨gt, 2, none⟩) h.lt _, R5.far (p := ⟨gt, 2, none⟩) h.nr _, B5.set_ 2 v5, M1.setCell (a := ⟨gt, 2, none⟩) (blk_map_ne B5 M1).symm _, M2.setCell (a := ⟨gt, 2, none⟩) (blk_map_ne B5 M2).symm _,
  ownsRow_setCell_other hrow (own_blk_ne hrow B5 (by decide)) _, F5.far (p := ⟨gt, 2, none⟩) ?_ _, hne, h.lt, h.l1, h.l2, h.lr, h.nr, h.n12⟩, B5.cell 2, B5.frozen 2, B5.lt⟩
 exact Blk.ne_ F5 B5 (by decide)
theorem CtAt.start (W : World) (fs : List Bs) {g0 F : Nat} {w4 : World} (h0 : g0 = W.heap.size)
  (h4 : w4 = (((W.alloc (.cells #[.map none, .map none, .slice none 0 0] 172)).alloc (.map #[] 0)).alloc (.map #[] 0)).alloc (.cells #[.map (some (g0 + 1)), .map (some (g0 + 1 + 1)), .slice none 0 0] 172)) (hF : F = w4.heap.size) :
  CtAt W (w4.alloc (.cells (strC fs).toArray 9)) g0 (g0 + 1 + 1 + 1) (g0 + 1) (g0 + 1 + 1) F fs 0 0 (.slice none 0 0) := by
 subst h0 h4 hF
 have s1 : (W.alloc (.cells #[.map none, .map none, .slice none 0 0] 172)).heap.size = W.heap.size + 1 := by simp
 have s2 : ((W.alloc (.cells #[.map none, .map none, .slice none 0 0] 172)).alloc (.map #[] 0)).heap.size = W.heap.size + 1 + 1 := by simp
 have s3 : (((W.alloc (.cells #[.map none, .map none, .slice none 0 0] 172)).alloc (.map #[] 0)).alloc (.map #[] 0)).heap.size = W.heap.size + 1 + 1 + 1 := by simp
 have B0 := Blk.new W 172 #[.map none, .map none, .slice none 0 0]
 have M1 := World.ownsMap_made (W.alloc (.cells #[.map none, .map none, .slice none 0 0] 172)) Tryz.prog 9 formR
 have X0 := (Ext.refl W).alloc (.cells #[.map none, .map none, .slice none 0 0] 172)
 rw [s1] at M1
 generalize W.alloc (.cells #[.map none, .map none, .slice none 0 0] 172) = w1 at *
 have M2 := World.ownsMap_made (w1.alloc (.map #[] 0)) Tryz.prog 9 formR
 rw [s2] at M2
 have X1 := (Ext.refl w1).alloc (.map #[] 0)
 generalize w1.alloc (.map #[] 0) = w2 at *
 have X2 := (Ext.refl w2).alloc (.map #[] 0)
 generalize w2.alloc (.map #[] 0) = w3 at *
 have B3 := Blk.new w3 172 #[.map (some (W.heap.size + 1)), .map (some (W.heap.size + 1 + 1)), .slice none 0 0]
 rw [s3] at B3
 have X3 := (Ext.refl w3).alloc (.cells #[.map (some (W.heap.size + 1)), .map (some (W.heap.size + 1 + 1)), .slice none 0 0] 172)
 generalize w3.alloc (.cells #[.map (some (W.heap.size + 1)), .map (some (W.heap.size + 1 + 1)), .slice none 0 0] 172) = w4 at *
 have X4 := (Ext.refl w4).alloc (.cells (strC fs).toArray 9)
 exact ⟨(((X0.trans X1).trans X2).trans X3).trans X4, (((B0.ext X1).ext X2).ext X3).ext X4, B3.ext X4, map_ext (map_ext (map_ext M1 X2) X3) X4, map_ext (map_ext M2 X3) X4, World.ownsRow_nil _ _ _ _, Blk.new _ _ _, by simp [Value.ownBlock], by omega, by omega, by omega, by omega, by omega, by omega⟩
end Go.Proofs.YtjaponmpfdpemaaGreatDoor
