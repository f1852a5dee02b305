/-
  addr: short; the cursor's text; digits.
-/
import Derived.Test.YtjneghncmgjkeaaGreatDoorRy19
import Derived.Test.YtjneghncmgjkeaaGreatDoorRy20
set_option linter.unusedVariables false
namespace Go.Proofs.YtjneghncmgjkeaaGreatDoor
open Go.RowKit

set_option maxRecDepth 100000 in
theorem shortTok_any (t : Tok) (kind : Int) (hk : kindOk kind) (ht : t.t.length ≤ 1000) (W : World) (hS : Std W) :
    Calls Tryz.prog 73 #[.agg #[.int .i64 t.k, .string ⟨t.t.toArray⟩], .int .i64 kind] W fun e w' => e = .returned (.string ⟨(shortT t kind).toArray⟩) ∧ Ext W w' := by
  have HS := Lib.hid (fun w (hx : Ext W w) => short_any kind hk t.t (by omega) w (hS.ext hx))
  have B0 := Blk.new W 58 #[.int .i64 t.k, .string ⟨t.t.toArray⟩]
  unfold shortT
  generalize t.t = tt at *
  generalize t.k = tk at *
  go_enter Tryz.func73, Tryz.ntmps73
  go_wp2_with fail
  refine (HS.out _ ((Ext.refl W).alloc _)).mono ?_
  rintro e w1 ⟨rfl, hx⟩
  have X := ((Ext.refl W).alloc (.cells #[.int .i64 tk, .string ⟨tt.toArray⟩] 58)).trans hx
  clear HS B0 hx
  go_wp2_with fail
  go_ret
  exact ⟨rfl, X⟩
set_option maxRecDepth 100000 in
theorem digits_any (s : Bs) (lo hi : Nat) (hs : s.length ≤ 1000) (hb : lo ≤ 100 ∧ hi ≤ 100) (W : World) :
    Calls Tryz.prog 33 #[.string ⟨s.toArray⟩, .int .i64 (lo : Int), .int .i64 (hi : Int)] W fun e w' => e = .returned (.bool (digitsP s lo hi)) ∧ Ext W w' := by
  have hP : digitsP s lo hi = (decide (lo ≤ s.length ∧ s.length ≤ hi) && s.all digB) := rfl
  have HT := Lib.hid (fun w => trim_any s w (by omega))
  by_cases h1 : lo ≤ s.length
  · by_cases h2 : s.length ≤ hi
    · have d1 : decide ((lo : Int) ≤ (s.length : Int)) = true := by simp; omega
      have d2 : decide ((s.length : Int) ≤ (hi : Int)) = true := by simp; omega
      rw [hP, decide_eq_true (show lo ≤ s.length ∧ s.length ≤ hi from ⟨h1, h2⟩), Bool.true_and]
      go_enter Tryz.func33, Tryz.ntmps33
      go_wp2_with fail
      refine (HT.out _).mono ?_
      rintro e w1 ⟨⟨r, rfl, hr⟩, hx⟩
      by_cases hr0 : r = []
      · subst hr0
        have hq := Lib.hid (hr.1 rfl)
        clear hr HT hP
        go_wp2_with fail
        go_ret
        exact ⟨by rw [hq.out]; rfl, hx⟩
      · have hf : s.all digB = false := by
          cases h : s.all digB with
          | true => exact absurd (hr.2 h) hr0
          | false => rfl
        have hre : r.isEmpty = false := by cases r with | nil => exact absurd rfl hr0 | cons _ _ => rfl
        replace hf := Lib.hid hf
        clear hr HT hP hr0
        go_wp2_with fail
        go_ret
        exact ⟨by rw [hf.out]; rfl, hx⟩
    · have d1 : decide ((lo : Int) ≤ (s.length : Int)) = true := by simp; omega
      have d2 : decide ((s.length : Int) ≤ (hi : Int)) = false := by simp; omega
      rw [hP, decide_eq_false (show ¬ (lo ≤ s.length ∧ s.length ≤ hi) from fun h => h2 h.2), Bool.false_and]
      go_enter Tryz.func33, Tryz.ntmps33
      go_wp2_with fail
      go_ret
      exact ⟨rfl, Ext.refl _⟩
  · have d1 : decide ((lo : Int) ≤ (s.length : Int)) = false := by simp; omega
    rw [hP, decide_eq_false (show ¬ (lo ≤ s.length ∧ s.length ≤ hi) from fun h => h1 h.1), Bool.false_and]
    go_enter Tryz.func33, Tryz.ntmps33
    go_wp2_with fail
    go_ret
    exact ⟨rfl, Ext.refl _⟩
/-- Tokens, as a slice of memory. -/
structure TokS (w : World) (A : Option Addr) (n cap : Nat) (l : List Tok) : Prop where
  len : l.length = n
  rd : Reads w w.heap.size 2 A n (tokCells l)
  le : n ≤ cap
  max : cap ≤ maxLen
  l40 : n ≤ 100
  sm : ∀ t ∈ l, t.t.length ≤ 300
theorem TokS.ext {w w' : World} {A : Option Addr} {n cap : Nat} {l : List Tok} (h : TokS w A n cap l) (hx : Ext w w') : TokS w' A n cap l := ⟨h.len, h.rd.ext hx, h.le, h.max, h.l40, h.sm⟩
theorem TokS.at_ {w : World} {A : Option Addr} {n cap : Nat} {l : List Tok} (h : TokS w A n cap l) {k : Nat} (hk : k < l.length) : ∃ g o, A = some ⟨g, o, none⟩ ∧ g < w.heap.size ∧ w.cell? ⟨g, o + k * 2, none⟩ = some (.int .i64 l[k].k) ∧ w.cell? ⟨g, o + k * 2 + 1, none⟩ = some (.string ⟨l[k].t.toArray⟩) := by
  have := h.rd
  rw [← h.len] at this
  exact tok_reads this hk
theorem join_texts : ∀ l : List Tok, Lib.join (l.map Tok.t) [32] = textsP l
  | [] => rfl
  | [t] => by simp [Lib.join, textsP]
  | t :: u :: l => by
    have ih := join_texts (u :: l)
    rw [textsP, ← ih]
    simp [Lib.join]
theorem joinP_any (l : List (List UInt8)) (sep : List UInt8) (A : Option Addr) (c n : Nat) (w : World) (hn : l.length = n) (h0 : 0 < n) (h1 : n ≤ 1000) (hr : Reads w w.heap.size 1 A n (strC l)) (hc : n ≤ c) (hall : ∀ b ∈ l, b.length ≤ 1000) (hs : sep.length ≤ 1000) :
    Calls Tryz.prog 55 #[.slice A n c, .string ⟨sep.toArray⟩] w fun e w' => e = .returned (.string ⟨(Lib.join l sep).toArray⟩) ∧ Ext w w' := by
  subst hn
  have hm : (l.map fun b : List UInt8 => (⟨b.toArray⟩ : ByteArray)).map (·.data.toList) = l := by simp [Function.comp_def]
  have hlen : (l.map fun b : List UInt8 => (⟨b.toArray⟩ : ByteArray)).length = l.length := by simp
  obtain ⟨g, off, hA, hg, hcl⟩ := hr.cellAt h0
  subst hA
  have hL : (Lib.join l sep).length ≤ 140737488355328 := by
    have hle : ∀ l : List (List UInt8), (∀ b ∈ l, b.length ≤ 1000) → Lib.lens l ≤ 1000 * l.length := by
      intro l
      induction l with
      | nil => intro _; simp [Lib.lens]
      | cons b l ih =>
        intro h
        have h1 := h b (by simp)
        have h2 := ih fun x hx => h x (by simp [hx])
        simp only [Lib.lens, List.map_cons, List.sum_cons, List.length_cons] at h2 ⊢
        omega
    cases l with
    | nil => simp at h0
    | cons b l =>
      rw [Lib.join_length]
      have h2 := hle (b :: l) hall
      simp only [List.length_cons] at h1 h2
      have : sep.length * l.length ≤ 1000 * 1000 := Nat.mul_le_mul hs (by omega)
      omega
  have := Tryz.strings_Join g off c (l.map fun b : List UInt8 => (⟨b.toArray⟩ : ByteArray)) ⟨sep.toArray⟩ w (fun j x hx => by
    apply hcl
    rw [List.getElem?_map] at hx
    unfold strC
    rw [List.getElem?_map]
    cases hj : l[j]? with
    | none => rw [hj] at hx; cases hx
    | some b => rw [hj] at hx; simp only [Option.map] at hx ⊢; rw [← Option.some.inj hx]) hg (by rw [hlen]; omega) (by rw [hlen]; exact hc) (by rw [hm]; exact hL)
  rw [hm, hlen] at this
  exact this
theorem joinS_any (l : List Bs) (sep : Bs) (A : Option Addr) (c n : Nat) (w : World) (hn : l.length = n) (h1 : n ≤ 1000) (hr : Reads w w.heap.size 1 A n (strC l)) (hc : n ≤ c) (hall : ∀ b ∈ l, b.length ≤ 1000) (hs : sep.length ≤ 1000) :
    Calls Tryz.prog 55 #[.slice A n c, .string ⟨sep.toArray⟩] w fun e w' => e = .returned (.string ⟨(Lib.join l sep).toArray⟩) ∧ Ext w w' := by
  rcases Nat.eq_zero_or_pos n with h0 | h0
  · subst h0
    have : l = [] := List.eq_nil_of_length_eq_zero hn
    subst this
    refine (Tryz.strings_Join_none A c ⟨sep.toArray⟩ w).mono ?_
    rintro e w' ⟨rfl, rfl⟩
    exact ⟨rfl, Ext.refl _⟩
  · exact joinP_any l sep A c n w hn h0 h1 hr hc hall hs
/-- Where text stands. -/
def TxAt (w0 : World) (l : List Tok) (v i : Value) (wr : World) : Prop := ∃ k : Nat, k ≤ l.length ∧ i = .int .i64 (k : Int) ∧ wr.ownsRow w0.heap.size 9 1 v k (strC ((l.take k).map Tok.t)) ∧ Ext w0 wr
set_option maxRecDepth 100000 in
theorem text_any (l : List Tok) (A : Option Addr) (n cap g : Nat) (W : World) (hc : Blk W g 71 #[.slice A n cap]) (h : TokS W A n cap l) :
    Calls Tryz.prog 37 #[.pointer (some ⟨g, 0, none⟩)] W fun e w' => e = .returned (.string ⟨(textsP l).toArray⟩) ∧ Ext W w' := by
  obtain rfl := h.len
  have HX := Lib.hid (fun w' (hx : Ext W w') => h.ext hx)
  have hl := h.l40
  have hsm := Lib.hid h.sm
  have c0 : W.cell? ⟨g, 0, none⟩ = some (.slice A l.length cap) := hc.cell 0
  have lg := hc.lt
  have H0 := Lib.hid (show TxAt W l (.slice none 0 0) (.int .i64 ((0 : Nat) : Int)) W from ⟨0, by omega, rfl, World.ownsRow_nil _ _ _ _, Ext.refl _⟩)
  clear h hc
  go_enter Tryz.func37, Tryz.ntmps37
  go_wp2_with fail
  go_loopw [3, 11] (fun v i wr => TxAt W l v i wr) (fun _ i _ => l.length - (intOf i).toNat)
  case atStart => exact H0.out
  case round =>
    clear H0
    obtain ⟨k, hk, rfl, hown, hx⟩ := hrel
    obtain ⟨w3, rfl⟩ : ∃ w3, w3 = wr := ⟨_, rfl⟩
    by_cases hlt : k < l.length
    · have hd : decide ((k : Int) < (l.length : Int)) = true := by simp; omega
      have kl : (k : Int) < (l.length : Int) := by omega
      have kz : (0 : Int) ≤ (k : Int) := by omega
      obtain ⟨g2, o, rfl, hg2, t0, t1⟩ := (HX.out _ hx).at_ hlt
      have X4 := hx.alloc (.cells #[.int .i64 l[k].k, .string ⟨l[k].t.toArray⟩] 58)
      have B4 := Blk.new w3 58 #[.int .i64 l[k].k, .string ⟨l[k].t.toArray⟩]
      have H4 := own_ext hown ((Ext.refl w3).alloc (.cells #[.int .i64 l[k].k, .string ⟨l[k].t.toArray⟩] 58))
      have HN := Lib.hid (fun v5 (W5 : World) (z : Value) (w4 : World) (hg : Grew W w4 W5 9 1 z v5 v5 (k + 1) (strC ((l.take k).map Tok.t) ++ #[Value.string ⟨l[k].t.toArray⟩].toList)) => trivial)
      have HE := Lib.hid (fun (vp v5 : Value) (W5 : World) (z : Value) (w4 : World) (hg : Grew W w4 W5 9 1 z vp v5 (k + 1) (strC ((l.take k).map Tok.t) ++ #[Value.string ⟨l[k].t.toArray⟩].toList)) => (show TxAt W l v5 (.int .i64 ((k + 1 : Nat) : Int)) W5 from
        ⟨k + 1, by omega, rfl, by
          have := hg.own
          rw [List.take_succ_eq_append_getElem hlt, List.map_append, List.map_singleton, strC_snoc]
          exact this, hg.ext⟩))
      clear HN hx
      obtain ⟨A3, c3, rfl, hcl, hcm, _⟩ := own_slice hown
      clear hown
      generalize l[k].k = tk at *
      generalize l[k].t = tt at *
      go_upto_region 5 with (fail)
      clear t0 t1 hg2
      generalize w3.alloc (.cells #[.int .i64 tk, .string ⟨tt.toArray⟩] 58) = w4 at *
      generalize w3.heap.size = g5 at *
      obtain ⟨b0, b1⟩ := B4.cells
      have lb := B4.lt
      go_wp2_with (at_builtin; refine wpl_app1 row_strS W w4 (.tmp 15) (.tmp 18) rfl rfl rfl H4 X4 rfl rfl rfl (by simp [Value.oneCell']) (by omega) (by unfold maxLen; omega) ?_; intro v5 W5 hg5; replace HE := Lib.hid (HE.out _ _ _ _ _ hg5); obtain ⟨A5, c5, rfl, _, _, _⟩ := own_slice hg5.own; clear hg5)
      go_roundw
      case rel => exact HE.out
      case measure => simp [intOf]; omega
    · obtain rfl : k = l.length := by omega
      have hd : decide ((l.length : Int) < (l.length : Int)) = false := by simp
      rw [List.take_length] at hown
      obtain ⟨A3, c3, rfl, hcl, hcm, hrd⟩ := own_slice hown
      have hJ := Lib.hid (joinS_any (l.map Tok.t) [32] A3 c3 l.length w3 (by simp) (by omega) hrd hcl (fun b hb => by
        obtain ⟨t, ht, rfl⟩ := List.mem_map.1 hb
        have := hsm.out t ht
        omega) (by decide))
      rw [join_texts] at hJ
      clear hrd hown HX
      go_wp2_with fail
      refine hJ.out.mono ?_
      rintro e w4 ⟨rfl, hx4⟩
      go_wp2_with fail
      go_ret
      exact ⟨rfl, hx.trans hx4⟩
end Go.Proofs.YtjneghncmgjkeaaGreatDoor
