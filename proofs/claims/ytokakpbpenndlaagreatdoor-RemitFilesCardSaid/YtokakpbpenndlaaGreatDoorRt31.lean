/-
  Plain: what the reference's book tells comes to what the book tells.
-/
import Derived.Test.YtokakpbpenndlaaGreatDoorRt30
import Derived.Deep.CutBlock
import Derived.Deep.DeepCutAuto
set_option linter.unusedVariables false
namespace Go.Proofs.YtokakpbpenndlaaGreatDoor
open Go.RowKit Go.Maps

theorem RP.sale_at {R : List RE} {B : Bk} (hp : RP R B) {id : Int} {s : Kp} (hs : B.sale id = some s) : ∃ k, ∃ (h : k < B.length) (h' : k < R.length), B[k] = s ∧ R[k].e = s.e ∧ placeI B.ids id = (k : Int) ∧ s.e.id = id ∧ s.e.k = 1 ∧ s ∈ B := by
  have hs0 := hs
  unfold Bk.sale at hs
  rcases find_cases B id with ⟨_, b⟩ | ⟨k, hk, a, b, c⟩
  · rw [b] at hs; cases hs
  · rw [b] at hs
    simp only [Option.filter] at hs
    obtain ⟨m, _, k1⟩ := sale_mem' hs0
    by_cases h1 : decide (B[k].e.k = 1) = true
    · rw [if_pos h1] at hs
      have e := Option.some.inj hs
      have hR : k < R.length := by rw [hp.len]; exact hk
      refine ⟨k, hk, hR, e, by rw [hp.at_ hR hk, e], a, by rw [← e]; exact c, k1, m⟩
    · rw [if_neg h1] at hs; cases hs
theorem RP.uniq {R : List RE} {B : Bk} (hp : RP R B) {x y : Kp} (hx : x ∈ B) (hy : y ∈ B) (e : x.e.id = y.e.id) : x = y := nodup_at hp.nodup hx hy e
theorem RP.mem {R : List RE} {B : Bk} (hp : RP R B) {x : RE} (hx : x ∈ R) : ∃ y ∈ B, y.e = x.e := by
  have : x.e ∈ B.map Kp.e := by rw [← hp.e]; exact List.mem_map_of_mem hx
  obtain ⟨y, hy, e⟩ := List.mem_map.1 this
  exact ⟨y, hy, e⟩
theorem RP.voided {R : List RE} {B : Bk} (hp : RP R B) {id : Int} {s : Kp} (hs : B.sale id = some s) : (R.any fun x => decide (x.e.k = 3 ∧ x.e.of_ = id)) = s.voided := by
  obtain ⟨m, i, k1⟩ := sale_mem' hs
  have h := hp.ri.void s m k1
  rw [← hp.e, i] at h
  rw [Bool.eq_iff_iff, h, List.any_eq_true]
  constructor
  · rintro ⟨x, hx, h⟩
    exact ⟨x.e, List.mem_map_of_mem hx, of_decide_eq_true h⟩
  · rintro ⟨r, hr, h⟩
    obtain ⟨x, hx, rfl⟩ := List.mem_map.1 hr
    exact ⟨x, hx, decide_eq_true h⟩
/-- A refund of a sale has as many amounts. -/
theorem RP.fitb {R : List RE} {B : Bk} (hp : RP R B) {id : Int} {s : Kp} (hs : B.sale id = some s) : ∀ x ∈ R, x.e.k = 2 → x.e.of_ = id → x.e.am.length = s.e.am.length := by
  intro x hx h2 ho
  obtain ⟨m, i, k1⟩ := sale_mem' hs
  obtain ⟨t, ht, t1, t2, t3⟩ := hp.ri.rref x.e (by rw [← hp.e]; exact List.mem_map_of_mem hx) h2
  obtain ⟨y, hy, rfl⟩ := List.mem_map.1 ht
  have : y = s := hp.uniq hy m (by rw [t2, ho, i])
  rw [t3, this]
theorem ok_ams {x : Kp} (h : x.ok) : ∀ i, 0 ≤ x.e.am.getD i 0 ∧ x.e.am.getD i 0 ≤ 4611686018427387904 := by
  intro i
  have h1 := (Ent.check_ok h.chk).2.1
  unfold Ent.ams at h1
  rw [List.all_eq_true] at h1
  by_cases hi : i < x.e.am.length
  · have : x.e.am.getD i 0 = x.e.am[i] := by simp [List.getD, hi]
    rw [this]
    exact win_bd (h1 _ (List.getElem_mem hi))
  · have : x.e.am.getD i 0 = 0 := by simp [List.getD, Nat.le_of_not_lt hi]
    rw [this]
    omega
theorem backR_nonneg {id : Int} {line : Nat} : ∀ {L : List Ent}, (∀ r ∈ L, 0 ≤ r.am.getD line 0) → 0 ≤ backR id line L
  | [], _ => by simp [backR]
  | r :: L, h => by
    have h1 := h r (by simp)
    have h2 := backR_nonneg (id := id) (line := line) (L := L) fun x hx => h x (by simp [hx])
    unfold backR
    split <;> omega
theorem RP.ams {R : List RE} {B : Bk} (hp : RP R B) (line : Nat) : ∀ r ∈ B.map Kp.e, 0 ≤ r.am.getD line 0 := by
  intro r hr
  obtain ⟨y, hy, rfl⟩ := List.mem_map.1 hr
  exact (ok_ams (hp.ok y hy) line).1
/-- What came back of a line of a sale by the first entries: no more than all, and that no more than there was. -/
theorem RP.backs {R : List RE} {B : Bk} (hp : RP R B) {id : Int} {s : Kp} (hs : B.sale id = some s) {line : Nat} (hl : line < s.e.am.length) (n : Nat) :
    0 ≤ backR id line ((B.map Kp.e).take n) ∧ backR id line ((B.map Kp.e).take n) ≤ s.back.getD line 0 ∧ s.back.getD line 0 ≤ s.e.am.getD line 0 ∧ s.e.am.getD line 0 ≤ 4611686018427387904 ∧ s.back.getD line 0 = backR id line (B.map Kp.e) := by
  obtain ⟨m, i, k1⟩ := sale_mem' hs
  have hb := hp.ri.back s m k1 line hl
  have hok := (hp.ok s m).bbd k1 line hl
  have ha := (ok_ams (hp.ok s m) line).2
  have hn := hp.ams line
  rw [i] at hb
  have e1 : backR id line (B.map Kp.e) = backR id line ((B.map Kp.e).take n) + backR id line ((B.map Kp.e).drop n) := by rw [← backR_app, List.take_append_drop]
  have h1 := backR_nonneg (id := id) (line := line) (L := (B.map Kp.e).take n) fun r hr => hn r (List.mem_of_mem_take hr)
  have h2 := backR_nonneg (id := id) (line := line) (L := (B.map Kp.e).drop n) fun r hr => hn r (List.mem_of_mem_drop hr)
  refine ⟨h1, ?_, hok.2, ha, hb⟩
  rw [hb, e1]
  omega
theorem wrap64_in {n : Int} (h1 : 0 ≤ n) (h2 : n ≤ 4611686018427387904) : RowKit.wrap64 n = n := by unfold RowKit.wrap64; omega
theorem RBook.back_ {w0 W : World} {rb : Nat} {v : Value} {R : List RE} {B : Bk} (h : RBook w0 W rb v R) (hp : RP R B) {id : Int} {s : Kp} (hs : B.sale id = some s) (line first : Nat) (hl : line < s.e.am.length) (hf : first ≤ R.length) {z : Int} (hz : backR id line ((B.map Kp.e).take first) = z) :
    Calls Tryz.prog 108 #[.pointer (some ⟨rb, 0, none⟩), .int .i64 id, .int .i64 (line : Int), .int .i64 (first : Int)] W fun r w' => r = .returned (.int .i64 z) ∧ W = w' := by
  have h1 := hp.backs hs hl first
  have h2 := rback29_any h id line first hf (fun x hx a b => by rw [hp.fitb hs x hx a b]; exact hl)
  rw [hp.e, hz, wrap64_in (by omega) (by omega)] at h2
  exact h2
theorem RBook.voided_ {w0 W : World} {rb : Nat} {v : Value} {R : List RE} {B : Bk} (h : RBook w0 W rb v R) (hp : RP R B) {id : Int} {s : Kp} (hs : B.sale id = some s) {z : Bool} (hz : s.voided = z) :
    Calls Tryz.prog 109 #[.pointer (some ⟨rb, 0, none⟩), .int .i64 id] W fun r w' => r = .returned (.bool z) ∧ W = w' := by
  have h2 := rvoided29_any h id
  rw [hp.voided hs, hz] at h2
  exact h2
theorem RBook.sale_ {w0 W : World} {rb : Nat} {v : Value} {R : List RE} {B : Bk} (h : RBook w0 W rb v R) (hp : RP R B) {id : Int} {z : Bool} (hz : (B.sale id).isSome = z) :
    Calls Tryz.prog 107 #[.pointer (some ⟨rb, 0, none⟩), .int .i64 id] W fun r w' => r = .returned (.bool z) ∧ W = w' := by
  have h2 := rsale29_any h hp id
  rw [hz] at h2
  exact h2
theorem RBook.place_ {w0 W : World} {rb : Nat} {v : Value} {R : List RE} {B : Bk} (h : RBook w0 W rb v R) (hp : RP R B) {id z : Int} (hz : placeI B.ids id = z) :
    Calls Tryz.prog 65 #[.pointer (some ⟨rb, 0, none⟩), .int .i64 id] W fun r w' => r = .returned (.int .i64 z) ∧ W = w' := by
  have h2 := h.at_ hp id
  rw [hz] at h2
  exact h2
end Go.Proofs.YtokakpbpenndlaaGreatDoor

set_option linter.unusedVariables false
namespace Go.Proofs.YtokakpbpenndlaaGreatDoor
open Go.RowKit Go.Maps

/-- An entry of the book, and the book's slice, as long as the world only grows. -/
structure RAt (W : World) (rb g off c n k : Nat) (e : Ent) (va vt : Value) : Prop where
  b : W.cell? ⟨rb, 0, none⟩ = some (.slice (some ⟨g, off, none⟩) n c)
  c0 : W.cell? ⟨g, off + k * 6, none⟩ = some (.int .i64 e.k)
  c1 : W.cell? ⟨g, off + k * 6 + 1, none⟩ = some (.int .i64 e.id)
  c2 : W.cell? ⟨g, off + k * 6 + 2, none⟩ = some (.int .i64 e.of_)
  c3 : W.cell? ⟨g, off + k * 6 + 3, none⟩ = some (.int .i64 e.day)
  c4 : W.cell? ⟨g, off + k * 6 + 4, none⟩ = some va
  c5 : W.cell? ⟨g, off + k * 6 + 5, none⟩ = some vt
theorem RBook.ent {w0 W : World} {rb : Nat} {v : Value} {R : List RE} (h : RBook w0 W rb v R) {k : Nat} (hk : k < R.length) : ∃ g off c, v = .slice (some ⟨g, off, none⟩) R.length c ∧ R.length ≤ maxLen ∧ g < W.heap.size ∧ rb < W.heap.size ∧ ∀ W', Ext W W' → RAt W' rb g off c R.length k R[k].e R[k].va R[k].vt := by
  obtain ⟨A, c, rfl, hm, HS⟩ := h.sl
  obtain ⟨g, off, rfl, H⟩ := HS k hk
  have lb := h.blk.lt
  have q := h.blk.cell 0
  exact ⟨g, off, c, rfl, hm, H.lt, lb, fun W' hx => ⟨(hx.cell _ _ _ lb).trans q, (hx.cell _ _ _ H.lt).trans H.c0, (hx.cell _ _ _ H.lt).trans H.c1, (hx.cell _ _ _ H.lt).trans H.c2, (hx.cell _ _ _ H.lt).trans H.c3, (hx.cell _ _ _ H.lt).trans H.c4, (hx.cell _ _ _ H.lt).trans H.c5⟩⟩
theorem RBook.entR {w0 W : World} {rb : Nat} {v : Value} {R : List RE} (h : RBook w0 W rb v R) {k : Nat} (hk : k < R.length) : ∃ g off c Aa ca At ct, v = .slice (some ⟨g, off, none⟩) R.length c ∧ R.length ≤ maxLen ∧ g < W.heap.size ∧ rb < W.heap.size ∧ R[k].e.am.length ≤ ca ∧ ca ≤ maxLen ∧ R[k].e.tax.length ≤ ct ∧ ct ≤ maxLen ∧
    ∀ W', Ext W W' → RAt W' rb g off c R.length k R[k].e (.slice Aa R[k].e.am.length ca) (.slice At R[k].e.tax.length ct) ∧ EntR W' R[k].e Aa At := by
  obtain ⟨g, off, c, rfl, hm, hg, lb, HR⟩ := h.ent hk
  have ha := h.oa R[k] (List.getElem_mem hk)
  have ht := h.ot R[k] (List.getElem_mem hk)
  obtain ⟨Aa, ca, e1, l1, m1, r1⟩ := own_slice ha
  obtain ⟨At, ct, e2, l2, m2, r2⟩ := own_slice ht
  refine ⟨g, off, c, Aa, ca, At, ct, rfl, hm, hg, lb, l1, m1, l2, m2, fun W' hx => ⟨?_, r1.ext hx, r2.ext hx, Nat.le_trans l1 m1, Nat.le_trans l2 m2⟩⟩
  rw [← e1, ← e2]
  exact HR W' hx
abbrev entC (e : Ent) (va vt : Value) : Array Value := #[.int .i64 e.k, .int .i64 e.id, .int .i64 e.of_, .int .i64 e.day, va, vt]
/-- An entry kept in a block of its own. -/
def XAt (W1 : World) (e : Ent) (va vt : Value) (v : Value) (wx : World) : Prop := v = .pointer (some ⟨W1.heap.size, 0, none⟩) ∧ Blk wx W1.heap.size 52 (entC e va vt) ∧ Ext W1 wx

set_option maxRecDepth 100000 in
set_option maxHeartbeats 4000000 in
theorem rleft29_any {w0 W : World} {rb : Nat} {v : Value} {R : List RE} {B : Bk} (h : RBook w0 W rb v R) (hp : RP R B) {id : Int} {s : Kp} (hs : B.sale id = some s) (hv : s.voided = false) (line : Nat) (hl : line < s.e.am.length) :
    Calls Tryz.prog 110 #[.pointer (some ⟨rb, 0, none⟩), .int .i64 id, .int .i64 (line : Int)] W fun r w' => r = .returned (.tuple #[.int .i64 (s.e.am.getD line 0 - s.back.getD line 0), .bool true]) ∧ Ext W w' := by
  have HSa := Lib.hid (h.sale_ hp (z := true) (by rw [hs]; rfl))
  obtain ⟨k, hk, hkR, e1, e2, hpl, hid, k1, hm⟩ := hp.sale_at hs
  have HAt := Lib.hid (fun W' (hx : Ext W W') => (h.to hx).place_ hp hpl)
  have HVo := Lib.hid (fun W' (hx : Ext W W') => (h.to hx).voided_ hp hs hv)
  have hbk := hp.backs hs hl R.length
  have HBa := Lib.hid (fun W' (hx : Ext W W') => (h.to hx).back_ hp hs line R.length hl (Nat.le_refl _) (z := s.back.getD line 0) (by rw [hbk.2.2.2.2, List.take_of_length_le (by simp [hp.len])]))
  obtain ⟨g, off, c, rfl, hml, hg, lb, HR⟩ := h.ent hkR
  rw [e2] at HR
  have HO := Lib.hid (fun W' (hx : Ext W W') => own_slice ((h.to hx).oa R[k] (List.getElem_mem hkR)))
  obtain ⟨Aa, ca, hva, la, ma, r0⟩ := HO.out W (Ext.refl W)
  clear r0
  have HRd := Lib.hid (fun W' (hx : Ext W W') => (show ∃ b o, Aa = some ⟨b, o, none⟩ ∧ W'.cell? ⟨b, o + line, none⟩ = some (.int .i64 (s.e.am.getD line 0)) from by
    obtain ⟨A', c', h1, _, _, h4⟩ := HO.out W' hx
    rw [hva] at h1
    injection h1 with h1 _ _
    subst h1
    rw [e2] at h4
    obtain ⟨b, o, e, _, hc⟩ := reads_int h4 hl rfl
    exact ⟨b, o, e, by rw [hc]; simp [List.getD, hl]⟩))
  rw [e2] at hva la
  obtain ⟨b0, o0, hA, r0⟩ := HRd.out W (Ext.refl W)
  clear r0
  subst hA
  have HCell := Lib.hid (fun W' (hx : Ext W W') => (show W'.cell? ⟨b0, o0 + line, none⟩ = some (.int .i64 (s.e.am.getD line 0)) from by
    obtain ⟨b, o, e, h⟩ := HRd.out W' hx
    injection e with e
    injection e with e1 e2 _
    subst e1 e2
    exact h))
  have HR2 := HR
  rw [hva] at HR2
  obtain ⟨At, ct, hvt, _, _, r0⟩ := own_slice (h.ot R[k] (List.getElem_mem hkR))
  clear r0
  rw [e2] at hvt
  rw [hvt] at HR2
  replace HR2 := Lib.hid HR2
  replace k1 := Lib.hid k1
  replace hid := Lib.hid hid
  obtain ⟨hb0, hb1, hb2, hb3, hb4⟩ := hbk
  clear HRd HO HR h hva hvt
  unfold maxLen at hml ma
  have kl : (k : Int) < (R.length : Int) := by omega
  have kz : (0 : Int) ≤ (k : Int) := by omega
  have ll : (line : Int) < (s.e.am.length : Int) := by omega
  have lz : (0 : Int) ≤ (line : Int) := by omega
  have dl : decide ((line : Int) < 0) = false := by simp
  have dl2 : decide ((s.e.am.length : Int) ≤ (line : Int)) = false := by simp; omega
  generalize R[k].va = va at *
  generalize s.e = e at *
  generalize e.am.getD line 0 = a at *
  generalize s.back.getD line 0 = b at *
  have hw : IntKind.i64.wrap (a - b) = a - b := IntWalk.i64_in _ (by omega)
  clear hb0 hb1 hb2 hb3 hb4
  go_enter Tryz.func110, Tryz.ntmps110
  go_wp2_with fail
  refine HSa.out.mono ?_
  rintro r w1 ⟨rfl, rfl⟩
  go_upto_region 3 with (fail)
  go_cut [8] (fun v wx => XAt W e (.slice (some ⟨b0, o0, none⟩) e.am.length ca) (.slice At e.tax.length ct) v wx)
  case first =>
    have HX := Lib.hid (fun W2 (h : Ext W W2) => (show W2.cell? ⟨rb, 0, none⟩ = some (.slice (some ⟨g, off, none⟩) R.length c) ∧ W2.cell? ⟨g, off + k * 6, none⟩ = some (.int .i64 e.k) ∧ W2.cell? ⟨g, off + k * 6 + 1, none⟩ = some (.int .i64 e.id) ∧ W2.cell? ⟨g, off + k * 6 + 2, none⟩ = some (.int .i64 e.of_) ∧ W2.cell? ⟨g, off + k * 6 + 3, none⟩ = some (.int .i64 e.day) ∧ W2.cell? ⟨g, off + k * 6 + 4, none⟩ = some (.slice (some ⟨b0, o0, none⟩) e.am.length ca) ∧ W2.cell? ⟨g, off + k * 6 + 5, none⟩ = some (.slice At e.tax.length ct) from
      ⟨(HR2.out _ h).b, (HR2.out _ h).c0, (HR2.out _ h).c1, (HR2.out _ h).c2, (HR2.out _ h).c3, (HR2.out _ h).c4, (HR2.out _ h).c5⟩))
    obtain ⟨k0, k1, k2, k3, k4, k5, k6⟩ := HX.out W (Ext.refl _)
    obtain ⟨z1, z1'⟩ := (Blk.new W 52 #[.int .i64 0, .int .i64 0, .int .i64 0, .int .i64 0, .slice none 0 0, .slice none 0 0]).cells
    obtain ⟨z2, z2'⟩ := (Blk.newD' W 52 #[.int .i64 0, .int .i64 0, .int .i64 0, .int .i64 0, .slice none 0 0, .slice none 0 0]).cells
    obtain ⟨z3, z3'⟩ := (Blk.ext (Blk.new W 52 #[.int .i64 0, .int .i64 0, .int .i64 0, .int .i64 0, .slice none 0 0, .slice none 0 0]) (Ext.refl _).drew).cells
    go_region_held3 (fun w' => w'.cell? ⟨rb, 0, none⟩ = some (.slice (some ⟨g, off, none⟩) R.length c) ∧ w'.cell? ⟨g, off + k * 6, none⟩ = some (.int .i64 e.k) ∧ w'.cell? ⟨g, off + k * 6 + 1, none⟩ = some (.int .i64 e.id) ∧ w'.cell? ⟨g, off + k * 6 + 2, none⟩ = some (.int .i64 e.of_) ∧ w'.cell? ⟨g, off + k * 6 + 3, none⟩ = some (.int .i64 e.day) ∧ w'.cell? ⟨g, off + k * 6 + 4, none⟩ = some (.slice (some ⟨b0, o0, none⟩) e.am.length ca) ∧ w'.cell? ⟨g, off + k * 6 + 5, none⟩ = some (.slice At e.tax.length ct))
      (first | (with_reducible exact HX.out _ (Ext.refl W).drew) | (with_reducible exact HX.out _ ((Ext.refl W).alloc _)) | (with_reducible exact HX.out _ ((Ext.refl W).drew.alloc _)) | (with_reducible exact HX.out _ ((Ext.refl W).alloc _).drew) | (with_reducible exact HX.out _ (set6' ((Ext.refl W).alloc _).drew (Nat.le_refl _) _ _ _ _ _ _)) | (with_reducible exact HX.out _ (set6' ((Ext.refl W).drew.alloc _) (Nat.le_refl _) _ _ _ _ _ _)) | (with_reducible exact HX.out _ (set6' ((Ext.refl W).alloc _) (Nat.le_refl _) _ _ _ _ _ _)))
      (first | (go_at_call 65; refine (HAt.out _ (by first | with_reducible exact (Ext.refl W).drew | with_reducible exact (Ext.refl W).drew.alloc _ | with_reducible exact (Ext.refl W).alloc _ | with_reducible exact ((Ext.refl W).alloc _).drew | with_reducible exact Ext.refl W)).mono ?_; rintro r v2 ⟨rfl, rfl⟩))
    all_goals clear k0 k1 k2 k3 k4 k5 k6 z1 z1' z2 z2' z3 z3'
    all_goals
      have HE := Lib.hid (show XAt W e (.slice (some ⟨b0, o0, none⟩) e.am.length ca) (.slice At e.tax.length ct) (.pointer (some ⟨W.heap.size, 0, none⟩)) ((W.alloc (.cells (entC e (.slice (some ⟨b0, o0, none⟩) e.am.length ca) (.slice At e.tax.length ct)) 52)).drew) from ⟨rfl, Blk.ext (Blk.new W _ _) (Ext.refl _).drew, ((Ext.refl W).alloc _).drew⟩)
      go_wp2_with fail
      go_meet
      exact HE.out
  case rest =>
    obtain ⟨rfl, BX, X1⟩ := hcut
    obtain ⟨q, q'⟩ := BX.cells
    have lx := BX.lt
    go_wp2_with fail
    refine (HVo.out _ X1).mono ?_
    rintro r w1 ⟨rfl, rfl⟩
    go_upto_region 8 with (fail)
    have HX := Lib.hid (fun W2 (h : Ext wc W2) => (show W2.cell? ⟨W.heap.size, 4, none⟩ = some (.slice (some ⟨b0, o0, none⟩) e.am.length ca) ∧ W2.cell? ⟨b0, o0 + line, none⟩ = some (.int .i64 a) ∧ W2.cell? ⟨rb, 0, none⟩ = some (.slice (some ⟨g, off, none⟩) R.length c) from ⟨(BX.ext h).cell 4, HCell.out _ (X1.trans h), (HR2.out _ (X1.trans h)).b⟩))
    clear q q' BX
    obtain ⟨k0, k1, k2⟩ := HX.out wc (Ext.refl _)
    go_region_held3 (fun w' => w'.cell? ⟨W.heap.size, 4, none⟩ = some (.slice (some ⟨b0, o0, none⟩) e.am.length ca) ∧ w'.cell? ⟨b0, o0 + line, none⟩ = some (.int .i64 a) ∧ w'.cell? ⟨rb, 0, none⟩ = some (.slice (some ⟨g, off, none⟩) R.length c))
      (first | (with_reducible exact HX.out _ (Ext.refl wc).drew))
      (first | (go_at_call 108; refine (HBa.out _ (by first | with_reducible exact X1.drew | with_reducible exact X1)).mono ?_; rintro r v2 ⟨rfl, rfl⟩))
    all_goals
      go_wp2_with fail
      go_ret2
      exact ⟨rfl, X1.drew⟩
end Go.Proofs.YtokakpbpenndlaaGreatDoor

set_option linter.unusedVariables false
namespace Go.Proofs.YtokakpbpenndlaaGreatDoor
open Go.RowKit Go.Maps

/-- The tax lines of a refund, so far. -/
def LsRel (base : Nat) (V : World) (tax : List Tx) (f : Tx → List Tx) (i v : Value) (wr : World) : Prop :=
  ∃ k : Nat, k ≤ tax.length ∧ i = .int .i64 (k : Int) ∧ wr.ownsRow base 117 6 v ((tax.take k).flatMap f).length (txCells ((tax.take k).flatMap f)) ∧ Ext V wr
theorem LsRel.skip {base : Nat} {V wr : World} {tax : List Tx} {f : Tx → List Tx} {k m : Nat} {v : Value} (hk : k < tax.length) (h0 : f tax[k] = []) (h : wr.ownsRow base 117 6 v ((tax.take k).flatMap f).length (txCells ((tax.take k).flatMap f))) (hx : Ext V wr) (e : m = k + 1) : LsRel base V tax f (.int .i64 (m : Int)) v wr := by
  subst e
  refine ⟨k + 1, by omega, rfl, ?_, hx⟩
  rw [List.take_succ_eq_append_getElem hk, List.flatMap_append]
  simpa [h0] using h
theorem LsRel.put {base : Nat} {V wr : World} {tax : List Tx} {f : Tx → List Tx} {k m n : Nat} {v : Value} {y : Tx} (hk : k < tax.length) (h0 : f tax[k] = [y]) (hn : n = ((tax.take k).flatMap f).length + 1) (h : wr.ownsRow base 117 6 v n (txCells ((tax.take k).flatMap f) ++ y.cl)) (hx : Ext V wr) (e : m = k + 1) : LsRel base V tax f (.int .i64 (m : Int)) v wr := by
  subst e hn
  refine ⟨k + 1, by omega, rfl, ?_, hx⟩
  rw [List.take_succ_eq_append_getElem hk, List.flatMap_append]
  simpa [h0, txCells] using h
theorem retL_len (b : Nat → Int) (am : List Int) : ∀ l : List Tx, (l.flatMap (retL b am)).length ≤ l.length
  | [] => by simp
  | x :: l => by
    have := retL_len b am l
    have h1 : (retL b am x).length ≤ 1 := by unfold retL; split <;> simp
    rw [List.flatMap_cons, List.length_append, List.length_cons]
    omega
/-- A refund's sale, and its tax lines. -/
theorem RP.refund {R : List RE} {B : Bk} (hp : RP R B) {i : Nat} (hi : i < B.length) (h2 : B[i].e.k = 2) : ∃ s, B.sale B[i].e.of_ = some s ∧ B[i].lines = s.e.tax.flatMap (retL (fun j => backR s.e.id j ((B.map Kp.e).take i)) B[i].e.am) := by
  obtain ⟨r, hr, r1, r2, _⟩ := hp.ri.rref B[i].e (List.mem_map_of_mem (List.getElem_mem hi)) h2
  obtain ⟨s, hs, rfl⟩ := List.mem_map.1 hr
  have hsale : B.sale B[i].e.of_ = some s := by
    rcases find_cases B B[i].e.of_ with ⟨_, b⟩ | ⟨k, hk, _, b, c⟩
    · exfalso
      unfold Bk.find at b
      rw [List.find?_eq_none] at b
      exact b s hs (decide_eq_true r2)
    · have : B[k] = s := hp.uniq (List.getElem_mem hk) hs (by rw [c, r2])
      unfold Bk.sale
      rw [b, this]
      simp [Option.filter, r1]
  exact ⟨s, hsale, hp.ri.ord i B[i] (List.getElem?_eq_getElem hi) h2 s.e hr r1 r2⟩
set_option maxRecDepth 100000 in
set_option maxHeartbeats 4000000 in
theorem rlines29_any {w0 W : World} {rb : Nat} {v : Value} {R : List RE} {B : Bk} (h : RBook w0 W rb v R) (hp : RP R B) (i : Nat) (hi : i < R.length) (hiB : i < B.length) {L : List Tx} (hL : B[i].lines = L) :
    Calls Tryz.prog 111 #[.pointer (some ⟨rb, 0, none⟩), .int .i64 (i : Int)] W fun r W' => ∃ A c, r = .returned (.slice A L.length c) ∧ W'.ownsRow W.heap.size 117 6 (.slice A L.length c) L.length (txCells L) ∧ Ext W W' := by
  have hei := hp.at_ hi hiB
  obtain ⟨g, off, c, Aa, ca, At, ct, rfl, hml, hg, lb, l1, m1, l2, m2, HR⟩ := h.entR hi
  rw [hei] at l1 l2 HR
  have hB? : B[i]? = some B[i] := List.getElem?_eq_getElem hiB
  have il : (i : Int) < (R.length : Int) := by omega
  have iz : (0 : Int) ≤ (i : Int) := by omega
  have hk3 := Ent.kinds (hp.ok B[i] (List.getElem_mem hiB)).chk
  have htl := (check_am (hp.ok B[i] (List.getElem_mem hiB)).chk).2
  by_cases h2 : B[i].e.k = 2
  case neg =>
    have hLt : B[i].e.tax = L := by rw [← hL]; exact (hp.ri.oth i B[i] hB? h2).symm
    subst hLt
    have H0 := (HR W (Ext.refl W)).1
    obtain ⟨k0, k1, k2, k3, k4, k5, k6⟩ := H0
    have HE := Lib.hid (fun W' hx => (HR W' hx).2)
    generalize B[i].e = e at *
    have b2 : (e.k != 2) = true := by simpa using h2
    have X1 := (Ext.refl W).alloc (.cells (entC e (.slice Aa e.am.length ca) (.slice At e.tax.length ct)) 52)
    clear HR hL h2 hei
    unfold maxLen at hml m1 m2
    go_enter Tryz.func111, Tryz.ntmps111
    go_wp2_with (at_builtin; refine wpl_app row_tx W _ (.tmp 24) (.tmp 26) rfl rfl rfl (own_lit X1 _ _ 0 6 (by simp) (by simp [maxLen]) rfl) (X1.alloc _) rfl (HE.out _ (X1.alloc _)).rt (txCells_one _) (by omega) (by unfold maxLen; omega) ?_; intro v4 W4 hg4; have HG4 := Lib.hid hg4; clear hg4)
    obtain ⟨A4, c4, rfl, _⟩ := own_slice HG4.out.own
    go_ret
    refine ⟨A4, c4, by simp, ?_, HG4.out.ext⟩
    have := HG4.out.own
    simpa using this
  obtain ⟨sk, hs, hord⟩ := hp.refund hiB h2
  rw [hL] at hord
  have hfit : B[i].e.am.length = sk.e.am.length := by
    have := hp.fitb hs R[i] (List.getElem_mem hi) (by rw [hei]; exact h2) (by rw [hei])
    rwa [hei] at this
  obtain ⟨k, hk, hkR, e1, e2, hpl, hid, k1, hm⟩ := hp.sale_at hs
  have HAt := Lib.hid (fun W' (hx : Ext W W') => (h.to hx).place_ hp hpl)
  have HBa := Lib.hid (fun W' (hx : Ext W W') line (hl : line < sk.e.am.length) => (h.to hx).back_ hp hs line i hl (by omega) rfl)
  have HBd := Lib.hid (fun line (hl : line < sk.e.am.length) => (show 0 ≤ backR B[i].e.of_ line ((B.map Kp.e).take i) ∧ 0 ≤ B[i].e.am.getD line 0 ∧ backR B[i].e.of_ line ((B.map Kp.e).take i) + B[i].e.am.getD line 0 ≤ 4611686018427387904 from by
    have a1 := hp.backs hs hl i
    have a2 := hp.backs hs hl (i + 1)
    rw [backR_take (by simpa using hiB), List.getElem_map, if_pos ⟨h2, rfl⟩] at a2
    have a3 := (ok_ams (hp.ok B[i] (List.getElem_mem hiB)) line).1
    omega))
  have hln := (sale_lines (hp.ok sk hm) k1).1
  rw [(hp.ok sk hm).lns k1] at hln
  have hsl := (check_am (hp.ok sk hm).chk).2
  obtain ⟨g', off', c', As, cs, Ats, cts, hsl', _, _, _, ls1, ms1, ls2, ms2, HR'⟩ := h.entR hkR
  injection hsl' with hsl' _ ec
  injection hsl' with hsl'
  injection hsl' with eg eo
  subst eg eo ec
  rw [e2] at ls1 ls2 HR'
  have H0 := (HR W (Ext.refl W)).1
  obtain ⟨k0, k1', k2, k3, k4, k5, k6⟩ := H0
  have HE := Lib.hid (fun W' hx => (HR W' hx).2)
  have HS := Lib.hid (fun W' hx => (HR' W' hx).1)
  have HSE := Lib.hid (fun W' hx => (HR' W' hx).2)
  have kl : (k : Int) < (R.length : Int) := by omega
  have kz : (0 : Int) ≤ (k : Int) := by omega
  rw [hid] at hord
  replace hid := Lib.hid hid
  replace k1 := Lib.hid k1
  have h2' := Lib.hid h2
  replace hfit := Lib.hid hfit
  have b2 : (B[i].e.k != 2) = false := by simp [h2]
  subst hord
  have HLn := Lib.hid hln
  clear HR HR' hL h2 hei hln hB? hpl h e1 e2 hm hs
  generalize B[i].e = e at *
  generalize sk.e = s at *
  generalize (B.map Kp.e).take i = Bi at *
  clear hiB hp
  obtain ⟨F, hF⟩ : ∃ F, retL (fun j => backR e.of_ j Bi) e.am = F := ⟨_, rfl⟩
  rw [hF]
  replace hF := Lib.hid hF
  have X1 := (Ext.refl W).alloc (.cells (entC e (.slice Aa e.am.length ca) (.slice At e.tax.length ct)) 52)
  have B5 := Blk.new W 52 (entC e (.slice Aa e.am.length ca) (.slice At e.tax.length ct))
  unfold maxLen at hml m1 m2 ms1 ms2
  go_enter Tryz.func111, Tryz.ntmps111
  go_upto_region 5 with (fail)
  clear k0 k1' k2 k3 k4 k5 k6
  generalize hW1 : W.alloc (.cells (entC e (.slice Aa e.am.length ca) (.slice At e.tax.length ct)) 52) = W1 at *
  generalize hg5 : W.heap.size = g5 at *
  replace hg5 := Lib.hid hg5
  replace hW1 := Lib.hid hW1
  go_cut [7] (fun v wx => XAt W1 s (.slice As s.am.length cs) (.slice Ats s.tax.length cts) v wx)
  case first =>
    have HX := Lib.hid (fun w' (hx : Ext W1 w') => (show w'.cell? ⟨rb, 0, none⟩ = some (.slice (some ⟨g, off, none⟩) R.length c) ∧ w'.cell? ⟨g5, 2, none⟩ = some (.int .i64 e.of_) ∧ w'.cell? ⟨g, off + k * 6, none⟩ = some (.int .i64 s.k) ∧ w'.cell? ⟨g, off + k * 6 + 1, none⟩ = some (.int .i64 s.id) ∧ w'.cell? ⟨g, off + k * 6 + 2, none⟩ = some (.int .i64 s.of_) ∧ w'.cell? ⟨g, off + k * 6 + 3, none⟩ = some (.int .i64 s.day) ∧ w'.cell? ⟨g, off + k * 6 + 4, none⟩ = some (.slice As s.am.length cs) ∧ w'.cell? ⟨g, off + k * 6 + 5, none⟩ = some (.slice Ats s.tax.length cts) from
      ⟨(HS.out _ (X1.trans hx)).b, (B5.ext hx).cell 2, (HS.out _ (X1.trans hx)).c0, (HS.out _ (X1.trans hx)).c1, (HS.out _ (X1.trans hx)).c2, (HS.out _ (X1.trans hx)).c3, (HS.out _ (X1.trans hx)).c4, (HS.out _ (X1.trans hx)).c5⟩))
    obtain ⟨k0, k1, k2, k3, k4, k5, k6, k7⟩ := HX.out W1 (Ext.refl _)
    obtain ⟨z1, z1'⟩ := (Blk.new W1 52 #[.int .i64 0, .int .i64 0, .int .i64 0, .int .i64 0, .slice none 0 0, .slice none 0 0]).cells
    obtain ⟨z2, z2'⟩ := (Blk.newD' W1 52 #[.int .i64 0, .int .i64 0, .int .i64 0, .int .i64 0, .slice none 0 0, .slice none 0 0]).cells
    obtain ⟨z3, z3'⟩ := (Blk.ext (Blk.new W1 52 #[.int .i64 0, .int .i64 0, .int .i64 0, .int .i64 0, .slice none 0 0, .slice none 0 0]) (Ext.refl _).drew).cells
    go_region_held3 (fun w' => w'.cell? ⟨rb, 0, none⟩ = some (.slice (some ⟨g, off, none⟩) R.length c) ∧ w'.cell? ⟨g5, 2, none⟩ = some (.int .i64 e.of_) ∧ w'.cell? ⟨g, off + k * 6, none⟩ = some (.int .i64 s.k) ∧ w'.cell? ⟨g, off + k * 6 + 1, none⟩ = some (.int .i64 s.id) ∧ w'.cell? ⟨g, off + k * 6 + 2, none⟩ = some (.int .i64 s.of_) ∧ w'.cell? ⟨g, off + k * 6 + 3, none⟩ = some (.int .i64 s.day) ∧ w'.cell? ⟨g, off + k * 6 + 4, none⟩ = some (.slice As s.am.length cs) ∧ w'.cell? ⟨g, off + k * 6 + 5, none⟩ = some (.slice Ats s.tax.length cts))
      (first | (with_reducible exact HX.out _ (Ext.refl W1).drew) | (with_reducible exact HX.out _ ((Ext.refl W1).alloc _)) | (with_reducible exact HX.out _ ((Ext.refl W1).drew.alloc _)) | (with_reducible exact HX.out _ ((Ext.refl W1).alloc _).drew) | (with_reducible exact HX.out _ (set6' ((Ext.refl W1).alloc _).drew (Nat.le_refl _) _ _ _ _ _ _)) | (with_reducible exact HX.out _ (set6' ((Ext.refl W1).drew.alloc _) (Nat.le_refl _) _ _ _ _ _ _)) | (with_reducible exact HX.out _ (set6' ((Ext.refl W1).alloc _) (Nat.le_refl _) _ _ _ _ _ _)))
      (first | (go_at_call 65; refine (HAt.out _ (by first | with_reducible exact X1.drew | with_reducible exact X1.drew.alloc _ | with_reducible exact X1.alloc _ | with_reducible exact (X1.alloc _).drew | with_reducible exact X1)).mono ?_; rintro r v2 ⟨rfl, rfl⟩))
    all_goals clear k0 k1 k2 k3 k4 k5 k6 k7 z1 z1' z2 z2' z3 z3'
    all_goals
      have HE := Lib.hid (show XAt W1 s (.slice As s.am.length cs) (.slice Ats s.tax.length cts) (.pointer (some ⟨W1.heap.size, 0, none⟩)) ((W1.alloc (.cells (entC s (.slice As s.am.length cs) (.slice Ats s.tax.length cts)) 52)).drew) from ⟨rfl, Blk.ext (Blk.new W1 _ _) (Ext.refl _).drew, ((Ext.refl W1).alloc _).drew⟩)
      go_wp2_with fail
      go_meet
      exact HE.out
  case rest =>
    obtain ⟨rfl, BX, X2⟩ := hcut
    have X3 := X1.trans X2
    have B5' := B5.ext X2
    generalize W1.heap.size = g7 at *
    have HB5 := Lib.hid (fun W' (hx : Ext wc W') => (B5'.ext hx).cells)
    have HB7 := Lib.hid (fun W' (hx : Ext wc W') => (BX.ext hx).cells)
    have l5 := B5'.lt
    have l7 := BX.lt
    have HX3 := Lib.hid X3
    clear X1 X2 B5 B5' BX
    go_wp2_with fail
    have hgw : g5 ≤ wc.heap.size := by have := HX3.out.size; have := hg5.out; omega
    have HFL := Lib.hid (fun n => (show ((s.tax.take n).flatMap F).length ≤ 6400 from by
      rw [← hF.out]
      exact Nat.le_trans (retL_len _ _ _) (Nat.le_trans (List.length_take_le' _ _) hsl)))
    go_loopw [8, 6] (fun i v wr => LsRel wc.heap.size wc s.tax F i v wr) (fun i _ _ => s.tax.length - (intOf i).toNat)
    case atStart => exact ⟨0, by omega, rfl, by simpa [txCells] using World.ownsRow_nil _ _ _ _, Ext.refl _⟩
    case round =>
      obtain ⟨n, hn, rfl, ho, hx⟩ := hrel
      obtain ⟨p, p'⟩ := HB7.out _ hx
      have l7' : g7 < wr.heap.size := Nat.lt_of_lt_of_le l7 hx.size
      by_cases hlt : n < s.tax.length
      · have hd : decide ((n : Int) < (s.tax.length : Int)) = true := by simp; omega
        have nl : (n : Int) < (s.tax.length : Int) := by omega
        have nz : (0 : Int) ≤ (n : Int) := by omega
        obtain ⟨gt, ot, rfl, hgt, hc⟩ := ((HSE.out _ (HX3.out.trans hx)).rt).cellAt hlt
        obtain ⟨e1, e2, e3, e4, e5, e6⟩ := txCells_at s.tax n hlt
        have HC := Lib.hid (fun W' (h : Ext wr W') => (show W'.cell? ⟨gt, ot + n * 6, none⟩ = some (.int .i64 s.tax[n].l) ∧ W'.cell? ⟨gt, ot + n * 6 + 1, none⟩ = some (.int .i64 s.tax[n].j) ∧ W'.cell? ⟨gt, ot + n * 6 + 2, none⟩ = some (.int .i64 s.tax[n].t) ∧ W'.cell? ⟨gt, ot + n * 6 + 3, none⟩ = some (.int .i64 s.tax[n].x) ∧ W'.cell? ⟨gt, ot + n * 6 + 4, none⟩ = some (.int .i64 s.tax[n].r) ∧ W'.cell? ⟨gt, ot + n * 6 + 5, none⟩ = some (.int .i64 s.tax[n].v) from
          ⟨(h.cell _ _ _ hgt).trans (hc _ _ e1), (h.cell _ _ _ hgt).trans (hc _ _ e2), (h.cell _ _ _ hgt).trans (hc _ _ e3), (h.cell _ _ _ hgt).trans (hc _ _ e4), (h.cell _ _ _ hgt).trans (hc _ _ e5), (h.cell _ _ _ hgt).trans (hc _ _ e6)⟩))
        obtain ⟨c1, c2, c3, c4, c5, c6⟩ := HC.out wr (Ext.refl _)
        obtain ⟨f0, f1, _⟩ := HLn.out s.tax[n] (List.getElem_mem hlt)
        obtain ⟨⟨f2, f3⟩, _⟩ := Tx.ok_bd f0
        have HSk := Lib.hid (fun (h0 : F s.tax[n] = []) => LsRel.skip (V := wc) (m := n + 1) hlt h0 ho hx rfl)
        have HPt := Lib.hid (fun (W' : World) (v : Value) (q : Nat) (y : Tx) (h0 : F s.tax[n] = [y]) hq h hx' => LsRel.put (base := wc.heap.size) (V := wc) (wr := W') (v := v) (n := q) (y := y) (m := n + 1) hlt h0 hq h hx' rfl)
        have hFn := HFL.out n
        have HF := Lib.hid (fun y : Tx => (show F y = if e.am.getD y.l.toNat 0 = 0 then [] else [(y.ret (backR e.of_ y.l.toNat Bi) (backR e.of_ y.l.toNat Bi + e.am.getD y.l.toNat 0)).1] from by rw [← hF.out]; rfl))
        generalize (s.tax.take n).flatMap F = O at *
        clear hc e1 e2 e3 e4 e5 e6 f0
        have HFy := Lib.hid (HF.out s.tax[n])
        clear HF
        generalize s.tax[n] = y at *
        obtain ⟨yl, yj, yt, yx, yr, yv⟩ := y
        simp only at c1 c2 c3 c4 c5 c6 f1 f2 f3 HFy HC
        obtain ⟨m, rfl⟩ : ∃ m : Nat, yl = (m : Int) := ⟨yl.toNat, by omega⟩
        rw [Int.toNat_natCast] at f1 HFy
        have hma : m < e.am.length := by rw [hfit.out]; exact f1
        obtain ⟨ga, oa, rfl, hga, ca1⟩ := reads_int (HE.out _ (HX3.out.trans hx)).ra hma rfl
        have hge : e.am[m] = e.am.getD m 0 := by simp [List.getD, hma]
        rw [hge] at ca1
        have ml : (m : Int) < (e.am.length : Int) := by omega
        have mz : (0 : Int) ≤ (m : Int) := by omega
        obtain ⟨b0, b1, b2'⟩ := HBd.out m f1
        have HBm := Lib.hid (fun W' hx => HBa.out W' hx m f1)
        obtain ⟨q, q'⟩ := HB5.out _ hx
        have l5' : g5 < wr.heap.size := Nat.lt_of_lt_of_le l5 hx.size
        clear hge HBa HBd
        generalize e.am.getD m 0 = a at *
        generalize backR e.of_ m Bi = b at *
        have hw : IntKind.i64.wrap (b + a) = b + a := IntWalk.i64_in _ (by omega)
        by_cases h0 : a = 0
        · have HE2 := Lib.hid (HSk.out (HFy.out.trans (if_pos h0)))
          have hb0 : (a == 0) = true := by simpa using h0
          clear HSk HPt HFy h0 b0 b1 b2' hw
          go_wp2_with fail
          go_roundw
          case rel => exact HE2.out
          case measure => simp [intOf]; omega
        · have HFy2 := Lib.hid (HFy.out.trans (if_neg h0))
          have hb0 : (a == 0) = false := by simpa using h0
          clear HSk HFy h0 b0 b1 b2'
          go_wp2_with fail
          refine (HBm.out _ (HX3.out.trans hx)).mono ?_
          rintro r w2 ⟨rfl, rfl⟩
          go_wp2_with fail
          refine (rreturn_any ⟨(m : Int), yj, yt, yx, yr, yv⟩ b (b + a) _).mono ?_
          rintro r w3 ⟨rfl, hx3⟩
          generalize (⟨(m : Int), yj, yt, yx, yr, yv⟩ : Tx).ret b (b + a) = Rt at *
          unfold Tx.V taxV
          have X4 := (hx.trans hx3).alloc (.cells #[.int .i64 Rt.1.l, .int .i64 Rt.1.j, .int .i64 Rt.1.t, .int .i64 Rt.1.x, .int .i64 Rt.1.r, .int .i64 Rt.1.v] 117)
          have D9 := Blk.new w3 117 #[.int .i64 Rt.1.l, .int .i64 Rt.1.j, .int .i64 Rt.1.t, .int .i64 Rt.1.x, .int .i64 Rt.1.r, .int .i64 Rt.1.v]
          have O4 := (own_ext ho hx3).alloc (.cells #[.int .i64 Rt.1.l, .int .i64 Rt.1.j, .int .i64 Rt.1.t, .int .i64 Rt.1.x, .int .i64 Rt.1.r, .int .i64 Rt.1.v] 117)
          have HO4 := Lib.hid O4
          have HX4 := Lib.hid X4
          clear c1 c2 c3 c4 c5 c6 p p' q q' hx3 O4 X4 ho
          go_upto_region 14 with (fail)
          generalize w3.alloc (.cells #[.int .i64 Rt.1.l, .int .i64 Rt.1.j, .int .i64 Rt.1.t, .int .i64 Rt.1.x, .int .i64 Rt.1.r, .int .i64 Rt.1.v] 117) = W3 at *
          generalize w3.heap.size = g9 at *
          obtain ⟨z, z'⟩ := D9.cells
          have lz := D9.lt
          clear D9
          go_wp2_with (at_builtin; refine wpl_app1 row_tx wc W3 (.tmp 77) (.tmp 79) rfl rfl rfl HO4.out HX4.out rfl rfl rfl (cl_one Rt.1) (by omega) (by unfold maxLen; omega) ?_; intro v4 W4 hg4; have HG4 := Lib.hid hg4; clear hg4)
          have HE2 := Lib.hid (HPt.out W4 v4 _ Rt.1 HFy2.out rfl HG4.out.own HG4.out.ext)
          go_roundw
          case rel => exact HE2.out
          case measure => simp [intOf]; omega
      · obtain rfl : n = s.tax.length := by omega
        have hd : decide ((s.tax.length : Int) < (s.tax.length : Int)) = false := by simp
        rw [List.take_length] at ho
        obtain ⟨A4, c4, rfl, _⟩ := own_slice ho
        have HE2 := Lib.hid (own_base ho (Nat.le_trans (Nat.le_of_eq hg5.out) hgw))
        clear ho
        go_wp2_with fail
        go_ret
        exact ⟨A4, c4, rfl, HE2.out, HX3.out.trans hx⟩
end Go.Proofs.YtokakpbpenndlaaGreatDoor
