/-
  addr: street.
-/
import Derived.Test.YtjaponmpfdpemaaGreatDoorBb13
set_option linter.unusedSimpArgs false
set_option linter.unusedVariables false
namespace Go.Proofs.YtjaponmpfdpemaaGreatDoor
open Go.RowKit
theorem half_eq (k : Int) (t : Bs) (w : World) : (binOp .eql 105 (.agg #[.int .i64 k, .string ⟨t.toArray⟩]) (.agg #[.int .i64 3, .string ⟨#[49, 47, 50]⟩])).run Tryz.prog w = .ok (.bool (decide ((⟨k, t⟩ : Tok) = halfT))) w := by
 by_cases hk : k = 3
 ·subst hk
  by_cases ht : t = [49, 47, 50]
  ·subst ht
   kernel_rfl
  ·have : decide ((⟨3, t⟩ : Tok) = halfT) = false := decide_eq_false (fun e => ht (by injection e))
   rw [this]
   simp [go_sem, ht]
 ·have : decide ((⟨k, t⟩ : Tok) = halfT) = false := decide_eq_false (fun e => hk (by injection e))
  rw [this]
  simp [go_sem, hk]
def adC (a : Ad) : Array Value := #[.int .i64 a.n, .bool a.half, .string ⟨a.pre.toArray⟩, .string ⟨a.name.toArray⟩, .string ⟨a.suf.toArray⟩, .string ⟨a.post.toArray⟩, .string ⟨a.unit.toArray⟩, .string ⟨a.city.toArray⟩, .string ⟨a.state.toArray⟩, .string ⟨a.zip.toArray⟩, .string ⟨a.more.toArray⟩]
def adV (a : Ad) : Value := .agg (adC a)
theorem ld_ad {w : World} {g : Nat} {a : Ad} (h : Blk w g 45 (adC a)) : (loadVar 45 ⟨g, 0, none⟩).run Tryz.prog w = .ok (adV a) w := by
 have q := h.cell
 unfold adC at q
 unfold adV adC
 simp [go_sem, q]
section
variable {P : Program} {fn : Func} {tmps : Array Value} {w : World}
theorem results_ct2 {p u u' : Tmp} {ty : TypeId} {a : Addr} {v : Value} (h : fn.results = #[.cell p ty, .tmp u, .tmp u']) (ha : tmps.getD p undef = .pointer (some a)) (hv : (loadVar ty a).run P w = .ok v w) : (results fn tmps).run P w = .ok (.tuple #[v, tmps.getD u undef, tmps.getD u' undef]) w := by
 simp only [results, h]
 simp at ha
 simp [Result.andThen, ha, asAddr, hv]
end
def setAd (w : World) (g : Nat) (b : Ad) : World :=
 ((((((((((w.setCell ⟨g, 0, none⟩ (.int .i64 b.n)).setCell ⟨g, 1, none⟩ (.bool b.half)).setCell ⟨g, 2, none⟩ (.string ⟨b.pre.toArray⟩)).setCell ⟨g, 3, none⟩ (.string ⟨b.name.toArray⟩)).setCell ⟨g, 4, none⟩ (.string ⟨b.suf.toArray⟩)).setCell ⟨g, 5, none⟩ (.string ⟨b.post.toArray⟩)).setCell ⟨g, 6, none⟩ (.string ⟨b.unit.toArray⟩)).setCell ⟨g, 7, none⟩ (.string ⟨b.city.toArray⟩)).setCell ⟨g, 8, none⟩ (.string ⟨b.state.toArray⟩)).setCell ⟨g, 9, none⟩ (.string ⟨b.zip.toArray⟩)).setCell ⟨g, 10, none⟩ (.string ⟨b.more.toArray⟩)
theorem ad_put {w : World} {g : Nat} {a : Ad} (h : Blk w g 45 (adC a)) (i : Nat) (u : Value) (b : Ad) (hu : (adC a).setIfInBounds i u = adC b) : Blk (w.setCell ⟨g, i, none⟩ u) g 45 (adC b) := by
 have := h.set_ i u
 rwa [hu] at this
theorem setAd_blk {w : World} {g : Nat} {a : Ad} (b : Ad) (h : Blk w g 45 (adC a)) : Blk (setAd w g b) g 45 (adC b) := by
 unfold setAd
 replace h := ad_put h 0 (.int .i64 b.n) { a with n := b.n } rfl
 replace h := ad_put h 1 (.bool b.half) { a with n := b.n, half := b.half } rfl
 replace h := ad_put h 2 (.string ⟨b.pre.toArray⟩) { a with n := b.n, half := b.half, pre := b.pre } rfl
 replace h := ad_put h 3 (.string ⟨b.name.toArray⟩) { a with n := b.n, half := b.half, pre := b.pre, name := b.name } rfl
 replace h := ad_put h 4 (.string ⟨b.suf.toArray⟩) { a with n := b.n, half := b.half, pre := b.pre, name := b.name, suf := b.suf } rfl
 replace h := ad_put h 5 (.string ⟨b.post.toArray⟩) { a with n := b.n, half := b.half, pre := b.pre, name := b.name, suf := b.suf, post := b.post } rfl
 replace h := ad_put h 6 (.string ⟨b.unit.toArray⟩) { a with n := b.n, half := b.half, pre := b.pre, name := b.name, suf := b.suf, post := b.post, unit := b.unit } rfl
 replace h := ad_put h 7 (.string ⟨b.city.toArray⟩) { a with n := b.n, half := b.half, pre := b.pre, name := b.name, suf := b.suf, post := b.post, unit := b.unit, city := b.city } rfl
 replace h := ad_put h 8 (.string ⟨b.state.toArray⟩) { a with n := b.n, half := b.half, pre := b.pre, name := b.name, suf := b.suf, post := b.post, unit := b.unit, city := b.city, state := b.state } rfl
 replace h := ad_put h 9 (.string ⟨b.zip.toArray⟩) { a with n := b.n, half := b.half, pre := b.pre, name := b.name, suf := b.suf, post := b.post, unit := b.unit, city := b.city, state := b.state, zip := b.zip } rfl
 replace h := ad_put h 10 (.string ⟨b.more.toArray⟩) { a with n := b.n, half := b.half, pre := b.pre, name := b.name, suf := b.suf, post := b.post, unit := b.unit, city := b.city, state := b.state, zip := b.zip, more := b.more } rfl
 exact h
theorem setAd_ext {W w : World} {g : Nat} (b : Ad) (h : Ext W w) (hg : W.heap.size ≤ g) : Ext W (setAd w g b) :=
 ((((((((((h.set (p := ⟨g, 0, none⟩) hg _).set (p := ⟨g, 1, none⟩) hg _).set (p := ⟨g, 2, none⟩) hg _).set (p := ⟨g, 3, none⟩) hg _).set (p := ⟨g, 4, none⟩) hg _).set (p := ⟨g, 5, none⟩) hg _).set (p := ⟨g, 6, none⟩) hg _).set (p := ⟨g, 7, none⟩) hg _).set (p := ⟨g, 8, none⟩) hg _).set (p := ⟨g, 9, none⟩) hg _).set (p := ⟨g, 10, none⟩) hg _
structure StAt (W w : World) (gr g : Nat) (a : Ad) (l : List Tok) : Prop where
 ext : Ext W w
 r : Blk w gr 45 (adC a)
 c : CurAt w g W.heap.size l
 lr : W.heap.size ≤ gr
 lg : W.heap.size ≤ g
theorem StAt.ne {W w : World} {gr g : Nat} {a : Ad} {l : List Tok} (h : StAt W w gr g a l) : gr ≠ g := by
 obtain ⟨A, n, cap, B, _⟩ := h.c
 exact h.r.ne_ B (by decide)
theorem StAt.to {W w w' : World} {gr g : Nat} {a : Ad} {l : List Tok} (h : StAt W w gr g a l) (hx : Ext w w') : StAt W w' gr g a l := ⟨h.ext.trans hx, h.r.ext hx, h.c.ext hx, h.lr, h.lg⟩
theorem StAt.turn {W w w' : World} {gr g : Nat} {a : Ad} {l l' : List Tok} (h : StAt W w gr g a l) (hc : CurAt w' g W.heap.size l') (hg : w.grownBy w' (some g)) : StAt W w' gr g a l' :=
 ⟨h.ext.grown hg (fun k hk => by cases hk; exact h.lg), h.r.grown hg (fun e => h.ne (Option.some.inj e)), hc, h.lr, h.lg⟩
theorem StAt.put {W w : World} {gr g : Nat} {a b : Ad} {l : List Tok} (h : StAt W w gr g a l) (i : Nat) (u : Value) (hu : (adC a).setIfInBounds i u = adC b) : StAt W (w.setCell ⟨gr, i, none⟩ u) gr g b l := by
 refine ⟨h.ext.set (p := ⟨gr, i, none⟩) h.lr _, ?_, h.c.set (p := ⟨gr, i, none⟩) h.lr h.ne.symm _, h.lr, h.lg⟩
 have := h.r.set_ i u
 rwa [hu] at this
theorem TokS.tail' {w : World} {b o N cap : Nat} {l : List Tok} (h : TokS w (some ⟨b, o, none⟩) N cap l) (hN : 0 < N) : TokS w (if cap = 1 then some ⟨b, o, none⟩ else some ⟨b, o + 2, none⟩) (N - 1) (cap - 1) l.tail := by
 by_cases hc : cap = 1
 ·rw [if_pos hc]
  have hl := h.len
  have hle := h.le
  have e : l.tail = [] := List.eq_nil_of_length_eq_zero (by rw [List.length_tail]; omega)
  rw [e, show N - 1 = 0 by omega]
  exact ⟨rfl, ⟨rfl, fun h0 => absurd h0 (by omega)⟩, by omega, by have := h.max; omega, by omega, fun t ht => by cases ht⟩
 ·rw [if_neg hc]
  exact h.tail (by omega)
theorem StAt.slice {W w : World} {gr g : Nat} {a : Ad} {l l' : List Tok} (h : StAt W w gr g a l) {A : Option Addr} {n cap : Nat} (hT : TokS w A n cap l') (hb : 0 < l'.length → ∀ b o, A = some ⟨b, o, none⟩ → b < W.heap.size) : StAt W (w.setCell ⟨g, 0, none⟩ (.slice A n cap)) gr g a l' := by
 obtain ⟨A0, n0, cap0, B0, T0, hb0⟩ := h.c
 have G : w.grownBy (w.setCell ⟨g, 0, none⟩ (.slice A n cap)) (some g) := only_set (World.grownBy.refl _ _) (p := ⟨g, 0, none⟩) (.inl rfl) _
 exact h.turn ⟨A, n, cap, B0.set_ 0 _, hT.grown B0 G, hb⟩ G
theorem TokS.set {w : World} {A : Option Addr} {n cap : Nat} {l : List Tok} (h : TokS w A n cap l) {B : Nat} (hb : 0 < l.length → ∀ b o, A = some ⟨b, o, none⟩ → b < B) {p : Addr} (hp : B ≤ p.block) (u : Value) : TokS (w.setCell p u) A n cap l := by
 refine ⟨h.len, ⟨h.rd.1, fun h0 => ?_⟩, h.le, h.max, h.l40, h.sm⟩
 obtain ⟨c, o, e, hc, hk⟩ := h.rd.2 h0
 have hlt := hb (by rw [h.len]; exact h0) c o e
 refine ⟨c, o, e, by simpa using hc, fun j v hv => ?_⟩
 exact (World.cell?_setCell_far w p ⟨c, o + j, none⟩ u (by show p.block ≠ c; omega)).trans (hk j v hv)
theorem TokS.take {w : World} {A : Option Addr} {N cap : Nat} {l : List Tok} (h : TokS w A N cap l) {m : Nat} (hm : m ≤ N) : TokS w A m cap (l.take m) := by
 have hl := h.len
 refine ⟨by rw [List.length_take]; omega, ?_, by have := h.le; omega, h.max, by have := h.l40; omega, fun t ht => h.sm t (List.mem_of_mem_take ht)⟩
 have := h.rd.take hm
 have e : (tokCells l).take (m * 2) = tokCells (l.take m) := (flat_take (f := tokC) (c := 2) (fun _ => rfl) l m).symm
 rw [e] at this
 exact this
theorem TokS.drop {w : World} {b o N cap : Nat} {l : List Tok} (h : TokS w (some ⟨b, o, none⟩) N cap l) {m : Nat} (hm : m ≤ N) : TokS w (some ⟨b, o + m * 2, none⟩) (N - m) (cap - m) (l.drop m) := by
 have hl := h.len
 refine ⟨by rw [List.length_drop]; omega, ⟨by rw [tokCells_len, List.length_drop]; omega, fun h0 => ?_⟩, by have := h.le; omega, by have := h.max; omega, by have := h.l40; omega, fun t ht => h.sm t (List.mem_of_mem_drop ht)⟩
 obtain ⟨b', o', e, hb, hc⟩ := h.rd.2 (by omega)
 injection e with e
 injection e with e1 e2 _
 subst e1 e2
 refine ⟨b, o + m * 2, rfl, hb, fun j u hu => ?_⟩
 have e : tokCells (l.drop m) = (tokCells l).drop (m * 2) := by
  have h1 := flat_take (f := tokC) (c := 2) (fun _ => rfl) l m
  have h2 : tokCells l = tokCells (l.take m) ++ tokCells (l.drop m) := by
   unfold tokCells
   rw [← List.flatMap_append, List.take_append_drop]
  rw [h2]
  exact (List.drop_left' (by rw [tokCells_len, List.length_take]; omega)).symm
 rw [e, List.getElem?_drop] at hu
 have := hc _ u hu
 rw [show o + (m * 2 + j) = o + m * 2 + j by omega] at this
 exact this
def InIs (w : World) (B : Nat) (v : Value) (o : Option (List Tok)) : Prop := match o with
 | none => v = .slice none 0 0
 | some u => ∃ A n cap, v = .slice A n cap ∧ TokS w A n cap u ∧ 0 < u.length ∧ ∀ b o, A = some ⟨b, o, none⟩ → b < B
theorem TokS.move {W w w' : World} {A : Option Addr} {n cap : Nat} {l : List Tok} (h : TokS w A n cap l) (hb : 0 < l.length → ∀ b o, A = some ⟨b, o, none⟩ → b < W.heap.size) (hx : Ext W w) (hx' : Ext W w') : TokS w' A n cap l := by
 refine ⟨h.len, ⟨h.rd.1, fun h0 => ?_⟩, h.le, h.max, h.l40, h.sm⟩
 obtain ⟨c, o, e, hc, hk⟩ := h.rd.2 h0
 have hlt := hb (by rw [h.len]; exact h0) c o e
 exact ⟨c, o, e, Nat.lt_of_lt_of_le hlt hx'.size, fun j v hv => ((hx'.cell c _ none hlt).trans (hx.cell c _ none hlt).symm).trans (hk j v hv)⟩
theorem InIs.move {W w w' : World} {v : Value} {o : Option (List Tok)} (h : InIs w W.heap.size v o) (hx : Ext W w) (hx' : Ext W w') : InIs w' w'.heap.size v o := by
 cases o with
 | none => exact h
 | some u =>
  obtain ⟨A, n, cap, rfl, T, h0, hb⟩ := h
  exact ⟨A, n, cap, rfl, T.move (fun _ => hb) hx hx', h0, fun b o e => Nat.lt_of_lt_of_le (hb b o e) hx'.size⟩
set_option maxRecDepth 100000 in
set_option maxHeartbeats 1000000 in
theorem street_any (l : List Tok) (inner : Bool) (A : Option Addr) (n cap : Nat) (W : World) (h : TokS W A n cap l) (hS : Std W) :
  Calls Tryz.prog 55 #[.slice A n cap, .bool inner] W fun e w' => ∃ An nn cn inV, e = .returned (.tuple #[adV (streetP l inner).1, .slice An nn cn, inV]) ∧ TokS w' An nn cn (streetP l inner).2.1 ∧ InIs w' w'.heap.size inV (streetP l inner).2.2 ∧ Ext W w' := by
 have hn := h.len
 have h40 := h.l40
 have hle := h.le
 have hAlt : ∀ b o, A = some ⟨b, o, none⟩ → 0 < n → b < W.heap.size := fun b o e h0 => by
  obtain ⟨b', o', e', hb, _⟩ := h.rd.2 h0
  rw [e] at e'
  injection e' with e'
  injection e' with e1 _ _
  rw [e1]; exact hb
 go_enter Tryz.func55, Tryz.ntmps55
 go_upto_region 2 with (fail)
 have S0 : StAt W ((W.alloc (.cells (adC Ad.zero) 45)).alloc (.cells #[.slice A n cap] 113)) W.heap.size (W.heap.size + 1) Ad.zero l := by
  have X := ((Ext.refl W).alloc (.cells (adC Ad.zero) 45)).alloc (.cells #[.slice A n cap] 113)
  have B1 := Blk.new (W.alloc (.cells (adC Ad.zero) 45)) 113 #[.slice A n cap]
  rw [show (W.alloc (.cells (adC Ad.zero) 45)).heap.size = W.heap.size + 1 by simp] at B1
  exact ⟨X, (Blk.new W _ _).alloc _, ⟨A, n, cap, B1, h.ext X, fun h0 b o e => hAlt b o e (by omega)⟩, Nat.le_refl _, by omega⟩
 unfold adC at S0
 change StAt W ((W.alloc (.cells #[.int .i64 0, .bool false, .string ⟨#[]⟩, .string ⟨#[]⟩, .string ⟨#[]⟩, .string ⟨#[]⟩, .string ⟨#[]⟩, .string ⟨#[]⟩, .string ⟨#[]⟩, .string ⟨#[]⟩, .string ⟨#[]⟩] 45)).alloc (.cells #[.slice A n cap] 113)) _ _ _ _ at S0
 generalize (W.alloc (.cells #[.int .i64 0, .bool false, .string ⟨#[]⟩, .string ⟨#[]⟩, .string ⟨#[]⟩, .string ⟨#[]⟩, .string ⟨#[]⟩, .string ⟨#[]⟩, .string ⟨#[]⟩, .string ⟨#[]⟩, .string ⟨#[]⟩] 45)).alloc (.cells #[.slice A n cap] 113) = w1 at *
 generalize W.heap.size + 1 = g at *
 generalize hgr : W.heap.size = gr at *
 replace hgr := Lib.hid hgr
 obtain ⟨l1, hl1⟩ : ∃ l1, (if (l.head? == some halfT) = true then l.tail else l) = l1 := ⟨_, rfl⟩
 obtain ⟨hf, hhf⟩ : ∃ hf, (l.head? == some halfT) = hf := ⟨_, rfl⟩
 go_cut [25] (fun u wx => u = .bool hf ∧ StAt W wx gr g Ad.zero l)
 case first =>
  have S0' := Lib.hid S0
  obtain ⟨A0, n0, cap0, B0, T0, hb0⟩ := S0.c
  have hn0 := T0.len
  subst hn0
  have c0 : w1.cell? ⟨g, 0, none⟩ = some (.slice A0 l.length cap0) := B0.cell 0
  have lg := B0.lt
  by_cases h0 : 0 < l.length
  ·have hd : decide ((0 : Int) < (l.length : Int)) = true := by simp; omega
   have HF := Lib.hid (first_any l A0 cap0 g w1 B0 T0.rd h0 (by omega))
   have hhd : hf = decide (l[0] = halfT) := by
    rw [← hhf]
    cases l with
    | nil => simp at h0
    | cons t r => simp; rfl
   have hE := fun w => half_eq l[0].k l[0].t w
   rw [show (⟨l[0].k, l[0].t⟩ : Tok) = l[0] from rfl, ← hhd] at hE
   unfold tokV at HF
   replace hhd := Lib.hid hhd
   clear T0 B0 S0
   generalize l[0].k = tk at *
   generalize l[0].t = tt at *
   go_wp2_with fail
   refine HF.out.mono ?_
   rintro e w2 ⟨rfl, hx⟩
   have S2 := Lib.hid (S0'.out.to hx)
   go_wp2_with fail
   go_meet
   exact ⟨rfl, S2.out⟩
  ·have hd : decide ((0 : Int) < (l.length : Int)) = false := decide_eq_false (by omega)
   have hff : hf = false := by
    rw [← hhf]
    cases l with
    | nil => rfl
    | cons t r => simp at h0
   replace hff := Lib.hid hff
   clear T0 B0 S0
   go_wp2_with fail
   go_meet
   exact ⟨by rw [hff.out], S0'.out⟩
 case rest =>
  obtain ⟨rfl, S1⟩ := hcut
  clear S0
  rw [hhf] at hl1
  go_upto_if 25 with (fail)
  go_cut [] (fun wx => StAt W wx gr g { Ad.zero with half := hf } l1)
  case first =>
   have S1' := Lib.hid S1
   cases hf with
   | false =>
    have e : l = l1 := hl1
    subst e
    clear S1
    go_wp2_with fail
    go_meet
    exact S1'.out
   | true =>
    have e : l.tail = l1 := hl1
    have hne : 0 < l.length := by
     cases l with
     | nil => cases hhf
     | cons t r => simp
    obtain ⟨A0, n0, cap0, B0, T0, hb0⟩ := S1.c
    obtain ⟨b, o, rfl, hbg⟩ := T0.ne (x := .nilIface) (y := .nilIface) B0 hne
    have c0 : wc.cell? ⟨g, 0, none⟩ = some (.slice (some ⟨b, o, none⟩) n0 cap0) := B0.cell 0
    have f0 := B0.frozen 0
    have lg := B0.lt
    have r1 : wc.cell? ⟨gr, 1, none⟩ = some (.bool false) := S1.r.cell 1
    have fr := S1.r.frozen 1
    have lr := S1.r.lt
    have hne2 := S1.ne
    have hle0 := T0.le
    have hn0 := T0.len
    have l1i : (1 : Int) ≤ (n0 : Int) := by omega
    subst e
    clear S1
    have S2 := S1'.out.put 1 (.bool true) (b := { Ad.zero with half := true }) rfl
    have hbd : 0 < l.tail.length → ∀ b' o', (if cap0 = 1 then some ⟨b, o, none⟩ else some ⟨b, o + 2, none⟩ : Option Addr) = some ⟨b', o', none⟩ → b' < W.heap.size := fun _ b' o' e => by
     have := hb0 hne b o rfl
     by_cases hc : cap0 = 1
     ·rw [if_pos hc] at e; cases e; exact this
     ·rw [if_neg hc] at e; cases e; exact this
    have T2 := (T0.tail' (by omega)).set hbd (p := ⟨gr, 1, none⟩) S2.lr (.bool true)
    have S3 := Lib.hid ((S2.slice T2 hbd).to (Ext.refl _).drew)
    clear S2 T2 hbd T0 B0 hb0
    go_wp2_with fail
    go_region
    generalize (if cap0 = 1 then some (⟨b, o, none⟩ : Addr) else some ⟨b, o + 2, none⟩) = A' at *
    go_wp2_with fail
    go_meet
    exact S3.out
  case rest =>
   have S2 := hcut
   have hhf' := Lib.hid hhf
   clear S1 hcut hhf
   obtain ⟨a1, ha1⟩ : ∃ a1, ({ Ad.zero with half := hf } : Ad) = a1 := ⟨_, rfl⟩
   rw [ha1] at S2
   obtain ⟨iu, hiu⟩ : ∃ iu, (inner && decide (2 < l1.length)) = iu := ⟨_, rfl⟩
   obtain ⟨isU, hisU⟩ : ∃ isU, (iu && (unitP (l1.drop (l1.length - 2))).2) = isU := ⟨_, rfl⟩
   obtain ⟨l2, hl2⟩ : ∃ l2, (if isU then l1.take (l1.length - 2) else l1) = l2 := ⟨_, rfl⟩
   obtain ⟨a2, ha2⟩ : ∃ a2, ({ a1 with unit := if isU then (unitP (l1.drop (l1.length - 2))).1 else [] } : Ad) = a2 := ⟨_, rfl⟩
   obtain ⟨io, hio⟩ : ∃ io, (if isU then some (l1.drop (l1.length - 2)) else none) = io := ⟨_, rfl⟩
   have hun : a1.unit = [] := by rw [← ha1]; rfl
   have S2' := Lib.hid S2
   obtain ⟨A1, n1, cap1, B1, T1, hb1⟩ := S2.c
   have hn1 := T1.len
   subst hn1
   have h401 := T1.l40
   have hle1 := T1.le
   have c1 : wc.cell? ⟨g, 0, none⟩ = some (.slice A1 l1.length cap1) := B1.cell 0
   have lg1 := B1.lt
   clear S2
   obtain ⟨z, hz⟩ : ∃ z : Int, (l1.length : Int) - 2 = z := ⟨_, rfl⟩
   have ew : IntKind.i64.wrap ((l1.length : Int) - 2) = z := by rw [IntKind.wrap_i64]; omega
   have dz : decide ((0 : Int) < z) = decide (2 < l1.length) := by
    rw [decide_eq_decide]; omega
   replace hz := Lib.hid hz
   go_upto_region 5 with (fail)
   go_cut [45] (fun u wx => u = .bool iu ∧ wx = wc)
   case first =>
    replace hiu := Lib.hid hiu
    cases inner with
    | true =>
     go_wp2_with fail
     go_meet
     exact ⟨by rw [← hiu.out]; rfl, rfl⟩
    | false =>
     go_wp2_with fail
     go_meet
     exact ⟨by rw [← hiu.out]; rfl, rfl⟩
   case rest =>
    obtain ⟨rfl, rfl⟩ := hcut
    go_upto_if 45 with (fail)
    go_cut [6, 9, 10] (fun u _ _ wx => InIs wx W.heap.size u io ∧ StAt W wx gr g a2 l2)
    case first =>
     cases iu with
     | false =>
      have e1 : isU = false := by rw [← hisU]; rfl
      have e2 : l1 = l2 := by rw [← hl2, e1]; rfl
      have e3 : a1 = a2 := by rw [← ha2, e1]; show a1 = { a1 with unit := [] }; rw [← hun]
      have e4 : (none : Option (List Tok)) = io := by rw [← hio, e1]; rfl
      replace e2 := Lib.hid e2
      replace e3 := Lib.hid e3
      replace e4 := Lib.hid e4
      clear hisU hl2 ha2 hio e1 ha1 hl1 T1 B1
      go_wp2_with fail
      go_meet
      exact ⟨by rw [← e4.out]; rfl, by rw [← e2.out, ← e3.out]; exact S2'.out⟩
     | true =>
      have h2l : 2 < l1.length := by
       cases inner with
       | false => cases hiu
       | true => simpa using hiu
      obtain ⟨b, o, rfl, hbg⟩ := T1.ne (x := .nilIface) (y := .nilIface) B1 (by omega)
      obtain ⟨m, hm⟩ : ∃ m, m + 2 = l1.length := ⟨l1.length - 2, by omega⟩
      have hml : l1.length - 2 = m := by omega
      have hzm : z = (m : Int) := by have := hz.out; omega
      subst hzm
      rw [hml] at hisU hl2 ha2 hio
      have mz : (0 : Int) ≤ (m : Int) := by omega
      have mn : (m : Int) ≤ (l1.length : Int) := by omega
      have mc : m ≠ cap1 := by omega
      replace hm := Lib.hid hm
      clear hiu
      have hm2 := hm.out
      have TD := T1.drop (m := m) (by omega)
      have HU := Lib.hid (unit_any (l1.drop m) _ _ _ wc TD (hS.ext S2'.out.ext))
      have hbW : ∀ {k : Nat} {o' : Nat}, 0 < k → ∀ b' o'', (some ⟨b, o', none⟩ : Option Addr) = some ⟨b', o'', none⟩ → b' < W.heap.size := fun _ b' o'' e => by cases e; exact hb1 (by omega) b o rfl
      have lWgr := S2'.out.lr
      have lWg := S2'.out.lg
      clear hm2
      rw [Bool.true_and] at hisU
      go_wp2_with fail
      refine HU.out.mono ?_
      rintro e w2 ⟨rfl, hx⟩
      have S3 := S2'.out.to hx
      have TD2 := TD.ext hx
      have TT2 := (T1.take (m := m) (by omega)).ext hx
      clear HU TD
      generalize hU1 : (unitP (l1.drop m)).1 = U1 at *
      rw [hisU]
      cases isU with
      | false =>
       have e2 := Lib.hid (show l1 = l2 from hl2)
       have e3 := Lib.hid (show a1 = a2 by rw [← ha2]; show a1 = { a1 with unit := [] }; rw [← hun])
       have e4 := Lib.hid (show (none : Option (List Tok)) = io from hio)
       replace S3 := Lib.hid S3
       clear hisU hl2 ha2 hio ha1 hl1 T1 B1 TD2 TT2
       go_wp2_with fail
       go_meet
       exact ⟨by rw [← e4.out]; rfl, by rw [← e2.out, ← e3.out]; exact S3.out⟩
      | true =>
       have e2 := Lib.hid (show l1.take m = l2 from hl2)
       have e3 : ({ a1 with unit := U1 } : Ad) = a2 := ha2
       have e4 := Lib.hid (show some (l1.drop m) = io from hio)
       have c2 := (hx.cell g 0 none lg1).trans c1
       obtain ⟨_, _, _, B3, _, _⟩ := S3.c
       have f2 := B3.frozen 0
       have lg2 := B3.lt
       have r6 : w2.cell? ⟨gr, 6, none⟩ = some (.string ⟨a1.unit.toArray⟩) := S3.r.cell 6
       have f6 := S3.r.frozen 6
       have lr2 := S3.r.lt
       have hne2 := S3.ne
       have S4 := S3.put 6 (.string ⟨U1.toArray⟩) (b := a2) (by rw [← e3]; rfl)
       have T4 := TT2.set (B := W.heap.size) hbW (p := ⟨gr, 6, none⟩) lWgr (.string ⟨U1.toArray⟩)
       have S5 := Lib.hid ((S4.slice T4 hbW).to (Ext.refl _).drew)
       have T5 := Lib.hid (((TD2.set (B := W.heap.size) hbW (p := ⟨gr, 6, none⟩) lWgr (.string ⟨U1.toArray⟩)).set (B := W.heap.size) hbW (p := ⟨g, 0, none⟩) lWg (.slice (some ⟨b, o, none⟩) m cap1)).ext (Ext.refl _).drew)
       replace hbW := Lib.hid (fun (b' o'' : Nat) (e : (some ⟨b, o + m * 2, none⟩ : Option Addr) = some ⟨b', o'', none⟩) => hbW (k := 1) (by omega) b' o'' e)
       have ldr := Lib.hid (show 0 < (l1.drop m).length by rw [List.length_drop]; have := hm.out; omega)
       clear hisU hl2 ha2 hio ha1 hl1 T1 B1 TD2 TT2 S3 S4 T4 B3 hx c1 e3 lWg lWgr
       go_wp2_with fail
       go_region
       go_wp2_with fail
       go_meet
       exact ⟨by rw [← e4.out]; exact ⟨_, _, _, rfl, T5.out, ldr.out, hbW.out⟩, by rw [← e2.out]; exact S5.out⟩
    case rest =>
     obtain ⟨hI, S2⟩ := hcut
     have hP : streetP l inner = (⟨0, hf, (frontP (backP (backP l2 2).1 1).1 2).2, textsP (frontP (backP (backP l2 2).1 1).1 2).1, (backP (backP l2 2).1 1).2, (backP l2 2).2, a2.unit, [], [], [], []⟩, (frontP (backP (backP l2 2).1 1).1 2).1, io) := by
      have e1 : (if isU then (unitP (l1.drop (l1.length - 2))).1 else []) = a2.unit := by rw [← ha2]
      unfold streetP
      dsimp only
      rw [hhf'.out, hl1, hiu, hisU, hl2, e1, hio]
     have ha2' : a2 = ⟨0, hf, [], [], [], [], a2.unit, [], [], [], []⟩ := by rw [← ha2, ← ha1]; rfl
     replace hP := Lib.hid hP
     replace ha2' := Lib.hid ha2'
     have X2 := S2.ext
     replace hI := Lib.hid (fun w' (hx : Ext W w') => InIs.move (w' := w') hI X2 hx)
     have hS' := Lib.hid (fun w' (hx : Ext W w') => hS.ext hx)
     clear hisU hl2 ha2 hio ha1 hl1 hiu hz ew dz hb1 h401 hle1 c1 lg1 hun hhf' h hn h40 hle hAlt
     have HB1 := Lib.hid (cback_any l2 2 (.inr (.inl rfl)) g W.heap.size W wc S2.c hS S2.ext S2.lg)
     go_wp2_with fail
     refine HB1.out.mono ?_
     rintro e w3 ⟨rfl, hc3, hg3⟩
     have S3 := S2.turn hc3 hg3
     clear S2 hc3 hg3 HB1 X2
     generalize hb1 : backP l2 2 = b1 at *
     obtain ⟨l3, post⟩ := b1
     dsimp only at *
     have HB2 := Lib.hid (cback_any l3 1 (.inl rfl) g W.heap.size W w3 S3.c hS S3.ext S3.lg)
     go_wp2_with fail
     refine HB2.out.mono ?_
     rintro e w4 ⟨rfl, hc4, hg4⟩
     have S4 := S3.turn hc4 hg4
     clear S3 hc4 hg4 HB2
     generalize hb2 : backP l3 1 = b2 at *
     obtain ⟨l4, suf⟩ := b2
     dsimp only at *
     have HB3 := Lib.hid (cfront_any l4 2 (.inr (.inl rfl)) g W.heap.size W w4 S4.c hS S4.ext S4.lg)
     go_wp2_with fail
     refine HB3.out.mono ?_
     rintro e w5 ⟨rfl, hc5, hg5⟩
     have S5 := S4.turn hc5 hg5
     clear S4 hc5 hg5 HB3
     generalize hb3 : frontP l4 2 = b3 at *
     obtain ⟨l5, pre⟩ := b3
     dsimp only at *
     have r5 : w5.cell? ⟨gr, 5, none⟩ = some (.string ⟨a2.post.toArray⟩) := S5.r.cell 5
     have r4 : w5.cell? ⟨gr, 4, none⟩ = some (.string ⟨a2.suf.toArray⟩) := S5.r.cell 4
     have r2 : w5.cell? ⟨gr, 2, none⟩ = some (.string ⟨a2.pre.toArray⟩) := S5.r.cell 2
     have f5 := S5.r.frozen 5
     have f4 := S5.r.frozen 4
     have f2 := S5.r.frozen 2
     have lr := S5.r.lt
     have S6 := ((S5.put 5 (.string ⟨post.toArray⟩) (b := { a2 with post := post }) rfl).put 4 (.string ⟨suf.toArray⟩) (b := { a2 with post := post, suf := suf }) rfl).put 2 (.string ⟨pre.toArray⟩) (b := { a2 with post := post, suf := suf, pre := pre }) rfl
     replace S6 := Lib.hid S6
     clear S5
     go_upto_region 10 with (fail)
     clear r5 r4 r2 f5 f4 f2 lr
     generalize ((w5.setCell ⟨gr, 5, none⟩ (.string ⟨post.toArray⟩)).setCell ⟨gr, 4, none⟩ (.string ⟨suf.toArray⟩)).setCell ⟨gr, 2, none⟩ (.string ⟨pre.toArray⟩) = w6 at *
     obtain ⟨A6, n6, cap6, B6, T6, hb6⟩ := S6.out.c
     have HT := Lib.hid (text_any l5 A6 n6 cap6 g w6 B6 T6)
     clear B6 T6 hb6
     go_wp2_with fail
     refine HT.out.mono ?_
     rintro e w7 ⟨rfl, hx7⟩
     have S7 := S6.out.to hx7
     clear S6 HT hx7
     have r3 : w7.cell? ⟨gr, 3, none⟩ = some (.string ⟨a2.name.toArray⟩) := S7.r.cell 3
     have f3 := S7.r.frozen 3
     have lr := S7.r.lt
     have S8 := S7.put 3 (.string ⟨(textsP l5).toArray⟩) (b := { a2 with post := post, suf := suf, pre := pre, name := textsP l5 }) rfl
     have hA : ({ a2 with post := post, suf := suf, pre := pre, name := textsP l5 } : Ad) = ⟨0, hf, pre, textsP l5, suf, post, a2.unit, [], [], [], []⟩ := by rw [ha2'.out]
     rw [hA] at S8
     replace S8 := Lib.hid S8
     clear S7 hA
     go_upto_region 11 with (fail)
     clear r3 f3 lr
     generalize w7.setCell ⟨gr, 3, none⟩ (.string ⟨(textsP l5).toArray⟩) = w8 at *
     generalize a2.unit = un at *
     generalize textsP l5 = nm at *
     obtain ⟨A8, n8, cap8, B8, T8, hb8⟩ := S8.out.c
     have c8 : w8.cell? ⟨g, 0, none⟩ = some (.slice A8 n8 cap8) := B8.cell 0
     have lg := B8.lt
     have R8 := S8.out.r
     have lr := R8.lt
     have hne := S8.out.ne
     unfold adC at R8
     dsimp only at R8
     obtain ⟨q, q'⟩ := R8.cells
     replace R8 := Lib.hid R8
     replace B8 := Lib.hid B8
     replace T8 := Lib.hid T8
     replace hb8 := Lib.hid hb8
     go_region
     have X9 : Ext W (setAd w8 gr ⟨0, hf, pre, nm, suf, post, un, [], [], [], []⟩).drew := (setAd_ext _ S8.out.ext S8.out.lr).drew
     have R9 : Blk (setAd w8 gr ⟨0, hf, pre, nm, suf, post, un, [], [], [], []⟩).drew gr 45 (adC ⟨0, hf, pre, nm, suf, post, un, [], [], [], []⟩) := (setAd_blk ⟨0, hf, pre, nm, suf, post, un, [], [], [], []⟩ S8.out.r).ext (Ext.refl _).drew
     have T9 := T8.out.move hb8.out S8.out.ext X9
     have I9 := hI.out _ X9
     change Exit.then _ _ Exit.normal _ (setAd w8 gr ⟨0, hf, pre, nm, suf, post, un, [], [], [], []⟩).drew
     clear q q'
     generalize (setAd w8 gr ⟨0, hf, pre, nm, suf, post, un, [], [], [], []⟩).drew = w9 at *
     replace T9 := Lib.hid T9
     replace R9 := Lib.hid R9
     replace I9 := Lib.hid I9
     clear lr c8 lg
     go_wp2_with fail
     refine bodyPost_ret (results_ct2 rfl rfl (ld_ad R9.out)) rfl ⟨A8, n8, cap8, u6, ?_, ?_, ?_, X9⟩
     ·rw [hP.out]; rfl
     ·rw [hP.out]; exact T9.out
     ·rw [hP.out]; exact I9.out
end Go.Proofs.YtjaponmpfdpemaaGreatDoor
