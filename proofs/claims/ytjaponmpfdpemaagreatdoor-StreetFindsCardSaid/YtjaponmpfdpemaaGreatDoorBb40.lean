/-
  street: none, Find, Len of a table that New made.
-/
import Derived.Test.YtjaponmpfdpemaaGreatDoorBb05
import Derived.Test.YtjaponmpfdpemaaGreatDoorBb23
import Derived.Test.YtjaponmpfdpemaaGreatDoorBb39
set_option linter.unusedSimpArgs false
set_option linter.unusedVariables false
namespace Go.Proofs.YtjaponmpfdpemaaGreatDoor
open Go.RowKit Go.Maps
set_option maxRecDepth 100000 in
theorem srnone_at (W : World) (tb : Nat) (m n : Value) (b : Bool) (h : Blk W tb 61 #[m, n, .bool b]) : Calls Tryz.prog 48 #[.pointer (some ⟨tb, 0, none⟩)] W fun e w' => e = .returned (.bool (!b)) ∧ w' = W := by
 obtain ⟨q, _⟩ := h.cells
 have lt := h.lt
 clear h
 go_enter Tryz.func48, Tryz.ntmps48
 go_wp2_with fail
 go_ret
 exact ⟨rfl, rfl⟩
set_option maxRecDepth 100000 in
theorem srlen_at (W : World) (tb : Nat) (m : Value) (n : Int) (b : Bool) (h : Blk W tb 61 #[m, .int .i64 n, .bool b]) : Calls Tryz.prog 29 #[.pointer (some ⟨tb, 0, none⟩)] W fun e w' => e = .returned (.int .i64 (if b then n else 0)) ∧ w' = W := by
 have HN := Lib.hid (srnone_at W tb m (.int .i64 n) b h)
 obtain ⟨q, _⟩ := h.cells
 have lt := h.lt
 clear h
 cases b
 all_goals
  go_enter Tryz.func29, Tryz.ntmps29
  go_wp2_with fail
  refine HN.out.mono ?_
  rintro e w1 ⟨rfl, rfl⟩
  go_wp2_with fail
  go_ret
  exact ⟨rfl, rfl⟩
theorem StrAt.ext {w0 W W' : World} {tb n : Nat} {T : STab} (h : StrAt w0 W tb n T) (hx : Ext W W') : StrAt w0 W' tb n T := by
 obtain ⟨ml, c, h1, h2, h3, h4, h5⟩ := h.ex
 exact ⟨ml, c, h1, h2.ext hx, h3.ext hx, h4, h5⟩
theorem own_rd {w : World} {base : Nat} {e : TypeId} {size n c : Nat} {A : Option Addr} {xs : List Value} (h : w.ownsRow base e size (.slice A n c) n xs) : Reads w w.heap.size size A n xs := by
 obtain ⟨A', c', he, _, _, hr⟩ := own_slice h
 injection he with h1 _ h3
 subst h1
 exact hr
theorem StrAt.far {w0 W : World} {tb n : Nat} {T : STab} (h : StrAt w0 W tb n T) {p : Addr} (hp : p.block < w0.heap.size) (u : Value) : StrAt w0 (W.setCell p u) tb n T := by
 obtain ⟨ml, c, h1, h2, h3, h4, h5⟩ := h.ex
 refine ⟨ml, c, h1, h2.far (by omega) u, ?_, h4, h5⟩
 obtain ⟨D, hm, hk⟩ := h3.ex
 refine ⟨D, hm.setCell (by omega) u, fun k hk' => ?_⟩
 obtain ⟨v0, v1, x, y, q1, q2, q3, q4, q5⟩ := hk k hk'
 exact ⟨v0, v1, x, y, q1, q2, q3, own_set q4 (own_ne_old q4 hp) u, own_set q5 (own_ne_old q5 hp) u⟩
structure SrTab (T : STab) (n : Nat) : Prop where
 ok : STabOk n T
 sh0 : ∀ k, ∀ s ∈ (T k).1, SrS s 1000
 sh1 : ∀ k, ∀ s ∈ (T k).2, SrS s 1000
 le : n ≤ 1000
theorem SrTab.row {T : STab} {n : Nat} (h : SrTab T n) (k : List Bs) (p : Int) (hp : p = 0 ∨ p = 1) : Row p (rowT_ (T k) p) ∧ (rowT_ (T k) p).length ≤ 1000 ∧ ∀ s ∈ rowT_ (T k) p, SrS s 1000 := by
 have := h.le
 rcases hp with rfl | rfl
 ·exact ⟨h.ok.even k, Nat.le_trans (h.ok.le0 k) this, h.sh0 k⟩
 ·exact ⟨h.ok.odd k, Nat.le_trans (h.ok.le1 k) this, h.sh1 k⟩
theorem AdS.okK {a : Ad} (h : AdS a 1000) : OkK a.key := ⟨rfl, fun b hb => by
 simp only [Ad.key, List.mem_cons, List.not_mem_nil, or_false] at hb
 rcases hb with rfl | rfl | rfl | rfl | rfl | rfl
 ·have := h.state; omega
 ·have := h.city; omega
 ·have := h.pre; omega
 ·have := h.name; omega
 ·have := h.suf; omega
 ·have := h.post; omega⟩
theorem findP_at (T : STab) (a : Ad) : findP T a = if checkP a ≠ 0 then (((0 : Int), (0 : Int)), (2 : Int)) else
  if plF (rowT_ (T a.key) (a.n.tmod 2)) (a.n.tmod 2) a.n = true then (match (rowT_ (T a.key) (a.n.tmod 2))[plK (rowT_ (T a.key) (a.n.tmod 2)) (a.n.tmod 2) a.n]? with | some s => ((s.at_ a.n).1, 0) | none => ((0, 0), 6)) else ((0, 0), 6) := by
 unfold findP plF
 by_cases hc : checkP a ≠ 0
 ·rw [if_pos hc, if_pos hc]
 ·rw [if_neg hc, if_neg hc]
  dsimp only
  cases (rowT_ (T a.key) (a.n.tmod 2))[plK (rowT_ (T a.key) (a.n.tmod 2)) (a.n.tmod 2) a.n]? with
  | none => simp
  | some s => simp only [decide_eq_true_eq]
theorem ix_side (v0 v1 : Value) (p : Int) (hp : p = 0 ∨ p = 1) (W : World) : (Instr.index 72 (.agg #[v0, v1]) (.int .i64 p)).run Tryz.prog W = .ok (if p = 0 then v0 else v1) W := by
 rcases hp with rfl | rfl
 ·kernel_rfl
 ·kernel_rfl
set_option maxRecDepth 100000 in
set_option maxHeartbeats 4000000 in
theorem srfind_any (a : Ad) (h : AdS a 1000) (w00 W : World) (hS : Std W) (tb n : Nat) (T : STab) (hT : StrAt w00 W tb n T) (hR : SrTab T n) : Calls Tryz.prog 22 #[.pointer (some ⟨tb, 0, none⟩), adV a] W fun e w' => e = .returned (.tuple #[ptV (findP T a).1, .int .i64 (findP T a).2]) ∧ Ext W w' := by
 obtain ⟨ml, c, hcn, hB, hM, hb1, hb2⟩ := hT.ex
 have HN := Lib.hid (fun w (hx : Ext W w) => srnone_at w tb _ _ true (hB.ext hx))
 have HC := Lib.hid (fun w (hx : Ext W w) => adcheck_any a h w (hS.ext hx))
 have HS := Lib.hid (fun w (hx : Ext W w) => hS.ext hx)
 have hFP := findP_at T a
 obtain ⟨R, hRR⟩ : ∃ R, findP T a = R := ⟨_, rfl⟩
 rw [hRR] at hFP ⊢
 clear hRR
 by_cases hc : checkP a = 0
 rotate_left
 ·rw [if_pos hc] at hFP
  have hqb : (checkP a != 0) = true := by simpa using hc
  generalize checkP a = q at *
  clear hT hR hS hM hB h
  rw [adV_eq] at HC ⊢
  obtain ⟨zn, zh, zpre, zname, zsuf, zpost, zunit, zcity, zstate, zzip, zmore⟩ := a
  dsimp only at *
  subst hFP
  have X2 := ((Ext.refl W).alloc (.cells #[.int .i64 zn, .bool zh, .string ⟨zpre.toArray⟩, .string ⟨zname.toArray⟩, .string ⟨zsuf.toArray⟩, .string ⟨zpost.toArray⟩, .string ⟨zunit.toArray⟩, .string ⟨zcity.toArray⟩, .string ⟨zstate.toArray⟩, .string ⟨zzip.toArray⟩, .string ⟨zmore.toArray⟩] 45)).alloc (.cells #[.int .i64 0, .int .i64 0] 23)
  have BA := (Blk.new W 45 #[.int .i64 zn, .bool zh, .string ⟨zpre.toArray⟩, .string ⟨zname.toArray⟩, .string ⟨zsuf.toArray⟩, .string ⟨zpost.toArray⟩, .string ⟨zunit.toArray⟩, .string ⟨zcity.toArray⟩, .string ⟨zstate.toArray⟩, .string ⟨zzip.toArray⟩, .string ⟨zmore.toArray⟩]).alloc (.cells #[.int .i64 0, .int .i64 0] 23)
  have BP := Blk.new (W.alloc (.cells #[.int .i64 zn, .bool zh, .string ⟨zpre.toArray⟩, .string ⟨zname.toArray⟩, .string ⟨zsuf.toArray⟩, .string ⟨zpost.toArray⟩, .string ⟨zunit.toArray⟩, .string ⟨zcity.toArray⟩, .string ⟨zstate.toArray⟩, .string ⟨zzip.toArray⟩, .string ⟨zmore.toArray⟩] 45)) 23 #[.int .i64 0, .int .i64 0]
  rw [show (W.alloc (.cells #[.int .i64 zn, .bool zh, .string ⟨zpre.toArray⟩, .string ⟨zname.toArray⟩, .string ⟨zsuf.toArray⟩, .string ⟨zpost.toArray⟩, .string ⟨zunit.toArray⟩, .string ⟨zcity.toArray⟩, .string ⟨zstate.toArray⟩, .string ⟨zzip.toArray⟩, .string ⟨zmore.toArray⟩] 45)).heap.size = W.heap.size + 1 by simp] at BP
  go_enter Tryz.func22, Tryz.ntmps22
  go_wp2_with fail
  generalize (W.alloc (.cells #[.int .i64 zn, .bool zh, .string ⟨zpre.toArray⟩, .string ⟨zname.toArray⟩, .string ⟨zsuf.toArray⟩, .string ⟨zpost.toArray⟩, .string ⟨zunit.toArray⟩, .string ⟨zcity.toArray⟩, .string ⟨zstate.toArray⟩, .string ⟨zzip.toArray⟩, .string ⟨zmore.toArray⟩] 45)).alloc (.cells #[.int .i64 0, .int .i64 0] 23) = w0 at *
  have hle : W.heap.size ≤ W.heap.size + 1 := by omega
  obtain ⟨gp, hgp⟩ : ∃ gp, W.heap.size + 1 = gp := ⟨_, rfl⟩
  rw [hgp] at BP hle ⊢
  obtain ⟨ga, hga⟩ : ∃ ga, W.heap.size = ga := ⟨_, rfl⟩
  rw [hga] at BA ⊢
  have hle2 : W.heap.size ≤ gp := hle
  clear hgp hga hle
  replace BA := Lib.hid BA
  replace BP := Lib.hid BP
  have X0 := Lib.hid X2
  clear X2
  refine (HN.out _ X0.out).mono ?_
  rintro e w1 ⟨rfl, rfl⟩
  obtain ⟨qa, _⟩ := BA.out.cells
  have la := BA.out.lt
  go_wp2_with fail
  refine (HC.out _ X0.out).mono ?_
  rintro e w2 ⟨rfl, hx2⟩
  have BE := Lib.hid (pt_set (BP.out.ext hx2) (.int .i64 0) (.int .i64 0))
  have XE := Lib.hid (((X0.out.trans hx2).set (p := ⟨gp, 0, none⟩) hle2 (.int .i64 0)).set (p := ⟨gp, 1, none⟩) hle2 (.int .i64 0))
  obtain ⟨p4, p4'⟩ := (BP.out.ext hx2).cells
  have l4 := (BP.out.ext hx2).lt
  clear hx2 hc
  go_wp2_with fail
  exact bodyPost_ret (results_ct rfl rfl (ld_pt BE.out)) rfl ⟨rfl, XE.out⟩
 ·rw [if_neg (by simp [hc])] at hFP
  have hn := checkP_ok hc
  have hp : a.n.tmod 2 = 0 ∨ a.n.tmod 2 = 1 := by
   have := hn.n1
   rw [tmod2 (by omega)]; omega
  obtain ⟨hRow, hl10, hSh⟩ := hR.row a.key _ hp
  obtain ⟨v0, v1, hrun, ho0, ho1⟩ := hM.lookE _ h.okK
  obtain ⟨A2, n2, c2, hV, ho2, hn2⟩ : ∃ A2 n2 c2, (if a.n.tmod 2 = 0 then v0 else v1) = .slice A2 n2 c2 ∧ W.ownsRow w00.heap.size 25 13 (.slice A2 n2 c2) n2 (srCells (rowT_ (T a.key) (a.n.tmod 2))) ∧ (rowT_ (T a.key) (a.n.tmod 2)).length = n2 := by
   rcases hp with e | e
   ·rw [e]
    obtain ⟨A2, c2, rfl, _⟩ := own_slice ho0
    exact ⟨A2, _, c2, rfl, ho0, rfl⟩
   ·rw [e]
    obtain ⟨A2, c2, rfl, _⟩ := own_slice ho1
    exact ⟨A2, _, c2, rfl, ho1, rfl⟩
  have hix := fun w => ix_side v0 v1 _ hp w
  rw [hV] at hix
  generalize rowT_ (T a.key) (a.n.tmod 2) = r at *
  have hr2 := own_rd ho2
  have HP := Lib.hid (fun w (hx : Ext W w) => (show Calls Tryz.prog 42 #[.slice A2 n2 c2, .int .i64 a.n, .int .i64 (a.n.tmod 2)] w fun e w' => e = .returned (.tuple #[.int .i64 (plK r (a.n.tmod 2) a.n : Int), .bool (plF r (a.n.tmod 2) a.n)]) ∧ Ext w w' by
   subst hn2
   exact srplace_any r (fun s hm => (hRow.mem s hm).1) _ a.n (hRow.mono _) A2 c2 w (hr2.ext hx) (by omega)))
  have HAt := Lib.hid (fun (k : Nat) (hk : k < r.length) w (hx : Ext W w) => srat_any r[k] (hSh _ (List.getElem_mem hk)) a.n w (hS.ext hx))
  have HCell := Lib.hid (fun (k : Nat) (hk : k < r.length) w (hx : Ext W w) => sr_at (l := r) (by rw [hn2]; exact hr2.ext hx) hk)
  have hpl : plF r (a.n.tmod 2) a.n = true → plK r (a.n.tmod 2) a.n < r.length := fun e => by
   unfold plF at e
   split at e
   ·rename_i s hs
    exact (List.getElem?_eq_some_iff.1 hs).1
   ·cases e
  replace hpl := Lib.hid hpl
  have FT := Lib.hid (fun w (hx : Ext W w) => (show w.cell? ⟨tb, 0, none⟩ = some (.map (some ml)) ∧ tb < w.heap.size from ⟨(hB.ext hx).cell 0, (hB.ext hx).lt⟩))
  replace hn2 := Lib.hid hn2
  generalize plK r (a.n.tmod 2) a.n = K at *
  generalize plF r (a.n.tmod 2) a.n = F at *
  rw [hc] at HC
  have hpp : a.n.tmod 2 = a.n.tmod 2 := rfl
  obtain ⟨pp, hpp⟩ : ∃ pp, a.n.tmod 2 = pp := ⟨_, rfl⟩
  rw [hpp] at HP hix
  clear hT hR hS hM hB h hRow hSh ho0 ho1 ho2 hr2 hV hp hn hc hl10
  unfold keyV Ad.key at hrun
  rw [adV_eq] at HC ⊢
  obtain ⟨zn, zh, zpre, zname, zsuf, zpost, zunit, zcity, zstate, zzip, zmore⟩ := a
  dsimp only at *
  have HR : Hid (∀ w, Ext W w → (Instr.lookup 59 (.map (some ml)) (.agg #[.string ⟨zstate.toArray⟩, .string ⟨zcity.toArray⟩, .string ⟨zpre.toArray⟩, .string ⟨zname.toArray⟩, .string ⟨zsuf.toArray⟩, .string ⟨zpost.toArray⟩]) false).run Tryz.prog w = .ok (.agg #[v0, v1]) w) := Lib.hid (fun w hx => hrun w hx)
  clear hrun
  have X2 := ((Ext.refl W).alloc (.cells #[.int .i64 zn, .bool zh, .string ⟨zpre.toArray⟩, .string ⟨zname.toArray⟩, .string ⟨zsuf.toArray⟩, .string ⟨zpost.toArray⟩, .string ⟨zunit.toArray⟩, .string ⟨zcity.toArray⟩, .string ⟨zstate.toArray⟩, .string ⟨zzip.toArray⟩, .string ⟨zmore.toArray⟩] 45)).alloc (.cells #[.int .i64 0, .int .i64 0] 23)
  have BA := (Blk.new W 45 #[.int .i64 zn, .bool zh, .string ⟨zpre.toArray⟩, .string ⟨zname.toArray⟩, .string ⟨zsuf.toArray⟩, .string ⟨zpost.toArray⟩, .string ⟨zunit.toArray⟩, .string ⟨zcity.toArray⟩, .string ⟨zstate.toArray⟩, .string ⟨zzip.toArray⟩, .string ⟨zmore.toArray⟩]).alloc (.cells #[.int .i64 0, .int .i64 0] 23)
  have BP := Blk.new (W.alloc (.cells #[.int .i64 zn, .bool zh, .string ⟨zpre.toArray⟩, .string ⟨zname.toArray⟩, .string ⟨zsuf.toArray⟩, .string ⟨zpost.toArray⟩, .string ⟨zunit.toArray⟩, .string ⟨zcity.toArray⟩, .string ⟨zstate.toArray⟩, .string ⟨zzip.toArray⟩, .string ⟨zmore.toArray⟩] 45)) 23 #[.int .i64 0, .int .i64 0]
  rw [show (W.alloc (.cells #[.int .i64 zn, .bool zh, .string ⟨zpre.toArray⟩, .string ⟨zname.toArray⟩, .string ⟨zsuf.toArray⟩, .string ⟨zpost.toArray⟩, .string ⟨zunit.toArray⟩, .string ⟨zcity.toArray⟩, .string ⟨zstate.toArray⟩, .string ⟨zzip.toArray⟩, .string ⟨zmore.toArray⟩] 45)).heap.size = W.heap.size + 1 by simp] at BP
  go_enter Tryz.func22, Tryz.ntmps22
  go_wp2_with fail
  generalize (W.alloc (.cells #[.int .i64 zn, .bool zh, .string ⟨zpre.toArray⟩, .string ⟨zname.toArray⟩, .string ⟨zsuf.toArray⟩, .string ⟨zpost.toArray⟩, .string ⟨zunit.toArray⟩, .string ⟨zcity.toArray⟩, .string ⟨zstate.toArray⟩, .string ⟨zzip.toArray⟩, .string ⟨zmore.toArray⟩] 45)).alloc (.cells #[.int .i64 0, .int .i64 0] 23) = w0 at *
  have hle : W.heap.size ≤ W.heap.size + 1 := by omega
  obtain ⟨gp, hgp⟩ : ∃ gp, W.heap.size + 1 = gp := ⟨_, rfl⟩
  rw [hgp] at BP hle ⊢
  obtain ⟨ga, hga⟩ : ∃ ga, W.heap.size = ga := ⟨_, rfl⟩
  rw [hga] at BA ⊢
  have hle2 : W.heap.size ≤ gp := hle
  clear hgp hga hle
  replace BA := Lib.hid BA
  replace BP := Lib.hid BP
  have X0 := Lib.hid X2
  clear X2
  refine (HN.out _ X0.out).mono ?_
  rintro e w1 ⟨rfl, rfl⟩
  obtain ⟨qa, _⟩ := BA.out.cells
  have la := BA.out.lt
  go_wp2_with fail
  refine (HC.out _ X0.out).mono ?_
  rintro e w2 ⟨rfl, hx2⟩
  have X2 := Lib.hid (X0.out.trans hx2)
  replace BA := Lib.hid (BA.out.ext hx2)
  replace BP := Lib.hid (BP.out.ext hx2)
  clear hx2 qa la X0 HN HC
  obtain ⟨qa, _⟩ := BA.out.cells
  have la := BA.out.lt
  go_upto_region 6 with (fail)
  have HQ := Lib.hid (fun w' (hx : Ext w2 w') => (show w'.cell? ⟨tb, 0, none⟩ = some (.map (some ml)) ∧ (w'.cell? ⟨ga, 0, none⟩ = some (.int .i64 zn) ∧ w'.cell? ⟨ga, 1, none⟩ = some (.bool zh) ∧ w'.cell? ⟨ga, 2, none⟩ = some (.string ⟨zpre.toArray⟩) ∧ w'.cell? ⟨ga, 3, none⟩ = some (.string ⟨zname.toArray⟩) ∧ w'.cell? ⟨ga, 4, none⟩ = some (.string ⟨zsuf.toArray⟩) ∧ w'.cell? ⟨ga, 5, none⟩ = some (.string ⟨zpost.toArray⟩) ∧ w'.cell? ⟨ga, 6, none⟩ = some (.string ⟨zunit.toArray⟩) ∧ w'.cell? ⟨ga, 7, none⟩ = some (.string ⟨zcity.toArray⟩) ∧ w'.cell? ⟨ga, 8, none⟩ = some (.string ⟨zstate.toArray⟩) ∧ w'.cell? ⟨ga, 9, none⟩ = some (.string ⟨zzip.toArray⟩) ∧ w'.cell? ⟨ga, 10, none⟩ = some (.string ⟨zmore.toArray⟩)) ∧ (Instr.lookup 59 (.map (some ml)) (.agg #[.string ⟨zstate.toArray⟩, .string ⟨zcity.toArray⟩, .string ⟨zpre.toArray⟩, .string ⟨zname.toArray⟩, .string ⟨zsuf.toArray⟩, .string ⟨zpost.toArray⟩]) false).run Tryz.prog w' = .ok (.agg #[v0, v1]) w' from
   have B := BA.out.ext hx
   ⟨(FT.out _ (X2.out.trans hx)).1, ⟨B.cell 0, B.cell 1, B.cell 2, B.cell 3, B.cell 4, B.cell 5, B.cell 6, B.cell 7, B.cell 8, B.cell 9, B.cell 10⟩, HR.out _ (X2.out.trans hx)⟩))
  obtain ⟨m0, ⟨m1, m2, m3, m4, m5, m6, m7, m8, m9, m10, m11⟩, m12⟩ := HQ.out _ (Ext.refl w2)
  clear qa
  go_region_held3 (fun w' => w'.cell? ⟨tb, 0, none⟩ = some (.map (some ml)) ∧ (w'.cell? ⟨ga, 0, none⟩ = some (.int .i64 zn) ∧ w'.cell? ⟨ga, 1, none⟩ = some (.bool zh) ∧ w'.cell? ⟨ga, 2, none⟩ = some (.string ⟨zpre.toArray⟩) ∧ w'.cell? ⟨ga, 3, none⟩ = some (.string ⟨zname.toArray⟩) ∧ w'.cell? ⟨ga, 4, none⟩ = some (.string ⟨zsuf.toArray⟩) ∧ w'.cell? ⟨ga, 5, none⟩ = some (.string ⟨zpost.toArray⟩) ∧ w'.cell? ⟨ga, 6, none⟩ = some (.string ⟨zunit.toArray⟩) ∧ w'.cell? ⟨ga, 7, none⟩ = some (.string ⟨zcity.toArray⟩) ∧ w'.cell? ⟨ga, 8, none⟩ = some (.string ⟨zstate.toArray⟩) ∧ w'.cell? ⟨ga, 9, none⟩ = some (.string ⟨zzip.toArray⟩) ∧ w'.cell? ⟨ga, 10, none⟩ = some (.string ⟨zmore.toArray⟩)) ∧ (Instr.lookup 59 (.map (some ml)) (.agg #[.string ⟨zstate.toArray⟩, .string ⟨zcity.toArray⟩, .string ⟨zpre.toArray⟩, .string ⟨zname.toArray⟩, .string ⟨zsuf.toArray⟩, .string ⟨zpost.toArray⟩]) false).run Tryz.prog w' = .ok (.agg #[v0, v1]) w')
   (with_reducible refine HQ.out _ ?_; repeat (first | (with_reducible assumption) | (with_reducible exact Ext.refl _) | (with_reducible refine Ext.drew ?_)))
   (fail)
  clear m0 m1 m2 m3 m4 m5 m6 m7 m8 m9 m10 m11 m12
  have hx3 := (Ext.refl w2).drew
  generalize w2.drew = w3 at *
  have X3 := Lib.hid (X2.out.trans hx3)
  replace BA := Lib.hid (BA.out.ext hx3)
  replace BP := Lib.hid (BP.out.ext hx3)
  clear hx3 X2 HQ hix HR
  obtain ⟨qa, _⟩ := BA.out.cells
  have la := BA.out.lt
  go_wp2_with fail
  refine (HP.out _ X3.out).mono ?_
  rintro e w4 ⟨rfl, hx⟩
  have X4 := Lib.hid (X3.out.trans hx)
  replace BA := Lib.hid (BA.out.ext hx)
  replace BP := Lib.hid (BP.out.ext hx)
  clear hx X3 HP qa la
  cases F with
  | false =>
   have hE := Lib.hid (show R = ((0, 0), 6) from hFP)
   clear hFP
   have BE := Lib.hid (pt_set BP.out (.int .i64 0) (.int .i64 0))
   have XE := Lib.hid ((X4.out.set (p := ⟨gp, 0, none⟩) hle2 (.int .i64 0)).set (p := ⟨gp, 1, none⟩) hle2 (.int .i64 0))
   obtain ⟨p4, p4'⟩ := BP.out.cells
   have l4 := BP.out.lt
   go_wp2_with fail
   exact bodyPost_ret (results_ct rfl rfl (ld_pt BE.out)) rfl ⟨by rw [hE.out]; rfl, XE.out⟩
  | true =>
   have hK := hpl.out rfl
   have hE := hFP
   rw [if_pos rfl, List.getElem?_eq_getElem hK] at hE
   dsimp only at hE
   have kz : (0 : Int) ≤ (K : Int) := by omega
   have kn : (K : Int) < (n2 : Int) := by have := hn2.out; omega
   have HA := Lib.hid (HAt.out K hK)
   obtain ⟨g, off, rfl, hg, c0, c1, c2, c3, c4, c5, c6, c7, c8, c9, c10, c11, c12⟩ := HCell.out K hK _ X4.out
   have HC4 := Lib.hid (fun w (hx : Ext W w) => (HCell.out K hK w hx))
   clear hFP hpl HAt HCell
   simp only [srV_eq] at HA
   generalize r[K] = x at *
   obtain ⟨⟨⟨px, py⟩, bb⟩, hat⟩ : ∃ q, x.at_ zn = q := ⟨_, rfl⟩
   rw [hat] at HA hE
   unfold ptV at HA
   dsimp only at HA hE
   replace hE := Lib.hid hE
   clear hat
   obtain ⟨qa, _⟩ := BA.out.cells
   have la := BA.out.lt
   go_upto_region 10 with (fail)
   obtain ⟨BA4, BP4⟩ : Hid (Blk w4 ga 45 #[.int .i64 zn, .bool zh, .string ⟨zpre.toArray⟩, .string ⟨zname.toArray⟩, .string ⟨zsuf.toArray⟩, .string ⟨zpost.toArray⟩, .string ⟨zunit.toArray⟩, .string ⟨zcity.toArray⟩, .string ⟨zstate.toArray⟩, .string ⟨zzip.toArray⟩, .string ⟨zmore.toArray⟩]) ∧ Hid (Blk w4 gp 23 #[.int .i64 0, .int .i64 0]) := ⟨BA, BP⟩
   have hS4 := Lib.hid (fun w' (hx : Ext w4 w') => (show (w'.cell? ⟨g, off + K * 13, none⟩ = some (.string ⟨x.state.toArray⟩) ∧ w'.cell? ⟨g, off + K * 13 + 1, none⟩ = some (.string ⟨x.city.toArray⟩) ∧ w'.cell? ⟨g, off + K * 13 + 2, none⟩ = some (.string ⟨x.pre.toArray⟩) ∧ w'.cell? ⟨g, off + K * 13 + 3, none⟩ = some (.string ⟨x.name.toArray⟩) ∧ w'.cell? ⟨g, off + K * 13 + 4, none⟩ = some (.string ⟨x.suf.toArray⟩) ∧ w'.cell? ⟨g, off + K * 13 + 5, none⟩ = some (.string ⟨x.post.toArray⟩) ∧ w'.cell? ⟨g, off + K * 13 + 6, none⟩ = some (.int .i64 x.fr) ∧ w'.cell? ⟨g, off + K * 13 + 7, none⟩ = some (.int .i64 x.to_) ∧ w'.cell? ⟨g, off + K * 13 + 8, none⟩ = some (.int .i64 x.side) ∧ w'.cell? ⟨g, off + K * 13 + 9, none⟩ = some (.int .i64 x.ax) ∧ w'.cell? ⟨g, off + K * 13 + 10, none⟩ = some (.int .i64 x.ay) ∧ w'.cell? ⟨g, off + K * 13 + 11, none⟩ = some (.int .i64 x.bx) ∧ w'.cell? ⟨g, off + K * 13 + 12, none⟩ = some (.int .i64 x.by_)) ∧ w'.cell? ⟨ga, 0, none⟩ = some (.int .i64 zn) from
    ⟨⟨(hx.cell _ _ none hg).trans c0, (hx.cell _ _ none hg).trans c1, (hx.cell _ _ none hg).trans c2, (hx.cell _ _ none hg).trans c3, (hx.cell _ _ none hg).trans c4, (hx.cell _ _ none hg).trans c5, (hx.cell _ _ none hg).trans c6, (hx.cell _ _ none hg).trans c7, (hx.cell _ _ none hg).trans c8, (hx.cell _ _ none hg).trans c9, (hx.cell _ _ none hg).trans c10, (hx.cell _ _ none hg).trans c11, (hx.cell _ _ none hg).trans c12⟩, (BA4.out.ext hx).cell 0⟩))
   replace HA := Lib.hid (fun w (hx : Ext w4 w) => HA.out w (X4.out.trans hx))
   have a0 := qa 0
   simp only [List.getElem?_toArray, List.getElem?_cons_zero] at a0
   clear qa la
   go_region_held3 (fun w' => (w'.cell? ⟨g, off + K * 13, none⟩ = some (.string ⟨x.state.toArray⟩) ∧ w'.cell? ⟨g, off + K * 13 + 1, none⟩ = some (.string ⟨x.city.toArray⟩) ∧ w'.cell? ⟨g, off + K * 13 + 2, none⟩ = some (.string ⟨x.pre.toArray⟩) ∧ w'.cell? ⟨g, off + K * 13 + 3, none⟩ = some (.string ⟨x.name.toArray⟩) ∧ w'.cell? ⟨g, off + K * 13 + 4, none⟩ = some (.string ⟨x.suf.toArray⟩) ∧ w'.cell? ⟨g, off + K * 13 + 5, none⟩ = some (.string ⟨x.post.toArray⟩) ∧ w'.cell? ⟨g, off + K * 13 + 6, none⟩ = some (.int .i64 x.fr) ∧ w'.cell? ⟨g, off + K * 13 + 7, none⟩ = some (.int .i64 x.to_) ∧ w'.cell? ⟨g, off + K * 13 + 8, none⟩ = some (.int .i64 x.side) ∧ w'.cell? ⟨g, off + K * 13 + 9, none⟩ = some (.int .i64 x.ax) ∧ w'.cell? ⟨g, off + K * 13 + 10, none⟩ = some (.int .i64 x.ay) ∧ w'.cell? ⟨g, off + K * 13 + 11, none⟩ = some (.int .i64 x.bx) ∧ w'.cell? ⟨g, off + K * 13 + 12, none⟩ = some (.int .i64 x.by_)) ∧ w'.cell? ⟨ga, 0, none⟩ = some (.int .i64 zn))
    (with_reducible refine hS4.out _ ?_; repeat (first | (with_reducible assumption) | (with_reducible exact Ext.refl _) | (with_reducible refine Ext.drew ?_) | (with_reducible refine Ext.alloc ?_ _) | (with_reducible refine Ext.set ?_ (by first | exact Nat.le_refl _ | exact Ext.size (by assumption)) _)))
    (first
     | (go_at_call 12; refine (HA.out _ (by repeat (first | (with_reducible assumption) | (with_reducible exact Ext.refl _) | (with_reducible refine Ext.drew ?_) | (with_reducible refine Ext.alloc ?_ _)))).mono ?_; rintro e w5 ⟨rfl, hx5⟩; have hy5 : Ext w4 w5 := Ext.trans (by repeat (first | (with_reducible assumption) | (with_reducible exact Ext.refl _) | (with_reducible refine Ext.drew ?_) | (with_reducible refine Ext.alloc ?_ _))) hx5; have h8 : Blk w5 w4.heap.size 23 #[.int .i64 0, .int .i64 0] := (Blk.new w4.drew 23 #[.int .i64 0, .int .i64 0]).ext hx5; obtain ⟨b8, b8'⟩ := h8.cells; have l8 := h8.lt; have H8 := Lib.hid h8; clear hx5 h8)
     | (go_at_call 12; refine (HA.out _ (by repeat (first | (with_reducible assumption) | (with_reducible exact Ext.refl _) | (with_reducible refine Ext.drew ?_) | (with_reducible refine Ext.alloc ?_ _)))).mono ?_; rintro e w5 ⟨rfl, hx5⟩; have hy5 : Ext w4 w5 := Ext.trans (by repeat (first | (with_reducible assumption) | (with_reducible exact Ext.refl _) | (with_reducible refine Ext.drew ?_) | (with_reducible refine Ext.alloc ?_ _))) hx5; clear hx5))
   all_goals rename_i hh; clear hh
   all_goals first
    | (have B8 := (H8.out.set_ 0 (.int .i64 px)).set_ 1 (.int .i64 py)
       have X8 := (hy5.set (p := ⟨w4.heap.size, 0, none⟩) (Nat.le_refl _) (.int .i64 px)).set (p := ⟨w4.heap.size, 1, none⟩) (Nat.le_refl _) (.int .i64 py)
       have hlt := BP4.out.lt
       clear b8 b8' l8 H8 hy5
       generalize (w5.setCell ⟨w4.heap.size, 0, none⟩ (.int .i64 px)).setCell ⟨w4.heap.size, 1, none⟩ (.int .i64 py) = W5 at *
       have hne : w4.heap.size ≠ gp := by omega
       generalize w4.heap.size = g8 at *)
    | (have B8 := Blk.new w5 23 #[.int .i64 px, .int .i64 py]
       have X8 := hy5.alloc (.cells #[.int .i64 px, .int .i64 py] 23)
       have hlt := (BP4.out.ext hy5).lt
       clear hy5
       generalize w5.alloc (.cells #[.int .i64 px, .int .i64 py] 23) = W5 at *
       have hne : w5.heap.size ≠ gp := by omega
       generalize w5.heap.size = g8 at *)
   all_goals
    have BE := Lib.hid (pt_set (BP4.out.ext X8) (.int .i64 px) (.int .i64 py))
    have XE := Lib.hid (((X4.out.trans X8).set (p := ⟨gp, 0, none⟩) hle2 (.int .i64 px)).set (p := ⟨gp, 1, none⟩) hle2 (.int .i64 py))
    obtain ⟨p4, p4'⟩ := (BP4.out.ext X8).cells
    have l4 := (BP4.out.ext X8).lt
    obtain ⟨r4, _⟩ := B8.cells
    have l8 := B8.lt
    clear B8 X8 hlt
    go_wp2_with fail
    exact bodyPost_ret (results_ct rfl rfl (ld_pt BE.out)) rfl ⟨by rw [hE.out]; rfl, XE.out⟩
end Go.Proofs.YtjaponmpfdpemaaGreatDoor
