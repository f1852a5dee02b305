/-
  The statement RemitAll: the walk.
-/
import Derived.Test.YtokakpbpenndlaaGreatDoorRs42
import Derived.Test.YtokakpbpenndlaaGreatDoorRs45
import Derived.Test.YtokakpbpenndlaaGreatDoorRs44
import Derived.Deep.CutBlock
import Derived.Deep.DeepCutAuto
import Derived.StillTailTactics
set_option linter.unusedVariables false
namespace Go.Proofs.YtokakpbpenndlaaGreatDoor
open Go.RowKit Go.Maps Go.Sort Go.Shelf

theorem One.movesO {w W : World} {bb mb : Nat} {K : Bk} (h : One w W bb mb K) (j : Int) (hs : K.small) (hk : K.length ≤ 100000) {l : List Mv} (hl : K.moves j = l) :
    Calls Tryz.prog 41 #[.pointer (some ⟨bb, 0, none⟩), .int .i64 j] W fun r W' => ∃ A c, r = .returned (.slice A l.length c) ∧ W'.ownsRow W.heap.size 85 6 (.slice A l.length c) l.length (mvCells l) ∧ Ext W W' := by
  subst hl
  obtain ⟨v, M, h1, rfl, h3⟩ := h
  exact moves_any h1 j (by rw [← BkM.len_b]; exact hk) hs
/-- The dues of one jurisdiction, where they stand among all. -/
theorem due_step {B : Bk} {js : List Jur} {D : List (Int × Int)} (h : DueOf B js D) (hc : (checkJ js).1 = 0) {i : Nat} (hi : i < js.length) :
    (∀ t (ht : t < (perD D js[i].id).length), D[(cutD D (js.map Jur.id) i).length + t]? = some (js[i].id, (perD D js[i].id)[t])) ∧ (∀ q, D[(cutD D (js.map Jur.id) i).length + (perD D js[i].id).length]? = some q → q.1 ≠ js[i].id) ∧ (cutD D (js.map Jur.id) (i + 1)).length = (cutD D (js.map Jur.id) i).length + (perD D js[i].id).length := by
  have hi' : i < (js.map Jur.id).length := by simpa using hi
  obtain ⟨h1, h2⟩ := due_at (i := i) (h.group hc) (ids_rise hc) hi'
  have e : (js.map Jur.id)[i] = js[i].id := by simp
  rw [e] at h1 h2
  have hl : (perD D js[i].id).length = (D.filter (atJ js[i].id)).length := by simp [perD]
  refine ⟨fun t ht => ?_, fun q hq => ?_, ?_⟩
  · rw [h1 t (by omega), List.getElem?_eq_getElem (by omega)]
    have hm := (List.mem_filter.1 (List.getElem_mem (l := D.filter (atJ js[i].id)) (n := t) (by omega))).2
    simp only [atJ, decide_eq_true_eq] at hm
    congr 1
    apply Prod.ext
    · exact hm
    · simp [perD]
  · rw [hl] at hq
    exact h2 q hq
  · rw [cutD_next hi', List.length_append, e, hl]
theorem cutD_all {B : Bk} {js : List Jur} {D : List (Int × Int)} (h : DueOf B js D) (hc : (checkJ js).1 = 0) : (cutD D (js.map Jur.id) js.length).length = D.length := by
  have := h.group hc
  unfold cutD
  rw [List.take_of_length_le (by simp), ← this]
theorem due_rise {B : Bk} {js : List Jur} {D : List (Int × Int)} (h : DueOf B js D) {k : Nat} {p q : Int × Int} (hp : D[k]? = some p) (hq : D[k + 1]? = some q) : p.1 ≠ q.1 ∨ p.2 < q.2 := by
  obtain ⟨h1, rfl⟩ := List.getElem?_eq_some_iff.1 hp
  obtain ⟨h2, rfl⟩ := List.getElem?_eq_some_iff.1 hq
  have := (List.pairwise_iff_getElem.1 h.lt) k (k + 1) h1 h2 (by omega)
  unfold ltDue at this
  simp at this
  omega
abbrev rpC (a b c d e : Int) : Array Value := #[.int .i64 0, .int .i64 0, .int .i64 0, .int .i64 a, .int .i64 b, .int .i64 c, .int .i64 d, .int .i64 e]
theorem mv_own {w : World} {base gm om c : Nat} {l : List Mv} (h : w.ownsRow base 85 6 (.slice (some ⟨gm, om, none⟩) l.length c) l.length (mvCells l)) {k : Nat} (hk : k < l.length) : gm < w.heap.size ∧
    w.cell? ⟨gm, om + k * 6, none⟩ = some (.int .i64 l[k].id) ∧ w.cell? ⟨gm, om + k * 6 + 1, none⟩ = some (.int .i64 l[k].day) ∧ w.cell? ⟨gm, om + k * 6 + 2, none⟩ = some (.bool l[k].back) ∧
    w.cell? ⟨gm, om + k * 6 + 3, none⟩ = some (.int .i64 l[k].t) ∧ w.cell? ⟨gm, om + k * 6 + 4, none⟩ = some (.int .i64 l[k].x) ∧ w.cell? ⟨gm, om + k * 6 + 5, none⟩ = some (.int .i64 l[k].v) := by
  obtain ⟨gm', om', e, r⟩ := mv_at (Reads.of_own h) hk
  injection e with e
  injection e with e1 e2
  subst e1 e2
  exact r
/-- A report of one's own, and the moves. -/
structure WB (W : World) (g bse : Nat) (ms : List Mv) (A7 : Option Addr) (c7 : Nat) (cs : Array Value) (wx : World) : Prop where
  ext : Ext W wx
  ge : W.heap.size ≤ g
  blk : Blk wx g 23 cs
  own : wx.ownsRow bse 85 6 (.slice A7 ms.length c7) ms.length (mvCells ms)
theorem WB.put {W wx : World} {g bse : Nat} {ms : List Mv} {A7 : Option Addr} {c7 : Nat} {cs : Array Value} (h : WB W g bse ms A7 c7 cs wx) (i : Nat) (u : Value) : WB W g bse ms A7 c7 (cs.setIfInBounds i u) (wx.setCell ⟨g, i, none⟩ u) :=
  ⟨h.ext.set (p := ⟨g, i, none⟩) h.ge u, h.ge, h.blk.set_ i u, own_set h.own (a := ⟨g, i, none⟩) (own_blk_ne h.own h.blk (by decide)) u⟩
theorem WB.drew {W wx : World} {g bse : Nat} {ms : List Mv} {A7 : Option Addr} {c7 : Nat} {cs : Array Value} (h : WB W g bse ms A7 c7 cs wx) : WB W g bse ms A7 c7 cs wx.drew :=
  ⟨h.ext.drew, h.ge, h.blk, own_ext h.own (Ext.refl wx).drew⟩
/-- What is wanted, so far. -/
def WantRel (W : World) (g bse : Nat) (ms : List Mv) (A7 : Option Addr) (c7 : Nat) (i : Value) (wx : World) : Prop :=
  ∃ (k : Nat) (T X V : Int), k ≤ ms.length ∧ i = .int .i64 (k : Int) ∧ WB W g bse ms A7 c7 (rpC T X V (salesN (ms.take k) : Int) (backsN (ms.take k) : Int)) wx ∧ T = RowKit.wrap64 (sgS Mv.t (ms.take k)) ∧ X = RowKit.wrap64 (sgS Mv.x (ms.take k)) ∧ V = RowKit.wrap64 (sgS Mv.v (ms.take k))
theorem WantRel.next {W wx : World} {g bse : Nat} {ms : List Mv} {A7 : Option Addr} {c7 : Nat} {k q : Nat} {T X V T' X' V' s r : Int} {L : List Mv} {m : Mv} (hk : k < ms.length) (hL : ms.take k = L) (hm : ms[k] = m) (hT : T = RowKit.wrap64 (sgS Mv.t L)) (hX : X = RowKit.wrap64 (sgS Mv.x L)) (hV : V = RowKit.wrap64 (sgS Mv.v L))
    (hB : WB W g bse ms A7 c7 (rpC T' X' V' s r) wx) (hT' : T' = RowKit.wrap64 (T + (if m.back then - m.t else m.t))) (hX' : X' = RowKit.wrap64 (X + (if m.back then - m.x else m.x))) (hV' : V' = RowKit.wrap64 (V + (if m.back then - m.v else m.v)))
    (hs : s = (salesN L : Int) + (if m.back then 0 else 1)) (hr : r = (backsN L : Int) + (if m.back then 1 else 0)) (e : q = k + 1) : WantRel W g bse ms A7 c7 (.int .i64 (q : Int)) wx := by
  subst e hL hm
  have e0 := List.take_succ_eq_append_getElem hk
  have e1 : s = (salesN (ms.take (k + 1)) : Int) := by rw [e0, salesN_snoc, hs]; split <;> simp
  have e2 : r = (backsN (ms.take (k + 1)) : Int) := by rw [e0, backsN_snoc, hr]; split <;> simp
  have key : ∀ (c : Mv → Int) (t t' : Int), t = RowKit.wrap64 (sgS c (ms.take k)) → t' = RowKit.wrap64 (t + (if ms[k].back then - c ms[k] else c ms[k])) → t' = RowKit.wrap64 (sgS c (ms.take (k + 1))) := by
    intro c t t' h1 h2
    rw [e0, sgS_snoc, h2, h1]
    unfold offI RowKit.wrap64
    split <;> omega
  rw [e1, e2] at hB
  exact ⟨k + 1, T', X', V', by omega, rfl, hB, key _ _ _ hT hT', key _ _ _ hX hX', key _ _ _ hV hV'⟩
/-- A sum over periods of what a report has. -/
noncomputable def perG (f : Int) (ms : List Mv) (G : List Mv → Int) (P : List Int) : Int := sumP (fun p => G (perM f p ms)) P
/-- What was told so far of a jurisdiction's reports. -/
structure GB (W : World) (g13 g17 : Nat) (cs : Array Value) (T X V s r : Int) (wx : World) : Prop where
  ext : Ext W wx
  ge : W.heap.size ≤ g17
  ne : g13 ≠ g17
  b13 : Blk wx g13 23 cs
  b17 : Blk wx g17 23 (rpC T X V s r)
theorem GB.to {W wx wy : World} {g13 g17 : Nat} {cs : Array Value} {T X V s r : Int} (h : GB W g13 g17 cs T X V s r wx) (hx : Ext wx wy) : GB W g13 g17 cs T X V s r wy := ⟨h.ext.trans hx, h.ge, h.ne, h.b13.ext hx, h.b17.ext hx⟩
/-- The same with a report told lately. -/
structure GC (W : World) (g13 g17 g18 : Nat) (cs : Array Value) (cs17 cs18 : Array Value) (wx : World) : Prop where
  ext : Ext W wx
  ge : W.heap.size ≤ g17
  ne : g13 ≠ g17
  ne2 : g18 ≠ g17
  b13 : Blk wx g13 23 cs
  b17 : Blk wx g17 23 cs17
  b18 : Blk wx g18 23 cs18
theorem GC.put {W wx : World} {g13 g17 g18 : Nat} {cs cs17 cs18 : Array Value} (h : GC W g13 g17 g18 cs cs17 cs18 wx) (i : Nat) (u : Value) : GC W g13 g17 g18 cs (cs17.setIfInBounds i u) cs18 (wx.setCell ⟨g17, i, none⟩ u) :=
  ⟨h.ext.set (p := ⟨g17, i, none⟩) h.ge u, h.ge, h.ne, h.ne2, h.b13.far (p := ⟨g17, i, none⟩) h.ne u, h.b17.set_ i u, h.b18.far (p := ⟨g17, i, none⟩) h.ne2 u⟩
theorem GC.drewN {W wx : World} {g13 g17 g18 : Nat} {cs cs17 cs18 : Array Value} (h : GC W g13 g17 g18 cs cs17 cs18 wx) (n : Nat) : GC W g13 g17 g18 cs cs17 cs18 (wx.drewN n) :=
  ⟨h.ext.drewN n, h.ge, h.ne, h.ne2, h.b13, h.b17, h.b18⟩
theorem GB.rep {W wx : World} {g13 g17 : Nat} {cs : Array Value} {T X V s r : Int} (h : GB W g13 g17 cs T X V s r wx) (cs18 : Array Value) : GC W g13 g17 wx.heap.size cs (rpC T X V s r) cs18 (wx.alloc (.cells cs18 23)) :=
  ⟨h.ext.alloc _, h.ge, h.ne, by have := h.b17.lt; omega, h.b13.alloc _, h.b17.alloc _, Blk.new wx _ cs18⟩
theorem GB.rep2 {W wq v2 : World} {g13 g17 : Nat} {cs : Array Value} {T X V s r : Int} (h : GB W g13 g17 cs T X V s r wq) (hx : Ext wq v2) {z : Array Value} (hz : z = #[.int .i64 0, .int .i64 0, .int .i64 0, .int .i64 0, .int .i64 0, .int .i64 0, .int .i64 0, .int .i64 0]) (C9 : Blk v2 wq.heap.size 23 z) (v0 v1 v2' v3 v4 v5 v6 v7 : Value) :
    GC W g13 g17 wq.heap.size cs (rpC T X V s r) #[v0, v1, v2', v3, v4, v5, v6, v7] ((((((((v2.setCell ⟨wq.heap.size, 0, none⟩ v0).setCell ⟨wq.heap.size, 1, none⟩ v1).setCell ⟨wq.heap.size, 2, none⟩ v2').setCell ⟨wq.heap.size, 3, none⟩ v3).setCell ⟨wq.heap.size, 4, none⟩ v4).setCell ⟨wq.heap.size, 5, none⟩ v5).setCell ⟨wq.heap.size, 6, none⟩ v6).setCell ⟨wq.heap.size, 7, none⟩ v7) := by
  subst hz
  have E := ext8 hx (Nat.le_refl _) v0 v1 v2' v3 v4 v5 v6 v7
  exact ⟨h.ext.trans E, h.ge, h.ne, by have := h.b17.lt; omega, h.b13.ext E, h.b17.ext E, put8 C9⟩
theorem GC.back {W wx : World} {g13 g17 g18 : Nat} {cs cs18 : Array Value} {T X V s r T' X' V' s' r' : Int} (h : GC W g13 g17 g18 cs ((((((rpC T X V s r).setIfInBounds 3 (.int .i64 T')).setIfInBounds 4 (.int .i64 X')).setIfInBounds 5 (.int .i64 V')).setIfInBounds 6 (.int .i64 s')).setIfInBounds 7 (.int .i64 r')) cs18 wx) : GB W g13 g17 cs T' X' V' s' r' wx :=
  ⟨h.ext, h.ge, h.ne, h.b13, by have := h.b17; simpa [rpC] using this⟩
def RepGot (W : World) (g13 g17 : Nat) (cs cs17 cs18 : Array Value) (v f : Value) (wx : World) : Prop := ∃ g18, v = .pointer (some ⟨g18, 0, none⟩) ∧ f = .int .i64 0 ∧ GC W g13 g17 g18 cs cs17 cs18 wx
def GotRel (W : World) (g13 g17 : Nat) (cs : Array Value) (f : Int) (ms : List Mv) (P : List Int) (aa : Nat) (a : Value) (wx : World) : Prop :=
  ∃ (t : Nat) (T X V s r : Int), t ≤ P.length ∧ a = .int .i64 ((aa + t : Nat) : Int) ∧ GB W g13 g17 cs T X V s r wx ∧ T = RowKit.wrap64 (perG f ms (sgS Mv.t) (P.take t)) ∧ X = RowKit.wrap64 (perG f ms (sgS Mv.x) (P.take t)) ∧ V = RowKit.wrap64 (perG f ms (sgS Mv.v) (P.take t)) ∧
    s = RowKit.wrap64 (perG f ms (fun l => (salesN l : Int)) (P.take t)) ∧ r = RowKit.wrap64 (perG f ms (fun l => (backsN l : Int)) (P.take t))
theorem perG_take {f : Int} {ms : List Mv} {G : List Mv → Int} {P : List Int} {t : Nat} (ht : t < P.length) {p : Int} (hp : P[t] = p) {T U d : Int} (hT : T = RowKit.wrap64 (perG f ms G (P.take t))) (hd : G (perM f p ms) = d) (hU : U = RowKit.wrap64 (T + d)) : U = RowKit.wrap64 (perG f ms G (P.take (t + 1))) := by
  unfold perG at *
  rw [sumP_take ht, hp, hd, hU, hT]
  unfold RowKit.wrap64
  omega
/-- The end of the reports of a jurisdiction. -/
def GotEnd (W : World) (g13 g17 : Nat) (cs : Array Value) (wx : World) : Prop := Ext W wx ∧ Blk wx g13 23 cs ∧ Blk wx g17 23 cs
theorem GotEnd.of {W wx : World} {g13 g17 : Nat} {f : Int} {ms : List Mv} {P : List Int} {T X V s r : Int} (hml : ms.length ≤ 160000) (hS : ∀ G, Summ G → perG f ms G P = G ms)
    (h : GB W g13 g17 (rpC (RowKit.wrap64 (sgS Mv.t ms)) (RowKit.wrap64 (sgS Mv.x ms)) (RowKit.wrap64 (sgS Mv.v ms)) (salesN ms : Int) (backsN ms : Int)) T X V s r wx)
    (hT : T = RowKit.wrap64 (perG f ms (sgS Mv.t) P)) (hX : X = RowKit.wrap64 (perG f ms (sgS Mv.x) P)) (hV : V = RowKit.wrap64 (perG f ms (sgS Mv.v) P)) (hs : s = RowKit.wrap64 (perG f ms (fun l => (salesN l : Int)) P)) (hr : r = RowKit.wrap64 (perG f ms (fun l => (backsN l : Int)) P)) :
    GotEnd W g13 g17 (rpC (RowKit.wrap64 (sgS Mv.t ms)) (RowKit.wrap64 (sgS Mv.x ms)) (RowKit.wrap64 (sgS Mv.v ms)) (salesN ms : Int) (backsN ms : Int)) wx := by
  rw [hS _ (summ_sgS _)] at hT hX hV
  rw [hS _ summ_sales] at hs
  rw [hS _ summ_backs] at hr
  have h1 := salesN_le ms
  have h2 := backsN_le ms
  have e1 : RowKit.wrap64 (salesN ms : Int) = (salesN ms : Int) := by unfold RowKit.wrap64; omega
  have e2 : RowKit.wrap64 (backsN ms : Int) = (backsN ms : Int) := by unfold RowKit.wrap64; omega
  simp only [e1] at hs
  simp only [e2] at hr
  have hb := h.b17
  rw [hT, hX, hV, hs, hr] at hb
  exact ⟨h.ext, h.b13, hb⟩
theorem GotEnd.drewN {W wx : World} {g13 g17 : Nat} {cs : Array Value} (h : GotEnd W g13 g17 cs wx) (n : Nat) : GotEnd W g13 g17 cs (wx.drewN n) := ⟨h.1.drewN n, h.2.1, h.2.2⟩
theorem due_cells {w : World} {A : Option Addr} {D : List (Int × Int)} (h : Reads w w.heap.size 2 A D.length (dueCl D)) {k : Nat} (hk : k < D.length) : ∃ g off, A = some ⟨g, off, none⟩ ∧ g < w.heap.size ∧ w.cell? ⟨g, off + k * 2, none⟩ = some (.int .i64 D[k].1) ∧ w.cell? ⟨g, off + k * 2 + 1, none⟩ = some (.int .i64 D[k].2) := by
  obtain ⟨g, off, rfl, hg, hc⟩ := h.cellAt hk
  obtain ⟨e1, e2⟩ := dueCl_at D k hk
  exact ⟨g, off, rfl, hg, hc _ _ e1, hc _ _ e2⟩
theorem due_own {w : World} {g off : Nat} {D : List (Int × Int)} (h : Reads w w.heap.size 2 (some ⟨g, off, none⟩) D.length (dueCl D)) {k : Nat} (hk : k < D.length) : g < w.heap.size ∧ w.cell? ⟨g, off + k * 2, none⟩ = some (.int .i64 D[k].1) ∧ w.cell? ⟨g, off + k * 2 + 1, none⟩ = some (.int .i64 D[k].2) := by
  obtain ⟨g', off', e, r⟩ := due_cells h hk
  injection e with e
  injection e with e1 e2
  subst e1 e2
  exact r
/-- Where the loop over the jurisdictions stands. -/
def AllRel (W : World) (D : List (Int × Int)) (js : List Jur) (a i : Value) (wr : World) : Prop :=
  ∃ k : Nat, k ≤ js.length ∧ i = .int .i64 (k : Int) ∧ a = .int .i64 ((cutD D (js.map Jur.id) k).length : Int) ∧ Ext W wr
set_option maxRecDepth 100000 in
set_option maxHeartbeats 4000000 in
theorem remitAll_any (l : List EV) (A : Option Addr) (cap : Nat) (js : List JX) (Aj : Option Addr) (cj : Nat) (w : World) (hr : Reads w w.heap.size 6 A l.length (evCells l)) (hm : l.length ≤ maxLen) (hok : ∀ x ∈ l, x.ok w)
    (hrj : Reads w w.heap.size 5 Aj js.length (jvCells (jvs js))) (hjm : js.length ≤ maxLen) (hjok : ∀ x ∈ js, x.ok w) (ht : Tab10 w) :
    Calls Tryz.prog 9 #[.slice A l.length cap, .slice Aj js.length cj] w fun e w' => e = .returned (.bool true) ∧ Ext w w' := by
  have HOK := Lib.hid hok
  have HR := Lib.hid (fun W (hx : Ext w W) => hr.ext hx)
  have HRJ := Lib.hid (fun W (hx : Ext w W) => hrj.ext hx)
  have HJA := Lib.hid (fun k (hk : k < js.length) => jx_at hrj hk)
  have HJ := Lib.hid (fun W (hx : Ext w W) => bigJuris_any js Aj cj 64 W (hrj.ext hx) hjm (fun x hxm => (hjok x hxm).ext hx) (by omega))
  have hjl := jvs_len js
  have hJS : (jsOf (jvs js)).length = js.length := by rw [jsOf_len, hjl]
  have HJI := Lib.hid (fun k (hk : k < js.length) => (show (jsOf (jvs js))[k]'(by omega) = js[k].j from by simp [jsOf, jvs, JX.jv]))
  clear hok hr hrj hjok
  go_enter Tryz.func9, Tryz.ntmps9
  go_wp2_with fail
  refine (remitKnown_any _ ht).mono ?_
  rintro e w1 ⟨rfl, X1⟩
  have HCk := Lib.hid (jcheck_any (jvs js) Aj cj w1 (by rw [hjl]; exact HRJ.out _ X1) (by rw [hjl]; exact hjm))
  rw [hjl] at HCk
  by_cases h0 : (checkJ (jsOf (jvs js))).1 = 0
  case neg =>
    have hb : ((checkJ (jsOf (jvs js))).1 != 0) = true := by simpa using h0
    replace h0 := Lib.hid h0
    generalize checkJ (jsOf (jvs js)) = C at *
    clear HJA HJI
    go_wp2_with fail
    refine HCk.out.mono ?_
    rintro e w2 ⟨rfl, hx2⟩
    have X2 := Lib.hid (X1.trans hx2)
    clear X1 hx2 HCk
    go_wp2_with fail
    go_ret
    exact ⟨rfl, X2.out⟩
  have hb : ((checkJ (jsOf (jvs js))).1 != 0) = false := by simp [h0]
  have hl64 := (checkJ_ok h0).1
  have hJ := (checkJ_ok h0).2.1
  have HC0 := Lib.hid h0
  have HE := Lib.hid (fun (ss : List (Int × Int)) (B : Bk) => dueOf (B := B) (ss := ss) h0)
  generalize hCq : checkJ (jsOf (jvs js)) = C at *
  replace hCq := Lib.hid hCq
  clear h0 hJ
  go_wp2_with fail
  refine HCk.out.mono ?_
  rintro e w2 ⟨rfl, hx2⟩
  have X2 := X1.trans hx2
  clear X1 hx2 HCk
  go_wp2_with fail
  refine (HJ.out _ X2).mono ?_
  rintro e w3 ⟨b, rfl, hb64, rfl⟩
  cases b
  case true =>
    go_wp2_with fail
    go_ret
    exact ⟨rfl, X2⟩
  clear hb64 HJ
  go_wp2_with fail
  refine (filled30_any l A cap _ (HR.out _ X2) hm (fun x hx => (HOK.out x hx).ext X2)).mono ?_
  rintro e w4 ⟨pv, b, rfl, hx4, hbk⟩
  have X4 := X2.trans hx4
  clear X2 HOK HR
  cases b
  case false =>
    clear hbk
    go_wp2_with fail
    go_ret
    exact ⟨rfl, X4⟩
  obtain ⟨bb, mb, K, rfl, O4, h40, hs, hk25, hok⟩ := hbk rfl
  clear hbk
  have OA := Lib.hid (O4.all hs (b40_b3 h40) (by omega) (jvs js) Aj cj js.length hjl (HRJ.out _ X4) hjm)
  go_wp2_with fail
  refine OA.out.mono ?_
  rintro r w5 ⟨v5, ss, rfl, hS, ho5, O5, hx5⟩
  have X5 := X4.trans hx5
  have hD := HE.out _ _ hS
  have hln := sortD_len ss
  generalize sortD ss = D at *
  obtain ⟨A5, c5, rfl, l5, m5, R5⟩ := own_slice ho5
  rw [← hln] at R5 l5 ⊢
  have HD := Lib.hid hD
  have HR5 := Lib.hid (fun W (hx : Ext w5 W) => R5.ext hx)
  have HO5 := Lib.hid O5
  have H40 := Lib.hid h40
  have HS := Lib.hid hs
  have HOK := Lib.hid hok
  have HX5 := Lib.hid X5
  clear OA HE hS ho5 O5 O4 hx5 hx4 X4 X5 hD R5 h40 hs hok hln
  go_wp2_with fail
  go_loopw [11, 12] (fun a i wr => AllRel w5 D (jsOf (jvs js)) a i wr) (fun _ i _ => js.length - (intOf i).toNat)
  case atStart => exact ⟨0, by omega, rfl, rfl, Ext.refl _⟩
  case round =>
    obtain ⟨k, hk, rfl, rfl, hX⟩ := hrel
    rw [hJS] at hk
    by_cases hlt : k < js.length
    · have hd : decide ((k : Int) < (js.length : Int)) = true := by simp; omega
      have kl : (k : Int) < (js.length : Int) := by omega
      have kz : (0 : Int) ≤ (k : Int) := by omega
      obtain ⟨g, off, rfl, hg, hc⟩ := HJA.out k hlt
      have q2 := (hc wr (HX5.out.trans hX)).2
      have hgr : g < wr.heap.size := by
        have h1 := HX5.out.size
        have h2 := hX.size
        omega
      have hkj : k < (jsOf (jvs js)).length := by omega
      have hji := HJI.out k hlt
      have hmem : js[k].j ∈ jsOf (jvs js) := by rw [← hji]; exact List.getElem_mem hkj
      have HDU := Lib.hid (due_step HD.out (by rw [hCq.out]; exact HC0.out) hkj)
      rw [hji] at HDU
      have HSU := Lib.hid (fun (G : List Mv → Int) (hG : Summ G) => perD_sum HD.out hmem hG)
      have HDY := Lib.hid (fun m (hmm : m ∈ K.moves js[k].j.id) => (moves_bd (b40_b3 H40.out) HOK.out (j := js[k].j.id) m hmm).2)
      have HB40 := Lib.hid (fun m (hmm : m ∈ K.moves js[k].j.id) => moves_b40 H40.out m hmm)
      have HFI := Lib.hid (fun p (hp : p ∈ perD D js[k].j.id) => HD.out.file (by rw [hCq.out]; exact HC0.out) hmem hp H40.out HS.out hk25 HDY.out)
      have hml := moves_le HS.out js[k].j.id
      have O1 := HO5.out.to (hX.alloc (.cells #[.int .i64 0, .int .i64 0, .int .i64 0, .int .i64 0, .int .i64 0, .int .i64 0, .int .i64 0, .int .i64 0] 23))
      have HNX := Lib.hid (fun (W : World) (a : Int) (ha : a = ((cutD D ((jsOf (jvs js)).map Jur.id) k).length : Int) + ((perD D js[k].j.id).length : Int)) (hx : Ext w5 W) => (show AllRel w5 D (jsOf (jvs js)) (.int .i64 a) (.int .i64 ((k + 1 : Nat) : Int)) W from ⟨k + 1, by omega, rfl, by rw [HDU.out.2.2, ha]; simp, hx⟩))
      have HDU1 := Lib.hid HDU.out.1
      have HDU2 := Lib.hid HDU.out.2.1
      clear HDY HDU
      have q1 := (hc wr (HX5.out.trans hX)).1
      have HQ := Lib.hid (fun W (hx : Ext wr W) => (hc W (HX5.out.trans (hX.trans hx))).1)
      clear hc hji hmem hkj q2
      generalize js[k].j = x at *
      generalize (cutD D ((jsOf (jvs js)).map Jur.id) k).length = aa at *
      obtain ⟨ms, hms⟩ : ∃ ms, K.moves x.id = ms := ⟨_, rfl⟩
      rw [hms] at hml HSU HB40 HFI
      obtain ⟨P, hPd⟩ : ∃ P, perD D x.id = P := ⟨_, rfl⟩
      rw [hPd] at HSU HFI HNX HDU1 HDU2
      clear hPd
      have hml2 : ms.length ≤ 160000 := by omega
      have HMV := Lib.hid (O1.movesO x.id HS.out (by omega) hms)
      have B13 := Blk.new wr 23 #[.int .i64 0, .int .i64 0, .int .i64 0, .int .i64 0, .int .i64 0, .int .i64 0, .int .i64 0, .int .i64 0]
      have X13 := (Ext.refl wr).alloc (.cells #[.int .i64 0, .int .i64 0, .int .i64 0, .int .i64 0, .int .i64 0, .int .i64 0, .int .i64 0, .int .i64 0] 23)
      have HX := Lib.hid hX
      clear hX O1 hms
      go_wp2_with fail
      refine HMV.out.mono ?_
      rintro r w14 ⟨A7, c7, rfl, ho14, hx14⟩
      have X14 := X13.trans hx14
      have B14 := B13.ext hx14
      generalize (wr.alloc (.cells #[.int .i64 0, .int .i64 0, .int .i64 0, .int .i64 0, .int .i64 0, .int .i64 0, .int .i64 0, .int .i64 0] 23)).heap.size = bse at *
      clear B13 X13 hx14 HMV
      have lt13 := B14.lt
      obtain ⟨g13, hg13⟩ : ∃ g13, wr.heap.size = g13 := ⟨_, rfl⟩
      rw [hg13] at B14 lt13 ⊢
      have HW0 := Lib.hid (show WantRel wr g13 bse ms A7 c7 (.int .i64 ((0 : Nat) : Int)) w14 from ⟨0, 0, 0, 0, by omega, rfl, ⟨X14, by omega, B14, ho14⟩, wrap_0.symm, wrap_0.symm, wrap_0.symm⟩)
      have hg13' : wr.heap.size ≤ g13 := by omega
      replace hg13 := Lib.hid hg13
      clear B14 ho14
      clear X14 lt13
      generalize wr = wo at *
      go_wp2_with fail
      go_loopw [15] (fun i wx => WantRel wo g13 bse ms A7 c7 i wx) (fun i _ => ms.length - (intOf i).toNat)
      case atStart => exact HW0.out
      case round =>
        clear HW0
        obtain ⟨n, T, X, V, hn, rfl, hB, hT, hXe, hV⟩ := hrel
        by_cases hln : n < ms.length
        · have hdn : decide ((n : Int) < (ms.length : Int)) = true := by simp; omega
          have nl : (n : Int) < (ms.length : Int) := by omega
          have nz : (0 : Int) ≤ (n : Int) := by omega
          obtain ⟨gm, om, rfl, hgm, a0, a1, a2, a3, a4, a5⟩ := mv_at (Reads.of_own hB.own) hln
          have HMC := Lib.hid (fun (W2 : World) (h : W2.ownsRow bse 85 6 (.slice (some ⟨gm, om, none⟩) ms.length c7) ms.length (mvCells ms)) => mv_own h hln)
          obtain ⟨⟨b1, b2⟩, ⟨b3, b4⟩, b5, b6⟩ := HB40.out ms[n] (List.getElem_mem hln)
          have HN := Lib.hid (fun (W2 : World) (m : Mv) (hm : ms[n] = m) (T' X' V' s r : Int) (h : WB wo g13 bse ms (some ⟨gm, om, none⟩) c7 (rpC T' X' V' s r) W2) h1 h2 h3 h4 h5 => WantRel.next (k := n) (q := n + 1) (L := ms.take n) (s := s) (r := r) hln rfl hm hT hXe hV h h1 h2 h3 h4 h5 rfl)
          have hs1 := salesN_le (ms.take n)
          have hs2 := backsN_le (ms.take n)
          have hs3 : (ms.take n).length ≤ n := List.length_take_le _ _
          generalize salesN (ms.take n) = sn at *
          generalize backsN (ms.take n) = bn at *
          obtain ⟨m, hm⟩ : ∃ m, ms[n] = m := ⟨_, rfl⟩
          rw [hm] at a0 a1 a2 a3 a4 a5 b1 b2 b3 b4 b5 b6 HMC
          have HN2 := Lib.hid (fun (W2 : World) => HN.out W2 m hm)
          clear HN hm hT hXe hV
          obtain ⟨mid, mday, mback, mt, mx, mv⟩ := m
          simp only at a0 a1 a2 a3 a4 a5 b1 b2 b3 b4 b5 b6 HMC
          obtain ⟨q, q'⟩ := hB.blk.cells
          have lg := hB.blk.lt
          cases mback
          · as_aux_lemma =>
              have S0 := Lib.hid (hB.put 6 (.int .i64 ((sn : Int) + 1)))
              clear hB
              go_wp2_with fail
              clear q q' a0 a1 a2 a3 a4 a5 hgm lg
              generalize World.setCell _ _ _ = wb at S0 ⊢
              obtain ⟨q, q'⟩ := S0.out.blk.cells
              have lg := S0.out.blk.lt
              obtain ⟨hgm, a0, a1, a2, a3, a4, a5⟩ := HMC.out _ S0.out.own
              go_still_tail 10, (by kernel_rfl)
              have S1 := Lib.hid S0.out.drew
              clear S0 q q' lg hgm a0 a1 a2 a3 a4 a5
              change wpList _ _ _ _ _ (World.drew _)
              generalize World.drew _ = wb at S1 ⊢
              obtain ⟨q, q'⟩ := S1.out.blk.cells
              have lg := S1.out.blk.lt
              have S2 := Lib.hid (S1.out.put 3 (.int .i64 (RowKit.wrap64 (T + mt))))
              clear S1
              go_wp2_with fail
              clear q q' lg
              generalize World.setCell _ _ _ = wb at S2 ⊢
              obtain ⟨q, q'⟩ := S2.out.blk.cells
              have lg := S2.out.blk.lt
              obtain ⟨hgm, a0, a1, a2, a3, a4, a5⟩ := HMC.out _ S2.out.own
              go_still_tail 10, (by kernel_rfl)
              have S3 := Lib.hid S2.out.drew
              clear S2 q q' lg hgm a0 a1 a2 a3 a4 a5
              change wpList _ _ _ _ _ (World.drew _)
              generalize World.drew _ = wb at S3 ⊢
              obtain ⟨q, q'⟩ := S3.out.blk.cells
              have lg := S3.out.blk.lt
              have S4 := Lib.hid (S3.out.put 4 (.int .i64 (RowKit.wrap64 (X + mx))))
              clear S3
              go_wp2_with fail
              clear q q' lg
              generalize World.setCell _ _ _ = wb at S4 ⊢
              obtain ⟨q, q'⟩ := S4.out.blk.cells
              have lg := S4.out.blk.lt
              obtain ⟨hgm, a0, a1, a2, a3, a4, a5⟩ := HMC.out _ S4.out.own
              go_still_tail 10, (by kernel_rfl)
              have S5 := Lib.hid S4.out.drew
              clear S4 q q' lg hgm a0 a1 a2 a3 a4 a5
              change wpList _ _ _ _ _ (World.drew _)
              generalize World.drew _ = wb at S5 ⊢
              obtain ⟨q, q'⟩ := S5.out.blk.cells
              have lg := S5.out.blk.lt
              have S6 := Lib.hid (S5.out.put 5 (.int .i64 (RowKit.wrap64 (V + mv))))
              clear S5
              go_wp2_with fail
              clear q q' lg
              have HN3 := Lib.hid (HN2.out _ _ _ _ _ _ S6.out rfl rfl rfl (by simp) (by simp))
              clear HN2 S6
              go_roundw
              case rel => exact HN3.out
              case measure => simp [intOf]; omega
          · as_aux_lemma =>
              have S0 := Lib.hid (hB.put 7 (.int .i64 ((bn : Int) + 1)))
              clear hB
              go_wp2_with fail
              clear q q' a0 a1 a2 a3 a4 a5 hgm lg
              generalize World.setCell _ _ _ = wb at S0 ⊢
              obtain ⟨q, q'⟩ := S0.out.blk.cells
              have lg := S0.out.blk.lt
              obtain ⟨hgm, a0, a1, a2, a3, a4, a5⟩ := HMC.out _ S0.out.own
              go_still_tail 10, (by kernel_rfl)
              have S1 := Lib.hid S0.out.drew
              clear S0 q q' lg hgm a0 a1 a2 a3 a4 a5
              change wpList _ _ _ _ _ (World.drew _)
              generalize World.drew _ = wb at S1 ⊢
              obtain ⟨q, q'⟩ := S1.out.blk.cells
              have lg := S1.out.blk.lt
              have S2 := Lib.hid (S1.out.put 3 (.int .i64 (RowKit.wrap64 (T + -mt))))
              clear S1
              go_wp2_with fail
              clear q q' lg
              generalize World.setCell _ _ _ = wb at S2 ⊢
              obtain ⟨q, q'⟩ := S2.out.blk.cells
              have lg := S2.out.blk.lt
              obtain ⟨hgm, a0, a1, a2, a3, a4, a5⟩ := HMC.out _ S2.out.own
              go_still_tail 10, (by kernel_rfl)
              have S3 := Lib.hid S2.out.drew
              clear S2 q q' lg hgm a0 a1 a2 a3 a4 a5
              change wpList _ _ _ _ _ (World.drew _)
              generalize World.drew _ = wb at S3 ⊢
              obtain ⟨q, q'⟩ := S3.out.blk.cells
              have lg := S3.out.blk.lt
              have S4 := Lib.hid (S3.out.put 4 (.int .i64 (RowKit.wrap64 (X + -mx))))
              clear S3
              go_wp2_with fail
              clear q q' lg
              generalize World.setCell _ _ _ = wb at S4 ⊢
              obtain ⟨q, q'⟩ := S4.out.blk.cells
              have lg := S4.out.blk.lt
              obtain ⟨hgm, a0, a1, a2, a3, a4, a5⟩ := HMC.out _ S4.out.own
              go_still_tail 10, (by kernel_rfl)
              have S5 := Lib.hid S4.out.drew
              clear S4 q q' lg hgm a0 a1 a2 a3 a4 a5
              change wpList _ _ _ _ _ (World.drew _)
              generalize World.drew _ = wb at S5 ⊢
              obtain ⟨q, q'⟩ := S5.out.blk.cells
              have lg := S5.out.blk.lt
              have S6 := Lib.hid (S5.out.put 5 (.int .i64 (RowKit.wrap64 (V + -mv))))
              clear S5
              go_wp2_with fail
              clear q q' lg
              have HN3 := Lib.hid (HN2.out _ _ _ _ _ _ S6.out rfl rfl rfl (by simp) (by simp))
              clear HN2 S6
              go_roundw
              case rel => exact HN3.out
              case measure => simp [intOf]; omega
        · obtain rfl : n = ms.length := by omega
          have hdn : decide ((ms.length : Int) < (ms.length : Int)) = false := by simp
          rw [List.take_length] at hB hT hXe hV
          subst hT hXe hV
          have hls := salesN_le ms
          have hlb := backsN_le ms
          have HEnd := Lib.hid (fun (wx : World) (g17 : Nat) (T X V s r : Int) h => GotEnd.of (W := wo) (wx := wx) (g13 := g13) (g17 := g17) (f := x.f) (ms := ms) (P := P) (T := T) (X := X) (V := V) (s := s) (r := r) hml2 HSU.out h)
          obtain ⟨cs, hcs⟩ : ∃ cs, rpC (RowKit.wrap64 (sgS Mv.t ms)) (RowKit.wrap64 (sgS Mv.x ms)) (RowKit.wrap64 (sgS Mv.v ms)) (salesN ms : Int) (backsN ms : Int) = cs := ⟨_, rfl⟩
          have hB2 := hB
          rw [hcs] at HEnd hB2
          have G0 : GB wo g13 wr.heap.size cs 0 0 0 0 0 (wr.alloc (.cells (rpC 0 0 0 0 0) 23)) := ⟨hB2.ext.alloc _, hB2.ext.size, by have := hB2.blk.lt; omega, hB2.blk.alloc _, Blk.new wr _ _⟩
          have HG0 := Lib.hid (show GotRel wo g13 wr.heap.size cs x.f ms P aa (.int .i64 ((aa + 0 : Nat) : Int)) (wr.alloc (.cells (rpC 0 0 0 0 0) 23)) from ⟨0, 0, 0, 0, 0, 0, by omega, rfl, G0, wrap_0.symm, wrap_0.symm, wrap_0.symm, wrap_0.symm, wrap_0.symm⟩)
          have hcs' := Lib.hid hcs
          clear hB hB2 G0 hcs HSU hls hlb
          go_upto_block 4 with (fail)
          generalize wr.alloc (.cells #[.int .i64 0, .int .i64 0, .int .i64 0, .int .i64 0, .int .i64 0, .int .i64 0, .int .i64 0, .int .i64 0] 23) = w17 at *
          generalize wr.heap.size = g17 at *
          go_cut [11, 18, 19] (fun v _ _ wx => v = .int .i64 ((aa : Int) + (P.length : Int)) ∧ GotEnd wo g13 g17 cs wx)
          case first =>
            clear hl64 hb hk hd hml hn hln hdn hg13' q1 hm ht
            replace hjm := Lib.hid hjm
            replace hk25 := Lib.hid hk25
            replace hml2 := Lib.hid hml2
            replace hjl := Lib.hid hjl
            have hJS' := Lib.hid hJS
            replace l5 := Lib.hid l5
            go_wp2_with fail
            go_loopw [11] (fun a wx => GotRel wo g13 g17 cs x.f ms P aa a wx) (fun a _ => P.length - ((intOf a).toNat - aa))
            case atStart => exact HG0.out
            case round =>
              clear HG0
              obtain ⟨t, T, X, V, s, r, htl, hu, hG, hT, hXe, hV, hs, hr⟩ := hrel
              obtain ⟨z, hz⟩ : ∃ z : Nat, aa + t = z := ⟨_, rfl⟩
              rw [hz] at hu
              subst hu
              have HEx := Lib.hid (fun (e : t = P.length) => (show GotEnd wo g13 g17 cs wr from by
                rw [e, List.take_length] at hT hXe hV hs hr
                exact HEnd.out wr g17 T X V s r hG hT hXe hV hs hr))
              have hlt_of : t < P.length → z < D.length ∧ D[z]? = some (x.id, P.getD t 0) := fun h => by
                have := HDU1.out t h
                rw [hz] at this
                refine ⟨(List.getElem?_eq_some_iff.1 this).1, ?_⟩
                rw [this, show P.getD t 0 = P[t] by simp [List.getD, h]]
              by_cases hat : z < D.length
              case neg =>
                have htP : t = P.length := by
                  have := fun h => hat (hlt_of h).1
                  omega
                have hdt : decide ((z : Int) < (D.length : Int)) = false := decide_eq_false (by omega)
                have HE2 := Lib.hid (fun n => (HEx.out htP).drewN n)
                have hv := Lib.hid (show Value.int .i64 (z : Int) = .int .i64 ((aa : Int) + (P.length : Int)) from congrArg _ (by omega))
                clear HEx hG hlt_of htP
                go_wp2_with fail
                go_quiet (fail)
                go_wp2_with fail
                go_meet
                exact ⟨hv.out, HE2.out _⟩
              have hdt : decide ((z : Int) < (D.length : Int)) = true := decide_eq_true (by omega)
              have il : (z : Int) < (D.length : Int) := by omega
              have iz : (0 : Int) ≤ (z : Int) := by omega
              have HRD := Lib.hid (fun W (hx : Ext wo W) => HR5.out W (HX.out.trans hx))
              obtain ⟨gd, od, rfl, hgd, d1, d2⟩ := due_cells (HRD.out _ hG.ext) hat
              have q1 := HQ.out _ hG.ext
              have HDA := Lib.hid (fun (W : World) (hx : Ext wo W) => due_own (HRD.out W hx) hat)
              obtain ⟨q, hq⟩ : ∃ q, D[z] = q := ⟨_, rfl⟩
              have hq? : D[z]? = some q := by rw [List.getElem?_eq_getElem hat, hq]
              rw [hq] at d1 d2 HDA
              by_cases hid : q.1 = x.id
              case neg =>
                have htP : t = P.length := by
                  by_cases h : t < P.length
                  · have := (hlt_of h).2
                    rw [hq?] at this
                    injection this with this
                    rw [this] at hid
                    exact absurd rfl hid
                  · omega
                have hbq : (q.1 == x.id) = false := by simpa using hid
                have HE2 := Lib.hid (fun n => (HEx.out htP).drewN n)
                have hv := Lib.hid (show Value.int .i64 (z : Int) = .int .i64 ((aa : Int) + (P.length : Int)) from congrArg _ (by omega))
                clear HEx hG hlt_of htP hid hq? hq HDA
                go_wp2_with fail
                go_quiet (fail)
                go_wp2_with fail
                go_meet
                exact ⟨hv.out, HE2.out _⟩
              have htP : t < P.length := by
                by_cases h : t < P.length
                · exact h
                · obtain rfl : t = P.length := by omega
                  exact absurd hid (HDU2.out q (by rw [hz]; exact hq?))
              have hqe : q = (x.id, P[t]) := by
                have := (hlt_of htP).2
                rw [hq?, show P.getD t 0 = P[t] by simp [List.getD, htP]] at this
                exact Option.some.inj this
              obtain ⟨p, hp⟩ : ∃ p, P[t] = p := ⟨_, rfl⟩
              rw [hp] at hqe
              subst hqe
              have hbq : (x.id == x.id) = true := by simp
              obtain ⟨hfile, hcnt⟩ := HFI.out p (by rw [← hp]; exact List.getElem_mem htP)
              obtain ⟨R, hR⟩ : ∃ R, repOf x.id x.f p ms = R := ⟨_, rfl⟩
              rw [hR] at hfile
              have hRs : R.s = (salesN (perM x.f p ms) : Int) := by rw [← hR]; rfl
              have hRr : R.r = (backsN (perM x.f p ms) : Int) := by rw [← hR]; rfl
              have hpl := perM_le x.f p ms
              have hp1 := salesN_le (perM x.f p ms)
              have hp2 := backsN_le (perM x.f p ms)
              have hsr1 : 1 ≤ R.s + R.r := by omega
              have hsr2 : R.s + R.r ≤ 1000000 := by have := hml2.out; omega
              have HN := Lib.hid (fun (W2 : World) h => (show GotRel wo g13 g17 cs x.f ms P aa (.int .i64 ((z + 1 : Nat) : Int)) W2 from ⟨t + 1, RowKit.wrap64 (T + R.t), RowKit.wrap64 (X + R.x), RowKit.wrap64 (V + R.v), RowKit.wrap64 (s + R.s), RowKit.wrap64 (r + R.r), by omega, by rw [← hz]; rfl, h,
                perG_take htP hp hT (by rw [← hR]; rfl) rfl, perG_take htP hp hXe (by rw [← hR]; rfl) rfl, perG_take htP hp hV (by rw [← hR]; rfl) rfl, perG_take htP hp hs (by rw [← hR]; rfl) rfl, perG_take htP hp hr (by rw [← hR]; rfl) rfl⟩))
              have HG := Lib.hid hG
              have HF := Lib.hid hfile
              have hqD := Lib.hid hq
              have HRi := Lib.hid (fun (p' q' : Int × Int) (k : Nat) => due_rise HD.out (k := k) (p := p') (q := q'))
              replace hq? := Lib.hid hq?
              clear HEx hG hlt_of hid hq hfile hcnt hR hRs hRr hpl hp1 hp2 hp hT hXe hV hs hr
              go_wp2_with fail
              go_quiet (fail)
              go_upto_region 28 with (fail)
              generalize hwq : World.drewN wr _ = wq
              have G1 : GB wo g13 g17 cs T X V s r wq := by rw [← hwq]; exact HG.out.to ((Ext.refl wr).drewN _)
              clear hwq
              have HG1 := Lib.hid G1
              have HL := Lib.hid (fun W2 (hx : Ext wq W2) => (show W2.cell? ⟨g, off + k * 5, none⟩ = some (.int .i64 x.id) ∧ W2.cell? ⟨gd, od + z * 2 + 1, none⟩ = some (.int .i64 p) from ⟨HQ.out _ (HG1.out.ext.trans hx), (HDA.out _ (HG1.out.ext.trans hx)).2.2⟩))
              have OF := Lib.hid (fun W2 (hx : Ext wq W2) => (HO5.out.to (HX.out.trans (HG1.out.ext.trans hx))).file HS.out (b40_b3 H40.out) (by have := hk25.out; omega) (jvs js) (some ⟨g, off, none⟩) cj js.length hjl.out (HRJ.out _ (HX5.out.trans (HX.out.trans (HG1.out.ext.trans hx)))) hjm.out x.id p HF.out)
              clear G1 q1 d1 d2 hgd hdt HQ HDA HF
              obtain ⟨rj, rk, rp, rt, rx, rv, rs, rr⟩ := R
              simp only at hsr1 hsr2 HN
              obtain ⟨k0, k1⟩ := HL.out wq (Ext.refl _)
              go_cut [18, 19] (fun v f wx => RepGot wo g13 g17 cs (rpC T X V s r) #[.int .i64 rj, .int .i64 rk, .int .i64 rp, .int .i64 rt, .int .i64 rx, .int .i64 rv, .int .i64 rs, .int .i64 rr] v f wx)
              case first =>
                go_region_held3 (fun w' => w'.cell? ⟨g, off + k * 5, none⟩ = some (.int .i64 x.id) ∧ w'.cell? ⟨gd, od + z * 2 + 1, none⟩ = some (.int .i64 p))
                  (first | (with_reducible exact HL.out _ (Ext.refl wq).drew) | (with_reducible exact HL.out _ ((Ext.refl wq).alloc _)) | (with_reducible exact HL.out _ ((Ext.refl wq).drew.alloc _)) | (with_reducible exact HL.out _ ((Ext.refl wq).alloc _).drew) | (with_reducible exact HL.out _ X2) | (with_reducible exact HL.out _ (X2.alloc _)) | (with_reducible exact HL.out _ (ext8 X2 (Nat.le_refl _) _ _ _ _ _ _ _ _)) | (with_reducible exact HL.out _ (ext8 (X2.alloc _) X2.size _ _ _ _ _ _ _ _)))
                  (first | (go_at_call 29; refine (OF.out _ (by first | with_reducible exact (Ext.refl wq).drew | with_reducible exact ((Ext.refl wq).alloc _).drew | with_reducible exact (Ext.refl wq).alloc _ | with_reducible exact Ext.refl wq)).mono ?_; rintro r v2 ⟨rfl, O2, hx2⟩; have X2 : Ext wq v2 := Ext.trans (by first | with_reducible exact (Ext.refl wq).drew | with_reducible exact ((Ext.refl wq).alloc _).drew | with_reducible exact (Ext.refl wq).alloc _ | with_reducible exact Ext.refl wq) hx2; (first | (with_reducible have C9 : Blk v2 wq.heap.size 23 #[.int .i64 0, .int .i64 0, .int .i64 0, .int .i64 0, .int .i64 0, .int .i64 0, .int .i64 0, .int .i64 0] := Blk.ext (Blk.ext (Blk.new wq 23 #[.int .i64 0, .int .i64 0, .int .i64 0, .int .i64 0, .int .i64 0, .int .i64 0, .int .i64 0, .int .i64 0]) (Ext.refl _).drew) hx2) | (with_reducible have C9 : Blk v2 wq.heap.size 23 #[.int .i64 0, .int .i64 0, .int .i64 0, .int .i64 0, .int .i64 0, .int .i64 0, .int .i64 0, .int .i64 0] := Blk.ext (Blk.new wq 23 #[.int .i64 0, .int .i64 0, .int .i64 0, .int .i64 0, .int .i64 0, .int .i64 0, .int .i64 0, .int .i64 0]) hx2) | skip); (first | (obtain ⟨k9, k9'⟩ := C9.cells) | skip)))
                · have HE := Lib.hid (show RepGot wo g13 g17 cs (rpC T X V s r) #[.int .i64 rj, .int .i64 rk, .int .i64 rp, .int .i64 rt, .int .i64 rx, .int .i64 rv, .int .i64 rs, .int .i64 rr] (.pointer (some ⟨v2.heap.size, 0, none⟩)) (.int .i64 0) (v2.alloc (.cells #[.int .i64 rj, .int .i64 rk, .int .i64 rp, .int .i64 rt, .int .i64 rx, .int .i64 rv, .int .i64 rs, .int .i64 rr] 23)) from ⟨_, rfl, rfl, (HG1.out.to X2).rep #[.int .i64 rj, .int .i64 rk, .int .i64 rp, .int .i64 rt, .int .i64 rx, .int .i64 rv, .int .i64 rs, .int .i64 rr]⟩)
                  clear k0 k1
                  go_wp2_with fail
                  go_meet
                  exact HE.out
                · have HE := Lib.hid (HG1.out.rep2 X2 rfl C9 (.int .i64 rj) (.int .i64 rk) (.int .i64 rp) (.int .i64 rt) (.int .i64 rx) (.int .i64 rv) (.int .i64 rs) (.int .i64 rr))
                  clear k0 k1 k9 k9' C9
                  go_wp2_with fail
                  go_meet
                  exact ⟨_, rfl, rfl, HE.out⟩
              case rest =>
                obtain ⟨g18, rfl, rfl, G18⟩ := hcut
                clear k0 k1 OF HL HG1
                have hne := G18.ne2
                have hne' : g17 ≠ g18 := fun e => hne e.symm
                have hw1 : IntKind.i64.wrap (rs + rr) = rs + rr := IntWalk.i64_in _ (by omega)
                have hd1 : decide (rs + rr < 1) = false := decide_eq_false (by omega)
                obtain ⟨q, q'⟩ := G18.b18.cells
                have lq := G18.b18.lt
                have HGC := Lib.hid (fun n => G18.drewN n)
                have HRD2 := Lib.hid (fun m (hm : m < D.length) => due_own (HRD.out wc G18.ext) hm)
                clear G18 HG
                rcases Nat.eq_zero_or_pos z with hz0 | hz0
                · as_aux_lemma =>
                    have hdz : decide ((0 : Int) < (z : Int)) = false := decide_eq_false (by omega)
                    have hdz' : decide (0 < z) = false := decide_eq_false (by omega)
                    replace hz0 := Lib.hid hz0
                    clear HRD2
                    go_wp2_with fail
                    go_quiet (fail)
                    go_upto_region 31 with (fail)
                    clear q q' lq hw1 hd1 hdz hdz'
                    generalize hwq : World.drewN wc _ = w31
                    have G31 := Lib.hid (show GC wo g13 g17 g18 cs (rpC T X V s r) #[.int .i64 rj, .int .i64 rk, .int .i64 rp, .int .i64 rt, .int .i64 rx, .int .i64 rv, .int .i64 rs, .int .i64 rr] w31 from by rw [← hwq]; exact HGC.out _)
                    clear hwq HGC
                    obtain ⟨q, q'⟩ := G31.out.b17.cells
                    obtain ⟨p, p'⟩ := G31.out.b18.cells
                    have lq := G31.out.b17.lt
                    have lp := G31.out.b18.lt
                    have S1 := Lib.hid (G31.out.put 3 (.int .i64 (RowKit.wrap64 (T + rt))))
                    clear G31
                    go_upto_region 32 with (fail)
                    clear q q' p p' lq lp
                    generalize World.setCell _ _ _ = wb at S1 ⊢
                    obtain ⟨q, q'⟩ := S1.out.b17.cells
                    obtain ⟨p, p'⟩ := S1.out.b18.cells
                    have lq := S1.out.b17.lt
                    have lp := S1.out.b18.lt
                    have S2 := Lib.hid (S1.out.put 4 (.int .i64 (RowKit.wrap64 (X + rx))))
                    clear S1
                    go_upto_region 33 with (fail)
                    clear q q' p p' lq lp
                    generalize World.setCell _ _ _ = wb at S2 ⊢
                    obtain ⟨q, q'⟩ := S2.out.b17.cells
                    obtain ⟨p, p'⟩ := S2.out.b18.cells
                    have lq := S2.out.b17.lt
                    have lp := S2.out.b18.lt
                    have S3 := Lib.hid (S2.out.put 5 (.int .i64 (RowKit.wrap64 (V + rv))))
                    clear S2
                    go_upto_region 34 with (fail)
                    clear q q' p p' lq lp
                    generalize World.setCell _ _ _ = wb at S3 ⊢
                    obtain ⟨q, q'⟩ := S3.out.b17.cells
                    obtain ⟨p, p'⟩ := S3.out.b18.cells
                    have lq := S3.out.b17.lt
                    have lp := S3.out.b18.lt
                    have S4 := Lib.hid (S3.out.put 6 (.int .i64 (RowKit.wrap64 (s + rs))))
                    clear S3
                    go_upto_region 35 with (fail)
                    clear q q' p p' lq lp
                    generalize World.setCell _ _ _ = wb at S4 ⊢
                    obtain ⟨q, q'⟩ := S4.out.b17.cells
                    obtain ⟨p, p'⟩ := S4.out.b18.cells
                    have lq := S4.out.b17.lt
                    have lp := S4.out.b18.lt
                    have S5 := Lib.hid (S4.out.put 7 (.int .i64 (RowKit.wrap64 (r + rr))))
                    clear S4
                    go_upto_region 36 with (fail)
                    clear q q' p p' lq lp
                    generalize World.setCell _ _ _ = wb at S5 ⊢
                    have HN2 := Lib.hid (HN.out _ S5.out.back)
                    have hDl : D.length ≤ 9223372036854775807 := by have := l5.out; unfold maxLen at m5; omega
                    clear HN S5
                    go_wp2_with fail
                    go_roundw
                    case rel => exact HN2.out
                    case measure => simp [intOf]; omega
                · obtain ⟨m, rfl⟩ : ∃ m, z = m + 1 := ⟨z - 1, by omega⟩
                  have hdz : decide ((0 : Int) < ((m + 1 : Nat) : Int)) = true := decide_eq_true (by omega)
                  have hml' : m < D.length := by omega
                  obtain ⟨hgd, d1, d2⟩ := HRD2.out m hml'
                  obtain ⟨_, e1, e2⟩ := HRD2.out (m + 1) hat
                  rw [hqD.out] at e1 e2
                  simp only at e1 e2
                  have ml : (m : Int) < (D.length : Int) := by omega
                  have mz : (0 : Int) ≤ (m : Int) := by omega
                  have s2 : IntKind.i64.wrap (m : Int) = (m : Int) := IntWalk.i64_in _ (by have := l5.out; unfold maxLen at m5; omega)
                  have hri := HRi.out D[m] (x.id, p) m (List.getElem?_eq_getElem hml') hq?.out
                  simp only at hri
                  generalize D[m].1 = da at *
                  generalize D[m].2 = db at *
                  clear HRD2 hz0
                  by_cases hda : da = x.id
                  · as_aux_lemma =>
                      have b1 : (da == x.id) = true := by simpa using hda
                      have b2 : decide (p ≤ db) = false := decide_eq_false (by rcases hri with h | h; exact absurd hda h; omega)
                      replace hda := Lib.hid hda
                      clear hri
                      go_wp2_with fail
                      go_quiet (fail)
                      go_upto_region 31 with (fail)
                      clear q q' lq hw1 hd1 hdz
                      generalize hwq : World.drewN wc _ = w31
                      have G31 := Lib.hid (show GC wo g13 g17 g18 cs (rpC T X V s r) #[.int .i64 rj, .int .i64 rk, .int .i64 rp, .int .i64 rt, .int .i64 rx, .int .i64 rv, .int .i64 rs, .int .i64 rr] w31 from by rw [← hwq]; exact HGC.out _)
                      clear hwq HGC
                      obtain ⟨q, q'⟩ := G31.out.b17.cells
                      obtain ⟨p, p'⟩ := G31.out.b18.cells
                      have lq := G31.out.b17.lt
                      have lp := G31.out.b18.lt
                      have S1 := Lib.hid (G31.out.put 3 (.int .i64 (RowKit.wrap64 (T + rt))))
                      clear G31
                      go_upto_region 32 with (fail)
                      clear q q' p p' lq lp
                      generalize World.setCell _ _ _ = wb at S1 ⊢
                      obtain ⟨q, q'⟩ := S1.out.b17.cells
                      obtain ⟨p, p'⟩ := S1.out.b18.cells
                      have lq := S1.out.b17.lt
                      have lp := S1.out.b18.lt
                      have S2 := Lib.hid (S1.out.put 4 (.int .i64 (RowKit.wrap64 (X + rx))))
                      clear S1
                      go_upto_region 33 with (fail)
                      clear q q' p p' lq lp
                      generalize World.setCell _ _ _ = wb at S2 ⊢
                      obtain ⟨q, q'⟩ := S2.out.b17.cells
                      obtain ⟨p, p'⟩ := S2.out.b18.cells
                      have lq := S2.out.b17.lt
                      have lp := S2.out.b18.lt
                      have S3 := Lib.hid (S2.out.put 5 (.int .i64 (RowKit.wrap64 (V + rv))))
                      clear S2
                      go_upto_region 34 with (fail)
                      clear q q' p p' lq lp
                      generalize World.setCell _ _ _ = wb at S3 ⊢
                      obtain ⟨q, q'⟩ := S3.out.b17.cells
                      obtain ⟨p, p'⟩ := S3.out.b18.cells
                      have lq := S3.out.b17.lt
                      have lp := S3.out.b18.lt
                      have S4 := Lib.hid (S3.out.put 6 (.int .i64 (RowKit.wrap64 (s + rs))))
                      clear S3
                      go_upto_region 35 with (fail)
                      clear q q' p p' lq lp
                      generalize World.setCell _ _ _ = wb at S4 ⊢
                      obtain ⟨q, q'⟩ := S4.out.b17.cells
                      obtain ⟨p, p'⟩ := S4.out.b18.cells
                      have lq := S4.out.b17.lt
                      have lp := S4.out.b18.lt
                      have S5 := Lib.hid (S4.out.put 7 (.int .i64 (RowKit.wrap64 (r + rr))))
                      clear S4
                      go_upto_region 36 with (fail)
                      clear q q' p p' lq lp
                      generalize World.setCell _ _ _ = wb at S5 ⊢
                      have HN2 := Lib.hid (HN.out _ S5.out.back)
                      have hDl : D.length ≤ 9223372036854775807 := by have := l5.out; unfold maxLen at m5; omega
                      clear HN S5
                      go_wp2_with fail
                      go_roundw
                      case rel => exact HN2.out
                      case measure => simp [intOf]; omega
                  · as_aux_lemma =>
                      have b1 : (da == x.id) = false := by simpa using hda
                      replace hda := Lib.hid hda
                      clear hri
                      go_wp2_with fail
                      go_quiet (fail)
                      go_upto_region 31 with (fail)
                      clear q q' lq hw1 hd1 hdz
                      generalize hwq : World.drewN wc _ = w31
                      have G31 := Lib.hid (show GC wo g13 g17 g18 cs (rpC T X V s r) #[.int .i64 rj, .int .i64 rk, .int .i64 rp, .int .i64 rt, .int .i64 rx, .int .i64 rv, .int .i64 rs, .int .i64 rr] w31 from by rw [← hwq]; exact HGC.out _)
                      clear hwq HGC
                      obtain ⟨q, q'⟩ := G31.out.b17.cells
                      obtain ⟨p, p'⟩ := G31.out.b18.cells
                      have lq := G31.out.b17.lt
                      have lp := G31.out.b18.lt
                      have S1 := Lib.hid (G31.out.put 3 (.int .i64 (RowKit.wrap64 (T + rt))))
                      clear G31
                      go_upto_region 32 with (fail)
                      clear q q' p p' lq lp
                      generalize World.setCell _ _ _ = wb at S1 ⊢
                      obtain ⟨q, q'⟩ := S1.out.b17.cells
                      obtain ⟨p, p'⟩ := S1.out.b18.cells
                      have lq := S1.out.b17.lt
                      have lp := S1.out.b18.lt
                      have S2 := Lib.hid (S1.out.put 4 (.int .i64 (RowKit.wrap64 (X + rx))))
                      clear S1
                      go_upto_region 33 with (fail)
                      clear q q' p p' lq lp
                      generalize World.setCell _ _ _ = wb at S2 ⊢
                      obtain ⟨q, q'⟩ := S2.out.b17.cells
                      obtain ⟨p, p'⟩ := S2.out.b18.cells
                      have lq := S2.out.b17.lt
                      have lp := S2.out.b18.lt
                      have S3 := Lib.hid (S2.out.put 5 (.int .i64 (RowKit.wrap64 (V + rv))))
                      clear S2
                      go_upto_region 34 with (fail)
                      clear q q' p p' lq lp
                      generalize World.setCell _ _ _ = wb at S3 ⊢
                      obtain ⟨q, q'⟩ := S3.out.b17.cells
                      obtain ⟨p, p'⟩ := S3.out.b18.cells
                      have lq := S3.out.b17.lt
                      have lp := S3.out.b18.lt
                      have S4 := Lib.hid (S3.out.put 6 (.int .i64 (RowKit.wrap64 (s + rs))))
                      clear S3
                      go_upto_region 35 with (fail)
                      clear q q' p p' lq lp
                      generalize World.setCell _ _ _ = wb at S4 ⊢
                      obtain ⟨q, q'⟩ := S4.out.b17.cells
                      obtain ⟨p, p'⟩ := S4.out.b18.cells
                      have lq := S4.out.b17.lt
                      have lp := S4.out.b18.lt
                      have S5 := Lib.hid (S4.out.put 7 (.int .i64 (RowKit.wrap64 (r + rr))))
                      clear S4
                      go_upto_region 36 with (fail)
                      clear q q' p p' lq lp
                      generalize World.setCell _ _ _ = wb at S5 ⊢
                      have HN2 := Lib.hid (HN.out _ S5.out.back)
                      have hDl : D.length ≤ 9223372036854775807 := by have := l5.out; unfold maxLen at m5; omega
                      clear HN S5
                      go_wp2_with fail
                      go_roundw
                      case rel => exact HN2.out
                      case measure => simp [intOf]; omega
          case rest =>
            obtain ⟨rfl, hX2, hB1, hB2⟩ := hcut
            have hcs := hcs'.out
            clear hcs' HEnd q1
            subst hcs
            generalize RowKit.wrap64 (sgS Mv.t ms) = a at *
            generalize RowKit.wrap64 (sgS Mv.x ms) = b at *
            generalize RowKit.wrap64 (sgS Mv.v ms) = c at *
            generalize (salesN ms : Int) = d at *
            generalize (backsN ms : Int) = e at *
            have hneq := fun W : World => (show (binOp .neq 23 (.agg #[.int .i64 0, .int .i64 0, .int .i64 0, .int .i64 a, .int .i64 b, .int .i64 c, .int .i64 d, .int .i64 e]) (.agg #[.int .i64 0, .int .i64 0, .int .i64 0, .int .i64 a, .int .i64 b, .int .i64 c, .int .i64 d, .int .i64 e])).run Tryz.prog W = .ok (.bool false) W from neq_rep ⟨0, 0, 0, a, b, c, d, e⟩ ⟨0, 0, 0, a, b, c, d, e⟩ false (by simp) W)
            obtain ⟨q, q'⟩ := hB1.cells
            obtain ⟨p, p'⟩ := hB2.cells
            have HF := Lib.hid (HNX.out wc _ rfl (HX.out.trans hX2))
            clear hB1 hB2 hX2 HNX
            go_wp2_with fail
            go_roundw
            case rel => exact HF.out
            case measure => simp [intOf]; omega
    · have hd : decide ((k : Int) < (js.length : Int)) = false := by simp; omega
      obtain rfl : k = js.length := by omega
      have hcl : (cutD D ((jsOf (jvs js)).map Jur.id) js.length).length = D.length := by
        have := cutD_all HD.out (by rw [hCq.out]; exact HC0.out)
        rwa [hJS] at this
      rw [hcl]
      have X6 := Lib.hid (HX5.out.trans hX)
      clear hX
      go_wp2_with fail
      go_ret
      exact ⟨rfl, X6.out⟩
end Go.Proofs.YtokakpbpenndlaaGreatDoor
