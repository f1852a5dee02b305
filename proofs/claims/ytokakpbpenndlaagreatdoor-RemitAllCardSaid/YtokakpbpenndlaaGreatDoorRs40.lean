/-
  remit: All.
-/
import Derived.Test.YtokakpbpenndlaaGreatDoorRs39
set_option linter.unusedVariables false
namespace Go.Proofs.YtokakpbpenndlaaGreatDoor
open Go.RowKit Go.Maps Go.Sort Go.Shelf

/-- What a jurisdiction's moves are due for. -/
noncomputable def dueM (j : Jur) (ms : List Mv) : List (Int × Int) := ms.map fun m => (j.id, ofI j.f m.day)
noncomputable def Bk.duesL (B : Bk) (l : List Jur) : List (Int × Int) := l.flatMap fun j => dueM j (B.moves j.id)
noncomputable def Bk.dues (B : Bk) (l : List Jur) : List (Int × Int) := if (checkJ l).1 ≠ 0 then [] else B.duesL l
theorem DueIs.ext {w w' : World} {B n : Nat} {ks : List (Int × Int)} (h : DueIs w B n ks) (hx : Ext w w') : DueIs w' B n ks := by
  obtain ⟨es, clock, hb, r⟩ := h.1
  exact ⟨⟨es, clock, by rw [hx.block B h.1.lt]; exact hb, r⟩, h.2⟩
theorem DueIs.snoc {w : World} {B n : Nat} {ks : List (Int × Int)} {p : Int × Int} (hp : i64 p.1 ∧ i64 p.2) (hk : ∀ q ∈ ks, i64 q.1 ∧ i64 q.2) (h : w.ownsMap Tryz.prog 62 (unitElem (H := Unit)) B n ((dueD ks).put (kl2 p) (.agg []))) : DueIs w B n (ks ++ [p]) := by
  refine ⟨?_, ?_⟩
  · show w.ownsMap _ _ _ _ _ (setOf (.agg []) ((ks ++ [p]).map kl2))
    rw [List.map_append, List.map_cons, List.map_nil, setOf_snoc]; exact h
  · intro q hq
    rcases List.mem_append.1 hq with hq | hq
    · exact hk q hq
    · rw [List.mem_singleton.1 hq]; exact hp
theorem DueIs.ne {w : World} {B n : Nat} {ks : List (Int × Int)} (h : DueIs w B n ks) {g : Nat} {t : TypeId} {cs : Array Value} (hb : Blk w g t cs) : g ≠ B := by
  rintro rfl
  obtain ⟨es, clock, hm, r⟩ := h.1
  have := hm.symm.trans hb
  simp at this
theorem DueIs.row_ne {w : World} {B n : Nat} {ks : List (Int × Int)} (h : DueIs w B n ks) {base : Nat} {e : TypeId} {size m : Nat} {v : Value} {xs : List Value} (ho : w.ownsRow base e size v m xs) : v.ownBlock = none ∨ v.ownBlock ≠ some B := by
  rcases ho.2 with ⟨rfl, _⟩ | ⟨g, cap, cur, rfl, _, hg, _⟩
  · exact .inl rfl
  · refine .inr fun e => ?_
    have e' : g = B := by simpa [Value.ownBlock] using e
    subst e'
    obtain ⟨es, clock, hm, r⟩ := h.1
    have := hm.symm.trans hg
    simp at this
theorem DueIs.made (w : World) : DueIs (w.alloc (.map #[] 0)) w.heap.size 0 [] := ⟨World.ownsMap_made _ _ _ _, by simp⟩
theorem of_i64 {f day : Int} (hf : 1 ≤ f ∧ f ≤ 4) (hd : 0 ≤ day ∧ day ≤ 3652058) : i64 (ofI f day) := by
  have h1 := monI_bd hd
  have h2 := longI_of hf
  unfold ofI i64
  rcases h2 with h | h | h | h <;> rw [h] <;> omega
/-- Where All's loop over the moves stands. -/
def AlIn (W : World) (mg g9 bse : Nat) (x : JV) (ks : List (Int × Int)) (ms : List Mv) (A7 : Option Addr) (c7 : Nat) (i : Value) (wr : World) : Prop :=
  ∃ k : Nat, k ≤ ms.length ∧ i = .int .i64 (k : Int) ∧ DueIs wr mg (ks.length + k) (ks ++ dueM x.j (ms.take k)) ∧ Ext W wr ∧ Blk wr g9 83 x.cl.toArray ∧ wr.ownsRow bse 85 6 (.slice A7 ms.length c7) ms.length (mvCells ms)
def AlOut (W : World) (mg : Nat) (B : Bk) (l : List JV) (i : Value) (wr : World) : Prop :=
  ∃ k : Nat, k ≤ l.length ∧ i = .int .i64 (k : Int) ∧ DueIs wr mg (B.duesL ((jsOf l).take k)).length (B.duesL ((jsOf l).take k)) ∧ Ext W wr
theorem duesL_take {B : Bk} {l : List JV} {k : Nat} (hk : k < l.length) : B.duesL ((jsOf l).take (k + 1)) = B.duesL ((jsOf l).take k) ++ dueM l[k].j (B.moves l[k].j.id) := by
  unfold Bk.duesL
  rw [List.take_succ_eq_append_getElem (by rw [jsOf_len]; exact hk), List.flatMap_append]
  simp [jsOf]
theorem dueM_take {j : Jur} {ms : List Mv} {k : Nat} (hk : k < ms.length) : dueM j (ms.take (k + 1)) = dueM j (ms.take k) ++ [(j.id, ofI j.f ms[k].day)] := by
  unfold dueM
  rw [List.take_succ_eq_append_getElem hk, List.map_append]
  rfl
theorem duesL_len {B : Bk} (hs : B.small) (l : List Jur) : (B.duesL l).length ≤ l.length * (6400 * B.length) := by
  unfold Bk.duesL
  induction l with
  | nil => simp
  | cons j l ih =>
    rw [List.flatMap_cons, List.length_append, List.length_cons, Nat.add_mul]
    have := moves_le hs j.id
    have h2 : (dueM j (B.moves j.id)).length = (B.moves j.id).length := by simp [dueM]
    omega
set_option maxRecDepth 100000 in
set_option maxHeartbeats 4000000 in
theorem rall_any {w0 W : World} {bb mb : Nat} {vids : Value} {M : BkM} (h : BookAt w0 W bb mb vids M) (hml : M.length ≤ 100000) (hs : M.b.small) (h3 : M.b.b3)
    (l : List JV) (A : Option Addr) (cap : Nat) (hr : Reads W W.heap.size 5 A l.length (jvCells l)) (hm : l.length ≤ maxLen) :
    Calls Tryz.prog 31 #[.pointer (some ⟨bb, 0, none⟩), .slice A l.length cap] W fun e w' => ∃ v ss, e = .returned v ∧ DueAll (M.b.dues (jsOf l)) ss ∧ w'.ownsRow W.heap.size 62 2 v ss.length (dueCl (sortD ss)) ∧ Ext W w' := by
  have HB := Lib.hid h
  have HR := Lib.hid (fun W' (hx : Ext W W') => hr.ext hx)
  have HJA := Lib.hid (fun k (hk : k < l.length) => jv_at hr hk)
  have HC := Lib.hid (jcheck_any l A cap W hr hm)
  have hD : M.b.dues (jsOf l) = if (checkJ (jsOf l)).1 ≠ 0 then [] else M.b.duesL (jsOf l) := rfl
  rw [hD]
  clear hD h hr hm
  by_cases h0 : (checkJ (jsOf l)).1 = 0
  case neg =>
    rw [if_pos h0]
    have hb : ((checkJ (jsOf l)).1 != 0) = true := by simpa using h0
    replace h0 := Lib.hid h0
    generalize checkJ (jsOf l) = C at *
    clear HJA
    go_enter Tryz.func31, Tryz.ntmps31
    go_wp2_with fail
    refine HC.out.mono ?_
    rintro e w1 ⟨rfl, hx⟩
    go_wp2_with fail
    go_ret
    exact ⟨.slice none 0 0, [], rfl, ⟨List.nodup_nil, fun p => Iff.rfl⟩, by simpa [sortD, dueCl] using World.ownsRow_nil w1 W.heap.size 62 2, hx⟩
  rw [if_neg (by simp [h0])]
  obtain ⟨hl64, hJ, _⟩ := checkJ_ok h0
  rw [jsOf_len] at hl64
  have HJb := Lib.hid (fun k (hk : k < l.length) => (show (1 ≤ l[k].j.id ∧ l[k].j.id ≤ 1099511627775) ∧ (1 ≤ l[k].j.f ∧ l[k].j.f ≤ 4) from by
    have := hJ k (by rw [jsOf_len]; exact hk)
    rwa [jsOf_at l k hk] at this))
  have hb : ((checkJ (jsOf l)).1 != 0) = false := by simp [h0]
  have HDl := Lib.hid (fun (js : List Jur) => duesL_len hs js)
  have hbl : M.b.length ≤ 100000 := by rw [BkM.len_b]; exact hml
  replace h0 := Lib.hid h0
  clear hJ
  generalize hCq : checkJ (jsOf l) = C at *
  clear hCq
  go_enter Tryz.func31, Tryz.ntmps31
  go_wp2_with fail
  refine HC.out.mono ?_
  rintro e w1 ⟨rfl, X1⟩
  go_wp2_with fail
  refine (rnone_any (HB.out.ext X1)).mono ?_
  rintro e w2 ⟨rfl, hx2⟩
  have X2 := X1.trans hx2
  clear X1 hx2 HC
  have hmm := @run_makeMap Tryz.prog
  go_wp2_with fail
  have D3 := DueIs.made w2
  have X3 := X2.alloc (.map #[] 0)
  have hmg : W.heap.size ≤ w2.heap.size := X2.size
  clear X2
  generalize w2.heap.size = mg at *
  generalize w2.alloc (.map #[] 0) = w3 at *
  go_loopw [28] (fun i wr => AlOut W mg M.b l i wr) (fun i _ => l.length - (intOf i).toNat)
  case atStart => exact ⟨0, by omega, rfl, D3, X3⟩
  clear D3 X3
  case round =>
    obtain ⟨k, hk, rfl, hDu, hX⟩ := hrel
    by_cases hlt : k < l.length
    · have hd : decide ((k : Int) < (l.length : Int)) = true := by simp; omega
      have kl : (k : Int) < (l.length : Int) := by omega
      have kz : (0 : Int) ≤ (k : Int) := by omega
      obtain ⟨g, off, rfl, hg, hc⟩ := HJA.out k hlt
      obtain ⟨c0, c1, c2, c3, c4⟩ := hc wr hX
      obtain ⟨⟨j1, j2⟩, jf⟩ := HJb.out k hlt
      have HT := Lib.hid (duesL_take (B := M.b) hlt)
      have HL := Lib.hid (HDl.out ((jsOf l).take k))
      clear hc
      have hmbd := moves_bd h3 (fun y hy => by obtain ⟨q, hq, rfl⟩ := List.mem_map.1 hy; exact HB.out.ok q hq) (j := l[k].j.id)
      have hml2 : (M.b.moves l[k].j.id).length ≤ 640000000 := by have := moves_le hs l[k].j.id; omega
      have hkl : (M.b.duesL ((jsOf l).take k)).length ≤ 64 * 640000000 := by
        have h1 := HL.out
        have h2 : ((jsOf l).take k).length ≤ 64 := by rw [List.length_take]; omega
        have h3 : ((jsOf l).take k).length * (6400 * M.b.length) ≤ 64 * 640000000 := Nat.mul_le_mul h2 (by omega)
        omega
      generalize l[k] = x at *
      have X9 := (Ext.refl wr).alloc (.cells #[.int .i64 x.j.id, .int .i64 x.j.k, .int .i64 x.j.par, .int .i64 x.j.f, .slice x.A x.n x.c] 83)
      have B9 := Blk.new wr 83 #[.int .i64 x.j.id, .int .i64 x.j.k, .int .i64 x.j.par, .int .i64 x.j.f, .slice x.A x.n x.c]
      have HMV := Lib.hid (moves_any (HB.out.ext (hX.trans X9)) x.j.id hml hs)
      generalize M.b.duesL ((jsOf l).take k) = ks at *
      generalize M.b.moves x.j.id = ms at *
      replace hmbd := Lib.hid hmbd
      have D9 := hDu.ext X9
      have hX9 := hX.trans X9
      clear hDu hX X9 HL
      go_wp2_with fail
      generalize wr.alloc (.cells #[.int .i64 x.j.id, .int .i64 x.j.k, .int .i64 x.j.par, .int .i64 x.j.f, .slice x.A x.n x.c] 83) = w4 at *
      generalize wr.heap.size = g9 at *
      refine HMV.out.mono ?_
      rintro e w5 ⟨A7, c7, rfl, ho5, hx5⟩
      have H0 := Lib.hid (show AlIn W mg g9 w4.heap.size x ks ms A7 c7 (.int .i64 ((0 : Nat) : Int)) w5 from ⟨0, by omega, rfl, by simpa [dueM] using D9.ext hx5, hX9.trans hx5, B9.ext hx5, ho5⟩)
      clear HMV D9 hX9 B9 ho5 hx5 c0 c1 c2 c3 c4
      go_wp2_with fail
      go_loopw [37] (fun v wr => AlIn W mg g9 w4.heap.size x ks ms A7 c7 v wr) (fun v _ => ms.length - (intOf v).toNat)
      case atStart => exact H0.out
      case round =>
        clear H0
        obtain ⟨m, hm, rfl, hDu, hX, hB9, ho⟩ := hrel
        by_cases hltm : m < ms.length
        · have hdm : decide ((m : Int) < (ms.length : Int)) = true := by simp; omega
          have ml : (m : Int) < (ms.length : Int) := by omega
          have mz : (0 : Int) ≤ (m : Int) := by omega
          obtain ⟨ga, oa, rfl, hga, a0, a1, a2, a3, a4, a5⟩ := mv_at (Reads.of_own ho) hltm
          obtain ⟨_, hday⟩ := hmbd.out _ (List.getElem_mem hltm)
          have HDT := Lib.hid (dueM_take (j := x.j) hltm)
          generalize ms[m] = y at *
          obtain ⟨r, r'⟩ := hB9.cells
          have X10 := (Ext.refl wr).alloc (.cells #[.int .i64 y.id, .int .i64 y.day, .bool y.back, .int .i64 y.t, .int .i64 y.x, .int .i64 y.v] 85)
          have B10 := Blk.new wr 85 #[.int .i64 y.id, .int .i64 y.day, .bool y.back, .int .i64 y.t, .int .i64 y.x, .int .i64 y.v]
          have hof := of_i64 jf hday
          have HP := Lib.hid (pof_any x.j.f y.day jf hday)
          have hidd : i64 x.j.id := by unfold i64; omega
          have hkey := keyDue x.j.id (ofI x.j.f y.day) hidd hof
          unfold dueV at hkey
          simp only at hkey
          have hB9l := hB9.lt
          simp only [JV.cl] at r
          go_wp2_with fail
          generalize wr.alloc (.cells #[.int .i64 y.id, .int .i64 y.day, .bool y.back, .int .i64 y.t, .int .i64 y.x, .int .i64 y.v] 85) = w6 at *
          generalize wr.heap.size = g11 at *
          refine (HP.out w6).mono ?_
          rintro e w7 ⟨rfl, hx7⟩
          have X7 := X10.trans hx7
          have D7 := hDu.ext X7
          have B7 := hB9.ext X7
          have O7 := own_ext ho X7
          have hX7 := hX.trans X7
          clear hDu hB9 ho hX X10 B10 hx7 X7 r r' a0 a1 a2 a3 a4 a5 HP
          obtain ⟨r, r'⟩ := B7.cells
          simp only [JV.cl] at r
          generalize ofI x.j.f y.day = of_ at *
          replace hkey := Lib.hid hkey
          replace HDT := Lib.hid HDT
          have hn : ks.length + m < maxLen := by unfold maxLen; omega
          have HD7 := Lib.hid D7
          clear D7
          go_wp2_with (at_mapUpdate; refine wpList_mapUpdate_own _ rfl _ _ _ 146 rfl 62 147 lawDue Tryz.underlying146 _ mg (ks.length + m) _ rfl HD7.out.1 hn _ _ _ rfl rfl hkey.out (.agg []) [] unitElem_mk ?_; intro w8 hown8 hgrow8)
          go_roundw
          case rel =>
            refine ⟨m + 1, by omega, rfl, ?_, hX7.grown hgrow8 (fun j e => by cases e; exact hmg), (hgrow8.block g9 B7.lt (fun e => HD7.out.ne B7 (by simpa using e))).trans B7, O7.kept hgrow8 (HD7.out.row_ne O7)⟩
            rw [HDT.out.out, ← List.append_assoc]
            exact DueIs.snoc (p := (x.j.id, of_)) ⟨hidd, hof⟩ HD7.out.2 hown8
          case measure => simp [intOf]; omega
        · obtain rfl : m = ms.length := by omega
          have hdm : decide ((ms.length : Int) < (ms.length : Int)) = false := by simp
          rw [List.take_length] at hDu
          have hlen : (ks ++ dueM x.j ms).length = ks.length + ms.length := by simp [dueM]
          go_wp2_with fail
          go_roundw
          case rel => exact ⟨k + 1, by omega, rfl, by rw [HT.out, hlen]; exact hDu, hX⟩
          case measure => simp [intOf]; omega
    · obtain rfl : k = l.length := by omega
      have hd : decide ((l.length : Int) < (l.length : Int)) = false := by simp
      have hjl : (jsOf l).take l.length = jsOf l := by rw [← jsOf_len l, List.take_length]
      rw [hjl] at hDu
      have hkl : (M.b.duesL (jsOf l)).length ≤ 64 * 640000000 := by
        have h1 := HDl.out (jsOf l)
        rw [jsOf_len] at h1
        have h3 : l.length * (6400 * M.b.length) ≤ 64 * 640000000 := Nat.mul_le_mul hl64 (by omega)
        omega
      have HK := Lib.hid (dueKeys_in Fence.wide 5 trivial rfl (some mg) wr)
      have BK := Blk.new wr 146 #[.map (some mg)]
      have XK := (Ext.refl wr).alloc (.cells #[.map (some mg)] 146)
      have HSo := Lib.hid (dueSorted_any wr.heap.size mg _ (M.b.duesL (jsOf l)) (wr.alloc (.cells #[.map (some mg)] 146)) BK.lt (BK.cell 0) (hDu.ext XK) (by unfold maxLen; omega) (by omega))
      have hX2 := hX.trans XK
      clear BK XK hDu
      go_wp2_with fail
      refine (callsIn_wide.1 HK.out).mono ?_
      rintro e w5 ⟨rfl, rfl⟩
      go_wp2_with fail
      refine HSo.out.mono ?_
      rintro e w6 ⟨v, ss, rfl, hS, ho, hx6⟩
      go_wp2_with fail
      go_ret
      exact ⟨v, ss, rfl, hS, own_base ho hX2.size, hX2.trans hx6⟩
end Go.Proofs.YtokakpbpenndlaaGreatDoor

set_option linter.unusedVariables false
namespace Go.Proofs.YtokakpbpenndlaaGreatDoor
open Go.Sort Go.Shelf

def keepE (e : Ent) : Kp := ⟨e, e.tax, List.replicate e.am.length 0, false⟩
def Bk.addAll (B : Bk) : List Ent → Bk
  | [] => B
  | e :: l => Bk.addAll (B.add e).1 l
theorem addAll_app (B : Bk) : ∀ (l : List Ent) (e : Ent), B.addAll (l ++ [e]) = ((B.addAll l).add e).1
  | [], e => rfl
  | x :: l, e => addAll_app (B.add x).1 l e
theorem check_ne7 (e : Ent) : e.check ≠ 7 := by
  unfold Ent.check
  by_cases h1 : e.head = false ∨ e.ams = false
  · rw [if_pos h1]; decide
  · rw [if_neg h1]
    by_cases h2 : e.fine = false
    · rw [if_pos h2]; decide
    · rw [if_neg h2]; decide
theorem add_sale_bad {B : Bk} {e : Ent} (h : e.check ≠ 0) : (B.add e).1 = B := by
  have hm : B.may e = e.check := by unfold Bk.may; rw [if_pos h]
  unfold Bk.add
  rw [hm, if_neg h, if_neg (fun x => check_ne7 e x.1)]
theorem add_sale_ok {B : Bk} {e : Ent} (hk : e.k = 1) (h : e.check = 0) (hf : e.id ∉ B.ids) : (B.add e).1 = B ++ [keepE e] := by
  have hfn : B.find e.id = none := by
    unfold Bk.find
    rw [List.find?_eq_none]
    intro x hx hid
    exact hf (List.mem_map.2 ⟨x, hx, by simpa using hid⟩)
  have hm : B.may e = 0 := by
    unfold Bk.may
    rw [if_neg (by simp [h]), if_neg (by simp [hfn]), if_neg (by omega), if_neg (by omega)]
  unfold Bk.add
  rw [if_pos hm]
  unfold Bk.put
  rw [if_pos hk]
  rfl
theorem sales_fold : ∀ (l : List Ent) (B : Bk), (∀ e ∈ l, e.k = 1) → (l.map Ent.id).Nodup → (∀ e ∈ l, e.id ∉ B.ids) → B.addAll l = B ++ (l.filter fun e => decide (e.check = 0)).map keepE
  | [], B, _, _, _ => by simp [Bk.addAll]
  | e :: l, B, hk, hn, hd => by
    rw [List.map_cons, List.nodup_cons] at hn
    show Bk.addAll (B.add e).1 l = _
    by_cases hc : e.check = 0
    · rw [add_sale_ok (hk e (by simp)) hc (hd e (by simp)), sales_fold l _ (fun x hx => hk x (by simp [hx])) hn.2 (fun x hx hm => ?_), List.filter_cons_of_pos (by simpa using hc)]
      · simp
      · simp only [Bk.ids, List.map_append, List.map_cons, List.map_nil, List.mem_append, List.mem_singleton] at hm
        rcases hm with hm | hm
        · exact hd x (by simp [hx]) hm
        · exact hn.1 (List.mem_map.2 ⟨x, hx, hm⟩)
    · rw [add_sale_bad hc, sales_fold l _ (fun x hx => hk x (by simp [hx])) hn.2 (fun x hx => hd x (by simp [hx])), List.filter_cons_of_neg (by simpa using hc)]
theorem sgS_perm (c : Mv → Int) {a b : List Mv} (h : a.Perm b) : sgS c a = sgS c b := by
  induction h with
  | nil => rfl
  | cons x _ ih => simp only [sgS]; rw [ih]
  | swap x y l => simp only [sgS]; omega
  | trans _ _ ih1 ih2 => exact ih1.trans ih2
theorem repOf_perm (id f p : Int) {a b : List Mv} (h : a.Perm b) : repOf id f p a = repOf id f p b := by
  have h1 : (perM f p a).Perm (perM f p b) := h.filter _
  unfold repOf
  rw [sgS_perm _ h1, sgS_perm _ h1, sgS_perm _ h1]
  have e1 : salesN (perM f p a) = salesN (perM f p b) := (h1.filter _).length_eq
  have e2 : backsN (perM f p a) = backsN (perM f p b) := (h1.filter _).length_eq
  rw [e1, e2]
theorem file_perm {K L : Bk} (h : ∀ j, (K.moves j).Perm (L.moves j)) (l : List Jur) (id p : Int) : K.file l id p = L.file l id p := by
  unfold Bk.file
  cases findJ l id with
  | none => rfl
  | some j =>
    simp only
    rw [repOf_perm id j.f p (h id)]
theorem dues_perm {K L : Bk} (h : ∀ j, (K.moves j).Perm (L.moves j)) (l : List Jur) (q : Int × Int) : q ∈ K.dues l ↔ q ∈ L.dues l := by
  unfold Bk.dues
  by_cases hc : (checkJ l).1 ≠ 0
  · rw [if_pos hc, if_pos hc]
  · rw [if_neg hc, if_neg hc]
    unfold Bk.duesL dueM
    simp only [List.mem_flatMap, List.mem_map]
    constructor
    · rintro ⟨j, hj, m, hm, rfl⟩
      exact ⟨j, hj, m, (h j.id).mem_iff.1 hm, rfl⟩
    · rintro ⟨j, hj, m, hm, rfl⟩
      exact ⟨j, hj, m, (h j.id).mem_iff.2 hm, rfl⟩
theorem sortD_perm_eq {a b : List (Int × Int)} (h : a.Perm b) : sortD a = sortD b := by
  have tr : ∀ x y z : Int × Int, (!(ltOf cmpDue) y x) = true → (!(ltOf cmpDue) z y) = true → (!(ltOf cmpDue) z x) = true := fun x y z h1 h2 => by
    rw [Bool.not_eq_true'] at *
    exact swoDue.ntrans z y x h2 h1
  have tot : ∀ x y : Int × Int, ((!(ltOf cmpDue) y x) || (!(ltOf cmpDue) x y)) = true := fun x y => by
    cases h1 : ltOf cmpDue y x with
    | false => rfl
    | true =>
      cases h2 : ltOf cmpDue x y with
      | false => rfl
      | true => exact absurd (swoDue.trans x y x h2 h1) (by rw [swoDue.irrefl]; decide)
  refine List.Perm.eq_of_pairwise (le := fun x y => (!(ltOf cmpDue) y x) = true) (fun x y _ _ h1 h2 => ?_) (List.pairwise_mergeSort tr tot a) (List.pairwise_mergeSort tr tot b) (((List.mergeSort_perm a _).trans h).trans (List.mergeSort_perm b _).symm)
  rw [Bool.not_eq_true'] at h1 h2
  exact totDue x y h2 h1
theorem dueAll_sort {ks ls ss ts : List (Int × Int)} (h : ∀ q, q ∈ ks ↔ q ∈ ls) (h1 : DueAll ks ss) (h2 : DueAll ls ts) : sortD ss = sortD ts :=
  sortD_perm_eq ((List.perm_ext_iff_of_nodup h1.1 h2.1).2 fun q => (h1.2 q).trans ((h q).trans (h2.2 q).symm))
theorem order_moves {l m : List Ent} (h : l.Perm m) (hk : ∀ e ∈ l, e.k = 1) (hn : (l.map Ent.id).Nodup) (j : Int) : (Bk.moves (Bk.addAll [] l) j).Perm (Bk.moves (Bk.addAll [] m) j) := by
  rw [sales_fold l [] hk hn (fun e _ => by simp [Bk.ids]), sales_fold m [] (fun e he => hk e (h.mem_iff.2 he)) ((h.map _).nodup_iff.1 hn) (fun e _ => by simp [Bk.ids])]
  simp only [List.nil_append]
  exact ((h.filter _).map _).flatMap_right _
theorem addAll_small {B : Bk} (h : B.small) : ∀ l, (B.addAll l).small
  | [] => h
  | e :: l => addAll_small (add_small h e) l
theorem addAll_b3 {B : Bk} (h : B.b3) : ∀ l, (B.addAll l).b3
  | [] => h
  | e :: l => addAll_b3 (add_b3 h e) l
end Go.Proofs.YtokakpbpenndlaaGreatDoor
