/-
  remit: All.
-/
import Derived.Test.YtokakpbpenndlaaGreatDoorRt39
set_option linter.unusedVariables false
namespace Go.Proofs.YtokakpbpenndlaaGreatDoor
open Go.RowKit Go.Maps Go.Sort Go.Shelf

/-- What a jurisdiction's moves are due for. -/
noncomputable def dueM (j : Jur) (ms : List Mv) : List (Int × Int) := ms.map fun m => (j.id, ofI j.f m.day)
noncomputable def Bk.duesL (B : Bk) (l : List Jur) : List (Int × Int) := l.flatMap fun j => dueM j (B.moves j.id)
noncomputable def Bk.dues (B : Bk) (l : List Jur) : List (Int × Int) := if (checkJ l).1 ≠ 0 then [] else B.duesL l
theorem DueIs.ext {w w' : World} {B n : Nat} {ks : List (Int × Int)} (h : DueIs w B n ks) (hx : Ext w w') : DueIs w' B n ks := by
  obtain ⟨es, clock, hb, r⟩ := h.1
  exact ⟨⟨es, clock, by rw [hx.block B h.1.lt]; exact hb, r⟩, h.2⟩
theorem DueIs.snoc {w : World} {B n : Nat} {ks : List (Int × Int)} {p : Int × Int} (hp : i64 p.1 ∧ i64 p.2) (hk : ∀ q ∈ ks, i64 q.1 ∧ i64 q.2) (h : w.ownsMap Tryz.prog 62 (unitElem (H := Unit)) B n ((dueD ks).put (kl2 p) (.agg []))) : DueIs w B n (ks ++ [p]) := by
  refine ⟨?_, ?_⟩
  · show w.ownsMap _ _ _ _ _ (setOf (.agg []) ((ks ++ [p]).map kl2))
    rw [List.map_append, List.map_cons, List.map_nil, setOf_snoc]; exact h
  · intro q hq
    rcases List.mem_append.1 hq with hq | hq
    · exact hk q hq
    · rw [List.mem_singleton.1 hq]; exact hp
theorem DueIs.ne {w : World} {B n : Nat} {ks : List (Int × Int)} (h : DueIs w B n ks) {g : Nat} {t : TypeId} {cs : Array Value} (hb : Blk w g t cs) : g ≠ B := by
  rintro rfl
  obtain ⟨es, clock, hm, r⟩ := h.1
  have := hm.symm.trans hb
  simp at this
theorem DueIs.row_ne {w : World} {B n : Nat} {ks : List (Int × Int)} (h : DueIs w B n ks) {base : Nat} {e : TypeId} {size m : Nat} {v : Value} {xs : List Value} (ho : w.ownsRow base e size v m xs) : v.ownBlock = none ∨ v.ownBlock ≠ some B := by
  rcases ho.2 with ⟨rfl, _⟩ | ⟨g, cap, cur, rfl, _, hg, _⟩
  · exact .inl rfl
  · refine .inr fun e => ?_
    have e' : g = B := by simpa [Value.ownBlock] using e
    subst e'
    obtain ⟨es, clock, hm, r⟩ := h.1
    have := hm.symm.trans hg
    simp at this
theorem DueIs.made (w : World) : DueIs (w.alloc (.map #[] 0)) w.heap.size 0 [] := ⟨World.ownsMap_made _ _ _ _, by simp⟩
theorem of_i64 {f day : Int} (hf : 1 ≤ f ∧ f ≤ 4) (hd : 0 ≤ day ∧ day ≤ 3652058) : i64 (ofI f day) := by
  have h1 := monI_bd hd
  have h2 := longI_of hf
  unfold ofI i64
  rcases h2 with h | h | h | h <;> rw [h] <;> omega
/-- Where All's loop over the moves stands. -/
def AlIn (W : World) (mg g9 bse : Nat) (x : JV) (ks : List (Int × Int)) (ms : List Mv) (A7 : Option Addr) (c7 : Nat) (i : Value) (wr : World) : Prop :=
  ∃ k : Nat, k ≤ ms.length ∧ i = .int .i64 (k : Int) ∧ DueIs wr mg (ks.length + k) (ks ++ dueM x.j (ms.take k)) ∧ Ext W wr ∧ Blk wr g9 83 x.cl.toArray ∧ wr.ownsRow bse 85 6 (.slice A7 ms.length c7) ms.length (mvCells ms)
def AlOut (W : World) (mg : Nat) (B : Bk) (l : List JV) (i : Value) (wr : World) : Prop :=
  ∃ k : Nat, k ≤ l.length ∧ i = .int .i64 (k : Int) ∧ DueIs wr mg (B.duesL ((jsOf l).take k)).length (B.duesL ((jsOf l).take k)) ∧ Ext W wr
theorem duesL_take {B : Bk} {l : List JV} {k : Nat} (hk : k < l.length) : B.duesL ((jsOf l).take (k + 1)) = B.duesL ((jsOf l).take k) ++ dueM l[k].j (B.moves l[k].j.id) := by
  unfold Bk.duesL
  rw [List.take_succ_eq_append_getElem (by rw [jsOf_len]; exact hk), List.flatMap_append]
  simp [jsOf]
theorem dueM_take {j : Jur} {ms : List Mv} {k : Nat} (hk : k < ms.length) : dueM j (ms.take (k + 1)) = dueM j (ms.take k) ++ [(j.id, ofI j.f ms[k].day)] := by
  unfold dueM
  rw [List.take_succ_eq_append_getElem hk, List.map_append]
  rfl
theorem duesL_len {B : Bk} (hs : B.small) (l : List Jur) : (B.duesL l).length ≤ l.length * (6400 * B.length) := by
  unfold Bk.duesL
  induction l with
  | nil => simp
  | cons j l ih =>
    rw [List.flatMap_cons, List.length_append, List.length_cons, Nat.add_mul]
    have := moves_le hs j.id
    have h2 : (dueM j (B.moves j.id)).length = (B.moves j.id).length := by simp [dueM]
    omega
set_option maxRecDepth 100000 in
set_option maxHeartbeats 4000000 in
theorem rall_any {w0 W : World} {bb mb : Nat} {vids : Value} {M : BkM} (h : BookAt w0 W bb mb vids M) (hml : M.length ≤ 100000) (hs : M.b.small) (h3 : M.b.b3)
    (l : List JV) (A : Option Addr) (cap : Nat) (hr : Reads W W.heap.size 5 A l.length (jvCells l)) (hm : l.length ≤ maxLen) :
    Calls Tryz.prog 31 #[.pointer (some ⟨bb, 0, none⟩), .slice A l.length cap] W fun e w' => ∃ v ss, e = .returned v ∧ DueAll (M.b.dues (jsOf l)) ss ∧ w'.ownsRow W.heap.size 62 2 v ss.length (dueCl (sortD ss)) ∧ Ext W w' := by
  have HB := Lib.hid h
  have HR := Lib.hid (fun W' (hx : Ext W W') => hr.ext hx)
  have HJA := Lib.hid (fun k (hk : k < l.length) => jv_at hr hk)
  have HC := Lib.hid (jcheck_any l A cap W hr hm)
  have hD : M.b.dues (jsOf l) = if (checkJ (jsOf l)).1 ≠ 0 then [] else M.b.duesL (jsOf l) := rfl
  rw [hD]
  clear hD h hr hm
  by_cases h0 : (checkJ (jsOf l)).1 = 0
  case neg =>
    rw [if_pos h0]
    have hb : ((checkJ (jsOf l)).1 != 0) = true := by simpa using h0
    replace h0 := Lib.hid h0
    generalize checkJ (jsOf l) = C at *
    clear HJA
    go_enter Tryz.func31, Tryz.ntmps31
    go_wp2_with fail
    refine HC.out.mono ?_
    rintro e w1 ⟨rfl, hx⟩
    go_wp2_with fail
    go_ret
    exact ⟨.slice none 0 0, [], rfl, ⟨List.nodup_nil, fun p => Iff.rfl⟩, by simpa [sortD, dueCl] using World.ownsRow_nil w1 W.heap.size 62 2, hx⟩
  rw [if_neg (by simp [h0])]
  obtain ⟨hl64, hJ, _⟩ := checkJ_ok h0
  rw [jsOf_len] at hl64
  have HJb := Lib.hid (fun k (hk : k < l.length) => (show (1 ≤ l[k].j.id ∧ l[k].j.id ≤ 1099511627775) ∧ (1 ≤ l[k].j.f ∧ l[k].j.f ≤ 4) from by
    have := hJ k (by rw [jsOf_len]; exact hk)
    rwa [jsOf_at l k hk] at this))
  have hb : ((checkJ (jsOf l)).1 != 0) = false := by simp [h0]
  have HDl := Lib.hid (fun (js : List Jur) => duesL_len hs js)
  have hbl : M.b.length ≤ 100000 := by rw [BkM.len_b]; exact hml
  replace h0 := Lib.hid h0
  clear hJ
  generalize hCq : checkJ (jsOf l) = C at *
  clear hCq
  go_enter Tryz.func31, Tryz.ntmps31
  go_wp2_with fail
  refine HC.out.mono ?_
  rintro e w1 ⟨rfl, X1⟩
  go_wp2_with fail
  refine (rnone_any (HB.out.ext X1)).mono ?_
  rintro e w2 ⟨rfl, hx2⟩
  have X2 := X1.trans hx2
  clear X1 hx2 HC
  have hmm := @run_makeMap Tryz.prog
  go_wp2_with fail
  have D3 := DueIs.made w2
  have X3 := X2.alloc (.map #[] 0)
  have hmg : W.heap.size ≤ w2.heap.size := X2.size
  clear X2
  generalize w2.heap.size = mg at *
  generalize w2.alloc (.map #[] 0) = w3 at *
  go_loopw [28] (fun i wr => AlOut W mg M.b l i wr) (fun i _ => l.length - (intOf i).toNat)
  case atStart => exact ⟨0, by omega, rfl, D3, X3⟩
  clear D3 X3
  case round =>
    obtain ⟨k, hk, rfl, hDu, hX⟩ := hrel
    by_cases hlt : k < l.length
    · have hd : decide ((k : Int) < (l.length : Int)) = true := by simp; omega
      have kl : (k : Int) < (l.length : Int) := by omega
      have kz : (0 : Int) ≤ (k : Int) := by omega
      obtain ⟨g, off, rfl, hg, hc⟩ := HJA.out k hlt
      obtain ⟨c0, c1, c2, c3, c4⟩ := hc wr hX
      obtain ⟨⟨j1, j2⟩, jf⟩ := HJb.out k hlt
      have HT := Lib.hid (duesL_take (B := M.b) hlt)
      have HL := Lib.hid (HDl.out ((jsOf l).take k))
      clear hc
      have hmbd := moves_bd h3 (fun y hy => by obtain ⟨q, hq, rfl⟩ := List.mem_map.1 hy; exact HB.out.ok q hq) (j := l[k].j.id)
      have hml2 : (M.b.moves l[k].j.id).length ≤ 640000000 := by have := moves_le hs l[k].j.id; omega
      have hkl : (M.b.duesL ((jsOf l).take k)).length ≤ 64 * 640000000 := by
        have h1 := HL.out
        have h2 : ((jsOf l).take k).length ≤ 64 := by rw [List.length_take]; omega
        have h3 : ((jsOf l).take k).length * (6400 * M.b.length) ≤ 64 * 640000000 := Nat.mul_le_mul h2 (by omega)
        omega
      generalize l[k] = x at *
      have X9 := (Ext.refl wr).alloc (.cells #[.int .i64 x.j.id, .int .i64 x.j.k, .int .i64 x.j.par, .int .i64 x.j.f, .slice x.A x.n x.c] 83)
      have B9 := Blk.new wr 83 #[.int .i64 x.j.id, .int .i64 x.j.k, .int .i64 x.j.par, .int .i64 x.j.f, .slice x.A x.n x.c]
      have HMV := Lib.hid (moves_any (HB.out.ext (hX.trans X9)) x.j.id hml hs)
      generalize M.b.duesL ((jsOf l).take k) = ks at *
      generalize M.b.moves x.j.id = ms at *
      replace hmbd := Lib.hid hmbd
      have D9 := hDu.ext X9
      have hX9 := hX.trans X9
      clear hDu hX X9 HL
      go_wp2_with fail
      generalize wr.alloc (.cells #[.int .i64 x.j.id, .int .i64 x.j.k, .int .i64 x.j.par, .int .i64 x.j.f, .slice x.A x.n x.c] 83) = w4 at *
      generalize wr.heap.size = g9 at *
      refine HMV.out.mono ?_
      rintro e w5 ⟨A7, c7, rfl, ho5, hx5⟩
      have H0 := Lib.hid (show AlIn W mg g9 w4.heap.size x ks ms A7 c7 (.int .i64 ((0 : Nat) : Int)) w5 from ⟨0, by omega, rfl, by simpa [dueM] using D9.ext hx5, hX9.trans hx5, B9.ext hx5, ho5⟩)
      clear HMV D9 hX9 B9 ho5 hx5 c0 c1 c2 c3 c4
      go_wp2_with fail
      go_loopw [37] (fun v wr => AlIn W mg g9 w4.heap.size x ks ms A7 c7 v wr) (fun v _ => ms.length - (intOf v).toNat)
      case atStart => exact H0.out
      case round =>
        clear H0
        obtain ⟨m, hm, rfl, hDu, hX, hB9, ho⟩ := hrel
        by_cases hltm : m < ms.length
        · have hdm : decide ((m : Int) < (ms.length : Int)) = true := by simp; omega
          have ml : (m : Int) < (ms.length : Int) := by omega
          have mz : (0 : Int) ≤ (m : Int) := by omega
          obtain ⟨ga, oa, rfl, hga, a0, a1, a2, a3, a4, a5⟩ := mv_at (Reads.of_own ho) hltm
          obtain ⟨_, hday⟩ := hmbd.out _ (List.getElem_mem hltm)
          have HDT := Lib.hid (dueM_take (j := x.j) hltm)
          generalize ms[m] = y at *
          obtain ⟨r, r'⟩ := hB9.cells
          have X10 := (Ext.refl wr).alloc (.cells #[.int .i64 y.id, .int .i64 y.day, .bool y.back, .int .i64 y.t, .int .i64 y.x, .int .i64 y.v] 85)
          have B10 := Blk.new wr 85 #[.int .i64 y.id, .int .i64 y.day, .bool y.back, .int .i64 y.t, .int .i64 y.x, .int .i64 y.v]
          have hof := of_i64 jf hday
          have HP := Lib.hid (pof_any x.j.f y.day jf hday)
          have hidd : i64 x.j.id := by unfold i64; omega
          have hkey := keyDue x.j.id (ofI x.j.f y.day) hidd hof
          unfold dueV at hkey
          simp only at hkey
          have hB9l := hB9.lt
          simp only [JV.cl] at r
          go_wp2_with fail
          generalize wr.alloc (.cells #[.int .i64 y.id, .int .i64 y.day, .bool y.back, .int .i64 y.t, .int .i64 y.x, .int .i64 y.v] 85) = w6 at *
          generalize wr.heap.size = g11 at *
          refine (HP.out w6).mono ?_
          rintro e w7 ⟨rfl, hx7⟩
          have X7 := X10.trans hx7
          have D7 := hDu.ext X7
          have B7 := hB9.ext X7
          have O7 := own_ext ho X7
          have hX7 := hX.trans X7
          clear hDu hB9 ho hX X10 B10 hx7 X7 r r' a0 a1 a2 a3 a4 a5 HP
          obtain ⟨r, r'⟩ := B7.cells
          simp only [JV.cl] at r
          generalize ofI x.j.f y.day = of_ at *
          replace hkey := Lib.hid hkey
          replace HDT := Lib.hid HDT
          have hn : ks.length + m < maxLen := by unfold maxLen; omega
          have HD7 := Lib.hid D7
          clear D7
          go_wp2_with (at_mapUpdate; refine wpList_mapUpdate_own _ rfl _ _ _ 146 rfl 62 147 lawDue Tryz.underlying146 _ mg (ks.length + m) _ rfl HD7.out.1 hn _ _ _ rfl rfl hkey.out (.agg []) [] unitElem_mk ?_; intro w8 hown8 hgrow8)
          go_roundw
          case rel =>
            refine ⟨m + 1, by omega, rfl, ?_, hX7.grown hgrow8 (fun j e => by cases e; exact hmg), (hgrow8.block g9 B7.lt (fun e => HD7.out.ne B7 (by simpa using e))).trans B7, O7.kept hgrow8 (HD7.out.row_ne O7)⟩
            rw [HDT.out.out, ← List.append_assoc]
            exact DueIs.snoc (p := (x.j.id, of_)) ⟨hidd, hof⟩ HD7.out.2 hown8
          case measure => simp [intOf]; omega
        · obtain rfl : m = ms.length := by omega
          have hdm : decide ((ms.length : Int) < (ms.length : Int)) = false := by simp
          rw [List.take_length] at hDu
          have hlen : (ks ++ dueM x.j ms).length = ks.length + ms.length := by simp [dueM]
          go_wp2_with fail
          go_roundw
          case rel => exact ⟨k + 1, by omega, rfl, by rw [HT.out, hlen]; exact hDu, hX⟩
          case measure => simp [intOf]; omega
    · obtain rfl : k = l.length := by omega
      have hd : decide ((l.length : Int) < (l.length : Int)) = false := by simp
      have hjl : (jsOf l).take l.length = jsOf l := by rw [← jsOf_len l, List.take_length]
      rw [hjl] at hDu
      have hkl : (M.b.duesL (jsOf l)).length ≤ 64 * 640000000 := by
        have h1 := HDl.out (jsOf l)
        rw [jsOf_len] at h1
        have h3 : l.length * (6400 * M.b.length) ≤ 64 * 640000000 := Nat.mul_le_mul hl64 (by omega)
        omega
      have HK := Lib.hid (dueKeys_in Fence.wide 5 trivial rfl (some mg) wr)
      have BK := Blk.new wr 146 #[.map (some mg)]
      have XK := (Ext.refl wr).alloc (.cells #[.map (some mg)] 146)
      have HSo := Lib.hid (dueSorted_any wr.heap.size mg _ (M.b.duesL (jsOf l)) (wr.alloc (.cells #[.map (some mg)] 146)) BK.lt (BK.cell 0) (hDu.ext XK) (by unfold maxLen; omega) (by omega))
      have hX2 := hX.trans XK
      clear BK XK hDu
      go_wp2_with fail
      refine (callsIn_wide.1 HK.out).mono ?_
      rintro e w5 ⟨rfl, rfl⟩
      go_wp2_with fail
      refine HSo.out.mono ?_
      rintro e w6 ⟨v, ss, rfl, hS, ho, hx6⟩
      go_wp2_with fail
      go_ret
      exact ⟨v, ss, rfl, hS, own_base ho hX2.size, hX2.trans hx6⟩
end Go.Proofs.YtokakpbpenndlaaGreatDoor

set_option linter.unusedVariables false
namespace Go.Proofs.YtokakpbpenndlaaGreatDoor
open Go.Sort Go.Shelf
def Bk.addAll (B : Bk) : List Ent → Bk
  | [] => B
  | e :: l => Bk.addAll (B.add e).1 l
theorem addAll_app (B : Bk) : ∀ (l : List Ent) (e : Ent), B.addAll (l ++ [e]) = ((B.addAll l).add e).1
  | [], e => rfl
  | x :: l, e => addAll_app (B.add x).1 l e
theorem addAll_small {B : Bk} (h : B.small) : ∀ l, (B.addAll l).small
  | [] => h
  | e :: l => addAll_small (add_small h e) l
theorem addAll_b3 {B : Bk} (h : B.b3) : ∀ l, (B.addAll l).b3
  | [] => h
  | e :: l => addAll_b3 (add_b3 h e) l
end Go.Proofs.YtokakpbpenndlaaGreatDoor

set_option linter.unusedVariables false
namespace Go.Proofs.YtokakpbpenndlaaGreatDoor
open Go.Sort Go.Shelf

/-- What is due, sorted: strictly rising. -/
theorem sortD_lt {ks ss : List (Int × Int)} (h : DueAll ks ss) : (sortD ss).Pairwise fun x y => ltDue x y = true := by
  have tr : ∀ x y z : Int × Int, (!(ltOf cmpDue) y x) = true → (!(ltOf cmpDue) z y) = true → (!(ltOf cmpDue) z x) = true := fun x y z h1 h2 => by
    rw [Bool.not_eq_true'] at *
    exact swoDue.ntrans z y x h2 h1
  have tot : ∀ x y : Int × Int, ((!(ltOf cmpDue) y x) || (!(ltOf cmpDue) x y)) = true := fun x y => by
    cases h1 : ltOf cmpDue y x with
    | false => rfl
    | true =>
      cases h2 : ltOf cmpDue x y with
      | false => rfl
      | true => exact absurd (swoDue.trans x y x h2 h1) (by rw [swoDue.irrefl]; decide)
  have h1 := List.pairwise_mergeSort tr tot ss
  have h2 : (sortD ss).Nodup := ((List.mergeSort_perm ss _).nodup_iff).2 h.1
  refine List.Pairwise.imp ?_ (h1.and h2)
  rintro x y ⟨a, b⟩
  rw [Bool.not_eq_true'] at a
  cases hc : ltOf cmpDue x y with
  | false => exact absurd (totDue x y hc a) b
  | true => rw [← cmp_lt]; exact hc
theorem sortD_mem {ks ss : List (Int × Int)} (h : DueAll ks ss) (q : Int × Int) : q ∈ sortD ss ↔ q ∈ ks :=
  ((List.mergeSort_perm ss _).mem_iff).trans (h.2 q)
def atJ (i : Int) (q : Int × Int) : Bool := decide (q.1 = i)
theorem sales_backs : ∀ l : List Mv, salesN l + backsN l = l.length
  | [] => rfl
  | m :: l => by
    have h1 := salesN_app [m] l
    have h2 := backsN_app [m] l
    simp only [List.singleton_append] at h1 h2
    have := sales_backs l
    have h3 : salesN [m] + backsN [m] = 1 := by
      unfold salesN backsN
      cases hb : m.back <;> simp [hb]
    rw [h1, h2, List.length_cons]
    omega

/-- Bounds of what was moved, where amounts and taxes are small. -/
def bd40 (l : Tx) : Prop := (-1099511627776 ≤ l.t ∧ l.t ≤ 1099511627776) ∧ (-1099511627776 ≤ l.x ∧ l.x ≤ 1099511627776) ∧ (-1099511627776 ≤ l.v ∧ l.v ≤ 1099511627776)
def lim40 (l : Tx) : Prop := l.t + l.x ≤ 1099511627776 ∧ l.v ≤ 1099511627776
def Bk.b40 (B : Bk) : Prop := ∀ x ∈ B, (x.e.k = 1 → ∀ l ∈ x.lines, lim40 l) ∧ ∀ l ∈ x.lines, bd40 l
def Ent.b40 (e : Ent) : Prop := (∀ n ∈ e.am, n ≤ 1099511627776) ∧ ∀ x ∈ e.tax, x.v ≤ 1099511627776
theorem moves_b40 {B : Bk} (h : B.b40) {j : Int} : ∀ m ∈ B.moves j, (-1099511627776 ≤ m.t ∧ m.t ≤ 1099511627776) ∧ (-1099511627776 ≤ m.x ∧ m.x ≤ 1099511627776) ∧ (-1099511627776 ≤ m.v ∧ m.v ≤ 1099511627776) := by
  intro m hm
  unfold Bk.moves at hm
  obtain ⟨x, hx, hm⟩ := List.mem_flatMap.1 hm
  unfold Kp.moves at hm
  by_cases hv : x.voided = true
  · rw [if_pos hv] at hm; cases hm
  rw [if_neg hv] at hm
  obtain ⟨l, hl, rfl⟩ := List.mem_map.1 hm
  exact (h x hx).2 l (List.mem_filter.1 hl).1
theorem sgS_b40 {c : Mv → Int} : ∀ {l : List Mv}, (∀ m ∈ l, -1099511627776 ≤ c m ∧ c m ≤ 1099511627776) → -(1099511627776 * (l.length : Int)) ≤ sgS c l ∧ sgS c l ≤ 1099511627776 * (l.length : Int)
  | [], _ => by simp [sgS]
  | m :: l, h => by
    have h1 := h m (by simp)
    have h2 := sgS_b40 (c := c) (l := l) fun x hx => h x (by simp [hx])
    rw [show sgS c (m :: l) = (if m.back then - c m else c m) + sgS c l from rfl]
    simp only [List.length_cons]
    split <;> omega
theorem rep_fits {B : Bk} (h : B.b40) (hs : B.small) (hl : B.length ≤ 25) (id f p : Int) : (repOf id f p (B.moves id)).fits := by
  have h1 := moves_le hs id
  have h2 := perM_le f p (B.moves id)
  have hb : ∀ m ∈ perM f p (B.moves id), _ := fun m hm => moves_b40 h m (List.mem_filter.1 hm).1
  have a1 := sgS_b40 (c := Mv.t) fun m hm => (hb m hm).1
  have a2 := sgS_b40 (c := Mv.x) fun m hm => (hb m hm).2.1
  have a3 := sgS_b40 (c := Mv.v) fun m hm => (hb m hm).2.2
  have hn : (perM f p (B.moves id)).length ≤ 160000 := by omega
  unfold Rep.fits repOf i64
  simp only
  omega

/-- What is due, in order: of each jurisdiction its periods. -/
structure DueOf (B : Bk) (js : List Jur) (D : List (Int × Int)) : Prop where
  lt : D.Pairwise fun x y => ltDue x y = true
  mem : ∀ q, q ∈ D ↔ ∃ j ∈ js, ∃ m ∈ B.moves j.id, q = (j.id, ofI j.f m.day)
theorem dueOf {B : Bk} {js : List Jur} {ss : List (Int × Int)} (hc : (checkJ js).1 = 0) (h : DueAll (B.dues js) ss) : DueOf B js (sortD ss) := by
  refine ⟨sortD_lt h, fun q => ?_⟩
  rw [sortD_mem h]
  unfold Bk.dues
  rw [if_neg (by simp [hc])]
  unfold Bk.duesL dueM
  simp only [List.mem_flatMap, List.mem_map]
  constructor
  · rintro ⟨j, hj, m, hm, rfl⟩; exact ⟨j, hj, m, hm, rfl⟩
  · rintro ⟨j, hj, m, hm, rfl⟩; exact ⟨j, hj, m, hm, rfl⟩
theorem getD_at (l : List Jur) (i : Nat) (h : i < l.length) : l.getD i Jur.zero = l[i] := by simp [List.getD, h]
theorem ids_rise {js : List Jur} (hc : (checkJ js).1 = 0) : (js.map Jur.id).Pairwise (· < ·) := by
  obtain ⟨_, _, h⟩ := checkJ_ok hc
  have key : ∀ d i, i + d + 1 < js.length → (js.getD i Jur.zero).id < (js.getD (i + d + 1) Jur.zero).id := by
    intro d
    induction d with
    | zero => intro i hi; exact h i hi
    | succ d ih =>
      intro i hi
      have h1 := ih i (by omega)
      have h2 := h (i + d + 1) (by omega)
      rw [show i + (d + 1) + 1 = i + d + 1 + 1 by omega]
      omega
  rw [List.pairwise_iff_getElem]
  intro a b ha hb hab
  have ha' : a < js.length := by simpa using ha
  have hb' : b < js.length := by simpa using hb
  have := key (b - a - 1) a (by omega)
  rw [show a + (b - a - 1) + 1 = b by omega, getD_at _ _ ha', getD_at _ _ hb'] at this
  simpa using this
theorem same_jur {js : List Jur} (hc : (checkJ js).1 = 0) {x y : Jur} (hx : x ∈ js) (hy : y ∈ js) (h : x.id = y.id) : x = y := by
  obtain ⟨a, ha, rfl⟩ := List.mem_iff_getElem.1 hx
  obtain ⟨b, hb, rfl⟩ := List.mem_iff_getElem.1 hy
  have hp := ids_rise hc
  rw [List.pairwise_iff_getElem] at hp
  by_cases h1 : a < b
  · have := hp a b (by simpa using ha) (by simpa using hb) h1
    simp at this; omega
  by_cases h2 : b < a
  · have := hp b a (by simpa using hb) (by simpa using ha) h2
    simp at this; omega
  have : a = b := by omega
  subst this; rfl
theorem find_own {js : List Jur} (hc : (checkJ js).1 = 0) {j : Jur} (h : j ∈ js) : findJ js j.id = some j := by
  cases hf : findJ js j.id with
  | none =>
    unfold findJ at hf
    rw [List.find?_eq_none] at hf
    exact absurd (by simp) (hf j h)
  | some x =>
    obtain ⟨h1, h2⟩ := findJ_mem hf
    rw [same_jur hc h1 h h2]
/-- A jurisdiction's periods. -/
def perD (D : List (Int × Int)) (id : Int) : List Int := (D.filter (atJ id)).map (·.2)
/-- What is filed of a period that is due. -/
theorem DueOf.file {B : Bk} {js : List Jur} {D : List (Int × Int)} (h : DueOf B js D) (hc : (checkJ js).1 = 0) {j : Jur} (hj : j ∈ js) {p : Int} (hp : p ∈ perD D j.id) (h40 : B.b40) (hs : B.small) (hl : B.length ≤ 25) (hd : ∀ m ∈ B.moves j.id, 0 ≤ m.day ∧ m.day ≤ 3652058) :
    B.file js j.id p = (repOf j.id j.f p (B.moves j.id), 0) ∧ 1 ≤ salesN (perM j.f p (B.moves j.id)) + backsN (perM j.f p (B.moves j.id)) := by
  unfold perD at hp
  obtain ⟨q, hq, rfl⟩ := List.mem_map.1 hp
  obtain ⟨hq1, hq2⟩ := List.mem_filter.1 hq
  simp only [atJ, decide_eq_true_eq] at hq2
  obtain ⟨j', hj', m, hm, rfl⟩ := (h.mem q).1 hq1
  simp only at hq2
  obtain rfl := same_jur hc hj' hj hq2
  obtain ⟨k, hk, e⟩ := List.mem_iff_getElem.1 hj
  obtain ⟨_, hb, _⟩ := checkJ_ok hc
  have hf := (hb k hk).2
  rw [getD_at _ _ hk, e] at hf
  refine ⟨?_, ?_⟩
  · unfold Bk.file
    rw [if_neg (by simp [hc]), find_own hc hj]
    simp only
    rw [if_neg (by simpa using ofI_fine hf (hd m hm)), if_pos (rep_fits h40 hs hl _ _ _)]
  · rw [sales_backs]
    exact List.length_pos_of_mem (List.mem_filter.2 ⟨hm, by simp [inP]⟩)
end Go.Proofs.YtokakpbpenndlaaGreatDoor
