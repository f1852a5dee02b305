/-
  A book filled with entries.
-/
import Derived.Test.YtehkmngbknbbaaaRk35
import Derived.Test.YtehkmngbknbbaaaRk20
set_option linter.unusedVariables false
namespace Go.Proofs.Ytehkmngbknbbaaa
open Go.RowKit Go.Maps

theorem put_mem_e {B : Bk} {e : Ent} : ∀ p ∈ (B.put e).1, p.e = e ∨ ∃ q ∈ B, q.e = p.e := by
  have hsn : ∀ (B' : Bk) (x : Kp), x.e = e → (∀ p ∈ B', ∃ q ∈ B, q.e = p.e) → ∀ p ∈ B' ++ [x], p.e = e ∨ ∃ q ∈ B, q.e = p.e := by
    intro B' x hx hB p hp
    rcases List.mem_append.1 hp with hp | hp
    · exact .inr (hB p hp)
    · rw [List.mem_singleton.1 hp]; exact .inl hx
  have hupd : ∀ (i : Int) (f : Kp → Kp), (∀ x, (f x).e = x.e) → ∀ p ∈ Bk.upd B i f, ∃ q ∈ B, q.e = p.e := by
    intro i f hf p hp
    unfold Bk.upd at hp
    obtain ⟨y, hy, rfl⟩ := List.mem_map.1 hp
    refine ⟨y, hy, ?_⟩
    split
    · rw [hf]
    · rfl
  unfold Bk.put
  by_cases h1 : e.k = 1
  · rw [if_pos h1]; exact hsn _ _ rfl fun p hp => ⟨p, hp, rfl⟩
  rw [if_neg h1]
  by_cases h2 : e.k = 2
  · rw [if_pos h2]
    cases B.sale e.of_ with
    | none => exact hsn _ _ rfl fun p hp => ⟨p, hp, rfl⟩
    | some s => exact hsn _ _ rfl (hupd _ _ fun _ => rfl)
  rw [if_neg h2]
  by_cases h3 : e.k = 3
  · rw [if_pos h3]; exact hsn _ _ rfl (hupd _ _ fun _ => rfl)
  rw [if_neg h3]; exact hsn _ _ rfl fun p hp => ⟨p, hp, rfl⟩
theorem add_mem_e {B : Bk} {e : Ent} : ∀ p ∈ (B.add e).1, p.e = e ∨ ∃ q ∈ B, q.e = p.e := by
  by_cases hm : B.may e = 0
  · have : (B.add e).1 = (B.put e).1 := by unfold Bk.add; rw [if_pos hm]
    rw [this]; exact put_mem_e
  · rw [add_no hm]; exact fun p hp => .inr ⟨p, hp, rfl⟩
theorem add_len_le (B : Bk) (e : Ent) : (B.add e).1.length ≤ B.length + 1 := by
  by_cases hm : B.may e = 0
  · obtain ⟨_, _, h⟩ := add_yes hm; omega
  · rw [add_no hm]; omega
theorem evCells_six' {w W : World} {A : Option Addr} {l : List EV} {k : Nat} (hr : Reads w w.heap.size 6 A l.length (evCells l)) (hk : k < l.length) : ∃ g off, A = some ⟨g, off, none⟩ ∧ g < w.heap.size ∧ ∀ W, Ext w W → W.cell? ⟨g, off + k * 6, none⟩ = some (.int .i64 l[k].e.k) ∧ W.cell? ⟨g, off + k * 6 + 1, none⟩ = some (.int .i64 l[k].e.id) ∧ W.cell? ⟨g, off + k * 6 + 2, none⟩ = some (.int .i64 l[k].e.of_) ∧
    W.cell? ⟨g, off + k * 6 + 3, none⟩ = some (.int .i64 l[k].e.day) ∧ W.cell? ⟨g, off + k * 6 + 4, none⟩ = some (.slice l[k].A l[k].e.am.length l[k].c) ∧ W.cell? ⟨g, off + k * 6 + 5, none⟩ = some (.slice l[k].A' l[k].e.tax.length l[k].c') := by
  obtain ⟨g, off, rfl, hg, hc⟩ := hr.cellAt hk
  obtain ⟨e1, e2, e3, e4, e5, e6⟩ := evCells_at l k hk
  refine ⟨g, off, rfl, hg, fun W hx => ?_⟩
  have hr' := hr.extB (Nat.le_refl _) hx
  obtain ⟨g', off', e, _, hc'⟩ := hr'.cellAt hk
  injection e with e
  injection e with ea eb _
  subst ea eb
  exact ⟨hc' _ _ e1, hc' _ _ e2, hc' _ _ e3, hc' _ _ e4, hc' _ _ e5, hc' _ _ e6⟩
/-- Where the filling stands. -/
def FilRel (w : World) (bb mb : Nat) (l : List EV) (v5 i : Value) (wr : World) : Prop :=
  ∃ (k : Nat) (v : Value) (M : BkM) (n : Int), k ≤ l.length ∧ i = .int .i64 (k : Int) ∧ v5 = .int .i64 n ∧ BookAt w wr bb mb v M ∧ Ext w wr ∧ M.b.inv ∧ M.b.small ∧ M.length ≤ k ∧ (∀ p ∈ M.b, p.e ∈ l.map EV.e)
set_option maxRecDepth 100000 in
set_option maxHeartbeats 4000000 in
theorem filled_any (l : List EV) (A : Option Addr) (cap : Nat) (w : World) (hr : Reads w w.heap.size 6 A l.length (evCells l)) (hok : ∀ x ∈ l, x.ok w) (hlen : l.length ≤ 1000) :
    Calls Try.prog 59 #[.slice A l.length cap] w fun r W' => ∃ bb mb v M n, r = .returned (.tuple #[.pointer (some ⟨bb, 0, none⟩), .int .i64 n]) ∧ BookAt w W' bb mb v M ∧ M.b.inv ∧ M.b.small ∧ M.length ≤ l.length ∧ (∀ p ∈ M.b, p.e ∈ l.map EV.e) ∧ Ext w W' := by
  have HOK := Lib.hid hok
  clear hok
  go_enter Try.func59, Try.ntmps59
  go_wp2_with fail
  refine (newBook_any _).mono ?_
  rintro r w1 ⟨rfl, hB1, hX1⟩
  generalize w.heap.size + 1 = bb at *
  obtain ⟨mb, hmb⟩ : ∃ mb, w.heap.size = mb := ⟨_, rfl⟩
  have HR := Lib.hid (show FilRel w bb mb l (.int .i64 0) (.int .i64 ((0 : Nat) : Int)) w1 from ⟨0, _, [], 0, by omega, rfl, rfl, by rw [← hmb]; exact hB1, hX1, Bk.inv_nil, fun p hp => absurd hp (by simp [BkM.b]), by simp, fun p hp => absurd hp (by simp [BkM.b])⟩)
  clear hB1 hX1 hmb
  go_wp2_with fail
  go_loopw [5, 6] (fun v5 i wr => FilRel w bb mb l v5 i wr) (fun _ i _ => l.length - (intOf i).toNat)
  case atStart => exact HR.out
  case round =>
    clear HR
    obtain ⟨k, v, M, n, hk, rfl, rfl, hB, hX, hI, hS, hL, hE⟩ := hrel
    by_cases hlt : k < l.length
    · have hd : decide ((k : Int) < (l.length : Int)) = true := by simp; omega
      obtain ⟨g, off, rfl, hg, hc⟩ := evCells_six' (W := w) hr hlt
      have hxo := HOK.out l[k] (List.getElem_mem hlt)
      have hxm : l[k].e ∈ l.map EV.e := List.mem_map.2 ⟨_, List.getElem_mem hlt, rfl⟩
      have hz0 : (0 : Int) ≤ (k : Int) := Int.natCast_nonneg k
      obtain ⟨c1, c2, c3, c4, c5, c6⟩ := hc wr hX
      have HXO := Lib.hid hxo
      have hok2 : ∀ p ∈ M.b, p.ok := fun p hp => by
        obtain ⟨q, hq, rfl⟩ := List.mem_map.1 hp
        exact hB.ok q hq
      have hI2 := inv_add hI hok2 hB.nodup l[k].e
      have hS2 := add_small hS l[k].e
      have hL2 := add_len_le M.b l[k].e
      have hE2 : ∀ p ∈ (M.b.add l[k].e).1, p.e ∈ l.map EV.e := fun p hp => by
        rcases add_mem_e p hp with h | ⟨q, hq, h⟩
        · rw [h]; exact hxm
        · rw [← h]; exact hE q hq
      rw [BkM.len_b] at hL2
      have HN := Lib.hid (fun (W : World) (v' : Value) (M' : BkM) (n' : Int) (hM : M'.b = (M.b.add l[k].e).1) (h1 : BookAt w W bb mb v' M') (h2 : Ext w W) => (show FilRel w bb mb l (.int .i64 n') (.int .i64 ((k + 1 : Nat) : Int)) W from
        ⟨k + 1, v', M', n', by omega, rfl, rfl, h1, h2, by rw [hM]; exact hI2, by rw [hM]; exact hS2, by rw [← BkM.len_b, hM]; omega, by rw [hM]; exact hE2⟩))
      have HB := Lib.hid hB
      have HS := Lib.hid hS
      have HX := Lib.hid hX
      have hml : M.length ≤ 100000 := by omega
      clear hc hxo hxm hB hS hX hI hE hok2 hI2 hS2 hL2 hE2
      generalize l[k] = x at *
      go_wp2_with fail
      refine (add_step HB.out HX.out x.e x.A x.A' x.c x.c' (HXO.out.ext HX.out).r hml HS.out).mono ?_
      rintro r w6 ⟨A6, c60, v6, M6, rfl, hB6, hM6, X6, _, _⟩
      have HN1 := Lib.hid (fun n' => HN.out w6 v6 M6 n' hM6 hB6 X6)
      clear HN hB6 hM6 X6 c1 c2 c3 c4 c5 c6
      by_cases hm0 : M.b.may x.e = 0
      · have hmb : (M.b.may x.e == 0) = true := by simpa using hm0
        replace hm0 := Lib.hid hm0
        go_wp2_with fail
        go_roundw
        case rel => exact HN1.out _
        case measure => simp [intOf]; omega
      · have hmb : (M.b.may x.e == 0) = false := by simpa using hm0
        replace hm0 := Lib.hid hm0
        go_wp2_with fail
        go_roundw
        case rel => exact HN1.out _
        case measure => simp [intOf]; omega
    · have hd : decide ((k : Int) < (l.length : Int)) = false := by simp; omega
      have HF := Lib.hid (And.intro hB (And.intro hI (And.intro hS (And.intro hE hX))))
      clear hB hI hS hE hX
      go_wp2_with fail
      go_ret2
      exact ⟨bb, mb, v, M, n, rfl, HF.out.1, HF.out.2.1, HF.out.2.2.1, by omega, HF.out.2.2.2.1, HF.out.2.2.2.2⟩
end Go.Proofs.Ytehkmngbknbbaaa
