/-
  The plain side of what comes back step by step.
-/
import Derived.Test.YtehkmngbknbbaaaPx
set_option linter.unusedVariables false
namespace Go.Proofs.Ytehkmngbknbbaaa

/-- What of t has come back when p of the whole W has. -/
def shI (t W p : Int) : Int := if W = 0 then 0 else (evenN t.toNat p.toNat W.toNat : Int)
theorem shI_zero (t W : Int) (hW : 0 ≤ W) : shI t W 0 = 0 := by
  unfold shI
  split
  · rfl
  · rw [show (0 : Int).toNat = 0 from rfl, evenN_zero (by omega)]; rfl
theorem shI_all {t W : Int} (ht : 0 ≤ t) (hW : 0 < W) : shI t W W = t := by
  unfold shI
  rw [if_neg (by omega), evenN_all (by omega)]
  omega
theorem shI_mono {t W a p : Int} (hW : 0 ≤ W) (h : a ≤ p) : shI t W a ≤ shI t W p := by
  unfold shI
  split
  · omega
  · have := evenN_mono (a := t.toNat) (b := a.toNat) (b' := p.toNat) (c := W.toNat) (by omega) (by omega)
    omega
theorem shI_nonneg (t W p : Int) : 0 ≤ shI t W p := by
  unfold shI; split <;> omega
theorem shI_le {t W p : Int} (ht : 0 ≤ t) (hp : p ≤ W) (hW : 0 ≤ W) : shI t W p ≤ t := by
  unfold shI
  split
  · exact ht
  · have := evenN_le (a := t.toNat) (b := p.toNat) (c := W.toNat) (by omega) (by omega)
    omega
theorem shI_step {t W a p : Int} (ht : 0 ≤ t) (htW : t ≤ W) (ha : 0 ≤ a) (h : a ≤ p) : shI t W p - shI t W a ≤ p - a := by
  unfold shI
  split
  · omega
  · have := evenN_step (a := t.toNat) (b := a.toNat) (b' := p.toNat) (c := W.toNat) (by omega) (by omega) (by omega)
    omega
theorem backI_sh {t W a p : Int} (ht : 0 ≤ t ∧ t ≤ 4611686018427387904) (hW : 0 ≤ W ∧ W ≤ 4611686018427387904) (ha : 0 ≤ a) (h : a ≤ p) (hp : p ≤ W) : backI t W a p = (shI t W p - shI t W a, 0) := by
  unfold backI shI
  rw [if_neg (by simp [win]; omega), if_neg (by omega)]
  split
  · rfl
  · rfl
theorem Tx.ret_eq {x : Tx} (hok : x.ok = true) {a p : Int} (ha : 0 ≤ a) (h : a ≤ p) (hp : p ≤ x.t + x.x) :
    x.ret a p = ({ x with t := shI x.t (x.t + x.x) p - shI x.t (x.t + x.x) a, x := p - a - (shI x.t (x.t + x.x) p - shI x.t (x.t + x.x) a), v := shI x.v (x.t + x.x) p - shI x.v (x.t + x.x) a }, 0) := by
  obtain ⟨_, _, b3, b4, _, b6⟩ := Tx.ok_bd hok
  unfold Tx.ret
  rw [if_neg (by simp [hok]), backI_sh b3 (by omega) ha h hp, backI_sh b6 (by omega) ha h hp]
  rfl
/-- A number from 0 on below n. -/
def pickI (x n : Int) : Int := if n < 1 then 0 else if Int.tmod x n < 0 then Int.tmod x n + n else Int.tmod x n
theorem tmod_bd {x n : Int} (h : 1 ≤ n) : -n < Int.tmod x n ∧ Int.tmod x n < n := by
  refine ⟨?_, Int.tmod_lt_of_pos x (by omega)⟩
  have := Int.tmod_lt_of_pos (-x) (show 0 < n by omega)
  rw [Int.neg_tmod] at this
  omega
theorem pickI_bd {x n : Int} (h : 1 ≤ n) : 0 ≤ pickI x n ∧ pickI x n < n := by
  have := tmod_bd (x := x) h
  unfold pickI
  rw [if_neg (by omega)]
  split <;> omega
end Go.Proofs.Ytehkmngbknbbaaa
