/- Stores that know one key alone. Plain. -/
import Derived.Test.YtghaahagacffiaaStoreB
import Derived.Test.YtghaahagacffiaaStoreP
namespace Go.Proofs.Ytghaahagacffiaa
open Go.RowKit
set_option linter.unusedVariables false

/-- One key alone. -/
def one (j : Nat) (c : Bool × Int) : List (Bool × Int) := st0.set j c
theorem st0_len : st0.length = 64 := rfl
theorem st0_get (i : Nat) : st0.getD i (false, 0) = (false, 0) := by
  unfold st0
  rw [List.getD_eq_getElem?_getD, List.getElem?_replicate]
  split <;> rfl
theorem one_len (j : Nat) (c : Bool × Int) : (one j c).length = 64 := by unfold one; rw [List.length_set]; rfl
theorem one_get {j : Nat} (hj : j < 64) (c : Bool × Int) (i : Nat) : (one j c).getD i (false, 0) = if j = i then c else (false, 0) := by
  unfold one
  by_cases h : j = i
  · subst h
    rw [if_pos rfl, set_at _ _ _ (by rw [st0_len]; exact hj)]
  · rw [if_neg h, set_other _ _ _ _ h, st0_get]
theorem one_zero {j : Nat} (hj : j < 64) : one j (false, 0) = st0 := by
  apply List.ext_getElem (by rw [one_len]; rfl)
  intro i h1 h2
  have h := one_get hj (false, 0) i
  have h' := st0_get i
  rw [List.getD_eq_getElem?_getD, List.getElem?_eq_getElem h1] at h
  rw [List.getD_eq_getElem?_getD, List.getElem?_eq_getElem h2] at h'
  simp only [Option.getD_some] at h h'
  rw [h, h']
  split <;> rfl
theorem one_set (j : Nat) (c d : Bool × Int) : (one j c).set j d = one j d := by unfold one; rw [List.set_set]
theorem one_count {j : Nat} (hj : j < 64) (v : Int) : ∀ k, (allTo (one j (true, v)) k).length = if j < k then 1 else 0
  | 0 => by rw [if_neg (by omega)]; rfl
  | k + 1 => by
    have ih := one_count hj v k
    rw [allTo_succ, one_get hj]
    by_cases h : j = k
    · subst h
      rw [if_neg (by omega)] at ih
      rw [if_pos rfl, if_pos (show (true, v).1 = true from rfl), List.length_append, ih, if_pos (by omega)]
      rfl
    · rw [if_neg h, if_neg (by simp), ih]
      by_cases h2 : j < k
      · rw [if_pos h2, if_pos (by omega)]
      · rw [if_neg h2, if_neg (by omega)]
theorem none_count : ∀ k, (allTo st0 k).length = 0
  | 0 => rfl
  | k + 1 => by
    rw [allTo_succ, st0_get, if_neg (by simp)]
    exact none_count k
theorem one_small (j : Nat) {b : Bool} {v : Int} (h : -2147483648 < v ∧ v < 2147483648) : Smalls (one j (b, v)) := Smalls.zero.set j b h
theorem one_val {j : Nat} (hj : j < 64) (b : Bool) (v : Int) : valOf (one j (b, v)) j = v := by unfold valOf; rw [Int.toNat_natCast, one_get hj, if_pos rfl]
theorem op_yes {j : Nat} (hj : j < 64) {v : Int} (h : -2147483648 < v ∧ v < 2147483648) : opB j v = true := by
  unfold opB smallB
  rw [decide_eq_true (show 0 ≤ (j : Int) ∧ (j : Int) < 64 by omega), decide_eq_true h]
  rfl
theorem put_one {j : Nat} (hj : j < 64) (c : Bool × Int) {v : Int} (h : -2147483648 < v ∧ v < 2147483648) : opSt (one j c) 1 j v = one j (true, v) := by
  unfold opSt
  rw [if_pos (op_yes hj h), if_pos rfl, Int.toNat_natCast, one_set]
theorem put_oneR {j : Nat} (hj : j < 64) (b : Bool) (u : Int) {v : Int} (h : -2147483648 < v ∧ v < 2147483648) : opR (one j (b, u)) 1 j v = u := by
  unfold opR
  rw [if_pos (op_yes hj h), if_pos rfl, one_val hj]

theorem add_one {j : Nat} (hj : j < 64) (b : Bool) (u v : Int) (hv : -2147483648 < v ∧ v < 2147483648) (h : -2147483648 < u + v ∧ u + v < 2147483648) : opSt (one j (b, u)) 3 j v = one j (true, u + v) := by
  unfold opSt
  rw [if_pos (op_yes hj hv), if_neg (by omega), if_pos rfl, one_val hj, if_pos (show smallB (u + v) = true from decide_eq_true h), Int.toNat_natCast, one_set]
theorem add_oneR {j : Nat} (hj : j < 64) (b : Bool) (u v : Int) (hv : -2147483648 < v ∧ v < 2147483648) (h : -2147483648 < u + v ∧ u + v < 2147483648) : opR (one j (b, u)) 3 j v = u + v := by
  unfold opR
  rw [if_pos (op_yes hj hv), if_neg (by omega), if_neg (by omega), if_pos rfl, one_val hj, if_pos (show smallB (u + v) = true from decide_eq_true h)]
end Go.Proofs.Ytghaahagacffiaa
