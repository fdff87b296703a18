/- ClockMany: the plain law: timers by rising ids. -/
import Derived.Test.YtfeepofdnjnkpaaClockP
namespace Go.Proofs.Ytfeepofdnjnkpaa.ClockMany
open Go.RowKit
set_option linter.unusedVariables false

def tim (T : Nat → Int) (n : Nat) : List (Int × Int) := (List.range n).map fun (i : Nat) => ((i : Int), T i)
theorem tim_len (T : Nat → Int) (n : Nat) : (tim T n).length = n := by simp [tim]
theorem tim_succ (T : Nat → Int) (n : Nat) : tim T (n + 1) = tim T n ++ [((n : Int), T n)] := by simp [tim, List.range_succ]
theorem ins_end (T : Nat → Int) (k : Nat) : insAt (tim T k) k ((k : Int), T k) = tim T (k + 1) := by
  unfold insAt
  rw [List.take_of_length_le (by rw [tim_len]; exact Nat.le_refl _), List.drop_of_length_le (by rw [tim_len]; exact Nat.le_refl _), tim_succ]
theorem tim_get (T : Nat → Int) (n i : Nat) (h : i < (tim T n).length) : (tim T n)[i] = ((i : Int), T i) := by simp [tim]
theorem place_end (T : Nat → Int) (k : Nat) : Place (tim T k) k k false :=
  ⟨by rw [tim_len]; exact Nat.le_refl _, fun i h h' => by rw [tim_get]; simp only; omega, fun h => by rw [tim_len] at h; omega, fun h => by rw [tim_len] at h; omega, fun _ => rfl⟩
theorem left_left (L : List (Int × Int)) {last t : Int} (h : last ≤ t) : leftOf (leftOf L last) t = leftOf L t := by
  unfold leftOf
  rw [List.filter_filter]
  congr 1
  funext p
  by_cases h1 : t < p.2
  · rw [decide_eq_true h1, decide_eq_true (show last < p.2 by omega)]; rfl
  · rw [decide_eq_false h1]; rfl
def dueN (T : Nat → Int) (n : Nat) (last t : Int) : List Nat := (List.range n).filter fun i => decide (T i ≤ t) && decide (last < T i)
theorem due_dueN (T : Nat → Int) (n : Nat) (last t : Int) : dueOf (leftOf (tim T n) last) t = (dueN T n last t).map fun (i : Nat) => (i : Int) := by
  unfold dueOf leftOf tim dueN
  rw [List.filter_filter, List.filter_map, List.map_map]
  rfl
theorem dueN_mem {T : Nat → Int} {n : Nat} {last t : Int} {i : Nat} : i ∈ dueN T n last t ↔ i < n ∧ T i ≤ t ∧ last < T i := by
  simp [dueN]
theorem dueN_up (T : Nat → Int) (n : Nat) (last t : Int) : (dueN T n last t).Pairwise (· < ·) := List.Pairwise.filter _ List.pairwise_lt_range
end Go.Proofs.Ytfeepofdnjnkpaa.ClockMany
