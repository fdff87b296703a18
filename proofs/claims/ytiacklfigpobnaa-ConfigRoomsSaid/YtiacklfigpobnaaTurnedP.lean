/- The plain law beneath ConfigTurned: one number turned. -/
import Derived.Test.YtiacklfigpobnaaCfg
namespace Go.Proofs.Ytiacklfigpobnaa.Cfg
def leastL : List Int := [1, 1, 1, 1, 1, 1, 1, 2, 0, 1, 2, 0, 2, 1, 1]
def mostL : List Int := [4, 4, 4, 16, 256, 64, 64, 64, 8, 8, 64, 64, 64, 16, 64]
def stdL (f : Int) : List Int := [f, 2, 2, 4, 64, 8, 8, 8, 1, 2, 12, 8, 6, 2, 6]
def validL (xs : List Int) : Bool := validB (xs.getD 0 0) (xs.getD 1 0) (xs.getD 2 0) (xs.getD 3 0) (xs.getD 4 0) (xs.getD 5 0) (xs.getD 6 0) (xs.getD 7 0) (xs.getD 8 0) (xs.getD 9 0) (xs.getD 10 0) (xs.getD 11 0) (xs.getD 12 0) (xs.getD 13 0) (xs.getD 14 0)
theorem inB_std (n a b : Int) (h1 : a ≤ n) (h2 : n ≤ b) : inB n a b = true := by simp [inB, h1, h2]
theorem stdL_ok (f : Int) (h1 : 1 ≤ f) (h4 : f ≤ 4) (i : Nat) (hi : i < 15) (n : Int) : validL ((stdL f).set i n) = inB n (leastL.getD i 0) (mostL.getD i 0) := by
  have hf := inB_std f 1 4 h1 h4
  have hcases : i = 0 ∨ i = 1 ∨ i = 2 ∨ i = 3 ∨ i = 4 ∨ i = 5 ∨ i = 6 ∨ i = 7 ∨ i = 8 ∨ i = 9 ∨ i = 10 ∨ i = 11 ∨ i = 12 ∨ i = 13 ∨ i = 14 := by omega
  rcases hcases with rfl | rfl | rfl | rfl | rfl | rfl | rfl | rfl | rfl | rfl | rfl | rfl | rfl | rfl | rfl
  all_goals
    simp only [validL, stdL, leastL, mostL, validB, List.set_cons_zero, List.set_cons_succ, List.getD_cons_zero, List.getD_cons_succ]
    try rw [hf]
    have d : ∀ a b c : Int, decide (a ≤ b) = true → decide (b ≤ c) = true → inB b a c = true := fun a b c x y => by simp [inB, x, y]
    simp (discharger := decide) only [d, Bool.true_and, Bool.and_true]
theorem least_ok (i : Nat) (hi : i < 15) : inB (leastL.getD i 0) (leastL.getD i 0) (mostL.getD i 0) = true ∧ inB (mostL.getD i 0) (leastL.getD i 0) (mostL.getD i 0) = true := by
  have hcases : i = 0 ∨ i = 1 ∨ i = 2 ∨ i = 3 ∨ i = 4 ∨ i = 5 ∨ i = 6 ∨ i = 7 ∨ i = 8 ∨ i = 9 ∨ i = 10 ∨ i = 11 ∨ i = 12 ∨ i = 13 ∨ i = 14 := by omega
  rcases hcases with rfl | rfl | rfl | rfl | rfl | rfl | rfl | rfl | rfl | rfl | rfl | rfl | rfl | rfl | rfl <;> exact ⟨by decide, by decide⟩
end Go.Proofs.Ytiacklfigpobnaa.Cfg
