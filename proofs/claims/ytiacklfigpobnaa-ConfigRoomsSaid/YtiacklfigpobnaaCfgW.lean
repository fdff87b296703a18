/- The contract of the law's wakes, over the contracts of config. -/
import Derived.Test.YtiacklfigpobnaaCfgV
namespace Go.Proofs.Ytiacklfigpobnaa.Cfg
open Go.RowKit
set_option linter.unusedVariables false
theorem valid_std (f : Int) : validB f 2 2 4 64 8 8 8 1 2 12 8 6 2 6 = inB f 1 4 := by
  have h : ∀ n a b : Int, a ≤ n → n ≤ b → inB n a b = true := fun n a b h1 h2 => by simp [inB, h1, h2]
  unfold validB
  rw [h 2 1 4 (by omega) (by omega), h 4 1 16 (by omega) (by omega), h 64 1 256 (by omega) (by omega), h 8 1 64 (by omega) (by omega), h 8 2 64 (by omega) (by omega), h 1 0 8 (by omega) (by omega), h 2 1 8 (by omega) (by omega), h 12 2 64 (by omega) (by omega), h 8 0 64 (by omega) (by omega), h 6 2 64 (by omega) (by omega), h 2 1 16 (by omega) (by omega), h 6 1 64 (by omega) (by omega)]
  simp
theorem wakes_c (w : World) : Calls Try.prog 19 #[] w fun e w' => e = .returned (.bool true) ∧ Below w.heap.size w w' := by
  have v1 : validB 1 2 2 4 64 8 8 8 1 2 12 8 6 2 6 = true := by decide
  have v5 : validB 5 2 2 4 64 8 8 8 1 2 12 8 6 2 6 = false := by decide
  go_enter Try.func19, Try.ntmps19
  go_wp2_with fail
  refine (standard_c _ _).mono ?_; rintro e w1 ⟨rfl, hb1⟩
  go_wp2_with fail
  refine (valid_c _ _ _ _ _ _ _ _ _ _ _ _ _ _ _ _).mono ?_; rintro e w2 ⟨rfl, hb2⟩
  rw [v1]
  go_wp2_with fail
  refine (standard_c _ _).mono ?_; rintro e w3 ⟨rfl, hb3⟩
  go_wp2_with fail
  refine (valid_c _ _ _ _ _ _ _ _ _ _ _ _ _ _ _ _).mono ?_; rintro e w4 ⟨rfl, hb4⟩
  rw [v5]
  go_wp2
  go_ret
  exact ⟨rfl, hb1.trans ((hb2.mono hb1.size).trans ((hb3.mono (Nat.le_trans hb1.size hb2.size)).trans (hb4.mono (Nat.le_trans hb1.size (Nat.le_trans hb2.size hb3.size)))))⟩
end Go.Proofs.Ytiacklfigpobnaa.Cfg
