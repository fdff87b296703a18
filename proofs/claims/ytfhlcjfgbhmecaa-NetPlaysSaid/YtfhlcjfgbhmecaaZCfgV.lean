/- CfgV. -/
import Derived.Test.YtfhlcjfgbhmecaaZCfgB
/- The contract of psephos/config.Valid: whether each number is in its range. Written by gencfg.py. -/
namespace Go.Proofs.Ytfhlcjfgbhmecaa.Cfg
open Go.RowKit
set_option linter.unusedVariables false
set_option maxRecDepth 100000 in
set_option maxHeartbeats 4000000 in
theorem valid_c (c0 c1 c2 c3 c4 c5 c6 c7 c8 c9 c10 c11 c12 c13 c14 : Int) (w : World) :
    Calls Try.prog 60 #[.agg #[.int .i64 c0, .int .i64 c1, .int .i64 c2, .int .i64 c3, .int .i64 c4, .int .i64 c5, .int .i64 c6, .int .i64 c7, .int .i64 c8, .int .i64 c9, .int .i64 c10, .int .i64 c11, .int .i64 c12, .int .i64 c13, .int .i64 c14]] w
      fun e w' => e = .returned (.bool (validB c0 c1 c2 c3 c4 c5 c6 c7 c8 c9 c10 c11 c12 c13 c14)) ∧ Below w.heap.size w w' := by
  go_enter Try.func60, Try.ntmps60
  go_wp2_with fail
  refine (within_c _ _ _ _).mono ?_; rintro e w' ⟨rfl, rfl⟩
  cases h0 : inB c0 1 4
  · go_wp2
    go_ret
    exact ⟨by simp [validB, h0], (Below.refl _ _).alloc (Nat.le_refl _) _⟩
  go_wp2_with fail
  refine (within_c _ _ _ _).mono ?_; rintro e w' ⟨rfl, rfl⟩
  cases h1 : inB c1 1 4
  · go_wp2
    go_ret
    exact ⟨by simp [validB, h0, h1], (Below.refl _ _).alloc (Nat.le_refl _) _⟩
  go_wp2_with fail
  refine (within_c _ _ _ _).mono ?_; rintro e w' ⟨rfl, rfl⟩
  cases h2 : inB c2 1 4
  · go_wp2
    go_ret
    exact ⟨by simp [validB, h0, h1, h2], (Below.refl _ _).alloc (Nat.le_refl _) _⟩
  go_wp2_with fail
  refine (within_c _ _ _ _).mono ?_; rintro e w' ⟨rfl, rfl⟩
  cases h3 : inB c3 1 16
  · go_wp2
    go_ret
    exact ⟨by simp [validB, h0, h1, h2, h3], (Below.refl _ _).alloc (Nat.le_refl _) _⟩
  go_wp2_with fail
  refine (within_c _ _ _ _).mono ?_; rintro e w' ⟨rfl, rfl⟩
  cases h4 : inB c4 1 256
  · go_wp2
    go_ret
    exact ⟨by simp [validB, h0, h1, h2, h3, h4], (Below.refl _ _).alloc (Nat.le_refl _) _⟩
  go_wp2_with fail
  refine (within_c _ _ _ _).mono ?_; rintro e w' ⟨rfl, rfl⟩
  cases h5 : inB c5 1 64
  · go_wp2
    go_ret
    exact ⟨by simp [validB, h0, h1, h2, h3, h4, h5], (Below.refl _ _).alloc (Nat.le_refl _) _⟩
  go_wp2_with fail
  refine (within_c _ _ _ _).mono ?_; rintro e w' ⟨rfl, rfl⟩
  cases h6 : inB c6 1 64
  · go_wp2
    go_ret
    exact ⟨by simp [validB, h0, h1, h2, h3, h4, h5, h6], (Below.refl _ _).alloc (Nat.le_refl _) _⟩
  go_wp2_with fail
  refine (within_c _ _ _ _).mono ?_; rintro e w' ⟨rfl, rfl⟩
  cases h7 : inB c7 2 64
  · go_wp2
    go_ret
    exact ⟨by simp [validB, h0, h1, h2, h3, h4, h5, h6, h7], (Below.refl _ _).alloc (Nat.le_refl _) _⟩
  go_wp2_with fail
  refine (within_c _ _ _ _).mono ?_; rintro e w' ⟨rfl, rfl⟩
  cases h8 : inB c8 0 8
  · go_wp2
    go_ret
    exact ⟨by simp [validB, h0, h1, h2, h3, h4, h5, h6, h7, h8], (Below.refl _ _).alloc (Nat.le_refl _) _⟩
  go_wp2_with fail
  refine (within_c _ _ _ _).mono ?_; rintro e w' ⟨rfl, rfl⟩
  cases h9 : inB c9 1 8
  · go_wp2
    go_ret
    exact ⟨by simp [validB, h0, h1, h2, h3, h4, h5, h6, h7, h8, h9], (Below.refl _ _).alloc (Nat.le_refl _) _⟩
  go_wp2_with fail
  refine (within_c _ _ _ _).mono ?_; rintro e w' ⟨rfl, rfl⟩
  cases h10 : inB c10 2 64
  · go_wp2
    go_ret
    exact ⟨by simp [validB, h0, h1, h2, h3, h4, h5, h6, h7, h8, h9, h10], (Below.refl _ _).alloc (Nat.le_refl _) _⟩
  go_wp2_with fail
  refine (within_c _ _ _ _).mono ?_; rintro e w' ⟨rfl, rfl⟩
  cases h11 : inB c11 0 64
  · go_wp2
    go_ret
    exact ⟨by simp [validB, h0, h1, h2, h3, h4, h5, h6, h7, h8, h9, h10, h11], (Below.refl _ _).alloc (Nat.le_refl _) _⟩
  go_wp2_with fail
  refine (within_c _ _ _ _).mono ?_; rintro e w' ⟨rfl, rfl⟩
  cases h12 : inB c12 2 64
  · go_wp2
    go_ret
    exact ⟨by simp [validB, h0, h1, h2, h3, h4, h5, h6, h7, h8, h9, h10, h11, h12], (Below.refl _ _).alloc (Nat.le_refl _) _⟩
  go_wp2_with fail
  refine (within_c _ _ _ _).mono ?_; rintro e w' ⟨rfl, rfl⟩
  cases h13 : inB c13 1 16
  · go_wp2
    go_ret
    exact ⟨by simp [validB, h0, h1, h2, h3, h4, h5, h6, h7, h8, h9, h10, h11, h12, h13], (Below.refl _ _).alloc (Nat.le_refl _) _⟩
  go_wp2_with fail
  refine (within_c _ _ _ _).mono ?_; rintro e w' ⟨rfl, rfl⟩
  cases h14 : inB c14 1 64
  all_goals
    go_wp2
    go_ret
    exact ⟨by simp [validB, h0, h1, h2, h3, h4, h5, h6, h7, h8, h9, h10, h11, h12, h13, h14], (Below.refl _ _).alloc (Nat.le_refl _) _⟩
end Go.Proofs.Ytfhlcjfgbhmecaa.Cfg
