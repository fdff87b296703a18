/- Contracts of config.Party and of the reference's. -/
import Derived.Test.YtiacklfigpobnaaCfg
import Derived.Test.YtiacklfigpobnaaBallot
namespace Go.Proofs.Ytiacklfigpobnaa.Cfg
open Go.RowKit
set_option linter.unusedVariables false
/-- A party of a cluster with f faulty nodes at most and c clients. -/
def partyB (f c p : Int) : Bool := (decide (0 ≤ p) && decide (p ≤ 3 * f)) || (decide (100 ≤ p) && decide (p ≤ 99 + c))
theorem partyB_eq (f c p : Int) (b : Bool) (h : b = true ↔ (0 ≤ p ∧ p ≤ 3 * f) ∨ (100 ≤ p ∧ p ≤ 99 + c)) : partyB f c p = b := by
  rw [Bool.eq_iff_iff, h]
  unfold partyB
  simp only [Bool.or_eq_true, Bool.and_eq_true, decide_eq_true_eq]
set_option maxHeartbeats 1000000 in
theorem party_c (c0 c1 c2 c3 c4 c5 c6 c7 c8 c9 c10 c11 c12 c13 c14 p : Int) (w : World) (h1 : 1 ≤ c0) (h4 : c0 ≤ 4) (hc1 : 1 ≤ c1) (hc4 : c1 ≤ 4) :
    Calls Try.prog 28 #[.agg #[.int .i64 c0, .int .i64 c1, .int .i64 c2, .int .i64 c3, .int .i64 c4, .int .i64 c5, .int .i64 c6, .int .i64 c7, .int .i64 c8, .int .i64 c9, .int .i64 c10, .int .i64 c11, .int .i64 c12, .int .i64 c13, .int .i64 c14], .int .i64 p] w fun e w' => e = .returned (.bool (partyB c0 c1 p)) ∧ Below w.heap.size w w' := by
  by_cases hx : 0 ≤ p ∧ p ≤ 3 * c0
  · have e1 : inB p 0 (3 * c0) = true := by simp [inB, hx.1, hx.2]
    have e2 : partyB c0 c1 p = true := by simp [partyB, hx.1, hx.2]
    rw [e2]
    clear e2 hx
    go_enter Try.func28, Try.ntmps28
    go_wp2_with (first
      | (go_at_call 29; refine (nodes_c _ _ h1 h4).mono ?_; rintro e w' ⟨rfl, rfl⟩)
      | (go_at_call 37; refine (within_c _ _ _ _).mono ?_; rintro e w' ⟨rfl, rfl⟩))
    go_ret
    exact ⟨rfl, (Below.refl _ _).alloc (Nat.le_refl _) _⟩
  · have e1 : inB p 0 (3 * c0) = false := by unfold inB; simp; omega
    have e2 : partyB c0 c1 p = inB p 100 (99 + c1) := by
      unfold partyB inB
      rw [show (decide (0 ≤ p) && decide (p ≤ 3 * c0)) = false by simp; omega, Bool.false_or]
    have e3 : inB p 100 (99 + c1) = inB p 100 (100 + c1 - 1) := by rw [show 99 + c1 = 100 + c1 - 1 by omega]
    rw [e2, e3]
    clear e2 e3 hx
    go_enter Try.func28, Try.ntmps28
    go_wp2_with (first
      | (go_at_call 29; refine (nodes_c _ _ h1 h4).mono ?_; rintro e w' ⟨rfl, rfl⟩)
      | (go_at_call 37; refine (within_c _ _ _ _).mono ?_; rintro e w' ⟨rfl, rfl⟩))
    go_ret
    exact ⟨rfl, (Below.refl _ _).alloc (Nat.le_refl _) _⟩
set_option maxHeartbeats 1000000 in
theorem rparty_c (c0 c1 c2 c3 c4 c5 c6 c7 c8 c9 c10 c11 c12 c13 c14 p : Int) (w : World) (h1 : 1 ≤ c0) (h4 : c0 ≤ 4) (hc1 : 1 ≤ c1) (hc4 : c1 ≤ 4) :
    Calls Try.prog 30 #[.agg #[.int .i64 c0, .int .i64 c1, .int .i64 c2, .int .i64 c3, .int .i64 c4, .int .i64 c5, .int .i64 c6, .int .i64 c7, .int .i64 c8, .int .i64 c9, .int .i64 c10, .int .i64 c11, .int .i64 c12, .int .i64 c13, .int .i64 c14], .int .i64 p] w fun e w' => e = .returned (.bool (partyB c0 c1 p)) ∧ Below w.heap.size w w' := by
  have key : ∃ b, partyB c0 c1 p = b ∧ ((b = false ∧ p < 0) ∨ (b = true ∧ 0 ≤ p ∧ p < 3 * c0 + 1) ∨ (b = false ∧ 0 ≤ p ∧ 3 * c0 + 1 ≤ p ∧ p < 100) ∨ (b = true ∧ 0 ≤ p ∧ 3 * c0 + 1 ≤ p ∧ 100 ≤ p ∧ p < 100 + c1) ∨ (b = false ∧ 0 ≤ p ∧ 3 * c0 + 1 ≤ p ∧ 100 ≤ p ∧ 100 + c1 ≤ p)) := by
    rcases (show (p < 0) ∨ (0 ≤ p ∧ p < 3 * c0 + 1) ∨ (0 ≤ p ∧ 3 * c0 + 1 ≤ p ∧ p < 100) ∨ (0 ≤ p ∧ 3 * c0 + 1 ≤ p ∧ 100 ≤ p ∧ p < 100 + c1) ∨ (0 ≤ p ∧ 3 * c0 + 1 ≤ p ∧ 100 ≤ p ∧ 100 + c1 ≤ p) from by omega) with h | h | h | h | h
    · exact ⟨false, partyB_eq _ _ _ _ (by simp; omega), .inl ⟨rfl, h⟩⟩
    · exact ⟨true, partyB_eq _ _ _ _ (by simp; omega), .inr (.inl ⟨rfl, h⟩)⟩
    · exact ⟨false, partyB_eq _ _ _ _ (by simp; omega), .inr (.inr (.inl ⟨rfl, h⟩))⟩
    · exact ⟨true, partyB_eq _ _ _ _ (by simp; omega), .inr (.inr (.inr (.inl ⟨rfl, h⟩)))⟩
    · exact ⟨false, partyB_eq _ _ _ _ (by simp; omega), .inr (.inr (.inr (.inr ⟨rfl, h⟩)))⟩
  obtain ⟨b, hb, key⟩ := key
  rw [hb]
  clear hb
  rcases key with ⟨rfl, h⟩ | ⟨rfl, h, h'⟩ | ⟨rfl, h, h', h''⟩ | ⟨rfl, h, h', h'', h3⟩ | ⟨rfl, h, h', h'', h3⟩
  all_goals
    go_enter Try.func30, Try.ntmps30
    go_wp2_with (go_at_call 43; refine (rnodes_c _ _ h1 h4).mono ?_; rintro e w' ⟨rfl, rfl⟩)
    go_ret
    exact ⟨by first | rfl | (simp; done) | (simp; omega), (Below.refl _ _).alloc (Nat.le_refl _) _⟩
end Go.Proofs.Ytiacklfigpobnaa.Cfg
