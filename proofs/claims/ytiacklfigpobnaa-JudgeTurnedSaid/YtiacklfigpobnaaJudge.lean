/- Contracts of judge.Slow, Late, Old and of the reference's Slow and Late. -/
import Derived.Test.YtiacklfigpobnaaCplx
import Derived.BigRegion
import Derived.BigQuiet
import Derived.ScopeJumps
import Derived.WalkMore
namespace Go.Proofs.Ytiacklfigpobnaa
open Go.RowKit F
set_option linter.unusedVariables false

theorem mul_bd {a b A B : Int} (h1 : 0 ≤ a) (h2 : a ≤ A) (h3 : 0 ≤ b) (h4 : b ≤ B) : 0 ≤ a * b ∧ a * b ≤ A * B :=
  ⟨Int.mul_nonneg h1 h3, Int.le_trans (Int.mul_le_mul_of_nonneg_right h2 h3) (Int.mul_le_mul_of_nonneg_left h4 (Int.le_trans h1 h2))⟩

/-- Has the master ordered too few? -/
def slowB (num den : Int) (m : Int) (zs : List (Int × Int)) : Bool := decide (0 < zs.length) && decide (m * den * (zs.length : Int) < num * sumN zs)
/-- Does it take too long? -/
def lateB (omega n t : Int) (zs : List (Int × Int)) : Bool :=
  decide (0 < n) && decide (0 < sumN zs) && decide (sumT zs * n + omega * n * sumN zs < t * sumN zs)

theorem slow_c (num den mn mt : Int) (a : Option Addr) (n c : Nat) (zs : List (Int × Int)) (w : World) (hr : CRow w a n zs) (hu : Usual zs) (hn : n ≤ 64)
    (hnum : 0 ≤ num ∧ num ≤ 64) (hden : 0 ≤ den ∧ den ≤ 64) (hm : 0 ≤ mn ∧ mn ≤ 134217728) (ht : Small mt) :
    Calls Try.prog 25 #[.int .i64 num, .int .i64 den, .complex .f64 (fw mn) (fw mt), .slice a n c] w fun e w' => e = .returned (.bool (slowB num den mn zs)) ∧ w = w' := by
  have hlen : zs.length = n := by have := hr.1; simpa using this
  obtain ⟨hu1, hu2⟩ := hnum
  obtain ⟨hd1, hd2⟩ := hden
  obtain ⟨hm1, hm2⟩ := hm
  unfold slowB
  rw [hlen]
  clear hlen
  by_cases h0 : n = 0
  · subst h0
    go_enter Try.func25, Try.ntmps25
    go_wp2
    go_ret
    exact ⟨rfl, rfl⟩
  · have hs := sum_bd zs hu
    have hlen : zs.length = n := by have := hr.1; simpa using this
    rw [hlen] at hs
    clear hlen
    have S1 : Small (sumN zs) := Small.of (by omega) (by omega)
    have S2 : Small (sumT zs) := Small.of (by omega) (by omega)
    have S3 : Small mn := Small.of (by omega) (by omega)
    obtain ⟨p1, p2⟩ := mul_bd hm1 hm2 hd1 hd2
    obtain ⟨p3, p4⟩ := mul_bd p1 p2 (show (0 : Int) ≤ (n : Int) by omega) (show (n : Int) ≤ 64 by omega)
    obtain ⟨p5, p6⟩ := mul_bd hu1 hu2 hs.1 (show sumN zs ≤ 134217728 * 64 by omega)
    have h1 : 0 < n := by omega
    have hd : decide (0 < n) = true := decide_eq_true h1
    rw [hd, Bool.true_and]
    have h0' : ((n : Int) == 0) = false := by simp; omega
    clear hd h0 hs
    go_enter Try.func25, Try.ntmps25
    go_wp2_with (first
      | (go_at_call 41; refine (total_c a n c zs _ hr hu (by omega)).mono ?_; rintro e w' ⟨rfl, rfl⟩)
      | (go_at_call 40; refine (parts_c _ _ _ (by assumption) (by assumption)).mono ?_; rintro e w' ⟨rfl, rfl⟩))
    go_ret
    exact ⟨rfl, rfl⟩

theorem late_c (om mn mt : Int) (a : Option Addr) (n c : Nat) (zs : List (Int × Int)) (w : World) (hr : CRow w a n zs) (hu : Usual zs) (hn : n ≤ 64)
    (hom : 0 ≤ om ∧ om ≤ 64) (hm : 0 ≤ mn ∧ mn ≤ 1048576) (ht : 0 ≤ mt ∧ mt ≤ 134217728) :
    Calls Try.prog 32 #[.int .i64 om, .complex .f64 (fw mn) (fw mt), .slice a n c] w fun e w' => e = .returned (.bool (lateB om mn mt zs)) ∧ w = w' := by
  have hlen : zs.length = n := by have := hr.1; simpa using this
  obtain ⟨hu1, hu2⟩ := hom
  obtain ⟨hm1, hm2⟩ := hm
  obtain ⟨ht1, ht2⟩ := ht
  by_cases h0 : n = 0
  · have e : lateB om mn mt zs = false := by
      have : zs = [] := List.eq_nil_of_length_eq_zero (by omega)
      subst this
      simp [lateB, sumN]
    rw [e]
    clear e
    subst h0
    go_enter Try.func32, Try.ntmps32
    go_wp2
    refine wp_scope_jumps 0 (fun a' w' => w' = w ∧ ∃ u0 u1 u2 u3 u4 u5 u6 u7 u8 u9 u10 u11 u12 u13 u14 u15 u16 u17 u18 u19 u20 u21 u22 u23 u24 u25 u26 u27 u28 u29 u30 u31 u32 u33 u34 u35 u36 u37 u38 u39 u40 u41 u42 u43 : Value, a' = { tmps := #[u0, u1, u2, u3, u4, u5, u6, u7, u8, u9, u10, u11, u12, u13, u14, u15, u16, u17, u18, u19, u20, u21, u22, u23, u24, u25, u26, u27, u28, u29, u30, u31, u32, u33, u34, u35, u36, u37, u38, u39, u40, u41, u42, u43], defers := [] }) (fun _ _ => 0) rfl ?_ ?_
    · go_wp2
      go_step3
      exact ⟨rfl, rfl, _, _, _, _, _, _, _, _, _, _, _, _, _, _, _, _, _, _, _, _, _, _, _, _, _, _, _, _, _, _, _, _, _, _, _, _, _, _, _, _, _, _, _, _, rfl⟩
    · rintro a' w' ⟨rfl, u0, u1, u2, u3, u4, u5, u6, u7, u8, u9, u10, u11, u12, u13, u14, u15, u16, u17, u18, u19, u20, u21, u22, u23, u24, u25, u26, u27, u28, u29, u30, u31, u32, u33, u34, u35, u36, u37, u38, u39, u40, u41, u42, u43, rfl⟩
      go_wp2
      simp only [Exit.jump]
      go_ret
      exact ⟨rfl, rfl⟩
  · have hs := sum_bd zs hu
    rw [hlen] at hs
    have S1 : Small (sumN zs) := Small.of (by omega) (by omega)
    have S2 : Small (sumT zs) := Small.of (by omega) (by omega)
    have S3 : Small mn := Small.of (by omega) (by omega)
    have S4 : Small mt := Small.of (by omega) (by omega)
    obtain ⟨p1, p2⟩ := mul_bd ht1 ht2 hs.1 (show sumN zs ≤ 134217728 * 64 by omega)
    obtain ⟨p3, p4⟩ := mul_bd hs.2.2.1 (show sumT zs ≤ 134217728 * 64 by omega) hm1 hm2
    obtain ⟨p5, p6⟩ := mul_bd hu1 hu2 hm1 hm2
    obtain ⟨p7, p8⟩ := mul_bd p5 p6 hs.1 (show sumN zs ≤ 134217728 * 64 by omega)
    have h0' : ((n : Int) == 0) = false := by simp; omega
    by_cases hmn : mn ≤ 0
    · have e : lateB om mn mt zs = false := by simp [lateB]; omega
      rw [e]
      have d1 : decide (mn ≤ 0) = true := decide_eq_true hmn
      clear e hs h0 hlen
      go_enter Try.func32, Try.ntmps32
      go_wp2
      refine wp_scope_jumps 0 (fun a' w' => w' = w ∧ ∃ u0 u1 u2 u3 u4 u5 u6 u7 u8 u9 u10 u11 u12 u13 u14 u15 u16 u17 u18 u19 u20 u21 u22 u23 u24 u25 u26 u27 u28 u29 u30 u31 u32 u33 u34 u35 u36 u37 u38 u39 u40 u41 u42 u43 : Value, a' = { tmps := #[u0, u1, u2, u3, u4, u5, u6, u7, u8, u9, u10, u11, u12, u13, u14, u15, u16, u17, u18, u19, u20, u21, u22, u23, u24, u25, u26, u27, u28, u29, u30, u31, u32, u33, u34, u35, u36, u37, u38, u39, u40, u41, u42, u43], defers := [] }) (fun _ _ => 0) rfl ?_ ?_
      · go_wp2_with (first
          | (go_at_call 41; refine (total_c a n c zs _ hr hu (by omega)).mono ?_; rintro e w' ⟨rfl, rfl⟩)
          | (go_at_call 40; refine (parts_c _ _ _ (by assumption) (by assumption)).mono ?_; rintro e w' ⟨rfl, rfl⟩))
        go_step3
        exact ⟨rfl, rfl, _, _, _, _, _, _, _, _, _, _, _, _, _, _, _, _, _, _, _, _, _, _, _, _, _, _, _, _, _, _, _, _, _, _, _, _, _, _, _, _, _, _, _, _, rfl⟩
      · rintro a' w' ⟨rfl, u0, u1, u2, u3, u4, u5, u6, u7, u8, u9, u10, u11, u12, u13, u14, u15, u16, u17, u18, u19, u20, u21, u22, u23, u24, u25, u26, u27, u28, u29, u30, u31, u32, u33, u34, u35, u36, u37, u38, u39, u40, u41, u42, u43, rfl⟩
        go_wp2
        simp only [Exit.jump]
        go_ret
        exact ⟨rfl, rfl⟩
    · have d1 : decide (mn ≤ 0) = false := decide_eq_false hmn
      by_cases hsn : sumN zs ≤ 0
      · have e : lateB om mn mt zs = false := by simp [lateB]; omega
        rw [e]
        have d2 : decide (sumN zs ≤ 0) = true := decide_eq_true hsn
        clear e hs h0 hlen
        go_enter Try.func32, Try.ntmps32
        go_wp2
        refine wp_scope_jumps 0 (fun a' w' => w' = w ∧ ∃ u0 u1 u2 u3 u4 u5 u6 u7 u8 u9 u10 u11 u12 u13 u14 u15 u16 u17 u18 u19 u20 u21 u22 u23 u24 u25 u26 u27 u28 u29 u30 u31 u32 u33 u34 u35 u36 u37 u38 u39 u40 u41 u42 u43 : Value, a' = { tmps := #[u0, u1, u2, u3, u4, u5, u6, u7, u8, u9, u10, u11, u12, u13, u14, u15, u16, u17, u18, u19, u20, u21, u22, u23, u24, u25, u26, u27, u28, u29, u30, u31, u32, u33, u34, u35, u36, u37, u38, u39, u40, u41, u42, u43], defers := [] }) (fun _ _ => 0) rfl ?_ ?_
        · go_wp2_with (first
            | (go_at_call 41; refine (total_c a n c zs _ hr hu (by omega)).mono ?_; rintro e w' ⟨rfl, rfl⟩)
            | (go_at_call 40; refine (parts_c _ _ _ (by assumption) (by assumption)).mono ?_; rintro e w' ⟨rfl, rfl⟩))
          go_step3
          exact ⟨rfl, rfl, _, _, _, _, _, _, _, _, _, _, _, _, _, _, _, _, _, _, _, _, _, _, _, _, _, _, _, _, _, _, _, _, _, _, _, _, _, _, _, _, _, _, _, _, rfl⟩
        · rintro a' w' ⟨rfl, u0, u1, u2, u3, u4, u5, u6, u7, u8, u9, u10, u11, u12, u13, u14, u15, u16, u17, u18, u19, u20, u21, u22, u23, u24, u25, u26, u27, u28, u29, u30, u31, u32, u33, u34, u35, u36, u37, u38, u39, u40, u41, u42, u43, rfl⟩
          go_wp2
          simp only [Exit.jump]
          go_ret
          exact ⟨rfl, rfl⟩
      · have d2 : decide (sumN zs ≤ 0) = false := decide_eq_false hsn
        have e : lateB om mn mt zs = decide (sumT zs * mn + om * mn * sumN zs < mt * sumN zs) := by
          unfold lateB
          rw [decide_eq_true (show 0 < mn by omega), decide_eq_true (show 0 < sumN zs by omega), Bool.true_and, Bool.true_and]
        rw [e]
        clear e hs h0 hlen
        go_enter Try.func32, Try.ntmps32
        go_wp2
        apply wp_scope_straight
        go_wp2_with (first
          | (go_at_call 41; refine (total_c a n c zs _ hr hu (by omega)).mono ?_; rintro e w' ⟨rfl, rfl⟩)
          | (go_at_call 40; refine (parts_c _ _ _ (by assumption) (by assumption)).mono ?_; rintro e w' ⟨rfl, rfl⟩))
        try rw [Exit.noGoto_ret]
        go_ret
        exact ⟨rfl, rfl⟩
end Go.Proofs.Ytiacklfigpobnaa
