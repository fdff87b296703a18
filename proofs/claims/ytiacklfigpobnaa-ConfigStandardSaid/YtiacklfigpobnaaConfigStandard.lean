/- ConfigStandard is proved: for every number the law returns true. No condition. -/
import Derived.Test.YtiacklfigpobnaaRows
import Derived.Test.YtiacklfigpobnaaFrame
import Derived.Test.YtiacklfigpobnaaCfgW
namespace Go.Proofs.Ytiacklfigpobnaa.ConfigStandard
open Go.ChangeShapes Go.WideShapes Go.ChangeAt Go.RowKit Cfg
set_option linter.unusedVariables false

theorem inB_true {n a b : Int} (h : a ≤ n ∧ n ≤ b) : inB n a b = true := by simp [inB, h.1, h.2]
theorem inB_false {n a b : Int} (h : ¬ (a ≤ n ∧ n ≤ b)) : inB n a b = false := by unfold inB; by_cases h1 : a ≤ n <;> simp [h1]; omega

set_option maxHeartbeats 1000000 in
theorem walk (f : Int) (w : World) : Calls Try.prog 3 #[.int .i64 f] w fun e w' => e = .returned (.bool true) ∧ Below w.heap.size w w' := by
  have key : ∀ b, inB f 1 4 = b → (b = true ∧ 1 ≤ f ∧ f ≤ 4) ∨ (b = false ∧ f < 1) ∨ (b = false ∧ 1 ≤ f ∧ 4 < f) := by
    intro b hb
    by_cases h1 : 1 ≤ f
    · by_cases h4 : f ≤ 4
      · rw [inB_true ⟨h1, h4⟩] at hb; exact .inl ⟨hb.symm, h1, h4⟩
      · rw [inB_false (by omega)] at hb; exact .inr (.inr ⟨hb.symm, h1, by omega⟩)
    · rw [inB_false (by omega)] at hb; exact .inr (.inl ⟨hb.symm, by omega⟩)
  have hv := valid_std f
  rcases key _ rfl with ⟨hb, h1, h4⟩ | ⟨hb, h1⟩ | ⟨hb, h1, h4⟩
  all_goals
    rw [hb] at hv
    clear hb key
    go_enter Try.func3, Try.ntmps3
    go_wp2_with fail
    refine (standard_c _ _).mono ?_; rintro e w1 ⟨rfl, hb1⟩
    go_wp2_with fail
    refine (rstandard_c _ _).mono ?_; rintro e w2 ⟨rfl, hb2⟩
    go_wp2_with fail
    refine (standard_c _ _).mono ?_; rintro e w3 ⟨rfl, hb3⟩
    go_wp2_with fail
    refine (valid_c _ _ _ _ _ _ _ _ _ _ _ _ _ _ _ _).mono ?_; rintro e w4 ⟨rfl, hb4⟩
    rw [hv]
    go_wp2_with fail
    refine (wakes_c _).mono ?_; rintro e w5 ⟨rfl, hb5⟩
    go_wp2
    go_ret
    exact ⟨by first | rfl | (simp; omega), hb1.trans ((hb2.mono hb1.size).trans ((hb3.mono (Nat.le_trans hb1.size hb2.size)).trans ((hb4.mono (Nat.le_trans hb1.size (Nat.le_trans hb2.size hb3.size))).trans (hb5.mono (Nat.le_trans hb1.size (Nat.le_trans hb2.size (Nat.le_trans hb3.size hb4.size)))))))⟩

theorem lawWalk : LawWalk Try.checked 3 Try.f3 := by
  intro H enc W base args ds p hval hA hsz
  rw [Try.params3] at hA hval
  obtain ⟨v0, vs0, d0, ds0, p0, q0, hargs, rfl, rfl, h0, r0⟩ := trodAll_cons hA
  obtain ⟨rfl, rfl, rfl⟩ := trodAll_nil r0
  obtain rfl : args = #[v0] := by cases args; simp_all
  obtain ⟨a0, rfl, rfl, rfl, w0⟩ := open_int Try.underlying3 (hval 0 3 v0 rfl rfl) h0
  exact walk a0 W

theorem lifted (os : Os) (started : os.Started) (H : Type) (enc : TypeId × Value → H) :
    ReturnsInHanded {} Try.checked os 3 .any (Rows.configStandardSpec.pre6 enc Try.prog Try.f3 Rows.configStandardRow.domain false) (Rows.configStandardSpec.post enc Try.prog Try.f3 false true false false) :=
  law_lift (C := Try.checked) (s := Rows.configStandardSpec) (tb := 4) (by kernel_rfl) started (by kernel_rfl) Try.func3
    (ChangeSpec.witness6 (enc := enc) (C := Try.checked) false ⟨#[], #[.int .i64 0], []⟩ 8 (by kernel_rfl) (by kernel_rfl) (by kernel_rfl) (by kernel_rfl))
    rfl (fun H ds h => by
      match ds, h with
      | [d0], _ => rfl) (by kernel_rfl) (by kernel_rfl) (by kernel_rfl) Try.underlying4 lawWalk

theorem over : Rows.configStandardRow.holds Try.pinned (OpenSpec.ofChange Rows.configStandardSpec) :=
  OpenClaim.holds_of_wide 3 Try.f3 rfl rfl rfl rfl rfl rfl rfl ⟨rfl, rfl, rfl, rfl, rfl⟩ rfl rfl rfl rfl rfl (by kernel_rfl) Try.func3 (by kernel_rfl)
    (of_decide_eq_true (by kernel_rfl)) (by unfold Func.isWrapper; first | (rw [if_pos (by decide +kernel)]; kernel_rfl) | (rw [if_neg (by decide +kernel)]; exact ⟨rfl, rfl⟩))
    (fun os started H enc _ => lifted os started H enc)

/-- The statement. -/
theorem proved : Rows.ConfigStandardSaid := over
#print axioms proved
end Go.Proofs.Ytiacklfigpobnaa.ConfigStandard
