/- JudgeOld is proved: for all numbers the law returns true. No condition. -/
import Derived.Test.YtiacklfigpobnaaRows
import Derived.Test.YtiacklfigpobnaaOpen
import Derived.Test.YtiacklfigpobnaaKeep
import Derived.Test.YtiacklfigpobnaaJudgeR
namespace Go.Proofs.Ytiacklfigpobnaa.JudgeOld
open Go.ChangeShapes Go.WideShapes Go.ChangeAt Go.RowKit F
set_option linter.unusedVariables false

theorem walk (s n l : Int) (w : World) (hs : I64 s) (hn : I64 n) (hl : I64 l) :
    Calls Try.prog 9 #[.int .i64 s, .int .i64 n, .int .i64 l] w fun e w' => e = .returned (.bool true) ∧ Below w.heap.size w w' := by
  go_enter Try.func9, Try.ntmps9
  go_wp2_with fail
  refine (within_q s 1048577 _ hs (by omega) (by omega)).mono ?_; rintro e w' ⟨s', rfl, hs', hs0, hs4, rfl⟩
  go_wp2_with fail
  refine (within_q n 1048577 _ hn (by omega) (by omega)).mono ?_; rintro e w' ⟨n', rfl, hn', hn0, hn4, rfl⟩
  go_wp2_with fail
  refine (within_q l 65 _ hl (by omega) (by omega)).mono ?_; rintro e w' ⟨l', rfl, hl', hl0, hl4, rfl⟩
  go_wp2_with fail
  refine (old_c s' n' l' _ (by omega) (by omega)).mono ?_; rintro e w' ⟨rfl, rfl⟩
  go_wp2_with fail
  refine (jwakes_c _).mono ?_; rintro e w1 ⟨rfl, hb1⟩
  go_wp2
  go_ret
  exact ⟨rfl, hb1⟩

theorem lawWalk : LawWalk Try.checked 9 Try.f9 := by
  intro H enc W base args ds p hval hA hsz
  rw [Try.params9] at hA hval
  obtain ⟨v0, vs0, d0, ds0, p0, q0, hargs, rfl, rfl, h0, r0⟩ := trodAll_cons hA
  obtain ⟨v1, vs1, d1, ds1, p1, q1, rfl, rfl, rfl, h1, r1⟩ := trodAll_cons r0
  obtain ⟨v2, vs2, d2, ds2, p2, q2, rfl, rfl, rfl, h2, r2⟩ := trodAll_cons r1
  obtain ⟨rfl, rfl, rfl⟩ := trodAll_nil r2
  obtain rfl : args = #[v0, v1, v2] := by cases args; simp_all
  obtain ⟨a0, rfl, rfl, rfl, w0⟩ := open_int Try.underlying3 (hval 0 3 v0 rfl rfl) h0
  obtain ⟨a1, rfl, rfl, rfl, w1⟩ := open_int Try.underlying3 (hval 1 3 v1 rfl rfl) h1
  obtain ⟨a2, rfl, rfl, rfl, w2⟩ := open_int Try.underlying3 (hval 2 3 v2 rfl rfl) h2
  exact walk a0 a1 a2 W (I64.of_wf w0) (I64.of_wf w1) (I64.of_wf w2)

theorem lifted (os : Os) (started : os.Started) (H : Type) (enc : TypeId × Value → H) :
    ReturnsInHanded {} Try.checked os 9 .any (Rows.judgeOldSpec.pre6 enc Try.prog Try.f9 Rows.judgeOldRow.domain false) (Rows.judgeOldSpec.post enc Try.prog Try.f9 false true false false) :=
  law_lift (C := Try.checked) (s := Rows.judgeOldSpec) (tb := 4) (by kernel_rfl) started (by kernel_rfl) Try.func9
    (ChangeSpec.witness6 (enc := enc) (C := Try.checked) false ⟨#[], #[.int .i64 0, .int .i64 0, .int .i64 0], []⟩ 8 (by kernel_rfl) (by kernel_rfl) (by kernel_rfl) (by kernel_rfl))
    rfl (fun H ds h => by
      match ds, h with
      | [d0, d1, d2], _ => rfl) (by kernel_rfl) (by kernel_rfl) (by kernel_rfl) Try.underlying4 lawWalk

theorem over : Rows.judgeOldRow.holds Try.pinned (OpenSpec.ofChange Rows.judgeOldSpec) :=
  OpenClaim.holds_of_wide 9 Try.f9 rfl rfl rfl rfl rfl rfl rfl ⟨rfl, rfl, rfl, rfl, rfl⟩ rfl rfl rfl rfl rfl (by kernel_rfl) Try.func9 (by kernel_rfl)
    (of_decide_eq_true (by kernel_rfl)) (by unfold Func.isWrapper; first | (rw [if_pos (by decide +kernel)]; kernel_rfl) | (rw [if_neg (by decide +kernel)]; exact ⟨rfl, rfl⟩))
    (fun os started H enc _ => lifted os started H enc)

/-- The statement. -/
theorem proved : Rows.JudgeOldSaid := over
#print axioms proved
end Go.Proofs.Ytiacklfigpobnaa.JudgeOld
