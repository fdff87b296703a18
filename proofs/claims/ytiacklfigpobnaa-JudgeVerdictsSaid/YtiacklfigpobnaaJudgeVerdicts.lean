/- JudgeVerdicts is proved: for all numbers and lists of numbers the law returns true. No condition. -/
import Derived.Test.YtiacklfigpobnaaRows
import Derived.Test.YtiacklfigpobnaaVerdictR
namespace Go.Proofs.Ytiacklfigpobnaa.JudgeVerdicts
open Go.ChangeShapes Go.WideShapes Go.ChangeAt Go.RowKit F
set_option linter.unusedVariables false

set_option maxRecDepth 100000 in
set_option maxHeartbeats 1600000 in
theorem walk (a0 a1 a2 : Int) (a : Option Addr) (n c : Nat) (xs : List Int) (w : World) (h1 : I64 a0) (h2 : I64 a1) (h3 : I64 a2) (hr : IntRow w a n xs) (hm : n ≤ maxLen) (hx : ∀ x ∈ xs, I64 x) :
    Calls Try.prog 14 #[.int .i64 a0, .int .i64 a1, .int .i64 a2, .slice a n c] w fun e w' => e = .returned (.bool true) ∧ Below w.heap.size w w' := by
  have hR := Lib.hid hr
  have hX := Lib.hid hx
  clear hr hx
  go_enter Try.func14, Try.ntmps14
  go_wp2_with fail
  refine (within_q a0 9 _ h1 (by omega) (by omega)).mono ?_; rintro e w' ⟨num, rfl, hu, hu0, hu4, rfl⟩
  go_wp2_with fail
  refine (within_q a1 8 _ h2 (by omega) (by omega)).mono ?_; rintro e w' ⟨den, rfl, hv, hv0, hv4, rfl⟩
  go_wp2_with fail
  refine (within_q a2 65 _ h3 (by omega) (by omega)).mono ?_; rintro e w' ⟨om, rfl, ho, ho0, ho4, rfl⟩
  go_wp2_with fail
  obtain ⟨w1, hw1⟩ : ∃ w1, w1 = w.alloc (.cells #[.int .i64 0, .int .i64 0, .int .i64 0, .int .i64 0, .int .i64 0, .int .i64 0, .int .i64 0, .int .i64 0, .int .i64 num, .int .i64 (1 + den), .int .i64 0, .int .i64 om, .int .i64 0, .int .i64 0, .int .i64 0] 23) := ⟨_, rfl⟩
  rw [← hw1]
  have hb1 : Below w.heap.size w w1 := by rw [hw1]; exact (Below.refl _ _).alloc (Nat.le_refl _) _
  have hk := Lib.hid (show Blk w1 w.heap.size 23 #[.int .i64 0, .int .i64 0, .int .i64 0, .int .i64 0, .int .i64 0, .int .i64 0, .int .i64 0, .int .i64 0, .int .i64 num, .int .i64 (1 + den), .int .i64 0, .int .i64 om, .int .i64 0, .int .i64 0, .int .i64 0] by rw [hw1]; exact Blk.new _ _ _)
  have HW := Lib.hid hw1
  clear hw1
  refine (measures_t a n c xs _ (hR.out.below hb1) hm hX.out).mono ?_; rintro e w2 ⟨⟨d1, c1, d2, c2, rfl⟩ | ⟨b1, o1, c1, b2, o2, c2, k, m0, m1, rest, rfl, B⟩, hb2⟩
  all_goals
    have hk2 := Lib.hid (hk.out.below hb2 hk.out.lt)
    have hx0 := fun (x : Later w2) => hk2.out.laterCell (i := 0) (v := .int .i64 0) rfl x
    have hx1 := fun (x : Later w2) => hk2.out.laterCell (i := 1) (v := .int .i64 0) rfl x
    have hx2 := fun (x : Later w2) => hk2.out.laterCell (i := 2) (v := .int .i64 0) rfl x
    have hx3 := fun (x : Later w2) => hk2.out.laterCell (i := 3) (v := .int .i64 0) rfl x
    have hx4 := fun (x : Later w2) => hk2.out.laterCell (i := 4) (v := .int .i64 0) rfl x
    have hx5 := fun (x : Later w2) => hk2.out.laterCell (i := 5) (v := .int .i64 0) rfl x
    have hx6 := fun (x : Later w2) => hk2.out.laterCell (i := 6) (v := .int .i64 0) rfl x
    have hx7 := fun (x : Later w2) => hk2.out.laterCell (i := 7) (v := .int .i64 0) rfl x
    have hx8 := fun (x : Later w2) => hk2.out.laterCell (i := 8) (v := .int .i64 num) rfl x
    have hx9 := fun (x : Later w2) => hk2.out.laterCell (i := 9) (v := .int .i64 (1 + den)) rfl x
    have hx10 := fun (x : Later w2) => hk2.out.laterCell (i := 10) (v := .int .i64 0) rfl x
    have hx11 := fun (x : Later w2) => hk2.out.laterCell (i := 11) (v := .int .i64 om) rfl x
    have hx12 := fun (x : Later w2) => hk2.out.laterCell (i := 12) (v := .int .i64 0) rfl x
    have hx13 := fun (x : Later w2) => hk2.out.laterCell (i := 13) (v := .int .i64 0) rfl x
    have hx14 := fun (x : Later w2) => hk2.out.laterCell (i := 14) (v := .int .i64 0) rfl x
    have hb12 := hb1.trans (hb2.mono hb1.size)
  · go_wp2_with fail
    refine wp_region_later (by kernel_rfl) (by kernel_rfl) ?_
    repeat (go_big_quiet_step (first
      | (go_at_call 35; exact Later.call (verdict_none num (1 + den) om _ _ _))
      | (go_at_call 36; exact Later.call (rverdict_none num (1 + den) om _ _ _))
      | (go_at_call 26; exact Later.call (jwakes_c _))))
    refine wpQuiet_nil ?_
    rintro _ ⟨x, rfl⟩
    go_wp2
    go_ret
    exact ⟨rfl, hb12.trans (x.b.mono hb12.size)⟩
  · have HB := Lib.hid B
    clear B
    go_wp2_with fail
    refine wp_region_later (by kernel_rfl) (by kernel_rfl) ?_
    repeat (go_big_quiet_step (first
      | (go_at_call 35; exact Later.call (verdict_c num (1 + den) om _ (HB.out.below (Later.b _)) (by omega) (by omega) (by omega)))
      | (go_at_call 36; exact Later.call (rverdict_c num (1 + den) om _ (HB.out.below (Later.b _)) (by omega) (by omega) (by omega)))
      | (go_at_call 26; exact Later.call (jwakes_c _))))
    refine wpQuiet_nil ?_
    rintro _ ⟨x, rfl⟩
    go_wp2
    go_ret
    exact ⟨rfl, hb12.trans (x.b.mono hb12.size)⟩

theorem lawWalk : LawWalk Try.checked 14 Try.f14 := by
  intro H enc W base args ds p hval hA hsz
  rw [Try.params14] at hA hval
  obtain ⟨v0, vs0, d0, ds0, p0, q0, hargs, rfl, rfl, h0, r0⟩ := trodAll_cons hA
  obtain ⟨v1, vs1, d1, ds1, p1, q1, rfl, rfl, rfl, h1, r1⟩ := trodAll_cons r0
  obtain ⟨v2, vs2, d2, ds2, p2, q2, rfl, rfl, rfl, h2, r2⟩ := trodAll_cons r1
  obtain ⟨v3, vs3, d3, ds3, p3, q3, rfl, rfl, rfl, h3, r3⟩ := trodAll_cons r2
  obtain ⟨rfl, rfl, rfl⟩ := trodAll_nil r3
  obtain rfl : args = #[v0, v1, v2, v3] := by cases args; simp_all
  obtain ⟨a0, rfl, rfl, rfl, w0⟩ := open_int Try.underlying3 (hval 0 3 v0 rfl rfl) h0
  obtain ⟨a1, rfl, rfl, rfl, w1⟩ := open_int Try.underlying3 (hval 1 3 v1 rfl rfl) h1
  obtain ⟨a2, rfl, rfl, rfl, w2⟩ := open_int Try.underlying3 (hval 2 3 v2 rfl rfl) h2
  obtain ⟨a3, n3, c3, xs3, rfl, hnc3, hcm3, hr3, hx3⟩ := open_int_slice Try.underlying28 Try.underlying3 (by kernel_rfl) (hval 3 28 v3 rfl rfl) h3
  exact walk a0 a1 a2 a3 n3 c3 xs3 W (I64.of_wf w0) (I64.of_wf w1) (I64.of_wf w2) hr3 (Nat.le_trans hnc3 hcm3) hx3

theorem lifted (os : Os) (started : os.Started) (H : Type) (enc : TypeId × Value → H) :
    ReturnsInHanded {} Try.checked os 14 .any (Rows.judgeVerdictsSpec.pre6 enc Try.prog Try.f14 Rows.judgeVerdictsRow.domain false) (Rows.judgeVerdictsSpec.post enc Try.prog Try.f14 false true false false) :=
  law_lift (C := Try.checked) (s := Rows.judgeVerdictsSpec) (tb := 4) (by kernel_rfl) started (by kernel_rfl) Try.func14
    (ChangeSpec.witness6 (enc := enc) (C := Try.checked) false ⟨#[], #[.int .i64 0, .int .i64 0, .int .i64 0, .slice none 0 0], []⟩ 8 (by kernel_rfl) (by kernel_rfl) (by kernel_rfl) (by kernel_rfl))
    rfl (fun H ds h => by
      match ds, h with
      | [d0, d1, d2, d3], _ => rfl) (by kernel_rfl) (by kernel_rfl) (by kernel_rfl) Try.underlying4 lawWalk

theorem over : Rows.judgeVerdictsRow.holds Try.pinned (OpenSpec.ofChange Rows.judgeVerdictsSpec) :=
  OpenClaim.holds_of_wide 14 Try.f14 rfl rfl rfl rfl rfl rfl rfl ⟨rfl, rfl, rfl, rfl, rfl⟩ rfl rfl rfl rfl rfl (by kernel_rfl) Try.func14 (by kernel_rfl)
    (of_decide_eq_true (by kernel_rfl)) (by unfold Func.isWrapper; first | (rw [if_pos (by decide +kernel)]; kernel_rfl) | (rw [if_neg (by decide +kernel)]; exact ⟨rfl, rfl⟩))
    (fun os started H enc _ => lifted os started H enc)

/-- The statement. -/
theorem proved : Rows.JudgeVerdictsSaid := over
#print axioms proved
end Go.Proofs.Ytiacklfigpobnaa.JudgeVerdicts
