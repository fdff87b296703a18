/- JudgeLate is proved: for all numbers and lists of numbers the law returns true. No condition. -/
import Derived.Test.YtiacklfigpobnaaRows
import Derived.Test.YtiacklfigpobnaaMeasT
import Derived.Deep.RegionWith
namespace Go.Proofs.Ytiacklfigpobnaa.JudgeLate
open Go.ChangeShapes Go.WideShapes Go.ChangeAt Go.RowKit F
set_option linter.unusedVariables false

set_option maxRecDepth 100000 in
set_option maxHeartbeats 1600000 in
theorem walk (om : Int) (a : Option Addr) (n c : Nat) (xs : List Int) (w : World) (h1 : I64 om) (hr : IntRow w a n xs) (hm : n ≤ maxLen) (hx : ∀ x ∈ xs, I64 x) :
    Calls Try.prog 13 #[.int .i64 om, .slice a n c] w fun e w' => e = .returned (.bool true) ∧ Below w.heap.size w w' := by
  have hR := Lib.hid hr
  have hX := Lib.hid hx
  clear hr hx
  go_enter Try.func13, Try.ntmps13
  go_wp2_with fail
  refine (within_q om 65 _ h1 (by omega) (by omega)).mono ?_; rintro e w' ⟨u, rfl, hu, hu0, hu4, rfl⟩
  go_wp2_with fail
  refine (measures_t a n c xs _ hR.out hm hX.out).mono ?_; rintro e w1 ⟨⟨a1, c1, a2, c2, rfl⟩ | ⟨b1, o1, c1, b2, o2, c2, k, m0, m1, rest, rfl, B⟩, hb1⟩
  · go_wp2_with fail
    refine (late_0 u _ (by omega)).mono ?_; rintro e w' ⟨rfl, rfl⟩
    go_wp2_with fail
    refine (jwakes_c _).mono ?_; rintro e w2 ⟨rfl, hb2⟩
    go_wp2
    go_ret
    exact ⟨rfl, hb1.trans (hb2.mono hb1.size)⟩
  · obtain ⟨A1, A2, r1, r2, hM, hZ⟩ := B.rest
    have k1 := B.m0_.1
    have k2 := B.m0_.2
    have k3 := B.z0
    have q1 := fun (x : Later w1) => x.cell k1
    have q2 := fun (x : Later w1) => x.cell k2
    have q3 := fun (x : Later w1) => x.cell k3
    have hf := B.fine.head
    have hF := Lib.hid B.fine
    have hlen := B.few
    have hM' := Lib.hid hM
    have hZ' := Lib.hid hZ
    have HB := Lib.hid B
    have i1 : (0 : Int) < (k : Int) + 1 := by omega
    have i2 : ((k : Int) + 1 == 0) = false := by simp; omega
    clear B hM hZ k1 k2 k3
    go_wp2_with fail
    refine wp_region_later (by kernel_rfl) (by kernel_rfl) ?_
    repeat (go_big_quiet_step (first
      | (go_at_call_of 32 (Value.slice none 0 0); exact Later.same (late_none u m0 m1 _ (by omega) (by omega) (by omega)))
      | (go_at_call 32; exact Later.same (late_c u m0 m1 A2 k _ rest _ (VRow.later hZ'.out _) hF.out.tail.usual (by omega) (by omega) (by omega) (by omega)))
      | (go_at_call 34; exact Later.call (rlate_c u m0 m1 A1 k _ rest _ (VRow.later hM'.out _) hF.out.tail.usual (by omega) (by omega) (by omega) (by omega)))
      | (go_at_call 26; exact Later.call (jwakes_c _))))
    refine wpQuiet_nil ?_
    rintro _ ⟨x, rfl⟩
    go_wp2
    go_ret
    exact ⟨rfl, hb1.trans (x.b.mono hb1.size)⟩

theorem lawWalk : LawWalk Try.checked 13 Try.f13 := by
  intro H enc W base args ds p hval hA hsz
  rw [Try.params13] at hA hval
  obtain ⟨v0, vs0, d0, ds0, p0, q0, hargs, rfl, rfl, h0, r0⟩ := trodAll_cons hA
  obtain ⟨v1, vs1, d1, ds1, p1, q1, rfl, rfl, rfl, h1, r1⟩ := trodAll_cons r0
  obtain ⟨rfl, rfl, rfl⟩ := trodAll_nil r1
  obtain rfl : args = #[v0, v1] := by cases args; simp_all
  obtain ⟨a0, rfl, rfl, rfl, w0⟩ := open_int Try.underlying3 (hval 0 3 v0 rfl rfl) h0
  obtain ⟨a1, n1, c1, xs1, rfl, hnc1, hcm1, hr1, hx1⟩ := open_int_slice Try.underlying28 Try.underlying3 (by kernel_rfl) (hval 1 28 v1 rfl rfl) h1
  exact walk a0 a1 n1 c1 xs1 W (I64.of_wf w0) hr1 (Nat.le_trans hnc1 hcm1) hx1

theorem lifted (os : Os) (started : os.Started) (H : Type) (enc : TypeId × Value → H) :
    ReturnsInHanded {} Try.checked os 13 .any (Rows.judgeLateSpec.pre6 enc Try.prog Try.f13 Rows.judgeLateRow.domain false) (Rows.judgeLateSpec.post enc Try.prog Try.f13 false true false false) :=
  law_lift (C := Try.checked) (s := Rows.judgeLateSpec) (tb := 4) (by kernel_rfl) started (by kernel_rfl) Try.func13
    (ChangeSpec.witness6 (enc := enc) (C := Try.checked) false ⟨#[], #[.int .i64 0, .slice none 0 0], []⟩ 8 (by kernel_rfl) (by kernel_rfl) (by kernel_rfl) (by kernel_rfl))
    rfl (fun H ds h => by
      match ds, h with
      | [d0, d1], _ => rfl) (by kernel_rfl) (by kernel_rfl) (by kernel_rfl) Try.underlying4 lawWalk

theorem over : Rows.judgeLateRow.holds Try.pinned (OpenSpec.ofChange Rows.judgeLateSpec) :=
  OpenClaim.holds_of_wide 13 Try.f13 rfl rfl rfl rfl rfl rfl rfl ⟨rfl, rfl, rfl, rfl, rfl⟩ rfl rfl rfl rfl rfl (by kernel_rfl) Try.func13 (by kernel_rfl)
    (of_decide_eq_true (by kernel_rfl)) (by unfold Func.isWrapper; first | (rw [if_pos (by decide +kernel)]; kernel_rfl) | (rw [if_neg (by decide +kernel)]; exact ⟨rfl, rfl⟩))
    (fun os started H enc _ => lifted os started H enc)

/-- The statement. -/
theorem proved : Rows.JudgeLateSaid := over
#print axioms proved
end Go.Proofs.Ytiacklfigpobnaa.JudgeLate
