/- ConfigValid is proved: for every configuration and every list of numbers the law returns true. No condition. -/
import Derived.Test.YtiacklfigpobnaaRows
import Derived.Test.YtiacklfigpobnaaOpen
import Derived.Test.YtiacklfigpobnaaCfgW
import Derived.Test.YtiacklfigpobnaaCfgR
import Derived.Test.YtiacklfigpobnaaCfgO
import Derived.Test.YtiacklfigpobnaaCfgP
namespace Go.Proofs.Ytiacklfigpobnaa.ConfigValid
open Go.ChangeShapes Go.WideShapes Go.ChangeAt Go.RowKit Cfg
set_option linter.unusedVariables false

theorem list15 {zs : List Int} (h : zs.length = 15) : ∃ c0 c1 c2 c3 c4 c5 c6 c7 c8 c9 c10 c11 c12 c13 c14, zs = [c0, c1, c2, c3, c4, c5, c6, c7, c8, c9, c10, c11, c12, c13, c14] := by
  match zs, h with
  | [c0, c1, c2, c3, c4, c5, c6, c7, c8, c9, c10, c11, c12, c13, c14], _ => exact ⟨c0, c1, c2, c3, c4, c5, c6, c7, c8, c9, c10, c11, c12, c13, c14, rfl⟩

theorem of_c' (a : Option Addr) (n c : Nat) (xs : List Int) (w : World) (hr : IntRow w a n xs) (hm : n ≤ maxLen) :
    Calls Try.prog 21 #[.slice a n c] w fun e w' => e = .returned (.agg #[.int .i64 (xs.getD 0 0), .int .i64 (xs.getD 1 0), .int .i64 (xs.getD 2 0), .int .i64 (xs.getD 3 0), .int .i64 (xs.getD 4 0), .int .i64 (xs.getD 5 0), .int .i64 (xs.getD 6 0), .int .i64 (xs.getD 7 0), .int .i64 (xs.getD 8 0), .int .i64 (xs.getD 9 0), .int .i64 (xs.getD 10 0), .int .i64 (xs.getD 11 0), .int .i64 (xs.getD 12 0), .int .i64 (xs.getD 13 0), .int .i64 (xs.getD 14 0)]) ∧ Below w.heap.size w w' := of_c a n c xs w hr hm

set_option maxRecDepth 100000 in
set_option maxHeartbeats 4000000 in
theorem walk (c0 c1 c2 c3 c4 c5 c6 c7 c8 c9 c10 c11 c12 c13 c14 : Int) (a : Option Addr) (n c : Nat) (xs : List Int) (w : World) (hr : IntRow w a n xs) (hm : n ≤ maxLen) :
    Calls Try.prog 4 #[.agg #[.int .i64 c0, .int .i64 c1, .int .i64 c2, .int .i64 c3, .int .i64 c4, .int .i64 c5, .int .i64 c6, .int .i64 c7, .int .i64 c8, .int .i64 c9, .int .i64 c10, .int .i64 c11, .int .i64 c12, .int .i64 c13, .int .i64 c14], .slice a n c] w fun e w' => e = .returned (.bool true) ∧ Below w.heap.size w w' := by
  obtain ⟨w1, hw1⟩ : ∃ w1, w1 = w.alloc (.cells #[.int .i64 c0, .int .i64 c1, .int .i64 c2, .int .i64 c3, .int .i64 c4, .int .i64 c5, .int .i64 c6, .int .i64 c7, .int .i64 c8, .int .i64 c9, .int .i64 c10, .int .i64 c11, .int .i64 c12, .int .i64 c13, .int .i64 c14] 23) := ⟨_, rfl⟩
  have hb1 : Below w.heap.size w w1 := by rw [hw1]; exact (Below.refl _ _).alloc (Nat.le_refl _) _
  have hr1 := Lib.hid (hr.below hb1)
  have hx : ∀ j v, #[.int .i64 c0, .int .i64 c1, .int .i64 c2, .int .i64 c3, .int .i64 c4, .int .i64 c5, .int .i64 c6, .int .i64 c7, .int .i64 c8, .int .i64 c9, .int .i64 c10, .int .i64 c11, .int .i64 c12, .int .i64 c13, .int .i64 c14][j]? = some v → ∀ x : Later w1, x.w.cell? ⟨w.heap.size, j, none⟩ = some v := by
    intro j v hj x
    apply x.cell
    rw [hw1]
    exact (cell_of_row _ w.heap.size j _ _ _ (heap_alloc_new w _)).trans hj
  have hx0 := hx 0 _ rfl
  have hx1 := hx 1 _ rfl
  have hx2 := hx 2 _ rfl
  have hx3 := hx 3 _ rfl
  have hx4 := hx 4 _ rfl
  have hx5 := hx 5 _ rfl
  have hx6 := hx 6 _ rfl
  have hx7 := hx 7 _ rfl
  have hx8 := hx 8 _ rfl
  have hx9 := hx 9 _ rfl
  have hx10 := hx 10 _ rfl
  have hx11 := hx 11 _ rfl
  have hx12 := hx 12 _ rfl
  have hx13 := hx 13 _ rfl
  have hx14 := hx 14 _ rfl
  clear hx hr
  go_enter Try.func4, Try.ntmps4
  go_wp2_with fail
  rw [← hw1]
  have HW := Lib.hid hw1
  clear hw1
  refine wp_region_later (by kernel_rfl) (by kernel_rfl) ?_
  repeat (go_big_quiet_step (first
    | (go_at_call 18; exact Later.call (valid_c _ _ _ _ _ _ _ _ _ _ _ _ _ _ _ _))
    | (go_at_call 20; exact Later.call (rvalid_c _ _ _ _ _ _ _ _ _ _ _ _ _ _ _ _))
    | (go_at_call 21; exact Later.call (of_c' a n c xs _ (hr1.out.below (Later.b _)) hm))
    | (go_at_call 22; exact Later.call (rof_c a n c xs _ (hr1.out.below (Later.b _)) hm))
    | (go_at_call 19; exact Later.call (wakes_c _))))
  refine wpQuiet_nil ?_
  rintro _ ⟨x, rfl⟩
  go_wp2
  go_ret
  exact ⟨rfl, hb1.trans (x.b.mono hb1.size)⟩

theorem lawWalk : LawWalk Try.checked 4 Try.f4 := by
  intro H enc W base args ds p hval hA hsz
  rw [Try.params4] at hA hval
  obtain ⟨v0, vs0, d0, ds0, p0, q0, hargs, rfl, rfl, h0, r0⟩ := trodAll_cons hA
  obtain ⟨v1, vs1, d1, ds1, p1, q1, rfl, rfl, rfl, h1, r1⟩ := trodAll_cons r0
  obtain ⟨rfl, rfl, rfl⟩ := trodAll_nil r1
  obtain rfl : args = #[v0, v1] := by cases args; simp_all
  obtain ⟨zs, hzl, rfl, _⟩ := open_int_struct Try.underlying23 (by kernel_rfl) (by kernel_rfl) (by kernel_rfl) (hval 0 23 v0 rfl rfl) h0
  obtain ⟨a, n, c, xs, rfl, hnc, hcm, hr, _⟩ := open_int_slice Try.underlying28 Try.underlying3 (by kernel_rfl) (hval 1 28 v1 rfl rfl) h1
  obtain ⟨c0, c1, c2, c3, c4, c5, c6, c7, c8, c9, c10, c11, c12, c13, c14, rfl⟩ := list15 hzl
  exact walk c0 c1 c2 c3 c4 c5 c6 c7 c8 c9 c10 c11 c12 c13 c14 a n c xs W hr (Nat.le_trans hnc hcm)

theorem lifted (os : Os) (started : os.Started) (H : Type) (enc : TypeId × Value → H) :
    ReturnsInHanded {} Try.checked os 4 .any (Rows.configValidSpec.pre6 enc Try.prog Try.f4 Rows.configValidRow.domain false) (Rows.configValidSpec.post enc Try.prog Try.f4 false true false false) :=
  law_lift (C := Try.checked) (s := Rows.configValidSpec) (tb := 4) (by kernel_rfl) started (by kernel_rfl) Try.func4
    (ChangeSpec.witness6 (enc := enc) (C := Try.checked) false ⟨#[], #[.agg #[.int .i64 0, .int .i64 0, .int .i64 0, .int .i64 0, .int .i64 0, .int .i64 0, .int .i64 0, .int .i64 0, .int .i64 0, .int .i64 0, .int .i64 0, .int .i64 0, .int .i64 0, .int .i64 0, .int .i64 0], .slice none 0 0], []⟩ 8 (by kernel_rfl) (by kernel_rfl) (by kernel_rfl) (by kernel_rfl))
    rfl (fun H ds h => by
      match ds, h with
      | [d0, d1], _ => rfl) (by kernel_rfl) (by kernel_rfl) (by kernel_rfl) Try.underlying4 lawWalk

theorem over : Rows.configValidRow.holds Try.pinned (OpenSpec.ofChange Rows.configValidSpec) :=
  OpenClaim.holds_of_wide 4 Try.f4 rfl rfl rfl rfl rfl rfl rfl ⟨rfl, rfl, rfl, rfl, rfl⟩ rfl rfl rfl rfl rfl (by kernel_rfl) Try.func4 (by kernel_rfl)
    (of_decide_eq_true (by kernel_rfl)) (by unfold Func.isWrapper; first | (rw [if_pos (by decide +kernel)]; kernel_rfl) | (rw [if_neg (by decide +kernel)]; exact ⟨rfl, rfl⟩))
    (fun os started H enc _ => lifted os started H enc)

/-- The statement. -/
theorem proved : Rows.ConfigValidSaid := over
#print axioms proved
end Go.Proofs.Ytiacklfigpobnaa.ConfigValid
