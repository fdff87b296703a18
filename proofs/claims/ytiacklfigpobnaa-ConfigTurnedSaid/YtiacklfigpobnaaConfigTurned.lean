/- ConfigTurned is proved: for all numbers the law returns true. No condition. -/
import Derived.Test.YtiacklfigpobnaaRows
import Derived.Test.YtiacklfigpobnaaOpen
import Derived.Test.YtiacklfigpobnaaKeep
import Derived.Test.YtiacklfigpobnaaBlk
import Derived.Test.YtiacklfigpobnaaTurnedP
import Derived.Test.YtiacklfigpobnaaCfgW
import Derived.Test.YtiacklfigpobnaaCfgO
namespace Go.Proofs.Ytiacklfigpobnaa.ConfigTurned
open Go.ChangeShapes Go.WideShapes Go.ChangeAt Go.RowKit Cfg
set_option linter.unusedVariables false

theorem of_x (b : Nat) (n c : Nat) (xs : List Int) (w : World) (hr : IntRow w (some ⟨b, 0, none⟩) n xs) (hm : n ≤ maxLen) :
    Calls Try.prog 21 #[.slice (some ⟨b, 0, none⟩) n c] w fun e w' => e = .returned (.agg #[.int .i64 (xs.getD 0 0), .int .i64 (xs.getD 1 0), .int .i64 (xs.getD 2 0), .int .i64 (xs.getD 3 0), .int .i64 (xs.getD 4 0), .int .i64 (xs.getD 5 0), .int .i64 (xs.getD 6 0), .int .i64 (xs.getD 7 0), .int .i64 (xs.getD 8 0), .int .i64 (xs.getD 9 0), .int .i64 (xs.getD 10 0), .int .i64 (xs.getD 11 0), .int .i64 (xs.getD 12 0), .int .i64 (xs.getD 13 0), .int .i64 (xs.getD 14 0)]) ∧ Below w.heap.size w w' := of_c _ n c xs w hr hm
theorem valid_x (xs : List Int) (b : Bool) (hb : validL xs = b) (w : World) :
    Calls Try.prog 18 #[.agg #[.int .i64 (xs.getD 0 0), .int .i64 (xs.getD 1 0), .int .i64 (xs.getD 2 0), .int .i64 (xs.getD 3 0), .int .i64 (xs.getD 4 0), .int .i64 (xs.getD 5 0), .int .i64 (xs.getD 6 0), .int .i64 (xs.getD 7 0), .int .i64 (xs.getD 8 0), .int .i64 (xs.getD 9 0), .int .i64 (xs.getD 10 0), .int .i64 (xs.getD 11 0), .int .i64 (xs.getD 12 0), .int .i64 (xs.getD 13 0), .int .i64 (xs.getD 14 0)]] w fun e w' => e = .returned (.bool b) ∧ Below w.heap.size w w' := by
  subst hb
  exact valid_c _ _ _ _ _ _ _ _ _ _ _ _ _ _ _ w
/-- What Of makes of a usual configuration's numbers. -/
theorem of_std (f : Int) (b : Nat) (c : Nat) (w : World) (hr : IntRow w (some ⟨b, 0, none⟩) 15 (stdL f)) :
    Calls Try.prog 21 #[.slice (some ⟨b, 0, none⟩) 15 c] w fun e w' => e = .returned (.agg #[.int .i64 f, .int .i64 2, .int .i64 2, .int .i64 4, .int .i64 64, .int .i64 8, .int .i64 8, .int .i64 8, .int .i64 1, .int .i64 2, .int .i64 12, .int .i64 8, .int .i64 6, .int .i64 2, .int .i64 6]) ∧ Below w.heap.size w w' :=
  of_c _ 15 c (stdL f) w hr (by simp [maxLen])

theorem getD_some {l : List Int} {i : Nat} (h : i < l.length) : (ints l)[i]? = some (.int .i64 (l.getD i 0)) := ints_get l i h

set_option maxRecDepth 100000 in
set_option maxHeartbeats 4000000 in
theorem walk (f k n : Int) (w : World) (hf : I64 f) (hk : I64 k) (hn : I64 n) :
    Calls Try.prog 5 #[.int .i64 f, .int .i64 k, .int .i64 n] w fun e w' => e = .returned (.bool true) ∧ Below w.heap.size w w' := by
  go_enter Try.func5, Try.ntmps5
  go_wp2_with fail
  refine (within_q f 4 _ hf (by omega) (by omega)).mono ?_; rintro e w' ⟨q, rfl, hq, hq0, hq4, rfl⟩
  go_wp2_with fail
  refine (standard_c _ _).mono ?_; rintro e w1 ⟨rfl, hb1⟩
  go_wp2_with fail
  obtain ⟨w5, hw5⟩ : ∃ w5, w5 = (((w1.alloc (.cells #[.int .i64 (1 + q), .int .i64 2, .int .i64 2, .int .i64 4, .int .i64 64, .int .i64 8, .int .i64 8, .int .i64 8, .int .i64 1, .int .i64 2, .int .i64 12, .int .i64 8, .int .i64 6, .int .i64 2, .int .i64 6] 23)).alloc (.cells #[.int .i64 1, .int .i64 1, .int .i64 1, .int .i64 1, .int .i64 1, .int .i64 1, .int .i64 1, .int .i64 2, .int .i64 0, .int .i64 1, .int .i64 2, .int .i64 0, .int .i64 2, .int .i64 1, .int .i64 1] 3)).alloc (.cells #[.int .i64 4, .int .i64 4, .int .i64 4, .int .i64 16, .int .i64 256, .int .i64 64, .int .i64 64, .int .i64 64, .int .i64 8, .int .i64 8, .int .i64 64, .int .i64 64, .int .i64 64, .int .i64 16, .int .i64 64] 3)).alloc (.cells #[.int .i64 (1 + q), .int .i64 2, .int .i64 2, .int .i64 4, .int .i64 64, .int .i64 8, .int .i64 8, .int .i64 8, .int .i64 1, .int .i64 2, .int .i64 12, .int .i64 8, .int .i64 6, .int .i64 2, .int .i64 6] 3) := ⟨_, rfl⟩
  rw [← hw5]
  have hC : Blk w5 w1.heap.size 23 (ints (stdL (1 + q))) := by
    rw [hw5]
    exact (((Blk.new _ _ _).alloc _).alloc _).alloc _
  have hL : Blk w5 (w1.heap.size + 1) 3 (ints leastL) := by
    rw [hw5]
    exact ((Blk.new' (w1.alloc _) _ _ (by simp)).alloc _).alloc _
  have hM : Blk w5 (w1.heap.size + 1 + 1) 3 (ints mostL) := by
    rw [hw5]
    exact (Blk.new' ((w1.alloc _).alloc _) _ _ (by simp)).alloc _
  have hl : Blk w5 (w1.heap.size + 1 + 1 + 1) 3 (ints (stdL (1 + q))) := by
    rw [hw5]
    exact Blk.new' (((w1.alloc _).alloc _).alloc _) _ _ (by simp)
  have hb5 : Below w.heap.size w w5 := by
    rw [hw5]
    have := hb1.size
    exact hb1.trans (((((Below.refl _ w1).alloc this _).alloc (by simp; omega) _).alloc (by simp; omega) _).alloc (by simp; omega) _)
  have HW := Lib.hid hw5
  clear hw5
  have hz1 : w.heap.size ≤ w1.heap.size := hb1.size
  obtain ⟨g, hg⟩ : ∃ g, g = w1.heap.size := ⟨_, rfl⟩
  rw [← hg] at hC hL hM hl hz1 ⊢
  have HC := Lib.hid hC
  have HL := Lib.hid hL
  have HM := Lib.hid hM
  have Hl := Lib.hid hl
  clear HW hg
  have hx0 := fun (x : Later w5) => hC.laterCell (i := 0) (v := .int .i64 (1 + q)) rfl x
  have hx1 := fun (x : Later w5) => hC.laterCell (i := 1) (v := .int .i64 2) rfl x
  have hx2 := fun (x : Later w5) => hC.laterCell (i := 2) (v := .int .i64 2) rfl x
  have hx3 := fun (x : Later w5) => hC.laterCell (i := 3) (v := .int .i64 4) rfl x
  have hx4 := fun (x : Later w5) => hC.laterCell (i := 4) (v := .int .i64 64) rfl x
  have hx5 := fun (x : Later w5) => hC.laterCell (i := 5) (v := .int .i64 8) rfl x
  have hx6 := fun (x : Later w5) => hC.laterCell (i := 6) (v := .int .i64 8) rfl x
  have hx7 := fun (x : Later w5) => hC.laterCell (i := 7) (v := .int .i64 8) rfl x
  have hx8 := fun (x : Later w5) => hC.laterCell (i := 8) (v := .int .i64 1) rfl x
  have hx9 := fun (x : Later w5) => hC.laterCell (i := 9) (v := .int .i64 2) rfl x
  have hx10 := fun (x : Later w5) => hC.laterCell (i := 10) (v := .int .i64 12) rfl x
  have hx11 := fun (x : Later w5) => hC.laterCell (i := 11) (v := .int .i64 8) rfl x
  have hx12 := fun (x : Later w5) => hC.laterCell (i := 12) (v := .int .i64 6) rfl x
  have hx13 := fun (x : Later w5) => hC.laterCell (i := 13) (v := .int .i64 2) rfl x
  have hx14 := fun (x : Later w5) => hC.laterCell (i := 14) (v := .int .i64 6) rfl x
  clear hC hL hM hl hb1
  refine wp_region_later (by kernel_rfl) (by kernel_rfl) ?_
  repeat (go_big_quiet_step ((go_at_call 21; exact Later.call (of_std (1 + q) _ _ _ (Hl.out.later _).row))))
  refine wpQuiet_nil ?_
  rintro _ ⟨x, rfl⟩
  go_wp2_with fail
  refine (within_q k 15 _ hk (by omega) (by omega)).mono ?_; rintro e w' ⟨i0, rfl, hi, hi0, hi15, rfl⟩
  obtain ⟨i, rfl⟩ := Int.eq_ofNat_of_zero_le hi0
  have hl5 := Lib.hid (Hl.out.later x)
  have hci : x.w.cell? ⟨g + 1 + 1 + 1, i, none⟩ = some (.int .i64 ((stdL (1 + q)).getD i 0)) := (hl5.out.cell i).trans (ints_get _ _ (by simp [stdL]; omega))
  have hfi : x.w.frozen? ⟨g + 1 + 1 + 1, i, none⟩ = false := hl5.out.frozen i
  go_wp2_with fail
  obtain ⟨w9, hw9⟩ : ∃ w9, w9 = x.w.setCell ⟨g + 1 + 1 + 1, i, none⟩ (.int .i64 n) := ⟨_, rfl⟩
  rw [← hw9]
  obtain ⟨xs, hxs⟩ : ∃ xs, xs = (stdL (1 + q)).set i n := ⟨_, rfl⟩
  obtain ⟨lo, hlo⟩ : ∃ lo, lo = leastL.getD i 0 := ⟨_, rfl⟩
  obtain ⟨hi', hhi⟩ : ∃ hi', hi' = mostL.getD i 0 := ⟨_, rfl⟩
  have hlen : xs.length = 15 := by rw [hxs]; simp [stdL]
  have hv9 : validL xs = inB n lo hi' := by rw [hxs, hlo, hhi]; exact stdL_ok (1 + q) (by omega) (by omega) i (by omega) n
  have hl9 : Blk w9 (g + 1 + 1 + 1) 3 (ints xs) := by
    rw [hw9, hxs, ← ints_set]
    exact hl5.out.set_ i _
  have hL9 : Blk w9 (g + 1) 3 (ints leastL) := by
    rw [hw9]
    exact (HL.out.later x).far (by simp) _
  have hM9 : Blk w9 (g + 1 + 1) 3 (ints mostL) := by
    rw [hw9]
    exact (HM.out.later x).far (by simp) _
  have hb9 : Below w.heap.size w w9 := by
    rw [hw9]
    exact (hb5.trans (x.b.mono hb5.size)).setCell (by show _ ≤ g + 1 + 1 + 1; omega) _
  have hlw : ∀ y : Later w9, y.w.cell? ⟨g + 1, i, none⟩ = some (.int .i64 lo) := fun y => hL9.laterCell (by rw [hlo]; exact ints_get _ _ (by simp [leastL]; omega)) y
  have hmw : ∀ y : Later w9, y.w.cell? ⟨g + 1 + 1, i, none⟩ = some (.int .i64 hi') := fun y => hM9.laterCell (by rw [hhi]; exact ints_get _ _ (by simp [mostL]; omega)) y
  have Hl9 := Lib.hid hl9
  have HL9 := Lib.hid hL9
  have HM9 := Lib.hid hM9
  have Hv9 := Lib.hid hv9
  have Hlen := Lib.hid hlen
  have HW := Lib.hid hw9
  have Hx := Lib.hid hxs
  have Hlo := Lib.hid hlo
  have Hhi := Lib.hid hhi
  clear hl9 hL9 hM9 hv9 hlen hw9 hxs hlo hhi hci hfi hx0 hx1 hx2 hx3 hx4 hx5 hx6 hx7 hx8 hx9 hx10 hx11 hx12 hx13 hx14
  have ii : IntKind.i64.wrap (i : Int) = (i : Int) := IntWalk.i64_in _ (by omega)
  have i0' : (0 : Int) ≤ (i : Int) := by omega
  have Hrow := Lib.hid (show ∀ y : Later w9, IntRow y.w (some ⟨g + 1 + 1 + 1, 0, none⟩) 15 xs from fun y => by have := (Hl9.out.later y).row; rw [Hlen.out] at this; exact this)
  have hcase : (validL xs = true ∧ decide (lo ≤ n) = true ∧ decide (n ≤ hi') = true) ∨ (validL xs = false ∧ decide (lo ≤ n) = false) ∨ (validL xs = false ∧ decide (lo ≤ n) = true ∧ decide (n ≤ hi') = false) := by
    rw [Hv9.out]
    by_cases h1 : lo ≤ n
    · by_cases h2 : n ≤ hi'
      · exact .inl ⟨by simp [inB, h1, h2], decide_eq_true h1, decide_eq_true h2⟩
      · exact .inr (.inr ⟨by simp [inB, h2], decide_eq_true h1, decide_eq_false h2⟩)
    · exact .inr (.inl ⟨by simp [inB, h1], decide_eq_false h1⟩)
  clear ii
  rcases hcase with ⟨hv, h1, h2⟩ | ⟨hv, h1⟩ | ⟨hv, h1, h2⟩
  all_goals
    have Hv := Lib.hid hv
    clear hv
    refine wp_region_later (by kernel_rfl) (by kernel_rfl) ?_
    repeat (go_big_quiet_step (first
      | (go_at_call 21; exact Later.call (of_x _ 15 _ xs _ (Hrow.out _) (by simp [maxLen])))
      | (go_at_call 18; exact Later.call (valid_x xs _ Hv.out _))))
    refine wpQuiet_nil ?_
    rintro _ ⟨y, rfl⟩
    have hly := hlw y
    have hl11 := Lib.hid (Hl9.out.later y)
    have hcy : y.w.cell? ⟨g + 1 + 1 + 1, i, none⟩ = some (.int .i64 (xs.getD i 0)) := (hl11.out.cell i).trans (ints_get _ _ (by rw [Hlen.out]; omega))
    have hfy : y.w.frozen? ⟨g + 1 + 1 + 1, i, none⟩ = false := hl11.out.frozen i
    have hmy := Lib.hid (HM9.out.later y)
    go_wp2_with fail
    obtain ⟨w11, hw11⟩ : ∃ w11, w11 = y.w.setCell ⟨g + 1 + 1 + 1, i, none⟩ (.int .i64 lo) := ⟨_, rfl⟩
    rw [← hw11]
    obtain ⟨ys, hys⟩ : ∃ ys, ys = xs.set i lo := ⟨_, rfl⟩
    have hylen := Lib.hid (show ys.length = 15 by rw [hys]; simp; exact Hlen.out)
    have hvy := Lib.hid (show validL ys = true by
      rw [hys, Hx.out, List.set_set, stdL_ok (1 + q) (by omega) (by omega) i (by omega) lo, Hlo.out]
      exact (least_ok i (by omega)).1)
    have hl12 := Lib.hid (show Blk w11 (g + 1 + 1 + 1) 3 (ints ys) by
      rw [hw11, hys, ← ints_set]
      exact hl11.out.set_ i _)
    have hm12 := Lib.hid (show Blk w11 (g + 1 + 1) 3 (ints mostL) by
      rw [hw11]
      exact hmy.out.far (by simp) _)
    have hb11 : Below w.heap.size w w11 := by
      rw [hw11]
      exact (hb9.trans (y.b.mono hb9.size)).setCell (by show _ ≤ g + 1 + 1 + 1; omega) _
    have HW11 := Lib.hid hw11
    have Hys := Lib.hid hys
    have hrow12 := Lib.hid (show IntRow w11 (some ⟨g + 1 + 1 + 1, 0, none⟩) 15 ys by have := hl12.out.row; rw [hylen.out] at this; exact this)
    clear hw11 hys hcy hfy hly hlw hmw
    refine (of_x _ 15 _ ys _ hrow12.out (by simp [maxLen])).mono ?_; rintro e w12 ⟨rfl, hb12⟩
    go_wp2_with fail
    refine (valid_x ys _ hvy.out _).mono ?_; rintro e w13 ⟨rfl, hb13⟩
    have hb13' : Below w11.heap.size w11 w13 := hb12.trans (hb13.mono hb12.size)
    have hl13 := Lib.hid (hl12.out.below hb13' hl12.out.lt)
    have hm13 := Lib.hid (hm12.out.below hb13' hm12.out.lt)
    have hcz : w13.cell? ⟨g + 1 + 1 + 1, i, none⟩ = some (.int .i64 (ys.getD i 0)) := (hl13.out.cell i).trans (ints_get _ _ (by rw [hylen.out]; omega))
    have hfz : w13.frozen? ⟨g + 1 + 1 + 1, i, none⟩ = false := hl13.out.frozen i
    have hmz : w13.cell? ⟨g + 1 + 1, i, none⟩ = some (.int .i64 hi') := (hm13.out.cell i).trans (by rw [Hhi.out]; exact ints_get _ _ (by simp [mostL]; omega))
    go_wp2_with fail
    obtain ⟨w14, hw14⟩ : ∃ w14, w14 = w13.setCell ⟨g + 1 + 1 + 1, i, none⟩ (.int .i64 hi') := ⟨_, rfl⟩
    rw [← hw14]
    obtain ⟨zs, hzs⟩ : ∃ zs, zs = ys.set i hi' := ⟨_, rfl⟩
    have hzlen := Lib.hid (show zs.length = 15 by rw [hzs]; simp; exact hylen.out)
    have hvz := Lib.hid (show validL zs = true by
      rw [hzs, Hys.out, List.set_set, Hx.out, List.set_set, stdL_ok (1 + q) (by omega) (by omega) i (by omega) hi', Hhi.out]
      exact (least_ok i (by omega)).2)
    have hl14 := Lib.hid (show Blk w14 (g + 1 + 1 + 1) 3 (ints zs) by
      rw [hw14, hzs, ← ints_set]
      exact hl13.out.set_ i _)
    have hb14 : Below w.heap.size w w14 := by
      rw [hw14]
      exact (hb11.trans (hb13'.mono hb11.size)).setCell (by show _ ≤ g + 1 + 1 + 1; omega) _
    have hrow14 := Lib.hid (show IntRow w14 (some ⟨g + 1 + 1 + 1, 0, none⟩) 15 zs by have := hl14.out.row; rw [hzlen.out] at this; exact this)
    clear hw14 hzs hcz hfz hmz
    refine (of_x _ 15 _ zs _ hrow14.out (by simp [maxLen])).mono ?_; rintro e w15 ⟨rfl, hb15⟩
    go_wp2_with fail
    refine (valid_x zs _ hvz.out _).mono ?_; rintro e w16 ⟨rfl, hb16⟩
    go_wp2_with fail
    refine (wakes_c _).mono ?_; rintro e w17 ⟨rfl, hb17⟩
    go_wp2
    go_ret
    exact ⟨rfl, hb14.trans ((hb15.mono hb14.size).trans ((hb16.mono (Nat.le_trans hb14.size hb15.size)).trans (hb17.mono (Nat.le_trans hb14.size (Nat.le_trans hb15.size hb16.size)))))⟩

theorem lawWalk : LawWalk Try.checked 5 Try.f5 := by
  intro H enc W base args ds p hval hA hsz
  rw [Try.params5] at hA hval
  obtain ⟨v0, vs0, d0, ds0, p0, q0, hargs, rfl, rfl, h0, r0⟩ := trodAll_cons hA
  obtain ⟨v1, vs1, d1, ds1, p1, q1, rfl, rfl, rfl, h1, r1⟩ := trodAll_cons r0
  obtain ⟨v2, vs2, d2, ds2, p2, q2, rfl, rfl, rfl, h2, r2⟩ := trodAll_cons r1
  obtain ⟨rfl, rfl, rfl⟩ := trodAll_nil r2
  obtain rfl : args = #[v0, v1, v2] := by cases args; simp_all
  obtain ⟨a0, rfl, rfl, rfl, w0⟩ := open_int Try.underlying3 (hval 0 3 v0 rfl rfl) h0
  obtain ⟨a1, rfl, rfl, rfl, w1⟩ := open_int Try.underlying3 (hval 1 3 v1 rfl rfl) h1
  obtain ⟨a2, rfl, rfl, rfl, w2⟩ := open_int Try.underlying3 (hval 2 3 v2 rfl rfl) h2
  exact walk a0 a1 a2 W (I64.of_wf w0) (I64.of_wf w1) (I64.of_wf w2)

theorem lifted (os : Os) (started : os.Started) (H : Type) (enc : TypeId × Value → H) :
    ReturnsInHanded {} Try.checked os 5 .any (Rows.configTurnedSpec.pre6 enc Try.prog Try.f5 Rows.configTurnedRow.domain false) (Rows.configTurnedSpec.post enc Try.prog Try.f5 false true false false) :=
  law_lift (C := Try.checked) (s := Rows.configTurnedSpec) (tb := 4) (by kernel_rfl) started (by kernel_rfl) Try.func5
    (ChangeSpec.witness6 (enc := enc) (C := Try.checked) false ⟨#[], #[.int .i64 0, .int .i64 0, .int .i64 0], []⟩ 8 (by kernel_rfl) (by kernel_rfl) (by kernel_rfl) (by kernel_rfl))
    rfl (fun H ds h => by
      match ds, h with
      | [d0, d1, d2], _ => rfl) (by kernel_rfl) (by kernel_rfl) (by kernel_rfl) Try.underlying4 lawWalk

theorem over : Rows.configTurnedRow.holds Try.pinned (OpenSpec.ofChange Rows.configTurnedSpec) :=
  OpenClaim.holds_of_wide 5 Try.f5 rfl rfl rfl rfl rfl rfl rfl ⟨rfl, rfl, rfl, rfl, rfl⟩ rfl rfl rfl rfl rfl (by kernel_rfl) Try.func5 (by kernel_rfl)
    (of_decide_eq_true (by kernel_rfl)) (by unfold Func.isWrapper; first | (rw [if_pos (by decide +kernel)]; kernel_rfl) | (rw [if_neg (by decide +kernel)]; exact ⟨rfl, rfl⟩))
    (fun os started H enc _ => lifted os started H enc)

/-- The statement. -/
theorem proved : Rows.ConfigTurnedSaid := over
#print axioms proved
end Go.Proofs.Ytiacklfigpobnaa.ConfigTurned
