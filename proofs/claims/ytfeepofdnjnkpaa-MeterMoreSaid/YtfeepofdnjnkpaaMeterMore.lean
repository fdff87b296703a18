/- MeterMore: one more that took longer than the mean makes the mean greater. No condition. -/
import Derived.Test.YtfeepofdnjnkpaaMeterM
import Derived.Test.YtfeepofdnjnkpaaLater
import Derived.Test.YtfeepofdnjnkpaaRows
import Derived.Deep.RegionWith
namespace Go.Proofs.Ytfeepofdnjnkpaa.MeterMore
open Go.RowKit Go.ChangeShapes Go.WideShapes Go.ChangeAt F
set_option linter.unusedVariables false

theorem less_iff {q k t : Int} (h : 0 ≤ q) (ht : 0 ≤ t) :
    lessOf (1 + q) k (1 + q + 1) (k + t) = decide (k < t * (1 + q)) ∧ lessOf (1 + q + 1) (k + t) (1 + q) k = decide (t * (1 + q) < k) := by
  have e1 : meanOf (1 + q) k = (k, 1 + q) := if_neg (by omega)
  have e2 : meanOf (1 + q + 1) (k + t) = (k + t, 1 + q + 1) := if_neg (by omega)
  unfold lessOf
  rw [e1, e2]
  simp only
  have x1 : k * (1 + q + 1) = k * (1 + q) + k := by rw [Int.mul_add, Int.mul_one]
  have x2 : (k + t) * (1 + q) = k * (1 + q) + t * (1 + q) := Int.add_mul ..
  rw [x1, x2]
  constructor <;> (congr 1; apply propext; omega)

set_option maxRecDepth 100000 in
set_option maxHeartbeats 1600000 in
theorem walk (a0 a1 a2 : Int) (w : World) (h0 : I64 a0) (h1 : I64 a1) (h2 : I64 a2) :
    Calls Try.prog 7 #[.int .i64 a0, .int .i64 a1, .int .i64 a2] w fun e w' => e = .returned (.bool true) ∧ Below w.heap.size w w' := by
  go_enter Try.func7, Try.ntmps7
  go_wp2_with fail
  refine (within_q a0 1000 _ h0 (by omega) (by omega)).mono ?_; rintro e w' ⟨q, rfl, _, q0, q1, rfl⟩
  go_wp2_with fail
  refine (within_q a1 100000 _ h1 (by omega) (by omega)).mono ?_; rintro e w' ⟨k, rfl, _, k0, k1, rfl⟩
  go_wp2_with fail
  refine (within_q a2 1000 _ h2 (by omega) (by omega)).mono ?_; rintro e w' ⟨t, rfl, _, t0, t1, rfl⟩
  go_wp2_with fail
  refine (z_c _ k _).mono ?_; rintro e w1 ⟨rfl, hb1⟩
  have z1 := hb1.size
  have HB1 := Lib.hid hb1
  clear hb1
  go_wp2_with fail
  have hr : CRow (w1.alloc (.cells #[.complex .f64 (fw (1 + q)) (fw k), .complex .f64 4607182418800017408 (floatOfInt .f64 t)] 27)) (some ⟨w1.heap.size, 0, none⟩) 2 [(1 + q, k), (1, t)] := by
    rw [← fw_1]
    exact VRow.of_blk (Blk.new w1 27 #[cplx (1 + q) k, cplx 1 t]) rfl
  have hu : Usual [(1 + q, k), (1, t)] := by
    intro z hz
    simp only [List.mem_cons, List.not_mem_nil, or_false] at hz
    rcases hz with rfl | rfl <;> (simp only; omega)
  refine (total_c (some ⟨w1.heap.size, 0, none⟩) 2 2 [(1 + q, k), (1, t)] _ hr hu (by omega)).mono ?_; rintro e w' ⟨rfl, rfl⟩
  have s1 : sumN [(1 + q, k), (1, t)] = 1 + q + 1 := by simp [sumN]
  have s2 : sumT [(1 + q, k), (1, t)] = k + t := by simp [sumT]
  rw [s1, s2]
  obtain ⟨w2, hw2⟩ : ∃ w2, w2 = w1.alloc (.cells #[.complex .f64 (fw (1 + q)) (fw k), .complex .f64 4607182418800017408 (floatOfInt .f64 t)] 27) := ⟨_, rfl⟩
  rw [← hw2]
  have HB2 := Lib.hid (show Below w.heap.size w w2 by rw [hw2]; exact HB1.out.alloc z1 _)
  clear hr hu s1 s2 hw2 HB1 z1
  have hm := mul_bd' (x := t) (y := 1 + q) (B := 1000) (by omega) (by omega)
  have y1 : 0 ≤ t * (1 + q) := hm.1
  have y2 : t * (1 + q) ≤ 1000 * 1000 := hm.2
  obtain ⟨l1, l2⟩ := less_iff (q := q) (k := k) (t := t) q0 t0
  have z2 := HB2.out.size
  rcases Int.lt_trichotomy k (t * (1 + q)) with h | h | h
  · have g1 : decide (k < t * (1 + q)) = true := decide_eq_true h
    have g2 : decide (t * (1 + q) < k) = false := decide_eq_false (by omega)
    rw [g1] at l1
    rw [g2] at l2
    have L1 := Lib.hid l1
    have L2 := Lib.hid l2
    clear l1 l2 hm h
    go_wp2_with fail
    refine (less_c (1 + q) k (1 + q + 1) (k + t) _ (by omega) (by omega) (by omega) (by omega) _ L1.out).mono ?_; rintro e w' ⟨rfl, rfl⟩
    go_wp2_with fail
    refine (less_c (1 + q + 1) (k + t) (1 + q) k _ (by omega) (by omega) (by omega) (by omega) _ L2.out).mono ?_; rintro e w' ⟨rfl, rfl⟩
    go_wp2_with fail
    refine (mwakes_c _).mono ?_; rintro e w3 ⟨rfl, hb3⟩
    go_wp2
    go_ret
    exact ⟨rfl, HB2.out.trans (hb3.mono z2)⟩
  · have g1 : decide (k < t * (1 + q)) = false := decide_eq_false (by omega)
    have g2 : decide (t * (1 + q) < k) = false := decide_eq_false (by omega)
    rw [g1] at l1
    rw [g2] at l2
    have L1 := Lib.hid l1
    have L2 := Lib.hid l2
    clear l1 l2 hm h
    go_wp2_with fail
    refine (less_c (1 + q) k (1 + q + 1) (k + t) _ (by omega) (by omega) (by omega) (by omega) _ L1.out).mono ?_; rintro e w' ⟨rfl, rfl⟩
    go_wp2_with fail
    refine (less_c (1 + q + 1) (k + t) (1 + q) k _ (by omega) (by omega) (by omega) (by omega) _ L2.out).mono ?_; rintro e w' ⟨rfl, rfl⟩
    go_wp2_with fail
    refine (mwakes_c _).mono ?_; rintro e w3 ⟨rfl, hb3⟩
    go_wp2
    go_ret
    exact ⟨rfl, HB2.out.trans (hb3.mono z2)⟩
  · have g1 : decide (k < t * (1 + q)) = false := decide_eq_false (by omega)
    have g2 : decide (t * (1 + q) < k) = true := decide_eq_true h
    rw [g1] at l1
    rw [g2] at l2
    have L1 := Lib.hid l1
    have L2 := Lib.hid l2
    clear l1 l2 hm h
    go_wp2_with fail
    refine (less_c (1 + q + 1) (k + t) (1 + q) k _ (by omega) (by omega) (by omega) (by omega) _ L2.out).mono ?_; rintro e w' ⟨rfl, rfl⟩
    go_wp2_with fail
    refine (less_c (1 + q) k (1 + q + 1) (k + t) _ (by omega) (by omega) (by omega) (by omega) _ L1.out).mono ?_; rintro e w' ⟨rfl, rfl⟩
    go_wp2_with fail
    refine (mwakes_c _).mono ?_; rintro e w3 ⟨rfl, hb3⟩
    go_wp2
    go_ret
    exact ⟨rfl, HB2.out.trans (hb3.mono z2)⟩

theorem lawWalk : LawWalk Try.checked 7 Try.f7 := by
  intro H enc W base args ds p hval hA hsz
  rw [Try.params7] at hA hval
  obtain ⟨v0, vs0, d0, ds0, p0, q0, hargs, rfl, rfl, h0, r0⟩ := trodAll_cons hA
  obtain ⟨v1, vs1, d1, ds1, p1, q1, rfl, rfl, rfl, h1, r1⟩ := trodAll_cons r0
  obtain ⟨v2, vs2, d2, ds2, p2, q2, rfl, rfl, rfl, h2, r2⟩ := trodAll_cons r1
  obtain ⟨rfl, rfl, rfl⟩ := trodAll_nil r2
  obtain rfl : args = #[v0, v1, v2] := by cases args; simp_all
  obtain ⟨a0, rfl, rfl, rfl, w0⟩ := open_int Try.underlying3 (hval 0 3 v0 rfl rfl) h0
  obtain ⟨a1, rfl, rfl, rfl, w1⟩ := open_int Try.underlying3 (hval 1 3 v1 rfl rfl) h1
  obtain ⟨a2, rfl, rfl, rfl, w2⟩ := open_int Try.underlying3 (hval 2 3 v2 rfl rfl) h2
  exact walk a0 a1 a2 W (I64.of_wf w0) (I64.of_wf w1) (I64.of_wf w2)

theorem lifted (os : Os) (started : os.Started) (H : Type) (enc : TypeId × Value → H) :
    ReturnsInHanded {} Try.checked os 7 .any (Rows.meterMoreSpec.pre6 enc Try.prog Try.f7 Rows.meterMoreRow.domain false) (Rows.meterMoreSpec.post enc Try.prog Try.f7 false true false false) :=
  law_lift (C := Try.checked) (s := Rows.meterMoreSpec) (tb := 4) (by kernel_rfl) started (by kernel_rfl) Try.func7
    (ChangeSpec.witness6 (enc := enc) (C := Try.checked) false ⟨#[], #[.int .i64 0, .int .i64 0, .int .i64 0], []⟩ 8 (by kernel_rfl) (by kernel_rfl) (by kernel_rfl) (by kernel_rfl))
    rfl (fun H ds h => by
      match ds, h with
      | [d0, d1, d2], _ => rfl) (by kernel_rfl) (by kernel_rfl) (by kernel_rfl) Try.underlying4 lawWalk

theorem over : Rows.meterMoreRow.holds Try.pinned (OpenSpec.ofChange Rows.meterMoreSpec) :=
  OpenClaim.holds_of_wide 7 Try.f7 rfl rfl rfl rfl rfl rfl rfl ⟨rfl, rfl, rfl, rfl, rfl⟩ rfl rfl rfl rfl rfl (by kernel_rfl) Try.func7 (by kernel_rfl)
    (of_decide_eq_true (by kernel_rfl)) (by unfold Func.isWrapper; first | (rw [if_pos (by decide +kernel)]; kernel_rfl) | (rw [if_neg (by decide +kernel)]; exact ⟨rfl, rfl⟩))
    (fun os started H enc _ => lifted os started H enc)

/-- The statement. -/
theorem proved : Rows.MeterMoreSaid := over
#print axioms proved

end Go.Proofs.Ytfeepofdnjnkpaa.MeterMore
