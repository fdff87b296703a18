/- MeterMeans: for all numbers the law returns true: mean latencies as fractions, and which one is below. No condition. -/
import Derived.Test.YtfeepofdnjnkpaaMeterM
import Derived.Test.YtfeepofdnjnkpaaLater
import Derived.Test.YtfeepofdnjnkpaaRows
import Derived.Deep.RegionWith
namespace Go.Proofs.Ytfeepofdnjnkpaa.MeterMeans
open Go.RowKit Go.ChangeShapes Go.WideShapes Go.ChangeAt F
set_option linter.unusedVariables false

theorem whole_c (a b : Int) (w : World) (ha : I64 a) (hb : I64 b) :
    Calls Try.prog 12 #[.int .i64 a, .int .i64 b] w fun e w' => ∃ x y : Int, e = .returned (.agg #[.int .i64 x, .int .i64 y]) ∧ 0 ≤ x ∧ x < 67108864 ∧ 0 ≤ y ∧ y < 67108864 ∧ Below w.heap.size w w' := by
  go_enter Try.func12, Try.ntmps12
  go_wp2_with fail
  refine (within_q a 67108864 _ ha (by omega) (by omega)).mono ?_; rintro e w' ⟨x, rfl, _, x0, x1, rfl⟩
  go_wp2_with fail
  refine (within_q b 67108864 _ hb (by omega) (by omega)).mono ?_; rintro e w' ⟨y, rfl, _, y0, y1, rfl⟩
  go_wp2
  exact bodyPost_ret (v := .agg #[.int .i64 x, .int .i64 y]) (by simp [results, Try.results12, go_sem]) rfl ⟨x, y, rfl, x0, x1, y0, y1, (Below.refl _ _).alloc (Nat.le_refl _) _⟩

set_option maxRecDepth 100000 in
set_option maxHeartbeats 3200000 in
theorem walk (a0 a1 a2 a3 : Int) (w : World) (h0 : I64 a0) (h1 : I64 a1) (h2 : I64 a2) (h3 : I64 a3) :
    Calls Try.prog 3 #[.int .i64 a0, .int .i64 a1, .int .i64 a2, .int .i64 a3] w fun e w' => e = .returned (.bool true) ∧ Below w.heap.size w w' := by
  go_enter Try.func3, Try.ntmps3
  go_wp2_with fail
  refine (whole_c a0 a1 _ h0 h1).mono ?_; rintro e w1 ⟨xn, xt, rfl, n0, n1, t0, t1, hb1⟩
  go_wp2_with fail
  refine (whole_c a2 a3 _ h2 h3).mono ?_; rintro e w2 ⟨yn, yt, rfl, m0, m1, s0, s1, hb2⟩
  have hb02 := hb1.trans (hb2.mono hb1.size)
  have z2 := hb02.size
  clear hb1 hb2
  go_wp2_with fail
  obtain ⟨w3, hw3⟩ : ∃ w3, w3 = (w2.alloc (.cells #[.int .i64 xn, .int .i64 xt] 23)).alloc (.cells #[.int .i64 yn, .int .i64 yt] 23) := ⟨_, rfl⟩
  obtain ⟨gx, hgx⟩ : ∃ gx, gx = w2.heap.size := ⟨_, rfl⟩
  obtain ⟨gy, hgy⟩ : ∃ gy, gy = w2.heap.size + 1 := ⟨_, rfl⟩
  rw [← hw3, ← hgy, ← hgx]
  have hb3 : Below w.heap.size w w3 := by rw [hw3]; exact (hb02.alloc z2 _).alloc (by simp; omega) _
  have hX := (show Blk w3 gx 23 #[.int .i64 xn, .int .i64 xt] by rw [hw3, hgx]; exact (Blk.new _ _ _).alloc _)
  have hY := (show Blk w3 gy 23 #[.int .i64 yn, .int .i64 yt] by rw [hw3, hgy]; exact Blk.new' _ _ _ (by simp))
  have HX := Lib.hid hX
  have HY := Lib.hid hY
  have HB3 := Lib.hid hb3
  have z3 := hb3.size
  clear hw3 hgx hgy hb3 hX hY hb02
  have sxn : Small xn := Small.of (by omega) (by omega)
  have sxt : Small xt := Small.of (by omega) (by omega)
  have syn : Small yn := Small.of (by omega) (by omega)
  have syt : Small yt := Small.of (by omega) (by omega)
  refine (z_c xn xt _).mono ?_; rintro e w4 ⟨rfl, hb4⟩
  have HX4 := Lib.hid (HX.out.below hb4 HX.out.lt)
  have HY4 := Lib.hid (HY.out.below hb4 HY.out.lt)
  have HB4 := Lib.hid (HB3.out.trans (hb4.mono z3))
  have z4 := HB4.out.size
  clear hb4 HX HY HB3
  obtain ⟨p, hp⟩ : ∃ p, p = meanOf xn xt := ⟨_, rfl⟩
  obtain ⟨p1, p2⟩ := p
  obtain ⟨q, hq⟩ : ∃ q, q = meanOf yn yt := ⟨_, rfl⟩
  obtain ⟨q1, q2⟩ := q
  have bp := mean_bd (a := xn) (b := xt) (B := 67108864) (by omega) (by omega) (by omega)
  have bq := mean_bd (a := yn) (b := yt) (B := 67108864) (by omega) (by omega) (by omega)
  rw [← hp] at bp
  rw [← hq] at bq
  have m1' := mul_bd' bp.1 bq.2
  have m2' := mul_bd' bq.1 bp.2
  have y1 : 0 ≤ p1 * q2 := m1'.1
  have y2 : p1 * q2 ≤ 67108864 * 67108864 := m1'.2
  have y3 : 0 ≤ q1 * p2 := m2'.1
  have y4 : q1 * p2 ≤ 67108864 * 67108864 := m2'.2
  have hcase : (xn = 0 ∧ p1 = 0 ∧ p2 = 1) ∨ (0 < xn ∧ p1 = xt ∧ p2 = xn) := by
    unfold meanOf at hp
    by_cases h : xn = 0
    · rw [if_pos h] at hp
      exact .inl ⟨h, congrArg Prod.fst hp, congrArg Prod.snd hp⟩
    · rw [if_neg h] at hp
      exact .inr ⟨by omega, congrArg Prod.fst hp, congrArg Prod.snd hp⟩
  have e1 : lessOf xn xt yn yt = decide (p1 * q2 < q1 * p2) := by unfold lessOf; rw [← hp, ← hq]
  have e2 : lessOf yn yt xn xt = decide (q1 * p2 < p1 * q2) := by unfold lessOf; rw [← hp, ← hq]
  have e3 : lessOf xn xt xn xt = false := by unfold lessOf; exact decide_eq_false (by omega)
  have P := Lib.hid hp.symm
  have Q := Lib.hid hq.symm
  have hless : (decide (p1 * q2 < q1 * p2) = true ∧ lessOf xn xt yn yt = true ∧ lessOf yn yt xn xt = false) ∨ (decide (p1 * q2 < q1 * p2) = false ∧ lessOf xn xt yn yt = false ∧ lessOf yn yt xn xt = true) ∨ (decide (p1 * q2 < q1 * p2) = false ∧ lessOf xn xt yn yt = false ∧ lessOf yn yt xn xt = false) := by
    rw [e1, e2]
    by_cases h1 : p1 * q2 < q1 * p2
    · exact .inl ⟨decide_eq_true h1, decide_eq_true h1, decide_eq_false (by omega)⟩
    · by_cases h2 : q1 * p2 < p1 * q2
      · exact .inr (.inl ⟨decide_eq_false h1, decide_eq_false h1, decide_eq_true h2⟩)
      · exact .inr (.inr ⟨decide_eq_false h1, decide_eq_false h1, decide_eq_false h2⟩)
  have E3 := Lib.hid e3
  clear hp hq bp bq m1' m2' e1 e2 e3
  have c0 := (HX4.out.cell 0).trans (show _ = some (.int .i64 xn) from rfl)
  have c1 := (HX4.out.cell 1).trans (show _ = some (.int .i64 xt) from rfl)
  have d0 := (HY4.out.cell 0).trans (show _ = some (.int .i64 yn) from rfl)
  have d1 := (HY4.out.cell 1).trans (show _ = some (.int .i64 yt) from rfl)
  go_wp2_with fail
  refine (mean_c xn xt _ sxn sxt p1 p2 P.out).mono ?_; rintro e w' ⟨rfl, rfl⟩
  rcases hcase with ⟨hx, hp1, hp2⟩ | ⟨hx, hp1, hp2⟩
  · have f1 : (xn == 0) = true := beq_iff_eq.2 hx
    have f2 : (p1 != 0) = false := by simp [hp1]
    have f3 : (p2 != 1) = false := by simp [hp2]
    have f4 : decide (0 < xn) = false := decide_eq_false (by omega)
    clear hx hp1 hp2
    rcases hless with ⟨l1, l2, l3⟩ | ⟨l1, l2, l3⟩ | ⟨l1, l2, l3⟩
    all_goals
      have L2 := Lib.hid l2
      have L3 := Lib.hid l3
      clear l2 l3
      go_wp2_with fail
      refine (z_c yn yt _).mono ?_; rintro e w5 ⟨rfl, hb5⟩
      have HX5 := HX4.out.below hb5 HX4.out.lt
      have HY5 := HY4.out.below hb5 HY4.out.lt
      have HB5 := Lib.hid (HB4.out.trans (hb5.mono z4))
      have x0 := fun (x : Later w5) => HX5.laterCell (i := 0) (v := .int .i64 xn) rfl x
      have x1 := fun (x : Later w5) => HX5.laterCell (i := 1) (v := .int .i64 xt) rfl x
      have v0 := fun (x : Later w5) => HY5.laterCell (i := 0) (v := .int .i64 yn) rfl x
      have v1 := fun (x : Later w5) => HY5.laterCell (i := 1) (v := .int .i64 yt) rfl x
      clear hb5 HX5 HY5 c0 c1 d0 d1
      go_wp2_with fail
      refine (mean_c yn yt _ syn syt q1 q2 Q.out).mono ?_; rintro e w' ⟨rfl, rfl⟩
      go_wp2_with fail
      refine wp_region_later (by kernel_rfl) (by kernel_rfl) ?_
      repeat (go_big_quiet_step (first
        | (go_at_call 14; exact Later.call (z_c _ _ _))
        | (go_at_call_of 15 (#[Value.complex .f64 (fw xn) (fw xt), Value.complex .f64 (fw xn) (fw xt)] : Array Value); exact Later.same (less_c xn xt xn xt _ (by omega) (by omega) (by omega) (by omega) _ E3.out))
        | (go_at_call_of 15 (#[Value.complex .f64 (fw xn) (fw xt), Value.complex .f64 (fw yn) (fw yt)] : Array Value); exact Later.same (less_c xn xt yn yt _ (by omega) (by omega) (by omega) (by omega) _ L2.out))
        | (go_at_call_of 15 (#[Value.complex .f64 (fw yn) (fw yt), Value.complex .f64 (fw xn) (fw xt)] : Array Value); exact Later.same (less_c yn yt xn xt _ (by omega) (by omega) (by omega) (by omega) _ L3.out))
        | (go_at_call 16; exact Later.call (mwakes_c _))))
      refine wpQuiet_nil ?_
      rintro _ ⟨x, rfl⟩
      go_wp2
      go_ret
      exact ⟨rfl, HB5.out.trans (x.b.mono HB5.out.size)⟩
  · have f1 : (xn == 0) = false := beq_eq_false_iff_ne.2 (by omega)
    have f2 : (p1 != xt) = false := by simp [hp1]
    have f3 : (p2 != xn) = false := by simp [hp2]
    have f4 : decide (0 < xn) = true := decide_eq_true hx
    clear hx hp1 hp2
    rcases hless with ⟨l1, l2, l3⟩ | ⟨l1, l2, l3⟩ | ⟨l1, l2, l3⟩
    all_goals
      have L2 := Lib.hid l2
      have L3 := Lib.hid l3
      clear l2 l3
      go_wp2_with fail
      refine (z_c yn yt _).mono ?_; rintro e w5 ⟨rfl, hb5⟩
      have HX5 := HX4.out.below hb5 HX4.out.lt
      have HY5 := HY4.out.below hb5 HY4.out.lt
      have HB5 := Lib.hid (HB4.out.trans (hb5.mono z4))
      have x0 := fun (x : Later w5) => HX5.laterCell (i := 0) (v := .int .i64 xn) rfl x
      have x1 := fun (x : Later w5) => HX5.laterCell (i := 1) (v := .int .i64 xt) rfl x
      have v0 := fun (x : Later w5) => HY5.laterCell (i := 0) (v := .int .i64 yn) rfl x
      have v1 := fun (x : Later w5) => HY5.laterCell (i := 1) (v := .int .i64 yt) rfl x
      clear hb5 HX5 HY5 c0 c1 d0 d1
      go_wp2_with fail
      refine (mean_c yn yt _ syn syt q1 q2 Q.out).mono ?_; rintro e w' ⟨rfl, rfl⟩
      go_wp2_with fail
      refine wp_region_later (by kernel_rfl) (by kernel_rfl) ?_
      repeat (go_big_quiet_step (first
        | (go_at_call 14; exact Later.call (z_c _ _ _))
        | (go_at_call_of 15 (#[Value.complex .f64 (fw xn) (fw xt), Value.complex .f64 (fw xn) (fw xt)] : Array Value); exact Later.same (less_c xn xt xn xt _ (by omega) (by omega) (by omega) (by omega) _ E3.out))
        | (go_at_call_of 15 (#[Value.complex .f64 (fw xn) (fw xt), Value.complex .f64 (fw yn) (fw yt)] : Array Value); exact Later.same (less_c xn xt yn yt _ (by omega) (by omega) (by omega) (by omega) _ L2.out))
        | (go_at_call_of 15 (#[Value.complex .f64 (fw yn) (fw yt), Value.complex .f64 (fw xn) (fw xt)] : Array Value); exact Later.same (less_c yn yt xn xt _ (by omega) (by omega) (by omega) (by omega) _ L3.out))
        | (go_at_call 16; exact Later.call (mwakes_c _))))
      refine wpQuiet_nil ?_
      rintro _ ⟨x, rfl⟩
      go_wp2
      go_ret
      exact ⟨rfl, HB5.out.trans (x.b.mono HB5.out.size)⟩

theorem lawWalk : LawWalk Try.checked 3 Try.f3 := by
  intro H enc W base args ds p hval hA hsz
  rw [Try.params3] at hA hval
  obtain ⟨v0, vs0, d0, ds0, p0, q0, hargs, rfl, rfl, h0, r0⟩ := trodAll_cons hA
  obtain ⟨v1, vs1, d1, ds1, p1, q1, rfl, rfl, rfl, h1, r1⟩ := trodAll_cons r0
  obtain ⟨v2, vs2, d2, ds2, p2, q2, rfl, rfl, rfl, h2, r2⟩ := trodAll_cons r1
  obtain ⟨v3, vs3, d3, ds3, p3, q3, rfl, rfl, rfl, h3, r3⟩ := trodAll_cons r2
  obtain ⟨rfl, rfl, rfl⟩ := trodAll_nil r3
  obtain rfl : args = #[v0, v1, v2, v3] := by cases args; simp_all
  obtain ⟨a0, rfl, rfl, rfl, w0⟩ := open_int Try.underlying3 (hval 0 3 v0 rfl rfl) h0
  obtain ⟨a1, rfl, rfl, rfl, w1⟩ := open_int Try.underlying3 (hval 1 3 v1 rfl rfl) h1
  obtain ⟨a2, rfl, rfl, rfl, w2⟩ := open_int Try.underlying3 (hval 2 3 v2 rfl rfl) h2
  obtain ⟨a3, rfl, rfl, rfl, w3⟩ := open_int Try.underlying3 (hval 3 3 v3 rfl rfl) h3
  exact walk a0 a1 a2 a3 W (I64.of_wf w0) (I64.of_wf w1) (I64.of_wf w2) (I64.of_wf w3)

theorem lifted (os : Os) (started : os.Started) (H : Type) (enc : TypeId × Value → H) :
    ReturnsInHanded {} Try.checked os 3 .any (Rows.meterMeansSpec.pre6 enc Try.prog Try.f3 Rows.meterMeansRow.domain false) (Rows.meterMeansSpec.post enc Try.prog Try.f3 false true false false) :=
  law_lift (C := Try.checked) (s := Rows.meterMeansSpec) (tb := 4) (by kernel_rfl) started (by kernel_rfl) Try.func3
    (ChangeSpec.witness6 (enc := enc) (C := Try.checked) false ⟨#[], #[.int .i64 0, .int .i64 0, .int .i64 0, .int .i64 0], []⟩ 8 (by kernel_rfl) (by kernel_rfl) (by kernel_rfl) (by kernel_rfl))
    rfl (fun H ds h => by
      match ds, h with
      | [d0, d1, d2, d3], _ => rfl) (by kernel_rfl) (by kernel_rfl) (by kernel_rfl) Try.underlying4 lawWalk

theorem over : Rows.meterMeansRow.holds Try.pinned (OpenSpec.ofChange Rows.meterMeansSpec) :=
  OpenClaim.holds_of_wide 3 Try.f3 rfl rfl rfl rfl rfl rfl rfl ⟨rfl, rfl, rfl, rfl, rfl⟩ rfl rfl rfl rfl rfl (by kernel_rfl) Try.func3 (by kernel_rfl)
    (of_decide_eq_true (by kernel_rfl)) (by unfold Func.isWrapper; first | (rw [if_pos (by decide +kernel)]; kernel_rfl) | (rw [if_neg (by decide +kernel)]; exact ⟨rfl, rfl⟩))
    (fun os started H enc _ => lifted os started H enc)

/-- The statement. -/
theorem proved : Rows.MeterMeansSaid := over
#print axioms proved

end Go.Proofs.Ytfeepofdnjnkpaa.MeterMeans
