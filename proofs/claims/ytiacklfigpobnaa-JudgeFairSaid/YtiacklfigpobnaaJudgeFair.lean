/- JudgeFair is proved: for all numbers the law returns true. No condition. -/
import Derived.Test.YtiacklfigpobnaaRows
import Derived.Test.YtiacklfigpobnaaVerdict
namespace Go.Proofs.Ytiacklfigpobnaa.JudgeFair
open Go.ChangeShapes Go.WideShapes Go.ChangeAt Go.RowKit F
set_option linter.unusedVariables false

/-- k + 1 like measures. -/
theorem sum_like (n t : Int) (k : Nat) : sumN (List.replicate k (n, t)) = k * n ∧ sumT (List.replicate k (n, t)) = k * t := by
  induction k with
  | zero => simp [sumN, sumT]
  | succ k ih =>
    simp only [List.replicate_succ, sumN, sumT, List.map_cons, List.sum_cons] at ih ⊢
    rw [ih.1, ih.2]
    have e1 : ((k + 1 : Nat) : Int) * n = k * n + n := by rw [Int.natCast_add, Int.add_mul]; simp
    have e2 : ((k + 1 : Nat) : Int) * t = k * t + t := by rw [Int.natCast_add, Int.add_mul]; simp
    constructor <;> omega
theorem fair (num den om n t : Int) (k : Nat) (hnd : num ≤ den) (hn : 0 ≤ n) (hom : 0 ≤ om) : verdictB num den om n t (List.replicate k (n, t)) = false := by
  obtain ⟨s1, s2⟩ := sum_like n t k
  have hkn : 0 ≤ (k : Int) * n := Int.mul_nonneg (by omega) hn
  have h1 : num * (k * n) ≤ n * den * k := by
    have : n * den * k = den * (k * n) := by
      rw [Int.mul_comm n den, Int.mul_assoc, Int.mul_comm n (k : Int)]
    rw [this]
    exact Int.mul_le_mul_of_nonneg_right hnd hkn
  have h2 : t * (k * n) ≤ k * t * n + om * n * (k * n) := by
    have e : t * (k * n) = k * t * n := by rw [← Int.mul_assoc, Int.mul_comm t (k : Int)]
    have : 0 ≤ om * n * (k * n) := Int.mul_nonneg (Int.mul_nonneg hom hn) hkn
    omega
  unfold verdictB slowB lateB
  rw [s1, s2, List.length_replicate]
  have d1 : decide (n * den * (k : Int) < num * (k * n)) = false := decide_eq_false (by omega)
  have d2 : decide (k * t * n + om * n * (k * n) < t * (k * n)) = false := decide_eq_false (by omega)
  rw [d1, d2, Bool.and_false, Bool.and_false]
  rfl

theorem info_cplx : (Try.prog.info? 39).map (fun i => (i.zero, i.size, i.bytes)) = some (some (.complex .f64 0 0), 1, 16) := by kernel_rfl

set_option maxRecDepth 100000 in
set_option maxHeartbeats 1600000 in
theorem walk (a0 a1 a2 a3 a4 a5 : Int) (w : World) (h0 : I64 a0) (h1 : I64 a1) (h2 : I64 a2) (h3 : I64 a3) (h4 : I64 a4) (h5 : I64 a5) :
    Calls Try.prog 15 #[.int .i64 a0, .int .i64 a1, .int .i64 a2, .int .i64 a3, .int .i64 a4, .int .i64 a5] w fun e w' => e = .returned (.bool true) ∧ Below w.heap.size w w' := by
  obtain ⟨j0, hj0, hy0, hy1, hy2⟩ := info_parts info_cplx
  go_enter Try.func15, Try.ntmps15
  go_wp2_with fail
  refine (within_q a1 8 _ h1 (by omega) (by omega)).mono ?_; rintro e w' ⟨den, rfl, hv, hv0, hv4, rfl⟩
  go_wp2_with fail
  refine (within_q a0 (1 + den + 1) _ h0 (by omega) (by omega)).mono ?_; rintro e w' ⟨num, rfl, hu, hu0, hu4, rfl⟩
  go_wp2_with fail
  refine (within_q a2 65 _ h2 (by omega) (by omega)).mono ?_; rintro e w' ⟨om, rfl, ho, ho0, ho4, rfl⟩
  go_wp2_with fail
  obtain ⟨w1, hw1⟩ : ∃ w1, w1 = w.alloc (.cells #[.int .i64 0, .int .i64 0, .int .i64 0, .int .i64 0, .int .i64 0, .int .i64 0, .int .i64 0, .int .i64 0, .int .i64 num, .int .i64 (1 + den), .int .i64 0, .int .i64 om, .int .i64 0, .int .i64 0, .int .i64 0] 23) := ⟨_, rfl⟩
  rw [← hw1]
  have hb1 : Below w.heap.size w w1 := by rw [hw1]; exact (Below.refl _ _).alloc (Nat.le_refl _) _
  have hk := Lib.hid (show Blk w1 w.heap.size 23 #[.int .i64 0, .int .i64 0, .int .i64 0, .int .i64 0, .int .i64 0, .int .i64 0, .int .i64 0, .int .i64 0, .int .i64 num, .int .i64 (1 + den), .int .i64 0, .int .i64 om, .int .i64 0, .int .i64 0, .int .i64 0] by rw [hw1]; exact Blk.new _ _ _)
  have HW := Lib.hid hw1
  clear hw1
  refine (within_q a3 1000 _ h3 (by omega) (by omega)).mono ?_; rintro e w' ⟨n, rfl, hn, hn0, hn4, rfl⟩
  go_wp2_with fail
  refine (within_q a4 10000 _ h4 (by omega) (by omega)).mono ?_; rintro e w' ⟨t, rfl, ht, ht0, ht4, rfl⟩
  go_wp2_with fail
  refine (z_c n t _).mono ?_; rintro e w2 ⟨rfl, hb2⟩
  have hk2 := Lib.hid (hk.out.below hb2 hk.out.lt)
  have hb12 := hb1.trans (hb2.mono hb1.size)
  have hz1 : w.heap.size < w1.heap.size := hk.out.lt
  have hz2 : w1.heap.size ≤ w2.heap.size := hb2.size
  go_wp2_with fail
  go_loopw [15, 16] (fun z i wr => ∃ k : Nat, k ≤ 5 ∧ (k : Int) ≤ 2 + a5 % 4 ∧ i = .int .i64 k ∧ ∃ a2 c2, z = .slice a2 k c2 ∧
      wr.ownsRow w2.heap.size 39 1 (.slice a2 k c2) k ((List.replicate k (n, t)).map fun z => cplx z.1 z.2) ∧ Below w2.heap.size w2 wr) (fun _ i _ => 5 - (intOf i).toNat)
  case atStart => exact ⟨0, by omega, by omega, rfl, none, 0, rfl, ⟨by simp, .inl ⟨rfl, rfl⟩⟩, Below.refl _ _⟩
  case round =>
    obtain ⟨k, hk5, hkq, rfl, a2, c2, rfl, hown, hbr⟩ := hrel
    have O := Lib.hid hown
    have hbs := hbr.size
    clear hown
    go_wp2_with fail
    refine (within_q a5 4 _ h5 (by omega) (by omega)).mono ?_; rintro e w' ⟨q, rfl, hq, hq0, hq4, rfl⟩
    by_cases hlt : (k : Int) ≤ 1 + q
    · have hq' := Lib.hid (show ((k + 1 : Nat) : Int) ≤ 2 + a5 % 4 by rw [← hq.out]; omega)
      go_wp2_with ((at_builtin; refine wpList_append_lies _ rfl _ _ 35 rfl w2.heap.size 39 j0 (.complex .f64 0 0) 1 16 Try.underlying35 hj0 hy0 hy1 hy2 rfl (by decide) (.slice a2 k c2) k ((List.replicate k (n, t)).map fun z => cplx z.1 z.2) rfl (O.out.alloc _) ⟨wr.heap.size, 0, none⟩ 1 1 [.complex .f64 (fw n) (fw t)] rfl rfl (World.news_of_block (cs := #[.complex .f64 (fw n) (fw t)]) (t := 39) (fr := (0, 0)) (heap_alloc_new wr _)) (by simp [Value.oneCell']) (by omega) (by unfold maxLen; omega) (by omega) (by simp; omega) (wr.heap.size + 1) (by simp) ?_; intro g cap w3 hown3 hgrow3 hat3 hlt3))
      have r2 : ∀ j, (Value.slice a2 k c2).ownBlock = some j → w2.heap.size ≤ j := fun j hj => (O.out.lt j hj).1
      have bl3 := Lib.hid (show Below w2.heap.size w2 w3 from (hbr.alloc hbs _).grown hgrow3 (Nat.le_trans hbs (by simp)) r2)
      have e2m : ((List.replicate k (n, t)).map fun z => cplx z.1 z.2) ++ [.complex .f64 (fw n) (fw t)] = (List.replicate (k + 1) (n, t)).map fun z => cplx z.1 z.2 := by rw [List.replicate_succ', List.map_append]; rfl
      have O3 := Lib.hid (show w3.ownsRow w2.heap.size 39 1 (.slice (some ⟨g, 0, none⟩) (k + 1) cap) (k + 1) ((List.replicate (k + 1) (n, t)).map fun z => cplx z.1 z.2) by rw [← e2m]; exact hown3)
      clear e2m hown3 hgrow3 hat3 r2
      go_wp2_with fail
      go_roundw
      case rel => exact ⟨k + 1, by omega, hq'.out, by go_num, _, cap, rfl, O3.out, bl3.out⟩
      case measure => simp [intOf]; omega
    · have hkk : 0 < k := by omega
      obtain ⟨j, rfl⟩ : ∃ j, k = j + 1 := ⟨k - 1, by omega⟩
      have hk3 := Lib.hid (hk2.out.below hbr hk2.out.lt)
      have hx0 := (hk3.out.cell 0).trans (show _ = some (.int .i64 0) from rfl)
      have hx1 := (hk3.out.cell 1).trans (show _ = some (.int .i64 0) from rfl)
      have hx2 := (hk3.out.cell 2).trans (show _ = some (.int .i64 0) from rfl)
      have hx3 := (hk3.out.cell 3).trans (show _ = some (.int .i64 0) from rfl)
      have hx4 := (hk3.out.cell 4).trans (show _ = some (.int .i64 0) from rfl)
      have hx5 := (hk3.out.cell 5).trans (show _ = some (.int .i64 0) from rfl)
      have hx6 := (hk3.out.cell 6).trans (show _ = some (.int .i64 0) from rfl)
      have hx7 := (hk3.out.cell 7).trans (show _ = some (.int .i64 0) from rfl)
      have hx8 := (hk3.out.cell 8).trans (show _ = some (.int .i64 num) from rfl)
      have hx9 := (hk3.out.cell 9).trans (show _ = some (.int .i64 (1 + den)) from rfl)
      have hx10 := (hk3.out.cell 10).trans (show _ = some (.int .i64 0) from rfl)
      have hx11 := (hk3.out.cell 11).trans (show _ = some (.int .i64 om) from rfl)
      have hx12 := (hk3.out.cell 12).trans (show _ = some (.int .i64 0) from rfl)
      have hx13 := (hk3.out.cell 13).trans (show _ = some (.int .i64 0) from rfl)
      have hx14 := (hk3.out.cell 14).trans (show _ = some (.int .i64 0) from rfl)
      obtain ⟨g, cap, cur, hv3, _⟩ : ∃ g cap cur, Value.slice a2 (j + 1) c2 = .slice (some ⟨g, 0, none⟩) (j + 1) cap ∧ cur = (0 : Nat) := by
        rcases O.out.2 with ⟨_, h⟩ | ⟨g, cap, cur, hv, _⟩
        · omega
        · exact ⟨g, cap, 0, hv, rfl⟩
      obtain rfl : a2 = some ⟨g, 0, none⟩ := by injection hv3
      have HH := Lib.hid (show Half wr g 0 c2 j n t (List.replicate j (n, t)) from ⟨by simp, by omega, fun z hz => by rw [← List.replicate_succ] at hz; have := List.eq_of_mem_replicate hz; subst this; omega, by have := own_vrow O.out; exact this, own_cap O.out⟩)
      have hf := Lib.hid (fair num (1 + den) om n t j (by omega) (by omega) (by omega))
      clear hv3
      go_wp2_with fail
      refine (verdict_h num (1 + den) om _ HH.out (by omega) (by omega) (by omega)).mono ?_; rintro e w4 ⟨rfl, hb4⟩
      rw [hf.out]
      go_wp2_with fail
      refine (jwakes_c _).mono ?_; rintro e w5 ⟨rfl, hb5⟩
      go_wp2
      go_ret
      have s2 := hb12.size
      have hbr' : Below w.heap.size w wr := hb12.trans (hbr.mono s2)
      exact ⟨rfl, hbr'.trans ((hb4.mono hbr'.size).trans (hb5.mono (Nat.le_trans hbr'.size hb4.size)))⟩

theorem lawWalk : LawWalk Try.checked 15 Try.f15 := by
  intro H enc W base args ds p hval hA hsz
  rw [Try.params15] at hA hval
  obtain ⟨v0, vs0, d0, ds0, p0, q0, hargs, rfl, rfl, h0, r0⟩ := trodAll_cons hA
  obtain ⟨v1, vs1, d1, ds1, p1, q1, rfl, rfl, rfl, h1, r1⟩ := trodAll_cons r0
  obtain ⟨v2, vs2, d2, ds2, p2, q2, rfl, rfl, rfl, h2, r2⟩ := trodAll_cons r1
  obtain ⟨v3, vs3, d3, ds3, p3, q3, rfl, rfl, rfl, h3, r3⟩ := trodAll_cons r2
  obtain ⟨v4, vs4, d4, ds4, p4, q4, rfl, rfl, rfl, h4, r4⟩ := trodAll_cons r3
  obtain ⟨v5, vs5, d5, ds5, p5, q5, rfl, rfl, rfl, h5, r5⟩ := trodAll_cons r4
  obtain ⟨rfl, rfl, rfl⟩ := trodAll_nil r5
  obtain rfl : args = #[v0, v1, v2, v3, v4, v5] := by cases args; simp_all
  obtain ⟨a0, rfl, rfl, rfl, w0⟩ := open_int Try.underlying3 (hval 0 3 v0 rfl rfl) h0
  obtain ⟨a1, rfl, rfl, rfl, w1⟩ := open_int Try.underlying3 (hval 1 3 v1 rfl rfl) h1
  obtain ⟨a2, rfl, rfl, rfl, w2⟩ := open_int Try.underlying3 (hval 2 3 v2 rfl rfl) h2
  obtain ⟨a3, rfl, rfl, rfl, w3⟩ := open_int Try.underlying3 (hval 3 3 v3 rfl rfl) h3
  obtain ⟨a4, rfl, rfl, rfl, w4⟩ := open_int Try.underlying3 (hval 4 3 v4 rfl rfl) h4
  obtain ⟨a5, rfl, rfl, rfl, w5⟩ := open_int Try.underlying3 (hval 5 3 v5 rfl rfl) h5
  exact walk a0 a1 a2 a3 a4 a5 W (I64.of_wf w0) (I64.of_wf w1) (I64.of_wf w2) (I64.of_wf w3) (I64.of_wf w4) (I64.of_wf w5)

theorem lifted (os : Os) (started : os.Started) (H : Type) (enc : TypeId × Value → H) :
    ReturnsInHanded {} Try.checked os 15 .any (Rows.judgeFairSpec.pre6 enc Try.prog Try.f15 Rows.judgeFairRow.domain false) (Rows.judgeFairSpec.post enc Try.prog Try.f15 false true false false) :=
  law_lift (C := Try.checked) (s := Rows.judgeFairSpec) (tb := 4) (by kernel_rfl) started (by kernel_rfl) Try.func15
    (ChangeSpec.witness6 (enc := enc) (C := Try.checked) false ⟨#[], #[.int .i64 0, .int .i64 0, .int .i64 0, .int .i64 0, .int .i64 0, .int .i64 0], []⟩ 8 (by kernel_rfl) (by kernel_rfl) (by kernel_rfl) (by kernel_rfl))
    rfl (fun H ds h => by
      match ds, h with
      | [d0, d1, d2, d3, d4, d5], _ => rfl) (by kernel_rfl) (by kernel_rfl) (by kernel_rfl) Try.underlying4 lawWalk

theorem over : Rows.judgeFairRow.holds Try.pinned (OpenSpec.ofChange Rows.judgeFairSpec) :=
  OpenClaim.holds_of_wide 15 Try.f15 rfl rfl rfl rfl rfl rfl rfl ⟨rfl, rfl, rfl, rfl, rfl⟩ rfl rfl rfl rfl rfl (by kernel_rfl) Try.func15 (by kernel_rfl)
    (of_decide_eq_true (by kernel_rfl)) (by unfold Func.isWrapper; first | (rw [if_pos (by decide +kernel)]; kernel_rfl) | (rw [if_neg (by decide +kernel)]; exact ⟨rfl, rfl⟩))
    (fun os started H enc _ => lifted os started H enc)

/-- The statement. -/
theorem proved : Rows.JudgeFairSaid := over
#print axioms proved
end Go.Proofs.Ytiacklfigpobnaa.JudgeFair
