/- StoreTops: for all numbers the law returns true: a sum that would leave the range is not made; what was there stays, and is told. No condition. -/
import Derived.Test.YtghaahagacffiaaStoreW
import Derived.Test.YtghaahagacffiaaRows
namespace Go.Proofs.Ytghaahagacffiaa.StoreTops
open Go.RowKit Go.ChangeShapes Go.WideShapes Go.ChangeAt
set_option linter.unusedVariables false

theorem opB_yes {k v : Int} (h0 : 0 ≤ k) (h1 : k < 64) (h2 : -2147483648 < v) (h3 : v < 2147483648) : opB k v = true := by
  unfold opB smallB
  rw [decide_eq_true ⟨h0, h1⟩, decide_eq_true ⟨h2, h3⟩]
  rfl
theorem put_R (st : List (Bool × Int)) {k v : Int} (h : opB k v = true) : opR st 1 k v = valOf st k := by unfold opR; rw [h]; rfl
theorem put_S (st : List (Bool × Int)) {k v : Int} (h : opB k v = true) : opSt st 1 k v = st.set k.toNat (true, v) := by unfold opSt; rw [h]; rfl
theorem get_R (st : List (Bool × Int)) {k v : Int} (h : opB k v = true) : opR st 2 k v = valOf st k := by unfold opR; rw [h]; rfl
theorem get_S (st : List (Bool × Int)) (k v : Int) : opSt st 2 k v = st := by unfold opSt; split <;> rfl
theorem add_R (st : List (Bool × Int)) {k v : Int} (h : opB k v = true) : opR st 3 k v = if smallB (valOf st k + v) then valOf st k + v else valOf st k := by unfold opR; rw [h]; rfl
theorem add_S (st : List (Bool × Int)) {k v : Int} (h : opB k v = true) : opSt st 3 k v = if smallB (valOf st k + v) then st.set k.toNat (true, valOf st k + v) else st := by unfold opSt; rw [h]; rfl
theorem val_set (st : List (Bool × Int)) (k : Int) (b : Bool) (v : Int) (hk : k.toNat < st.length) : valOf (st.set k.toNat (b, v)) k = v := by simp [valOf, List.getD, hk]

theorem small_yes {v : Int} (h1 : -2147483648 < v) (h2 : v < 2147483648) : smallB v = true := decide_eq_true ⟨h1, h2⟩
theorem small_no {v : Int} (h : v ≤ -2147483648 ∨ 2147483648 ≤ v) : ¬ smallB v = true := by
  unfold smallB
  rw [decide_eq_false (by omega)]
  simp

set_option maxRecDepth 100000 in
set_option maxHeartbeats 1600000 in
theorem walk (a0 a1 a2 : Int) (w : World) (h0 : I64 a0) (h1 : I64 a1) (h2 : I64 a2) :
    Calls Try.prog 3 #[.int .i64 a0, .int .i64 a1, .int .i64 a2] w fun e w' => e = .returned (.bool true) ∧ Below w.heap.size w w' := by
  go_enter Try.func3, Try.ntmps3
  go_wp2_with fail
  refine (within_q a0 64 _ h0 (by omega) (by omega)).mono ?_; rintro e w' ⟨key, rfl, hq, k0, k1, rfl⟩
  go_wp2_with fail
  refine (within_q a1 100 _ h1 (by omega) (by omega)).mono ?_; rintro e w' ⟨u, rfl, hq2, u0, u1, rfl⟩
  go_wp2_with fail
  refine (within_q a2 200 _ h2 (by omega) (by omega)).mono ?_; rintro e w' ⟨add, rfl, hq3, d0, d1, rfl⟩
  clear hq hq2 hq3
  go_wp2_with fail
  refine (new_c _).mono ?_; rintro e w1 ⟨gs, rfl, s1, hg, hb1⟩
  have kl : key.toNat < st0.length := by rw [show st0.length = 64 from rfl]; omega
  have ik : I64 key := I64.of (by omega) (by omega)
  obtain ⟨was, hwas⟩ : ∃ z, z = 2147483647 - u := ⟨_, rfl⟩
  have w0 : 2147483547 < was := by omega
  have w2 : was < 2147483648 := by omega
  have HW := Lib.hid hwas
  clear hwas
  -- what comes
  have P1 := Lib.hid (put_S st0 (opB_yes k0 k1 (show -2147483648 < was by omega) w2))
  obtain ⟨S1, hS1⟩ : ∃ s, s = st0.set key.toNat (true, was) := ⟨_, rfl⟩
  have l1 : S1.length = 64 := by rw [hS1, List.length_set]; rfl
  have v1 : valOf S1 key = was := by rw [hS1]; exact val_set _ _ _ _ kl
  have hab := opB_yes k0 k1 (show -2147483648 < add by omega) (show add < 2147483648 by omega)
  have han := opB_yes k0 k1 (show -2147483648 < -add by omega) (show -add < 2147483648 by omega)
  have hwn := opB_yes k0 k1 (show -2147483648 < -was by omega) (show -was < 2147483648 by omega)
  obtain ⟨want, hwant⟩ : ∃ z, z = if was + add < 2147483648 then was + add else was := ⟨_, rfl⟩
  have q1 : opR S1 3 key add = want := by
    rw [add_R _ hab, v1, hwant]
    by_cases hc : was + add < 2147483648
    · rw [if_pos hc, if_pos (small_yes (by omega) (by omega))]
    · rw [if_neg hc, if_neg (small_no (by omega))]
  obtain ⟨S2, hS2⟩ : ∃ s, s = opSt S1 3 key add := ⟨_, rfl⟩
  have l2 : S2.length = 64 := by rw [hS2, opSt_len, l1]
  obtain ⟨S3, hS3⟩ : ∃ s, s = S2.set key.toNat (true, -was) := ⟨_, rfl⟩
  have P3 := Lib.hid ((put_S S2 hwn).trans hS3.symm)
  have l3 : S3.length = 64 := by rw [hS3, List.length_set, l2]
  have v3 : valOf S3 key = -was := by rw [hS3]; exact val_set _ _ _ _ (by omega)
  have q3 : opR S3 3 key (-add) = -want := by
    rw [add_R _ han, v3, hwant]
    by_cases hc : was + add < 2147483648
    · rw [if_pos hc, if_pos (small_yes (by omega) (by omega))]; omega
    · rw [if_neg hc, if_neg (small_no (by omega))]
  obtain ⟨S4, hS4⟩ : ∃ s, s = opSt S3 3 key (-add) := ⟨_, rfl⟩
  have v4 : valOf S4 key = -want := by
    rw [hS4, add_S _ han, v3, hwant]
    by_cases hc : was + add < 2147483648
    · rw [if_pos hc, if_pos (small_yes (by omega) (by omega)), val_set _ _ _ _ (by omega)]; omega
    · rw [if_neg hc, if_neg (small_no (by omega)), v3]
  have hno : opB key 2147483648 = false := by unfold opB smallB; rw [decide_eq_false (show ¬ (-2147483648 < (2147483648 : Int) ∧ (2147483648 : Int) < 2147483648) by omega), Bool.and_false]
  have q5 : opR S4 1 key 2147483648 = 0 := by unfold opR; rw [hno]; rfl
  have t5 : opSt S4 1 key 2147483648 = S4 := by unfold opSt; rw [hno]; rfl
  have q6 : opR S4 2 key 0 = -want := by rw [get_R _ (opB_yes k0 k1 (by omega) (by omega)), v4]
  have t6 := get_S S4 key 0
  have m1 : Smalls S1 := by rw [hS1]; exact Smalls.zero.set _ _ ⟨by omega, w2⟩
  have m2 : Smalls S2 := by rw [hS2]; exact m1.op _ _ _
  have m3 : Smalls S3 := by rw [hS3]; exact m2.set _ _ ⟨by omega, by omega⟩
  have m4 : Smalls S4 := by rw [hS4]; exact m3.op _ _ _
  have W1 := Lib.hid hwant
  have Q1 := Lib.hid q1
  have Q3 := Lib.hid q3
  have Q5 := Lib.hid q5
  have Q6 := Lib.hid q6
  have T5 := Lib.hid t5
  have T6 := Lib.hid t6
  have E1 := Lib.hid (P1.out.trans hS1.symm)
  have E2 := Lib.hid hS2.symm
  have E4 := Lib.hid hS4.symm
  have M1 := Lib.hid m1
  have M2 := Lib.hid m2
  have M3 := Lib.hid m3
  have M4 := Lib.hid m4
  have wb : want = was + add ∧ was + add < 2147483648 ∨ want = was ∧ ¬ was + add < 2147483648 := by rw [hwant]; split <;> simp_all
  have e1 : (want != want) = false := by simp
  have e2 : (-want != -want) = false := by simp
  have e3 : (-want == -want) = true := by simp
  clear hwant q1 q3 q5 q6 t5 t6 hS1 hS2 hS3 hS4 m1 m2 m3 m4 l1 l2 l3 v1 v3 v4 hab han hwn hno kl P1
  have HW1 := Lib.hid s1
  have b1 := hb1.size
  clear s1
  rcases wb with ⟨rfl, wb2⟩ | ⟨rfl, wb2⟩
  all_goals
    go_wp2_with fail
    rw [← HW.out]
    refine (apply_c gs _ 1 key _ _ HW1.out Smalls.zero (I64.of (by omega) (by omega)) ik (I64.of (by omega) (by omega)) _ rfl _ E1.out).mono ?_; rintro e w2 ⟨rfl, h2', o2⟩
    go_wp2_with fail
    try rw [← HW.out]
    refine (apply_c gs _ 3 key add _ h2' M1.out (I64.of (by omega) (by omega)) ik (I64.of (by omega) (by omega)) _ Q1.out _ E2.out).mono ?_; rintro e w3 ⟨rfl, h3, o3⟩
    go_wp2_with fail
    refine (apply_c gs _ 1 key _ _ h3 M2.out (I64.of (by omega) (by omega)) ik (I64.of (by omega) (by omega)) _ rfl _ P3.out).mono ?_; rintro e w4 ⟨rfl, h4, o4⟩
    go_wp2_with fail
    refine (apply_c gs _ 3 key _ _ h4 M3.out (I64.of (by omega) (by omega)) ik (I64.of (by omega) (by omega)) _ Q3.out _ E4.out).mono ?_; rintro e w5 ⟨rfl, h5, o5⟩
    go_wp2_with fail
    refine (apply_c gs _ 1 key _ _ h5 M4.out (I64.of (by omega) (by omega)) ik (I64.of (by omega) (by omega)) 0 Q5.out _ T5.out).mono ?_; rintro e w6 ⟨rfl, h6, o6⟩
    go_wp2_with fail
    refine (apply_c gs _ 2 key 0 _ h6 M4.out (I64.of (by omega) (by omega)) ik (I64.of (by omega) (by omega)) _ Q6.out _ T6.out).mono ?_; rintro e w7 ⟨rfl, h7, o7⟩
    go_wp2_with fail
    refine (swakes_c _).mono ?_; rintro e w8 ⟨rfl, hb8⟩
    go_wp2
    go_ret
    have o := ((((o2.trans o3).trans o4).trans o5).trans o6).trans o7
    have b := o.below hb1 hb1.size (by simpa using hg)
    exact ⟨rfl, b.trans (hb8.mono b.size)⟩

theorem lawWalk : LawWalk Try.checked 3 Try.f3 := by
  intro H enc W base args ds p hval hA hsz
  rw [Try.params3] at hA hval
  obtain ⟨v0, vs0, d0, ds0, p0, q0, hargs, rfl, rfl, h0, r0⟩ := trodAll_cons hA
  obtain ⟨v1, vs1, d1, ds1, p1, q1, rfl, rfl, rfl, h1, r1⟩ := trodAll_cons r0
  obtain ⟨v2, vs2, d2, ds2, p2, q2, rfl, rfl, rfl, h2, r2⟩ := trodAll_cons r1
  obtain ⟨rfl, rfl, rfl⟩ := trodAll_nil r2
  obtain rfl : args = #[v0, v1, v2] := by cases args; simp_all
  obtain ⟨a0, rfl, rfl, rfl, w0⟩ := open_int Try.underlying3 (hval 0 3 v0 rfl rfl) h0
  obtain ⟨a1, rfl, rfl, rfl, w1⟩ := open_int Try.underlying3 (hval 1 3 v1 rfl rfl) h1
  obtain ⟨a2, rfl, rfl, rfl, w2⟩ := open_int Try.underlying3 (hval 2 3 v2 rfl rfl) h2
  exact walk a0 a1 a2 W (I64.of_wf w0) (I64.of_wf w1) (I64.of_wf w2)

theorem lifted (os : Os) (started : os.Started) (H : Type) (enc : TypeId × Value → H) :
    ReturnsInHanded {} Try.checked os 3 .any (Rows.storeTopsSpec.pre6 enc Try.prog Try.f3 Rows.storeTopsRow.domain false) (Rows.storeTopsSpec.post enc Try.prog Try.f3 false true false false) :=
  law_lift (C := Try.checked) (s := Rows.storeTopsSpec) (tb := 4) (by kernel_rfl) started (by kernel_rfl) Try.func3
    (ChangeSpec.witness6 (enc := enc) (C := Try.checked) false ⟨#[], #[.int .i64 0, .int .i64 0, .int .i64 0], []⟩ 8 (by kernel_rfl) (by kernel_rfl) (by kernel_rfl) (by kernel_rfl))
    rfl (fun H ds h => by
      match ds, h with
      | [d0, d1, d2], _ => rfl) (by kernel_rfl) (by kernel_rfl) (by kernel_rfl) Try.underlying4 lawWalk

theorem over : Rows.storeTopsRow.holds Try.pinned (OpenSpec.ofChange Rows.storeTopsSpec) :=
  OpenClaim.holds_of_wide 3 Try.f3 rfl rfl rfl rfl rfl rfl rfl ⟨rfl, rfl, rfl, rfl, rfl⟩ rfl rfl rfl rfl rfl (by kernel_rfl) Try.func3 (by kernel_rfl)
    (of_decide_eq_true (by kernel_rfl)) (by unfold Func.isWrapper; first | (rw [if_pos (by decide +kernel)]; kernel_rfl) | (rw [if_neg (by decide +kernel)]; exact ⟨rfl, rfl⟩))
    (fun os started H enc _ => lifted os started H enc)

/-- The statement. -/
theorem proved : Rows.StoreTopsSaid := over
#print axioms proved

end Go.Proofs.Ytghaahagacffiaa.StoreTops
