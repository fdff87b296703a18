/- LinkDups: for all numbers the law returns true. No condition. -/
import Derived.Test.YtjdcjofogmplcaaLinkF
import Derived.Test.YtjdcjofogmplcaaRows
import Derived.Deep.DeepCutAuto
import Derived.Deep.CutBlock
namespace Go.Proofs.Ytjdcjofogmplcaa.LinkDups
open Go.RowKit Go.ChangeShapes Go.WideShapes Go.ChangeAt
set_option linter.unusedVariables false

set_option maxRecDepth 100000 in
set_option maxHeartbeats 3200000 in
theorem walk (a0 a1 : Int) (w : World) (h0 : I64 a0) (h1 : I64 a1) :
    Calls Try.prog 12 #[.int .i64 a0, .int .i64 a1] w fun e w' => e = .returned (.bool true) ∧ Below w.heap.size w w' := by
  go_enter Try.func12, Try.ntmps12
  go_wp2_with fail
  refine (within_q a0 20 _ h0 (by omega) (by omega)).mono ?_; rintro e w' ⟨n0, rfl, _, n00, n01, rfl⟩
  obtain ⟨n, hn⟩ := Int.eq_ofNat_of_zero_le (show 0 ≤ 1 + n0 by omega)
  have nl : 1 ≤ n ∧ n ≤ 20 := by omega
  have hw1 : IntKind.i64.wrap (1 + n0) = n := by rw [IntWalk.i64_in _ (by omega)]; exact hn
  clear hn
  go_wp2_with fail
  refine (within_q a1 n _ h1 (by omega) (by omega)).mono ?_; rintro e w' ⟨k', rfl, _, k0, k1, rfl⟩
  obtain ⟨k, rfl⟩ := Int.eq_ofNat_of_zero_le k0
  have kn : k < n := by omega
  clear hw1
  go_wp2_with fail
  refine (filled_c n 21 _ (by omega) (by omega) (by omega) (by omega) n 21 rfl rfl).mono ?_; rintro e w1 ⟨q, rfl, L1⟩
  have HL1 := Lib.hid L1
  clear L1
  have fl := fil_len n
  have FL := Lib.hid fl
  obtain ⟨M, hM⟩ : ∃ M, M = fil n ++ [[(k : Int)]] := ⟨_, rfl⟩
  have HM := Lib.hid hM
  have ML := Lib.hid (show M.length = n + 1 by rw [hM, List.length_append, fl]; rfl)
  have MN := Lib.hid (show M[n]? = some [(k : Int)] by rw [hM, List.getElem?_append_right (by omega), fl, Nat.sub_self]; rfl)
  have MK := Lib.hid (show M[k]? = some [(k : Int)] by rw [hM, List.getElem?_append_left (by omega)]; exact fil_at n k kn)
  clear hM fl
  go_wp2_with fail
  refine (lk_dup w q 21 0 (fil n) k [(k : Int)] _ HL1.out (by omega) (fil_at n k kn) (by rw [FL.out]; omega) k rfl M HM.out.symm).mono ?_; rintro e w2 ⟨rfl, L2, _⟩
  have HL2 := Lib.hid L2
  clear L2
  have hwn : IntKind.i64.wrap ((n : Int) + 1) = (n : Int) + 1 := IntWalk.i64_in _ (by omega)
  go_wp2_with fail
  refine (lk_dup_no w q 21 0 M ((n : Int) + 1) _ HL2.out (by omega) (by unfold I64; omega) (.inl (by rw [ML.out]; omega))).mono ?_; rintro e w3 ⟨rfl, j3, rfl⟩
  have HL3 := Lib.hid (HL2.out.drewN j3)
  obtain ⟨w3, hw3⟩ : ∃ w3, w3 = w2.drewN j3 := ⟨_, rfl⟩
  rw [← hw3] at HL3 ⊢
  clear hw3
  go_wp2_with fail
  refine (lk_dup_no w q 21 0 M (-1) _ HL3.out (by omega) (by unfold I64; omega) (.inl (by omega))).mono ?_; rintro e w4 ⟨rfl, j4, rfl⟩
  have HL4 := Lib.hid (HL3.out.drewN j4)
  obtain ⟨w4, hw4⟩ : ∃ w4, w4 = w3.drewN j4 := ⟨_, rfl⟩
  rw [← hw4] at HL4 ⊢
  clear hw4
  go_wp2_with fail
  refine (lk_peek w q 21 0 M n [(k : Int)] _ HL4.out MN.out n rfl).mono ?_; rintro e w5 ⟨a5, c5, rfl, T5, b5⟩
  have HL5 := Lib.hid (HL4.out.below b5)
  have HT5 := Lib.hid T5
  clear T5 b5 HL4 HL3 HL2 HL1
  obtain ⟨N, hN⟩ : ∃ N, N = M.take k ++ M.drop (k + 1) := ⟨_, rfl⟩
  have HN := Lib.hid hN
  have NL := Lib.hid (show N.length = n by rw [hN, rem_len M k (by rw [ML.out]; omega), ML.out]; omega)
  have NN := Lib.hid (show N[n - 1]? = some [(k : Int)] by
    rw [hN, List.getElem?_append_right (by rw [List.length_take, ML.out]; omega), List.length_take, ML.out, List.getElem?_drop, show k + 1 + (n - 1 - min k (n + 1)) = n by omega]
    exact MN.out)
  clear hN
  go_wp2_with fail
  refine (lk_take w q 21 0 M k [(k : Int)] _ HL5.out MK.out k rfl N HN.out.symm).mono ?_; rintro e w6 ⟨a6, c6, rfl, T6, L6, K6⟩
  have HL6 := Lib.hid L6
  have HT6 := Lib.hid T6
  have HT56 := Lib.hid (K6 _ _ _ HT5.out)
  clear T6 L6 K6 HT5 HL5
  have hwm : IntKind.i64.wrap ((n : Int) - 1) = (n : Int) - 1 := IntWalk.i64_in _ (by omega)
  go_wp2_with fail
  refine (lk_take w q 21 0 N (n - 1) [(k : Int)] _ HL6.out NN.out ((n : Int) - 1) (by omega) _ rfl).mono ?_; rintro e w7 ⟨a7, c7, rfl, T7, L7, K7⟩
  have HL7 := Lib.hid L7
  have HT7 := Lib.hid T7
  have HT57 := Lib.hid (K7 _ _ _ HT56.out)
  have HT67 := Lib.hid (K7 _ _ _ HT6.out)
  clear T7 L7 K7 HT6 HT56 HL6
  have hwk : IntKind.u8.wrap (k : Int) = k := IntWalk.u8_in _ (by omega)
  go_wp2_with fail
  refine (same_byte_c a5 _ c5 _ 1 1 [(k : Int)] _ (HT57.out.alloc _).vrow (own_byte w7 k) (by simp)).mono ?_; rintro e w8 ⟨rfl, b8⟩
  have HL8 := Lib.hid ((HL7.out.alloc (.cells #[.int .u8 (k : Int)] 5)).below b8)
  have HT58 := Lib.hid ((HT57.out.alloc (.cells #[.int .u8 (k : Int)] 5)).below b8)
  have HT68 := Lib.hid ((HT67.out.alloc (.cells #[.int .u8 (k : Int)] 5)).below b8)
  have HT78 := Lib.hid ((HT7.out.alloc (.cells #[.int .u8 (k : Int)] 5)).below b8)
  clear b8
  go_wp2_with fail
  refine (same_byte_c a6 _ c6 _ _ _ [(k : Int)] _ HT68.out.vrow HT58.out.vrow (by simp)).mono ?_; rintro e w9 ⟨rfl, b9⟩
  have HL9 := Lib.hid (HL8.out.below b9)
  have HT59 := Lib.hid (HT58.out.below b9)
  have HT79 := Lib.hid (HT78.out.below b9)
  clear b9
  go_wp2_with fail
  refine (same_byte_c a7 _ c7 _ _ _ [(k : Int)] _ HT79.out.vrow HT59.out.vrow (by simp)).mono ?_; rintro e w10 ⟨rfl, b10⟩
  have HL10 := Lib.hid (HL9.out.below b10)
  clear b10
  go_wp2_with fail
  refine (lk_len w q 21 0 _ _ HL10.out ((n : Int) - 1) (by rw [rem_len N (n - 1) (by rw [NL.out]; omega), NL.out]; omega)).mono ?_; rintro e w11 ⟨rfl, rfl⟩
  go_wp2_with fail
  refine (lkwakes_c _).mono ?_; rintro e w12 ⟨rfl, hb12⟩
  go_wp2_with fail
  go_ret
  exact ⟨rfl, HL10.out.b.trans (hb12.mono HL10.out.b.size)⟩

set_option maxRecDepth 100000 in
theorem lawWalk : LawWalk Try.checked 12 Try.f12 := by
  intro H enc W base args ds p hval hA hsz
  rw [Try.params12] at hA hval
  obtain ⟨v0, vs0, d0, ds0, p0, q0, hargs, rfl, rfl, h0, r0⟩ := trodAll_cons hA
  obtain ⟨v1, vs1, d1, ds1, p1, q1, rfl, rfl, rfl, h1, r1⟩ := trodAll_cons r0
  obtain ⟨rfl, rfl, rfl⟩ := trodAll_nil r1
  obtain rfl : args = #[v0, v1] := by cases args; simp_all
  obtain ⟨a0, rfl, rfl, rfl, w0⟩ := open_int Try.underlying3 (hval 0 3 v0 rfl rfl) h0
  obtain ⟨a1, rfl, rfl, rfl, w1⟩ := open_int Try.underlying3 (hval 1 3 v1 rfl rfl) h1
  exact walk a0 a1 W (I64.of_wf w0) (I64.of_wf w1)

theorem lifted (os : Os) (started : os.Started) (H : Type) (enc : TypeId × Value → H) :
    ReturnsInHanded {} Try.checked os 12 .any (Rows.linkDupsSpec.pre6 enc Try.prog Try.f12 Rows.linkDupsRow.domain false) (Rows.linkDupsSpec.post enc Try.prog Try.f12 false true false false) :=
  law_lift (C := Try.checked) (s := Rows.linkDupsSpec) (tb := 4) (by kernel_rfl) started (by kernel_rfl) Try.func12
    (ChangeSpec.witness6 (enc := enc) (C := Try.checked) false ⟨#[], #[.int .i64 0, .int .i64 0], []⟩ 8 (by kernel_rfl) (by kernel_rfl) (by kernel_rfl) (by kernel_rfl))
    rfl (fun H ds h => by
      match ds, h with
      | [d0, d1], _ => rfl) (by kernel_rfl) (by kernel_rfl) (by kernel_rfl) Try.underlying4 lawWalk

theorem over : Rows.linkDupsRow.holds Try.pinned (OpenSpec.ofChange Rows.linkDupsSpec) :=
  OpenClaim.holds_of_wide 12 Try.f12 rfl rfl rfl rfl rfl rfl rfl ⟨rfl, rfl, rfl, rfl, rfl⟩ rfl rfl rfl rfl rfl (by kernel_rfl) Try.func12 (by kernel_rfl)
    (of_decide_eq_true (by kernel_rfl)) (by unfold Func.isWrapper; first | (rw [if_pos (by decide +kernel)]; kernel_rfl) | (rw [if_neg (by decide +kernel)]; exact ⟨rfl, rfl⟩))
    (fun os started H enc _ => lifted os started H enc)

/-- The statement. -/
theorem proved : Rows.LinkDupsSaid := over
#print axioms proved

end Go.Proofs.Ytjdcjofogmplcaa.LinkDups
