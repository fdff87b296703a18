/- LinkMoves: for all numbers the law returns true. No condition. -/
import Derived.Test.YtjdcjofogmplcaaLinkF
import Derived.Test.YtjdcjofogmplcaaRows
import Derived.Deep.DeepCutAuto
import Derived.Deep.CutBlock
namespace Go.Proofs.Ytjdcjofogmplcaa.LinkMoves
open Go.RowKit Go.ChangeShapes Go.WideShapes Go.ChangeAt
set_option linter.unusedVariables false

set_option maxRecDepth 100000 in
set_option maxHeartbeats 3200000 in
theorem walk (a0 a1 a2 : Int) (w : World) (h0 : I64 a0) (h1 : I64 a1) (h2 : I64 a2) :
    Calls Try.prog 10 #[.int .i64 a0, .int .i64 a1, .int .i64 a2] w fun e w' => e = .returned (.bool true) ∧ Below w.heap.size w w' := by
  go_enter Try.func10, Try.ntmps10
  go_wp2_with fail
  refine (within_q a0 20 _ h0 (by omega) (by omega)).mono ?_; rintro e w' ⟨n0, rfl, _, n00, n01, rfl⟩
  obtain ⟨n, hn⟩ := Int.eq_ofNat_of_zero_le (show 0 ≤ 1 + n0 by omega)
  have nl : 1 ≤ n ∧ n ≤ 20 := by omega
  have hw1 : IntKind.i64.wrap (1 + n0) = n := by rw [IntWalk.i64_in _ (by omega)]; exact hn
  clear hn
  go_wp2_with fail
  refine (within_q a1 n _ h1 (by omega) (by omega)).mono ?_; rintro e w' ⟨k', rfl, _, k0, k1, rfl⟩
  obtain ⟨k, rfl⟩ := Int.eq_ofNat_of_zero_le k0
  go_wp2_with fail
  refine (within_q a2 n _ h2 (by omega) (by omega)).mono ?_; rintro e w' ⟨t', rfl, _, t0, t1, rfl⟩
  obtain ⟨t, rfl⟩ := Int.eq_ofNat_of_zero_le t0
  have kn : k < n := by omega
  have tn : t < n := by omega
  clear hw1
  go_wp2_with fail
  refine (filled_c n 20 _ (by omega) (by omega) (by omega) (by omega) n 20 rfl rfl).mono ?_; rintro e w1 ⟨q, rfl, L1⟩
  have HL1 := Lib.hid L1
  clear L1
  have fl := fil_len n
  have FL := Lib.hid fl
  go_wp2_with fail
  refine (lk_move w q 20 0 (fil n) k t [(k : Int)] _ HL1.out (fil_at n k kn) (by omega) k t rfl rfl _ rfl).mono ?_; rintro e w2 ⟨rfl, L2, _⟩
  have HL2 := Lib.hid L2
  clear L2
  have ml := moved_len (fil n) k t [(k : Int)] (by omega) (by omega)
  have ma := moved_at (fil n) k t [(k : Int)] (by omega) (by omega)
  have mb := Lib.hid (moved_back (fil n) k t [(k : Int)] (by omega) (by omega) (fil_at n k kn))
  obtain ⟨M, hM⟩ : ∃ M, M = moved (fil n) k t [(k : Int)] := ⟨_, rfl⟩
  rw [← hM] at HL2 ml ma mb
  have hml : M.length = n := by omega
  have ML := Lib.hid hml
  have MA := Lib.hid ma
  clear hM fl ml ma hml
  have hwk : IntKind.u8.wrap (k : Int) = k := IntWalk.u8_in _ (by omega)
  go_wp2_with fail
  refine (lk_peek w q 20 0 M t [(k : Int)] _ HL2.out MA.out t rfl).mono ?_; rintro e w3 ⟨a3, c3, rfl, T3, b3⟩
  have HL3 := Lib.hid (HL2.out.below b3)
  have HT3 := Lib.hid T3
  clear T3 b3
  go_wp2_with fail
  refine (same_byte_c a3 _ c3 _ 1 1 [(k : Int)] _ (HT3.out.alloc _).vrow (own_byte w3 k) (by simp)).mono ?_; rintro e w4 ⟨rfl, b4⟩
  have HL4 := Lib.hid ((HL3.out.alloc (.cells #[.int .u8 (k : Int)] 5)).below b4)
  clear b4
  go_wp2_with fail
  refine (lk_move_no w q 20 0 M n 0 _ HL4.out (by unfold I64; omega) (by unfold I64; omega) (by rw [ML.out]; omega)).mono ?_; rintro e w5 ⟨rfl, rfl⟩
  go_wp2_with fail
  refine (lk_move_no w q 20 0 M 0 n _ HL4.out (by unfold I64; omega) (by unfold I64; omega) (by rw [ML.out]; omega)).mono ?_; rintro e w5 ⟨rfl, rfl⟩
  go_wp2_with fail
  refine (lk_move_no w q 20 0 M (-1) 0 _ HL4.out (by unfold I64; omega) (by unfold I64; omega) (by omega)).mono ?_; rintro e w5 ⟨rfl, rfl⟩
  go_wp2_with fail
  refine (lk_move w q 20 0 M t k [(k : Int)] _ HL4.out MA.out (by rw [ML.out]; omega) t k rfl rfl (fil n) mb.out).mono ?_; rintro e w5 ⟨rfl, L5, _⟩
  have HL5 := Lib.hid L5
  clear L5 HL4 HL3 HT3 HL2 HL1
  go_wp2_with fail
  go_loopw [11] (fun x wr => ∃ j : Nat, j ≤ n ∧ x = .int .i64 j ∧ Lk w wr q 20 0 (fil n)) (fun x _ => n - (intOf x).toNat)
  case atStart => exact ⟨0, by omega, rfl, HL5.out⟩
  case round =>
    obtain ⟨j, hj, rfl, hl⟩ := hrel
    have HL := Lib.hid hl
    clear hl HL5
    by_cases hlt : j < n
    · have c1 : (j : Int) < n := by omega
      have hwj : IntKind.u8.wrap (j : Int) = j := IntWalk.u8_in _ (by omega)
      go_wp2_with fail
      refine (lk_peek w q 20 0 (fil n) j [(j : Int)] _ HL.out (fil_at n j hlt) j rfl).mono ?_; rintro e w3 ⟨a3, c3, rfl, T3, b3⟩
      have HL3 := Lib.hid (HL.out.below b3)
      have HT3 := Lib.hid T3
      clear T3 b3
      go_wp2_with fail
      refine (same_byte_c a3 _ c3 _ 1 1 [(j : Int)] _ (HT3.out.alloc _).vrow (own_byte w3 j) (by simp)).mono ?_; rintro e w4 ⟨rfl, b4⟩
      have HL4 := Lib.hid ((HL3.out.alloc (.cells #[.int .u8 (j : Int)] 5)).below b4)
      clear b4
      go_wp2_with fail
      go_roundw
      case rel => exact ⟨j + 1, by omega, by go_num, HL4.out⟩
      case measure => simp [intOf]; omega
    · have hjn : j = n := by omega
      subst hjn
      go_wp2_with fail
      refine (lk_len w q 20 0 (fil j) _ HL.out j (by rw [FL.out])).mono ?_; rintro e w5 ⟨rfl, rfl⟩
      go_wp2_with fail
      refine (lk_lost w q 20 0 (fil j) _ HL.out).mono ?_; rintro e w5 ⟨rfl, rfl⟩
      go_wp2_with fail
      refine (lkwakes_c _).mono ?_; rintro e w6 ⟨rfl, hb6⟩
      go_wp2_with fail
      go_ret
      exact ⟨rfl, HL.out.b.trans (hb6.mono HL.out.b.size)⟩

set_option maxRecDepth 100000 in
theorem lawWalk : LawWalk Try.checked 10 Try.f10 := by
  intro H enc W base args ds p hval hA hsz
  rw [Try.params10] at hA hval
  obtain ⟨v0, vs0, d0, ds0, p0, q0, hargs, rfl, rfl, h0, r0⟩ := trodAll_cons hA
  obtain ⟨v1, vs1, d1, ds1, p1, q1, rfl, rfl, rfl, h1, r1⟩ := trodAll_cons r0
  obtain ⟨v2, vs2, d2, ds2, p2, q2, rfl, rfl, rfl, h2, r2⟩ := trodAll_cons r1
  obtain ⟨rfl, rfl, rfl⟩ := trodAll_nil r2
  obtain rfl : args = #[v0, v1, v2] := by cases args; simp_all
  obtain ⟨a0, rfl, rfl, rfl, w0⟩ := open_int Try.underlying3 (hval 0 3 v0 rfl rfl) h0
  obtain ⟨a1, rfl, rfl, rfl, w1⟩ := open_int Try.underlying3 (hval 1 3 v1 rfl rfl) h1
  obtain ⟨a2, rfl, rfl, rfl, w2⟩ := open_int Try.underlying3 (hval 2 3 v2 rfl rfl) h2
  exact walk a0 a1 a2 W (I64.of_wf w0) (I64.of_wf w1) (I64.of_wf w2)

theorem lifted (os : Os) (started : os.Started) (H : Type) (enc : TypeId × Value → H) :
    ReturnsInHanded {} Try.checked os 10 .any (Rows.linkMovesSpec.pre6 enc Try.prog Try.f10 Rows.linkMovesRow.domain false) (Rows.linkMovesSpec.post enc Try.prog Try.f10 false true false false) :=
  law_lift (C := Try.checked) (s := Rows.linkMovesSpec) (tb := 4) (by kernel_rfl) started (by kernel_rfl) Try.func10
    (ChangeSpec.witness6 (enc := enc) (C := Try.checked) false ⟨#[], #[.int .i64 0, .int .i64 0, .int .i64 0], []⟩ 8 (by kernel_rfl) (by kernel_rfl) (by kernel_rfl) (by kernel_rfl))
    rfl (fun H ds h => by
      match ds, h with
      | [d0, d1, d2], _ => rfl) (by kernel_rfl) (by kernel_rfl) (by kernel_rfl) Try.underlying4 lawWalk

theorem over : Rows.linkMovesRow.holds Try.pinned (OpenSpec.ofChange Rows.linkMovesSpec) :=
  OpenClaim.holds_of_wide 10 Try.f10 rfl rfl rfl rfl rfl rfl rfl ⟨rfl, rfl, rfl, rfl, rfl⟩ rfl rfl rfl rfl rfl (by kernel_rfl) Try.func10 (by kernel_rfl)
    (of_decide_eq_true (by kernel_rfl)) (by unfold Func.isWrapper; first | (rw [if_pos (by decide +kernel)]; kernel_rfl) | (rw [if_neg (by decide +kernel)]; exact ⟨rfl, rfl⟩))
    (fun os started H enc _ => lifted os started H enc)

/-- The statement. -/
theorem proved : Rows.LinkMovesSaid := over
#print axioms proved

end Go.Proofs.Ytjdcjofogmplcaa.LinkMoves
