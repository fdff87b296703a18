/- ClockDue: for all numbers the law returns true: a timer is due behind just so many ticks, once. No condition. -/
import Derived.Test.YtfeepofdnjnkpaaClockW
import Derived.Test.YtfeepofdnjnkpaaRows
import Derived.Deep.DeepCutAuto
import Derived.Deep.CutBlock
namespace Go.Proofs.Ytfeepofdnjnkpaa.ClockDue
open Go.RowKit Go.ChangeShapes Go.WideShapes Go.ChangeAt
set_option linter.unusedVariables false

theorem due_no {id d now : Int} (h : now < d) : dueOf [(id, d)] now = [] ∧ leftOf [(id, d)] now = [(id, d)] := by
  have h1 : decide (d ≤ now) = false := decide_eq_false (by omega)
  have h2 : decide (now < d) = true := decide_eq_true h
  constructor
  · unfold dueOf; rw [List.filter_cons, h1]; rfl
  · unfold leftOf; rw [List.filter_cons, h2]; rfl
theorem due_yes {id d now : Int} (h : d ≤ now) : dueOf [(id, d)] now = [id] ∧ leftOf [(id, d)] now = [] := by
  have h1 : decide (d ≤ now) = true := decide_eq_true h
  have h2 : decide (now < d) = false := decide_eq_false (by omega)
  constructor
  · unfold dueOf; rw [List.filter_cons, h1]; rfl
  · unfold leftOf; rw [List.filter_cons, h2]; rfl

def Rel1 (w wr : World) (gc : Nat) (id n m : Int) (i : Value) : Prop := ∃ k : Nat, i = .int .i64 k ∧ 1 ≤ k ∧ (k : Int) ≤ n + m + 1 ∧ Below w.heap.size w wr ∧
  (((k : Int) ≤ n ∧ Clk wr w.heap.size gc ((k : Int) - 1) [(id, n)]) ∨ (n < (k : Int) ∧ Clk wr w.heap.size gc ((k : Int) - 1) []))

set_option maxRecDepth 100000 in
set_option maxHeartbeats 3200000 in
theorem walk (id a1 a2 : Int) (w : World) (h0 : I64 id) (h1 : I64 a1) (h2 : I64 a2) :
    Calls Try.prog 9 #[.int .i64 id, .int .i64 a1, .int .i64 a2] w fun e w' => e = .returned (.bool true) ∧ Below w.heap.size w w' := by
  go_enter Try.func9, Try.ntmps9
  go_wp2_with fail
  refine (within_q a1 300 _ h1 (by omega) (by omega)).mono ?_; rintro e w' ⟨q, rfl, _, q0, q1, rfl⟩
  go_wp2_with fail
  refine (within_q a2 50 _ h2 (by omega) (by omega)).mono ?_; rintro e w' ⟨m, rfl, _, m0, m1, rfl⟩
  go_wp2_with fail
  refine (clock_new_c _).mono ?_; rintro e w1 ⟨gc, rfl, hc1, hb1⟩
  go_wp2_with fail
  refine (set_nil _ gc 0 id (1 + q) (1 + q) _ hc1 h0 (by omega) (by omega) (by omega)).mono ?_; rintro e w2 ⟨rfl, hc2, t2⟩
  obtain ⟨n, hn⟩ : ∃ n, n = 1 + q := ⟨_, rfl⟩
  rw [← hn] at hc2 ⊢
  have n1 : 1 ≤ n := by omega
  have n2 : n ≤ 300 := by omega
  have C2 := Lib.hid hc2
  have B2 := Lib.hid (hb1.trans t2.b)
  have FN := Lib.hid (one_fine (id := id) (d := n) h0 (by omega))
  clear hn hc1 hc2 hb1 t2
  go_upto_block 0 with fail
  go_cut [8] (fun s8 wx => Clk wx w.heap.size gc (n + m) [] ∧ Below w.heap.size w wx)
  case first =>
    go_wp2_with fail
    go_loopw [8] (fun i wr => Rel1 w wr gc id n m i) (fun i _ => 400 - (intOf i).toNat)
    case atStart => exact ⟨1, rfl, by omega, by omega, B2.out, .inl ⟨by omega, C2.out⟩⟩
    case round =>
      obtain ⟨k, rfl, k1, k2, hb, hcase⟩ := hrel
      have HB := Lib.hid hb
      have zr := hb.size
      clear hb
      by_cases hle : (k : Int) ≤ n + m
      · rcases hcase with ⟨hk, hc⟩ | ⟨hk, hc⟩
        · have C := Lib.hid hc
          clear hc
          go_wp2_with fail
          refine (tick_e _ gc _ k _ _ C.out (by omega) (by omega) (by omega)).mono ?_; rintro e w3 ⟨rfl, hc3, t3⟩
          have C3 := Lib.hid hc3
          have B3 := Lib.hid (HB.out.trans t3.b)
          clear hc3 t3
          by_cases hkn : (k : Int) < n
          · go_wp2_with fail
            refine (left_yes _ gc k [(id, n)] id _ C3.out FN.out (by simp) h0 0 (place_one id n) n ⟨by simp, rfl⟩ (by omega) (by omega) (n - k) (.inl ⟨by omega, rfl⟩)).mono ?_; rintro e w4 ⟨rfl, hb4⟩
            have C4 := Lib.hid (C3.out.below hb4)
            have B4 := Lib.hid (B3.out.trans (hb4.mono B3.out.size))
            clear hb4
            go_wp2_with fail
            refine (due_e _ gc k _ _ C4.out FN.out (by simp) (by omega) [] [(id, n)] (due_no hkn).1 (due_no hkn).2 0 rfl).mono ?_; rintro e w5 ⟨a5, c5, rfl, r5, hc5, t5⟩
            have C5 := Lib.hid hc5
            have B5 := Lib.hid (B4.out.trans t5.b)
            clear hc5 t5 r5
            have e1 : ((k : Int) == n) = false := beq_eq_false_iff_ne.2 (by omega)
            have e2 : (n - (k : Int) != n - (k : Int)) = false := by simp
            have e3 : IntKind.i64.wrap (n - (k : Int)) = n - k := IntWalk.i64_in _ (by omega)
            go_wp2_with fail
            go_roundw
            case rel => exact ⟨k + 1, by go_num, by omega, by omega, B5.out, .inl ⟨by omega, by rw [show ((k + 1 : Nat) : Int) - 1 = k by omega]; exact C5.out⟩⟩
            case measure => simp [intOf]; omega
          · have hkn' : n = (k : Int) := by omega
            subst hkn'
            go_wp2_with fail
            refine (left_yes _ gc k [(id, k)] id _ C3.out FN.out (by simp) h0 0 (place_one id k) k ⟨by simp, rfl⟩ (by omega) (by omega) 0 (.inr ⟨by omega, rfl⟩)).mono ?_; rintro e w4 ⟨rfl, hb4⟩
            have C4 := Lib.hid (C3.out.below hb4)
            have B4 := Lib.hid (B3.out.trans (hb4.mono B3.out.size))
            clear hb4
            go_wp2_with fail
            refine (due_e _ gc k _ _ C4.out FN.out (by simp) (by omega) [id] [] (due_yes (Int.le_refl _)).1 (due_yes (Int.le_refl _)).2 1 rfl).mono ?_; rintro e w5 ⟨a5, c5, rfl, r5, hc5, t5⟩
            have C5 := Lib.hid hc5
            have B5 := Lib.hid (B4.out.trans t5.b)
            have R5 := Lib.hid r5
            clear hc5 t5 r5
            go_wp2_with fail
            refine (same_int_c a5 1 c5 _ 1 1 [id] _ (R5.out.below ((Below.refl _ _).alloc (Nat.le_refl _) _)) (clock_own_row [id] w5) (by omega)).mono ?_; rintro e w7 ⟨rfl, hb7⟩
            have b67 : Below w5.heap.size w5 w7 := ((Below.refl _ _).alloc (Nat.le_refl _) _).trans (hb7.mono (by simp))
            have C7 := Lib.hid (C5.out.below b67)
            have B7 := Lib.hid (B5.out.trans (b67.mono B5.out.size))
            clear hb7 b67
            go_wp2_with fail
            go_roundw
            case rel => exact ⟨k + 1, by go_num, by omega, by omega, B7.out, .inr ⟨by omega, by rw [show ((k + 1 : Nat) : Int) - 1 = k by omega]; exact C7.out⟩⟩
            case measure => simp [intOf]; omega
        · have C := Lib.hid hc
          clear hc
          go_wp2_with fail
          refine (tick_e _ gc _ k _ _ C.out (by omega) (by omega) (by omega)).mono ?_; rintro e w3 ⟨rfl, hc3, t3⟩
          have C3 := Lib.hid hc3
          have B3 := Lib.hid (HB.out.trans t3.b)
          clear hc3 t3
          go_wp2_with fail
          refine (left_no _ gc k [] id _ C3.out (fun p hp => by cases hp) (by simp) h0 0 (place_nil id)).mono ?_; rintro e w4 ⟨rfl, hb4⟩
          have C4 := Lib.hid (C3.out.below hb4)
          have B4 := Lib.hid (B3.out.trans (hb4.mono B3.out.size))
          clear hb4
          go_wp2_with fail
          refine (due_e _ gc k _ _ C4.out (fun p hp => by cases hp) (by simp) (by omega) [] [] rfl rfl 0 rfl).mono ?_; rintro e w5 ⟨a5, c5, rfl, r5, hc5, t5⟩
          have C5 := Lib.hid hc5
          have B5 := Lib.hid (B4.out.trans t5.b)
          clear hc5 t5 r5
          have e1 : ((k : Int) == n) = false := beq_eq_false_iff_ne.2 (by omega)
          go_wp2_with fail
          go_roundw
          case rel => exact ⟨k + 1, by go_num, by omega, by omega, B5.out, .inr ⟨by omega, by rw [show ((k + 1 : Nat) : Int) - 1 = k by omega]; exact C5.out⟩⟩
          case measure => simp [intOf]; omega
      · have hke : (k : Int) - 1 = n + m := by omega
        have C := Lib.hid (show Clk wr w.heap.size gc (n + m) [] by
          rcases hcase with ⟨hk, hc⟩ | ⟨hk, hc⟩
          · omega
          · rw [← hke]; exact hc)
        clear hcase hke
        go_wp2_with fail
        go_meet
        exact ⟨C.out, HB.out⟩
  case rest =>
    obtain ⟨hc, hb⟩ := hcut
    have C := Lib.hid hc
    have HB := Lib.hid hb
    have zc := hb.size
    clear hc hb
    go_wp2_with fail
    refine (now_c _ gc (n + m) [] _ C.out).mono ?_; rintro e w' ⟨rfl, rfl⟩
    have e1 : (n + m == n + m) = true := beq_iff_eq.2 rfl
    go_wp2_with fail
    refine (ckwakes_c _).mono ?_; rintro e w9 ⟨rfl, hb9⟩
    go_wp2
    go_ret
    exact ⟨rfl, HB.out.trans (hb9.mono zc)⟩

theorem lawWalk : LawWalk Try.checked 9 Try.f9 := by
  intro H enc W base args ds p hval hA hsz
  rw [Try.params9] at hA hval
  obtain ⟨v0, vs0, d0, ds0, p0, q0, hargs, rfl, rfl, h0, r0⟩ := trodAll_cons hA
  obtain ⟨v1, vs1, d1, ds1, p1, q1, rfl, rfl, rfl, h1, r1⟩ := trodAll_cons r0
  obtain ⟨v2, vs2, d2, ds2, p2, q2, rfl, rfl, rfl, h2, r2⟩ := trodAll_cons r1
  obtain ⟨rfl, rfl, rfl⟩ := trodAll_nil r2
  obtain rfl : args = #[v0, v1, v2] := by cases args; simp_all
  obtain ⟨a0, rfl, rfl, rfl, w0⟩ := open_int Try.underlying3 (hval 0 3 v0 rfl rfl) h0
  obtain ⟨a1, rfl, rfl, rfl, w1⟩ := open_int Try.underlying3 (hval 1 3 v1 rfl rfl) h1
  obtain ⟨a2, rfl, rfl, rfl, w2⟩ := open_int Try.underlying3 (hval 2 3 v2 rfl rfl) h2
  exact walk a0 a1 a2 W (I64.of_wf w0) (I64.of_wf w1) (I64.of_wf w2)

theorem lifted (os : Os) (started : os.Started) (H : Type) (enc : TypeId × Value → H) :
    ReturnsInHanded {} Try.checked os 9 .any (Rows.clockDueSpec.pre6 enc Try.prog Try.f9 Rows.clockDueRow.domain false) (Rows.clockDueSpec.post enc Try.prog Try.f9 false true false false) :=
  law_lift (C := Try.checked) (s := Rows.clockDueSpec) (tb := 4) (by kernel_rfl) started (by kernel_rfl) Try.func9
    (ChangeSpec.witness6 (enc := enc) (C := Try.checked) false ⟨#[], #[.int .i64 0, .int .i64 0, .int .i64 0], []⟩ 8 (by kernel_rfl) (by kernel_rfl) (by kernel_rfl) (by kernel_rfl))
    rfl (fun H ds h => by
      match ds, h with
      | [d0, d1, d2], _ => rfl) (by kernel_rfl) (by kernel_rfl) (by kernel_rfl) Try.underlying4 lawWalk

theorem over : Rows.clockDueRow.holds Try.pinned (OpenSpec.ofChange Rows.clockDueSpec) :=
  OpenClaim.holds_of_wide 9 Try.f9 rfl rfl rfl rfl rfl rfl rfl ⟨rfl, rfl, rfl, rfl, rfl⟩ rfl rfl rfl rfl rfl (by kernel_rfl) Try.func9 (by kernel_rfl)
    (of_decide_eq_true (by kernel_rfl)) (by unfold Func.isWrapper; first | (rw [if_pos (by decide +kernel)]; kernel_rfl) | (rw [if_neg (by decide +kernel)]; exact ⟨rfl, rfl⟩))
    (fun os started H enc _ => lifted os started H enc)

/-- The statement. -/
theorem proved : Rows.ClockDueSaid := over
#print axioms proved

end Go.Proofs.Ytfeepofdnjnkpaa.ClockDue
