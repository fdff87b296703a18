/- ClockSets: for all numbers the law returns true. No condition. -/
import Derived.Test.YtfeepofdnjnkpaaClockP
import Derived.Test.YtfeepofdnjnkpaaRows
import Derived.Deep.DeepCutAuto
import Derived.Deep.CutBlock
namespace Go.Proofs.Ytfeepofdnjnkpaa.ClockSets
open Go.RowKit Go.ChangeShapes Go.WideShapes Go.ChangeAt
set_option linter.unusedVariables false

theorem due_no {id d now : Int} (h : now < d) : dueOf [(id, d)] now = [] ∧ leftOf [(id, d)] now = [(id, d)] := by
  have h1 : decide (d ≤ now) = false := decide_eq_false (by omega)
  have h2 : decide (now < d) = true := decide_eq_true h
  constructor
  · unfold dueOf; rw [List.filter_cons, h1]; rfl
  · unfold leftOf; rw [List.filter_cons, h2]; rfl
theorem due_yes {id d now : Int} (h : d ≤ now) : dueOf [(id, d)] now = [id] ∧ leftOf [(id, d)] now = [] := by
  have h1 : decide (d ≤ now) = true := decide_eq_true h
  have h2 : decide (now < d) = false := decide_eq_false (by omega)
  constructor
  · unfold dueOf; rw [List.filter_cons, h1]; rfl
  · unfold leftOf; rw [List.filter_cons, h2]; rfl
theorem drop_no (B gc : Nat) (now id : Int) (w : World) (h : Clk w B gc now []) (hi : I64 id) :
    Calls Try.prog 37 #[.pointer (some ⟨gc, 0, none⟩), .int .i64 id] w fun e w' => e = .returned (.bool false) ∧ Below w.heap.size w w' := by
  have H := Lib.hid h
  clear h
  go_enter Try.func37, Try.ntmps37
  go_wp2_with fail
  refine (place_c B gc now [] id _ H.out (fun p hp => by cases hp) (by simp) hi 0 false (place_nil id)).mono ?_; rintro e w1 ⟨rfl, hb1⟩
  go_wp2
  go_ret
  exact ⟨rfl, hb1⟩
theorem set_one (B gc : Nat) (now : Int) (id t d0 d : Int) (w : World) (h : Clk w B gc now [(id, d0)]) (hi : I64 id) (hd0 : 0 ≤ d0 ∧ d0 ≤ 4194304) (ht : 1 ≤ t ∧ t ≤ 1048576) (hnow : 0 ≤ now ∧ now ≤ 1048576) (hd : now + t = d) :
    Calls Try.prog 31 #[.pointer (some ⟨gc, 0, none⟩), .int .i64 id, .int .i64 t] w fun e w' => e = .returned (.bool true) ∧ Clk w' B gc now [(id, d)] ∧ Ticked B w w' := by
  subst hd
  exact set_has B gc now [(id, d0)] id t w h (one_fine hi hd0) (by simp) hi ht hnow 0 (place_one id d0)

def At (w wx : World) (gc : Nat) (now : Int) (L : List (Int × Int)) : Prop := Clk wx w.heap.size gc now L ∧ Below w.heap.size w wx

set_option maxRecDepth 100000 in
set_option maxHeartbeats 3200000 in
theorem walk (id a1 a2 a3 : Int) (w : World) (h0 : I64 id) (h1 : I64 a1) (h2 : I64 a2) (h3 : I64 a3) :
    Calls Try.prog 10 #[.int .i64 id, .int .i64 a1, .int .i64 a2, .int .i64 a3] w fun e w' => e = .returned (.bool true) ∧ Below w.heap.size w w' := by
  go_enter Try.func10, Try.ntmps10
  go_wp2_with fail
  refine (within_q a1 30 _ h1 (by omega) (by omega)).mono ?_; rintro e w' ⟨qa, rfl, _, qa0, qa1, rfl⟩
  go_wp2_with fail
  refine (within_q a2 30 _ h2 (by omega) (by omega)).mono ?_; rintro e w' ⟨qb, rfl, _, qb0, qb1, rfl⟩
  go_wp2_with fail
  refine (within_q a3 30 _ h3 (by omega) (by omega)).mono ?_; rintro e w' ⟨m, rfl, _, m0, m1, rfl⟩
  go_wp2_with fail
  refine (clock_new_c _).mono ?_; rintro e w1 ⟨gc, rfl, hc1, hb1⟩
  obtain ⟨a, ha⟩ : ∃ n, n = 1 + qa := ⟨_, rfl⟩
  obtain ⟨b, hb⟩ : ∃ n, n = 1 + qb := ⟨_, rfl⟩
  rw [← ha, ← hb]
  have ra : 1 ≤ a ∧ a ≤ 30 := by omega
  have rb : 1 ≤ b ∧ b ≤ 30 := by omega
  clear ha hb
  go_wp2_with fail
  refine (set_nil _ gc 0 id a a _ hc1 h0 (by omega) (by omega) (by omega)).mono ?_; rintro e w2 ⟨rfl, hc2, t2⟩
  have A2 := Lib.hid (show At w w2 gc 0 [(id, a)] from ⟨hc2, hb1.trans t2.b⟩)
  clear hc1 hc2 hb1 t2
  go_upto_block 0 with fail
  go_cut [10] (fun s wx => At w wx gc m [(id, a)])
  case first =>
    go_wp2_with fail
    go_loopw [10] (fun i wr => ∃ k : Nat, i = .int .i64 k ∧ (k : Int) ≤ m ∧ At w wr gc k [(id, a)]) (fun i _ => 400 - (intOf i).toNat)
    case atStart => exact ⟨0, rfl, by omega, A2.out⟩
    case round =>
      obtain ⟨k, rfl, hk, hA⟩ := hrel
      have A := Lib.hid hA
      clear hA
      by_cases hlt : (k : Int) < m
      · go_wp2_with fail
        refine (tick_e _ gc k (k + 1) _ _ A.out.1 (by omega) (by omega) rfl).mono ?_; rintro e w3 ⟨rfl, hc3, t3⟩
        have A3 := Lib.hid (show At w w3 gc ((k : Int) + 1) [(id, a)] from ⟨hc3, A.out.2.trans t3.b⟩)
        clear hc3 t3
        go_wp2_with fail
        go_roundw
        case rel => exact ⟨k + 1, by go_num, by omega, by have := A3.out; rwa [show ((k + 1 : Nat) : Int) = (k : Int) + 1 by omega]⟩
        case measure => simp [intOf]; omega
      · have hkm : (k : Int) = m := by omega
        go_wp2_with fail
        go_meet
        rw [← hkm]
        exact A.out
  case rest =>
    have A := Lib.hid hcut
    clear hcut
    go_wp2_with fail
    refine (set_one _ gc m id b a (m + b) _ A.out.1 h0 (by omega) (by omega) (by omega) rfl).mono ?_; rintro e w4 ⟨rfl, hc4, t4⟩
    have A4 := Lib.hid (show At w w4 gc m [(id, m + b)] from ⟨hc4, A.out.2.trans t4.b⟩)
    have FN := Lib.hid (one_fine (id := id) (d := m + b) h0 (by omega))
    clear hc4 t4
    go_upto_block 2 with fail
    go_cut [11] (fun s wx => At w wx gc (m + b - 1) [(id, m + b)])
    case first =>
      go_wp2_with fail
      go_loopw [11] (fun i wr => ∃ k : Nat, i = .int .i64 k ∧ 1 ≤ k ∧ (k : Int) ≤ b ∧ At w wr gc (m + k - 1) [(id, m + b)]) (fun i _ => 400 - (intOf i).toNat)
      case atStart => exact ⟨1, rfl, by omega, by omega, by have := A4.out; rwa [show m + ((1 : Nat) : Int) - 1 = m by omega]⟩
      case round =>
        obtain ⟨k, rfl, hk1, hk, hA⟩ := hrel
        have A := Lib.hid hA
        clear hA
        by_cases hlt : (k : Int) < b
        · go_wp2_with fail
          refine (tick_e _ gc _ (m + k) _ _ A.out.1 (by omega) (by omega) (by omega)).mono ?_; rintro e w5 ⟨rfl, hc5, t5⟩
          have A5 := Lib.hid (show At w w5 gc (m + k) [(id, m + b)] from ⟨hc5, A.out.2.trans t5.b⟩)
          clear hc5 t5
          go_wp2_with fail
          refine (due_e _ gc (m + k) _ _ A5.out.1 FN.out (by simp) (by omega) [] [(id, m + b)] (due_no (by omega)).1 (due_no (by omega)).2 0 rfl).mono ?_; rintro e w6 ⟨a6, c6, rfl, r6, hc6, t6⟩
          have A6 := Lib.hid (show At w w6 gc (m + k) [(id, m + b)] from ⟨hc6, A5.out.2.trans t6.b⟩)
          clear hc6 t6 r6
          go_wp2_with fail
          go_roundw
          case rel => exact ⟨k + 1, by go_num, by omega, by omega, by have := A6.out; rwa [show m + ((k + 1 : Nat) : Int) - 1 = m + k by omega]⟩
          case measure => simp [intOf]; omega
        · have hkm : (k : Int) = b := by omega
          go_wp2_with fail
          go_meet
          have := A.out
          rwa [hkm] at this
    case rest =>
      have A := Lib.hid hcut
      clear hcut
      go_wp2_with fail
      refine (left_yes _ gc (m + b - 1) [(id, m + b)] id _ A.out.1 FN.out (by simp) h0 0 (place_one id (m + b)) (m + b) ⟨by simp, rfl⟩ (by omega) (by omega) 1 (.inl ⟨by omega, by omega⟩)).mono ?_; rintro e w7 ⟨rfl, hb7⟩
      have A7 := Lib.hid (show At w w7 gc (m + b - 1) [(id, m + b)] from ⟨A.out.1.below hb7, A.out.2.trans (hb7.mono A.out.2.size)⟩)
      clear hb7
      go_wp2_with fail
      refine (tick_e _ gc _ (m + b) _ _ A7.out.1 (by omega) (by omega) (by omega)).mono ?_; rintro e w8 ⟨rfl, hc8, t8⟩
      have A8 := Lib.hid (show At w w8 gc (m + b) [(id, m + b)] from ⟨hc8, A7.out.2.trans t8.b⟩)
      clear hc8 t8
      go_wp2_with fail
      refine (due_e _ gc (m + b) _ _ A8.out.1 FN.out (by simp) (by omega) [id] [] (due_yes (Int.le_refl _)).1 (due_yes (Int.le_refl _)).2 1 rfl).mono ?_; rintro e w9 ⟨a9, c9, rfl, r9, hc9, t9⟩
      have A9 := Lib.hid (show At w w9 gc (m + b) [] from ⟨hc9, A8.out.2.trans t9.b⟩)
      have R9 := Lib.hid r9
      clear hc9 t9 r9
      go_wp2_with fail
      refine (same_int_c a9 1 c9 _ 1 1 [id] _ (R9.out.below ((Below.refl _ _).alloc (Nat.le_refl _) _)) (clock_own_row [id] w9) (by omega)).mono ?_; rintro e w10 ⟨rfl, hb10⟩
      have b910 : Below w9.heap.size w9 w10 := ((Below.refl _ _).alloc (Nat.le_refl _) _).trans (hb10.mono (by simp))
      have A10 := Lib.hid (show At w w10 gc (m + b) [] from ⟨A9.out.1.below b910, A9.out.2.trans (b910.mono A9.out.2.size)⟩)
      clear hb10 b910
      go_wp2_with fail
      refine (set_nil _ gc (m + b) id a (m + b + a) _ A10.out.1 h0 (by omega) (by omega) rfl).mono ?_; rintro e w11 ⟨rfl, hc11, t11⟩
      have A11 := Lib.hid (show At w w11 gc (m + b) [(id, m + b + a)] from ⟨hc11, A10.out.2.trans t11.b⟩)
      clear hc11 t11
      go_wp2_with fail
      refine (drop_one _ gc (m + b) id (m + b + a) _ A11.out.1 (one_fine h0 (by omega)) h0).mono ?_; rintro e w12 ⟨rfl, hc12, t12⟩
      have A12 := Lib.hid (show At w w12 gc (m + b) [] from ⟨hc12, A11.out.2.trans t12.b⟩)
      clear hc12 t12
      go_wp2_with fail
      refine (drop_no _ gc (m + b) id _ A12.out.1 h0).mono ?_; rintro e w13 ⟨rfl, hb13⟩
      have A13 := Lib.hid (show At w w13 gc (m + b) [] from ⟨A12.out.1.below hb13, A12.out.2.trans (hb13.mono A12.out.2.size)⟩)
      clear hb13
      go_upto_block 4 with fail
      go_cut [14] (fun s wx => At w wx gc (m + b + a + 1) [])
      case first =>
        go_wp2_with fail
        go_loopw [14] (fun i wr => ∃ k : Nat, i = .int .i64 k ∧ (k : Int) ≤ a + 1 ∧ At w wr gc (m + b + k) []) (fun i _ => 400 - (intOf i).toNat)
        case atStart => exact ⟨0, rfl, by omega, by have := A13.out; rwa [show m + b + ((0 : Nat) : Int) = m + b by omega]⟩
        case round =>
          obtain ⟨k, rfl, hk, hA⟩ := hrel
          have A := Lib.hid hA
          clear hA
          by_cases hlt : (k : Int) ≤ a
          · go_wp2_with fail
            refine (tick_e _ gc _ (m + b + k + 1) _ _ A.out.1 (by omega) (by omega) rfl).mono ?_; rintro e w14 ⟨rfl, hc14, t14⟩
            have A14 := Lib.hid (show At w w14 gc (m + b + k + 1) [] from ⟨hc14, A.out.2.trans t14.b⟩)
            clear hc14 t14
            go_wp2_with fail
            go_roundw
            case rel => exact ⟨k + 1, by go_num, by omega, by have := A14.out; rwa [show m + b + ((k + 1 : Nat) : Int) = m + b + k + 1 by omega]⟩
            case measure => simp [intOf]; omega
          · have hkm : (k : Int) = a + 1 := by omega
            go_wp2_with fail
            go_meet
            have := A.out
            rwa [hkm, show m + b + (a + 1) = m + b + a + 1 by omega] at this
      case rest =>
        have A := Lib.hid hcut
        clear hcut
        go_wp2_with fail
        refine (due_e _ gc _ _ _ A.out.1 (fun p hp => by cases hp) (by simp) (by omega) [] [] rfl rfl 0 rfl).mono ?_; rintro e w15 ⟨a15, c15, rfl, r15, hc15, t15⟩
        have hb15 := A.out.2.trans t15.b
        clear r15 hc15 t15
        go_wp2_with fail
        refine (ckwakes_c _).mono ?_; rintro e w16 ⟨rfl, hb16⟩
        go_wp2
        go_ret
        exact ⟨rfl, hb15.trans (hb16.mono hb15.size)⟩

theorem lawWalk : LawWalk Try.checked 10 Try.f10 := by
  intro H enc W base args ds p hval hA hsz
  rw [Try.params10] at hA hval
  obtain ⟨v0, vs0, d0, ds0, p0, q0, hargs, rfl, rfl, h0, r0⟩ := trodAll_cons hA
  obtain ⟨v1, vs1, d1, ds1, p1, q1, rfl, rfl, rfl, h1, r1⟩ := trodAll_cons r0
  obtain ⟨v2, vs2, d2, ds2, p2, q2, rfl, rfl, rfl, h2, r2⟩ := trodAll_cons r1
  obtain ⟨v3, vs3, d3, ds3, p3, q3, rfl, rfl, rfl, h3, r3⟩ := trodAll_cons r2
  obtain ⟨rfl, rfl, rfl⟩ := trodAll_nil r3
  obtain rfl : args = #[v0, v1, v2, v3] := by cases args; simp_all
  obtain ⟨a0, rfl, rfl, rfl, w0⟩ := open_int Try.underlying3 (hval 0 3 v0 rfl rfl) h0
  obtain ⟨a1, rfl, rfl, rfl, w1⟩ := open_int Try.underlying3 (hval 1 3 v1 rfl rfl) h1
  obtain ⟨a2, rfl, rfl, rfl, w2⟩ := open_int Try.underlying3 (hval 2 3 v2 rfl rfl) h2
  obtain ⟨a3, rfl, rfl, rfl, w3⟩ := open_int Try.underlying3 (hval 3 3 v3 rfl rfl) h3
  exact walk a0 a1 a2 a3 W (I64.of_wf w0) (I64.of_wf w1) (I64.of_wf w2) (I64.of_wf w3)

theorem lifted (os : Os) (started : os.Started) (H : Type) (enc : TypeId × Value → H) :
    ReturnsInHanded {} Try.checked os 10 .any (Rows.clockSetsSpec.pre6 enc Try.prog Try.f10 Rows.clockSetsRow.domain false) (Rows.clockSetsSpec.post enc Try.prog Try.f10 false true false false) :=
  law_lift (C := Try.checked) (s := Rows.clockSetsSpec) (tb := 4) (by kernel_rfl) started (by kernel_rfl) Try.func10
    (ChangeSpec.witness6 (enc := enc) (C := Try.checked) false ⟨#[], #[.int .i64 0, .int .i64 0, .int .i64 0, .int .i64 0], []⟩ 8 (by kernel_rfl) (by kernel_rfl) (by kernel_rfl) (by kernel_rfl))
    rfl (fun H ds h => by
      match ds, h with
      | [d0, d1, d2, d3], _ => rfl) (by kernel_rfl) (by kernel_rfl) (by kernel_rfl) Try.underlying4 lawWalk

theorem over : Rows.clockSetsRow.holds Try.pinned (OpenSpec.ofChange Rows.clockSetsSpec) :=
  OpenClaim.holds_of_wide 10 Try.f10 rfl rfl rfl rfl rfl rfl rfl ⟨rfl, rfl, rfl, rfl, rfl⟩ rfl rfl rfl rfl rfl (by kernel_rfl) Try.func10 (by kernel_rfl)
    (of_decide_eq_true (by kernel_rfl)) (by unfold Func.isWrapper; first | (rw [if_pos (by decide +kernel)]; kernel_rfl) | (rw [if_neg (by decide +kernel)]; exact ⟨rfl, rfl⟩))
    (fun os started H enc _ => lifted os started H enc)

/-- The statement. -/
theorem proved : Rows.ClockSetsSaid := over
#print axioms proved

end Go.Proofs.Ytfeepofdnjnkpaa.ClockSets
