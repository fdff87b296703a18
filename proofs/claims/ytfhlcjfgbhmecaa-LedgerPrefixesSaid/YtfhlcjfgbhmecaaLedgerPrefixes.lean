/- LedgerPrefixes: for all logs and numbers the law returns true. No condition. -/
import Derived.Test.YtfhlcjfgbhmecaaLedgerO
import Derived.Test.YtfhlcjfgbhmecaaKeep
import Derived.Test.YtfhlcjfgbhmecaaDeep
import Derived.Test.YtfhlcjfgbhmecaaRows
namespace Go.Proofs.Ytfhlcjfgbhmecaa.LedgerPrefixes
open Go.RowKit Go.ChangeShapes Go.WideShapes Go.ChangeAt
set_option linter.unusedVariables false

set_option maxRecDepth 100000 in
set_option maxHeartbeats 3200000 in
theorem walk (a1 : Option Addr) (n1 c1 : Nat) (g1 : Nat → Int) (a2 : Option Addr) (n2 c2 : Nat) (g2 : Nat → Int) (ct : Int) (w : World) (hr1 : Flat w a1 n1 7 g1) (hm1 : n1 ≤ maxLen) (hc1 : n1 ≤ c1) (hr2 : Flat w a2 n2 7 g2) (hm2 : n2 ≤ maxLen) (hc2 : n2 ≤ c2) (hct : I64 ct) :
    Calls Try.prog 5 #[.slice a1 n1 c1, .slice a2 n2 c2, .int .i64 ct] w fun e w' => e = .returned (.bool true) ∧ Below w.heap.size w w' := by
  unfold maxLen at hm1 hm2
  obtain ⟨E1, l1, v1, _⟩ := flat_ents hr1
  obtain ⟨E2, l2, v2, _⟩ := flat_ents hr2
  have V1 := Lib.hid v1
  have V2 := Lib.hid v2
  have L1 := Lib.hid l1
  have L2 := Lib.hid l2
  clear hr1 hr2 v1 v2 l1 l2
  go_enter Try.func5, Try.ntmps5
  rcases (show 60 < n1 ∨ (¬ 60 < n1 ∧ 60 < n2) ∨ (n1 ≤ 60 ∧ n2 ≤ 60) by omega) with h60 | ⟨h60, h61⟩ | ⟨h60, h61⟩
  case' inr.inr =>
    obtain ⟨b1, hb1⟩ := iff_bool (E1.take n2 = E2.take n1)
    have B1 := Lib.hid hb1
    have B2 := Lib.hid (show b1 = true ↔ E2.take n1 = E1.take n2 from hb1.trans eq_comm)
    have eb : (b1 == b1) = true := by simp
    clear hb1
    go_wp2_with fail
    refine (within_q ct (n1 + 1) _ hct (by omega) (by omega)).mono ?_; rintro e w' ⟨q, rfl, _, q0, q1, rfl⟩
    obtain ⟨k, rfl⟩ := Int.eq_ofNat_of_zero_le q0
    have hk : k ≤ n1 := by omega
    have sl : ∀ w : World, (Instr.slice 34 (.slice a1 n1 c1) none (some (.int .i64 k)) none).run Try.prog w = .ok (.slice a1 k c1) w := to_any (P := Try.prog) 34 38 7 Try.underlying34 (by kernel_rfl) size_entry a1 n1 c1 k hk hc1
    have VK := Lib.hid (show VRow w a1 k 7 ((E1.take k).flatMap ecell) by rw [← flat_take ecell 7 ecell_len]; exact V1.out.take hk)
    have LK := Lib.hid (show (E1.take k).length = k by rw [List.length_take, L1.out]; omega)
    have BK1 := Lib.hid (show E1.take k = (E1.take k).take n1 by rw [List.take_take, Nat.min_eq_right hk])
    have BK2 := Lib.hid (show (E1.take k).take n1 = E1.take k by rw [List.take_take, Nat.min_eq_right hk])
    go_wp2_with fail
    refine (prefix_c a1 n1 c1 a2 n2 c2 E1 E2 _ V1.out V2.out L1.out L2.out (by omega) (by omega) b1 B1.out).mono ?_; rintro e w1 ⟨rfl, hb1⟩
    have P1 := Lib.hid hb1
    clear hb1
    go_wp2_with fail
    refine (rprefix_c a1 n1 c1 a2 n2 c2 E1 E2 _ (V1.out.below P1.out) (V2.out.below P1.out) L1.out L2.out (by omega) (by omega) b1 B1.out).mono ?_; rintro e w2 ⟨rfl, hb2⟩
    have P2 := Lib.hid (P1.out.trans (hb2.mono P1.out.size))
    clear hb2
    go_wp2_with fail
    refine (prefix_c a1 n1 c1 a1 k c1 E1 (E1.take k) _ (V1.out.below P2.out) (VK.out.below P2.out) L1.out LK.out (by omega) (by omega) true (iff_of_true rfl BK1.out)).mono ?_; rintro e w3 ⟨rfl, hb3⟩
    have P3 := Lib.hid (P2.out.trans (hb3.mono P2.out.size))
    clear hb3
    go_wp2_with fail
    refine (prefix_c a1 k c1 a1 n1 c1 (E1.take k) E1 _ (VK.out.below P3.out) (V1.out.below P3.out) LK.out L1.out (by omega) (by omega) true (iff_of_true rfl BK2.out)).mono ?_; rintro e w4 ⟨rfl, hb4⟩
    have P4 := Lib.hid (P3.out.trans (hb4.mono P3.out.size))
    clear hb4
    go_wp2_with fail
    refine (prefix_c a2 n2 c2 a1 n1 c1 E2 E1 _ (V2.out.below P4.out) (V1.out.below P4.out) L2.out L1.out (by omega) (by omega) b1 B2.out).mono ?_; rintro e w5 ⟨rfl, hb5⟩
    have P5 := Lib.hid (P4.out.trans (hb5.mono P4.out.size))
    clear hb5
    go_wp2_with fail
    refine (prefix_c a1 n1 c1 a2 n2 c2 E1 E2 _ (V1.out.below P5.out) (V2.out.below P5.out) L1.out L2.out (by omega) (by omega) b1 B1.out).mono ?_; rintro e w6 ⟨rfl, hb6⟩
    have P6 := Lib.hid (P5.out.trans (hb6.mono P5.out.size))
    clear hb6
    go_wp2_with fail
    refine (lwakes_c _).mono ?_; rintro e w7 ⟨rfl, hb7⟩
    go_wp2
    go_ret
    exact ⟨rfl, P6.out.trans (hb7.mono P6.out.size)⟩
  all_goals
    go_wp2_with fail
    refine (lwakes_c _).mono ?_; rintro e w7 ⟨rfl, hb7⟩
    go_wp2
    go_ret
    exact ⟨rfl, hb7⟩

set_option maxRecDepth 100000 in
theorem lawWalk : LawWalk Try.checked 5 Try.f5 := by
  intro H enc W base args ds p hval hA hsz
  rw [Try.params5] at hA hval
  obtain ⟨v0, vs0, d0, ds0, p0, q0, hargs, rfl, rfl, h0, r0⟩ := trodAll_cons hA
  obtain ⟨v1, vs1, d1, ds1, p1, q1, rfl, rfl, rfl, h1, r1⟩ := trodAll_cons r0
  obtain ⟨v2, vs2, d2, ds2, p2, q2, rfl, rfl, rfl, h2, r2⟩ := trodAll_cons r1
  obtain ⟨rfl, rfl, rfl⟩ := trodAll_nil r2
  obtain rfl : args = #[v0, v1, v2] := by cases args; simp_all
  obtain ⟨a0, n0, c0, g0, rfl, hnc0, hcm0, hr0⟩ := open_flatD (k := 7) Try.underlying34 (by kernel_rfl) (by decide) (by kernel_rfl) (hval 0 34 v0 rfl rfl) h0
  obtain ⟨a1, n1, c1, g1, rfl, hnc1, hcm1, hr1⟩ := open_flatD (k := 7) Try.underlying34 (by kernel_rfl) (by decide) (by kernel_rfl) (hval 1 34 v1 rfl rfl) h1
  obtain ⟨a2, rfl, rfl, rfl, w2⟩ := open_int Try.underlying3 (hval 2 3 v2 rfl rfl) h2
  exact walk a0 n0 c0 g0 a1 n1 c1 g1 a2 W hr0 (Nat.le_trans hnc0 hcm0) hnc0 hr1 (Nat.le_trans hnc1 hcm1) hnc1 (I64.of_wf w2)

theorem lifted (os : Os) (started : os.Started) (H : Type) (enc : TypeId × Value → H) :
    ReturnsInHanded {} Try.checked os 5 .any (Rows.ledgerPrefixesSpec.pre6 enc Try.prog Try.f5 Rows.ledgerPrefixesRow.domain false) (Rows.ledgerPrefixesSpec.post enc Try.prog Try.f5 false true false false) :=
  law_lift (C := Try.checked) (s := Rows.ledgerPrefixesSpec) (tb := 4) (by kernel_rfl) started (by kernel_rfl) Try.func5
    (ChangeSpec.witness6 (enc := enc) (C := Try.checked) false ⟨#[], #[.slice none 0 0, .slice none 0 0, .int .i64 0], []⟩ 8 (by kernel_rfl) (by kernel_rfl) (by kernel_rfl) (by kernel_rfl))
    rfl (fun H ds h => by
      match ds, h with
      | [d0, d1, d2], _ => rfl) (by kernel_rfl) (by kernel_rfl) (by kernel_rfl) Try.underlying4 lawWalk

theorem over : Rows.ledgerPrefixesRow.holds Try.pinned (OpenSpec.ofChange Rows.ledgerPrefixesSpec) :=
  OpenClaim.holds_of_wide 5 Try.f5 rfl rfl rfl rfl rfl rfl rfl ⟨rfl, rfl, rfl, rfl, rfl⟩ rfl rfl rfl rfl rfl (by kernel_rfl) Try.func5 (by kernel_rfl)
    (of_decide_eq_true (by kernel_rfl)) (by unfold Func.isWrapper; first | (rw [if_pos (by decide +kernel)]; kernel_rfl) | (rw [if_neg (by decide +kernel)]; exact ⟨rfl, rfl⟩))
    (fun os started H enc _ => lifted os started H enc)

/-- The statement. -/
theorem proved : Rows.LedgerPrefixesSaid := over
#print axioms proved

end Go.Proofs.Ytfhlcjfgbhmecaa.LedgerPrefixes
