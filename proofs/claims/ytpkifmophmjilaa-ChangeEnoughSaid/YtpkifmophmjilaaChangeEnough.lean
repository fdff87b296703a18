/- ChangeEnough: for all numbers and lists of acts the law returns true. No condition. -/
import Derived.Test.YtpkifmophmjilaaChangeR
import Derived.Test.YtpkifmophmjilaaRows
import Derived.BigQuiet
import Derived.StillTactics
namespace Go.Proofs.Ytpkifmophmjilaa.ChangeEnough
open Go.RowKit Go.ChangeShapes Go.WideShapes Go.ChangeAt
set_option linter.unusedVariables false

structure At (w wr : World) (gv gl : Nat) (f : Int) (N : Nat) (L : List Vt) : Prop where
  v : Votes wr gv gl f L
  len : L.length = N
  b : Below w.heap.size w wr
theorem At.below {w wr wx : World} {gv gl N : Nat} {f : Int} {L : List Vt} (h : At w wr gv gl f N L) (hb : Below wr.heap.size wr wx) : At w wx gv gl f N L :=
  ⟨h.v.below hb, h.len, h.b.trans (hb.mono h.b.size)⟩
theorem within_at (v n q : Int) (w : World) (hv : I64 v) (hn : 1 ≤ n) (hn2 : n ≤ 4611686018427387904) (hq : v % n = q) :
    Calls Try.prog 19 #[.int .i64 v, .int .i64 n] w fun e w' => e = .returned (.int .i64 q) ∧ w = w' := by
  subst hq
  exact within_keep v n w hv hn hn2

set_option maxRecDepth 100000 in
set_option maxHeartbeats 3200000 in
theorem walk (f0 : Int) (a : Option Addr) (n c : Nat) (g : Nat → Int) (w : World) (hf : I64 f0) (hr : Flat w a n 4 g) (hm : n ≤ maxLen) :
    Calls Try.prog 7 #[.int .i64 f0, .slice a n c] w fun e w' => e = .returned (.bool true) ∧ Below w.heap.size w w' := by
  unfold maxLen at hm
  have hR := Lib.hid hr
  clear hr
  go_enter Try.func7, Try.ntmps7
  go_wp2_with fail
  refine (within_q f0 4 _ hf (by omega) (by omega)).mono ?_; rintro e w' ⟨qf, rfl, _, qf0, qf1, rfl⟩
  obtain ⟨f, hf'⟩ : ∃ f, f = 1 + qf := ⟨_, rfl⟩
  have f1 : 1 ≤ f := by omega
  have f4 : f ≤ 4 := by omega
  obtain ⟨N, hN⟩ : ∃ N : Nat, 3 * f + 1 = N := ⟨(3 * f + 1).toNat, by omega⟩
  obtain ⟨q, hq⟩ : ∃ q : Nat, 2 * f + 1 = q := ⟨(2 * f + 1).toNat, by omega⟩
  have HN := Lib.hid hN
  have HQ := Lib.hid hq
  have N13 : N ≤ 13 := by omega
  have N1 : 1 ≤ N := by omega
  have QN := Lib.hid (show N < 2 * q ∧ q ≤ 9 by omega)
  go_wp2_with fail
  rw [← hf']
  clear hN hf' qf0 qf1 hq
  refine (vnew_ok f N ⟨f1, f4⟩ HN.out _).mono ?_; rintro e w1 ⟨gv, gl, rfl, hV, hg1, hg2, hb1⟩
  have A1 := Lib.hid (show At w w1 gv gl f N (List.replicate N (false, 0, 0)) from ⟨hV, List.length_replicate, hb1⟩)
  have G2 := Lib.hid hg2
  clear hV hg1 hg2 hb1
  go_wp2_with fail
  go_loopw [7] (fun i wr => ∃ k : Nat, k ≤ n ∧ k ≤ 100 ∧ i = .int .i64 k ∧ ∃ L, At w wr gv gl f N L) (fun i _ => n - (intOf i).toNat)
  case atStart => exact ⟨0, by omega, by omega, rfl, _, A1.out⟩
  case round =>
    obtain ⟨k, hkn, hk60, rfl, L, hA⟩ := hrel
    have A := Lib.hid hA
    have HL := Lib.hid (show L.length ≤ 13 by rw [hA.len]; exact N13)
    rcases (show (k < n ∧ k < 100) ∨ (¬ k < n) ∨ (k < n ∧ ¬ k < 100) by omega) with ⟨hlt, h60⟩ | hlt | ⟨hlt, h60⟩
    · obtain ⟨hi64, hrow⟩ := hR.out
      obtain ⟨b, off, rfl, hbl, hcell⟩ := hrow (by omega)
      have cw : ∀ j, j < 4 → wr.cell? ⟨b, off + k * 4 + j, none⟩ = some (.int .i64 (g (k * 4 + j))) := fun j hj => by
        rw [hA.b.cell (p := ⟨b, off + k * 4 + j, none⟩) hbl, Nat.add_assoc]
        exact hcell _ (by omega)
      have x1 := hi64 (k * 4 + 1)
      have x2 := hi64 (k * 4 + 2)
      have c1 := cw 1 (by omega)
      have c2 := cw 2 (by omega)
      have c3 := cw 3 (by omega)
      obtain ⟨u1, hu1⟩ : ∃ u, u = g (k * 4 + 1) := ⟨_, rfl⟩
      obtain ⟨u2, hu2⟩ : ∃ u, u = g (k * 4 + 2) := ⟨_, rfl⟩
      obtain ⟨u3, hu3⟩ : ∃ u, u = g (k * 4 + 3) := ⟨_, rfl⟩
      rw [← hu1] at c1 x1
      rw [← hu2] at c2 x2
      rw [← hu3] at c3
      have i0 : (0 : Int) ≤ k := by omega
      have i1 : (k : Int) < n := by omega
      obtain ⟨nd, hnd⟩ : ∃ nd, u1 % (N : Int) = nd := ⟨_, rfl⟩
      obtain ⟨vw, hvw⟩ : ∃ vw, u2 % (3 : Int) = vw := ⟨_, rfl⟩
      have ndi : I64 nd := by unfold I64; have := Int.emod_nonneg u1 (show (N : Int) ≠ 0 by omega); have := Int.emod_lt_of_pos u1 (show (0 : Int) < N by omega); omega
      have vwi : I64 vw := by unfold I64; omega
      have HD := Lib.hid hnd
      have HW := Lib.hid hvw
      obtain ⟨ok, hok⟩ : ∃ t, vputB L nd vw = t := ⟨_, rfl⟩
      obtain ⟨L', hL'⟩ : ∃ t, vputSt L nd vw u3 = t := ⟨_, rfl⟩
      have HOK := Lib.hid hok
      have HL' := Lib.hid hL'
      have hcm := hA.b
      clear hA cw hrow hcell hu1 hu2 hu3 hok hL' hnd hvw
      go_wp2_with fail
      go_still_tail 20, (by kernel_rfl)
      still_call ((rnodes_e f N HN.out _ f1 f4).mono fun e w' ⟨he, hw⟩ => ⟨he, hw.symm⟩)
      repeat still_step
      still_call ((within_at u1 N nd _ x1 (by omega) (by omega) HD.out).mono fun e w' ⟨he, hw⟩ => ⟨he, hw.symm⟩)
      repeat still_step
      still_call ((within_at u2 3 vw _ x2 (by omega) (by omega) HW.out).mono fun e w' ⟨he, hw⟩ => ⟨he, hw.symm⟩)
      repeat still_step
      refine wpStill_nil ?_
      change wpList _ _ _ _ _ wr.drew
      go_wp2_with fail
      refine (vput_c gv gl f L nd vw u3 _ A.out.v.drew HL.out ndi vwi ok HOK.out L' HL'.out).mono ?_
      rintro e w3 ⟨rfl, hV3, ho3⟩
      have A3 := Lib.hid (show At w w3 gv gl f N L' from ⟨hV3, by rw [← HL'.out, vputSt_len]; exact A.out.len, ho3.below hcm.drew hcm.size (by simpa using G2.out)⟩)
      have HL3 := Lib.hid (show L'.length ≤ 13 by rw [A3.out.len]; exact N13)
      clear c1 c2 c3 hV3 ho3 hcm x1 x2 ndi vwi
      go_wp2_with fail
      go_loopw [8, 9] (fun s i wr => ∃ v m : Nat, v ≤ 3 ∧ i = .int .i64 v ∧ s = .int .i64 m ∧ m ≤ 1 ∧ (m = 1 → ∃ v' : Int, v' < v ∧ q ≤ (mat v' L' L'.length).length) ∧ At w wr gv gl f N L') (fun _ i _ => 3 - (intOf i).toNat)
      case atStart => exact ⟨0, 0, by omega, rfl, rfl, by omega, by omega, A3.out⟩
      case round =>
        obtain ⟨v, m, hv, rfl, rfl, hm1, hex, hA5⟩ := hrel
        have A5 := Lib.hid hA5
        have EX := Lib.hid hex
        clear hA5 hex
        by_cases hv3 : v < 3
        · have vi : I64 (v : Int) := by unfold I64; omega
          obtain ⟨eb, heb⟩ : ∃ eb, decide (q ≤ (mat (v : Int) L' L'.length).length) = eb := ⟨_, rfl⟩
          obtain ⟨E, hE⟩ : ∃ E, (if eb then (mat (v : Int) L' L'.length).take q else []) = E := ⟨_, rfl⟩
          obtain ⟨me, hme⟩ : ∃ me, E.length = me := ⟨_, rfl⟩
          have EB := Lib.hid heb
          have EE := Lib.hid hE
          have EM := Lib.hid hme
          clear heb hE hme
          go_wp2_with fail
          refine (enough_c gv gl f L' v _ A5.out.v HL3.out vi ⟨f1, f4⟩ q HQ.out eb EB.out E EE.out me EM.out).mono ?_; rintro e w6 ⟨a6, c6, rfl, ho6, hb6⟩
          have O6 := Lib.hid ho6
          have A6 := Lib.hid (A5.out.below hb6)
          clear ho6 hb6
          cases eb
          · have me0 : me = 0 := by rw [← EM.out, ← EE.out]; rfl
            subst me0
            have q1 : 1 ≤ q := by have := QN.out; omega
            go_wp2_with fail
            refine (rising_no a6 0 c6 f q N ⟨f1, f4⟩ HQ.out HN.out (by omega) (by omega) _).mono ?_; rintro e w' ⟨rfl, rfl⟩
            go_wp2_with fail
            refine ⟨⟨v + 1, m, by omega, by go_num, rfl, hm1, fun h => ?_, A6.out⟩, by simp [intOf]; omega⟩
            obtain ⟨v', h1, h2⟩ := EX.out h
            exact ⟨v', by omega, h2⟩
          · have hq2 := of_decide_eq_true EB.out
            have m0 : m = 0 := by
              rcases (show m = 0 ∨ m = 1 by omega) with h | h
              · exact h
              · obtain ⟨v', h1, h2⟩ := EX.out h
                have := mat_two (show v' ≠ (v : Int) by omega) L' L'.length (Nat.le_refl _)
                have := QN.out
                have := A3.out.len
                omega
            have hE : (mat (v : Int) L' L'.length).take q = E := EE.out
            have meq : me = q := by rw [← EM.out, ← hE, List.length_take]; omega
            have ME := Lib.hid (show ∀ p ∈ E, 0 ≤ p.1 ∧ p.1 < (N : Int) from fun p hp => by
              have := mat_mem p (List.mem_of_mem_take (by rw [hE]; exact hp))
              have := A3.out.len
              omega)
            have MU := Lib.hid (show E.Pairwise (fun a b => a.1 < b.1) by rw [← hE]; exact (mat_up _ L' _ (Nat.le_refl _)).sublist (List.take_sublist _ _))
            have HQ2 := Lib.hid hq2
            clear hE hq2
            subst m0
            subst meq
            go_wp2_with fail
            refine (rising_yes a6 me c6 E f me N ⟨f1, f4⟩ HQ.out HN.out rfl _ (own_vrow O6.out) EM.out ME.out MU.out).mono ?_; rintro e w7 ⟨rfl, hb7⟩
            have A7 := Lib.hid (A6.out.below hb7)
            clear hb7
            go_wp2_with fail
            refine ⟨⟨v + 1, 1, by omega, by go_num, rfl, by omega, fun _ => ⟨v, by omega, HQ2.out⟩, A7.out⟩, by simp [intOf]; omega⟩
        · have m1 : (m : Int) ≤ 1 := by omega
          go_wp2_with fail
          refine ⟨⟨k + 1, by omega, by omega, by go_num, L', A5.out⟩, by simp [intOf]; omega⟩
    all_goals
      go_wp2_with fail
      refine (vwakes_c _).mono ?_; rintro e w7 ⟨rfl, hb7⟩
      go_wp2
      go_ret
      exact ⟨rfl, hA.b.trans (hb7.mono hA.b.size)⟩

set_option maxRecDepth 100000 in
theorem lawWalk : LawWalk Try.checked 7 Try.f7 := by
  intro H enc W base args ds p hval hA hsz
  rw [Try.params7] at hA hval
  obtain ⟨v0, vs0, d0, ds0, p0, q0, hargs, rfl, rfl, h0, r0⟩ := trodAll_cons hA
  obtain ⟨v1, vs1, d1, ds1, p1, q1, rfl, rfl, rfl, h1, r1⟩ := trodAll_cons r0
  obtain ⟨rfl, rfl, rfl⟩ := trodAll_nil r1
  obtain rfl : args = #[v0, v1] := by cases args; simp_all
  obtain ⟨a0, rfl, rfl, rfl, w0⟩ := open_int Try.underlying3 (hval 0 3 v0 rfl rfl) h0
  obtain ⟨a1, n1, c1, g1, rfl, hnc1, hcm1, hr1⟩ := open_flat Try.underlying56 Try.underlying63 (by kernel_rfl) (by kernel_rfl) (by decide) (by kernel_rfl) (hval 1 56 v1 rfl rfl) h1
  exact walk a0 a1 n1 c1 g1 W (I64.of_wf w0) hr1 (Nat.le_trans hnc1 hcm1)

theorem lifted (os : Os) (started : os.Started) (H : Type) (enc : TypeId × Value → H) :
    ReturnsInHanded {} Try.checked os 7 .any (Rows.changeEnoughSpec.pre6 enc Try.prog Try.f7 Rows.changeEnoughRow.domain false) (Rows.changeEnoughSpec.post enc Try.prog Try.f7 false true false false) :=
  law_lift (C := Try.checked) (s := Rows.changeEnoughSpec) (tb := 4) (by kernel_rfl) started (by kernel_rfl) Try.func7
    (ChangeSpec.witness6 (enc := enc) (C := Try.checked) false ⟨#[], #[.int .i64 0, .slice none 0 0], []⟩ 8 (by kernel_rfl) (by kernel_rfl) (by kernel_rfl) (by kernel_rfl))
    rfl (fun H ds h => by
      match ds, h with
      | [d0, d1], _ => rfl) (by kernel_rfl) (by kernel_rfl) (by kernel_rfl) Try.underlying4 lawWalk

theorem over : Rows.changeEnoughRow.holds Try.pinned (OpenSpec.ofChange Rows.changeEnoughSpec) :=
  OpenClaim.holds_of_wide 7 Try.f7 rfl rfl rfl rfl rfl rfl rfl ⟨rfl, rfl, rfl, rfl, rfl⟩ rfl rfl rfl rfl rfl (by kernel_rfl) Try.func7 (by kernel_rfl)
    (of_decide_eq_true (by kernel_rfl)) (by unfold Func.isWrapper; first | (rw [if_pos (by decide +kernel)]; kernel_rfl) | (rw [if_neg (by decide +kernel)]; exact ⟨rfl, rfl⟩))
    (fun os started H enc _ => lifted os started H enc)

/-- The statement. -/
theorem proved : Rows.ChangeEnoughSaid := over
#print axioms proved

end Go.Proofs.Ytpkifmophmjilaa.ChangeEnough
