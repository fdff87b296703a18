/- ChangeRises: for all numbers and lists of acts the law returns true. No condition. -/
import Derived.Test.YtpkifmophmjilaaChangeW
import Derived.Test.YtpkifmophmjilaaRows
import Derived.BigQuiet
import Derived.StillTactics
namespace Go.Proofs.Ytpkifmophmjilaa.ChangeRises
open Go.RowKit Go.ChangeShapes Go.WideShapes Go.ChangeAt
set_option linter.unusedVariables false

structure At (w wr : World) (gv gl : Nat) (f : Int) (N : Nat) (L : List Vt) : Prop where
  v : Votes wr gv gl f L
  len : L.length = N
  fine : VFine L
  b : Below w.heap.size w wr

set_option maxRecDepth 100000 in
set_option maxHeartbeats 3200000 in
theorem walk (f0 : Int) (a : Option Addr) (n c : Nat) (g : Nat → Int) (nd : Int) (w : World) (hf : I64 f0) (hr : Flat w a n 4 g) (hm : n ≤ maxLen) (hnd : I64 nd) :
    Calls Try.prog 11 #[.int .i64 f0, .slice a n c, .int .i64 nd] w fun e w' => e = .returned (.bool true) ∧ Below w.heap.size w w' := by
  unfold maxLen at hm
  have hR := Lib.hid hr
  clear hr
  go_enter Try.func11, Try.ntmps11
  go_wp2_with fail
  refine (within_q f0 4 _ hf (by omega) (by omega)).mono ?_; rintro e w' ⟨qf, rfl, _, qf0, qf1, rfl⟩
  obtain ⟨f, hf'⟩ : ∃ f, f = 1 + qf := ⟨_, rfl⟩
  have f1 : 1 ≤ f := by omega
  have f4 : f ≤ 4 := by omega
  obtain ⟨N, hN⟩ : ∃ N : Nat, 3 * f + 1 = N := ⟨(3 * f + 1).toNat, by omega⟩
  have HN := Lib.hid hN
  have N13 : N ≤ 13 := by omega
  have N1 : 1 ≤ N := by omega
  go_wp2_with fail
  rw [← hf']
  clear hN hf' qf0 qf1
  refine (rnodes_e f N HN.out _ f1 f4).mono ?_; rintro e w' ⟨rfl, rfl⟩
  go_wp2_with fail
  refine (within_q nd N _ hnd (by omega) (by omega)).mono ?_; rintro e w' ⟨q, rfl, _, q0, q1, rfl⟩
  have hqi : I64 q := by unfold I64; omega
  go_wp2_with fail
  refine (vnew_ok f N ⟨f1, f4⟩ HN.out _).mono ?_; rintro e w1 ⟨gv, gl, rfl, hV, hg1, hg2, hb1⟩
  have A1 := Lib.hid (show At w w1 gv gl f N (List.replicate N (false, 0, 0)) from ⟨hV, List.length_replicate, VFine.new N, hb1⟩)
  have G2 := Lib.hid hg2
  clear hV hg1 hg2 hb1
  go_wp2_with fail
  go_loopw [9] (fun i wr => ∃ k : Nat, k ≤ n ∧ k ≤ 60 ∧ i = .int .i64 k ∧ ∃ L, At w wr gv gl f N L) (fun i _ => n - (intOf i).toNat)
  case atStart => exact ⟨0, by omega, by omega, rfl, _, A1.out⟩
  case round =>
    obtain ⟨k, hkn, hk60, rfl, L, hA⟩ := hrel
    have A := Lib.hid hA
    have HL := Lib.hid (show L.length ≤ 13 by rw [hA.len]; exact N13)
    rcases (show (k < n ∧ k < 60) ∨ (¬ k < n) ∨ (k < n ∧ ¬ k < 60) by omega) with ⟨hlt, h60⟩ | hlt | ⟨hlt, h60⟩
    · obtain ⟨hi64, hrow⟩ := hR.out
      obtain ⟨b, off, rfl, hbl, hcell⟩ := hrow (by omega)
      have cw : ∀ j, j < 4 → wr.cell? ⟨b, off + k * 4 + j, none⟩ = some (.int .i64 (g (k * 4 + j))) := fun j hj => by
        rw [hA.b.cell (p := ⟨b, off + k * 4 + j, none⟩) hbl, Nat.add_assoc]
        exact hcell _ (by omega)
      have x1 := hi64 (k * 4 + 1)
      have x2 := hi64 (k * 4 + 2)
      have x3 := hi64 (k * 4 + 3)
      have c1 := cw 1 (by omega)
      have c2 := cw 2 (by omega)
      have c3 := cw 3 (by omega)
      obtain ⟨u1, hu1⟩ : ∃ u, u = g (k * 4 + 1) := ⟨_, rfl⟩
      obtain ⟨u2, hu2⟩ : ∃ u, u = g (k * 4 + 2) := ⟨_, rfl⟩
      obtain ⟨u3, hu3⟩ : ∃ u, u = g (k * 4 + 3) := ⟨_, rfl⟩
      rw [← hu1] at c1 x1
      rw [← hu2] at c2 x2
      rw [← hu3] at c3 x3
      have i0 : (0 : Int) ≤ k := by omega
      have i1 : (k : Int) < n := by omega
      obtain ⟨b0, hb0⟩ : ∃ t, vviewB L q = t := ⟨_, rfl⟩
      obtain ⟨z0, hz0⟩ : ∃ t, vviewOf L q = t := ⟨_, rfl⟩
      obtain ⟨ok, hok⟩ : ∃ t, vputB L u1 u2 = t := ⟨_, rfl⟩
      obtain ⟨L', hL'⟩ : ∃ t, vputSt L u1 u2 u3 = t := ⟨_, rfl⟩
      obtain ⟨b1, hb1⟩ : ∃ t, vviewB L' q = t := ⟨_, rfl⟩
      obtain ⟨z1, hz1⟩ : ∃ t, vviewOf L' q = t := ⟨_, rfl⟩
      have HB0 := Lib.hid hb0
      have HZ0 := Lib.hid hz0
      have HOK := Lib.hid hok
      have HL' := Lib.hid hL'
      have HB1 := Lib.hid hb1
      have HZ1 := Lib.hid hz1
      have sw : (¬ u1 = q ∧ b1 = b0 ∧ z1 = z0) ∨ (u1 = q ∧ ok = true ∧ b1 = true ∧ z1 = u2 ∧ (b0 && decide (u2 ≤ z0)) = false) ∨ (u1 = q ∧ ok = false ∧ b1 = b0 ∧ z1 = z0) := by
        by_cases he : u1 = q
        · subst he
          cases ok
          · have := vput_no u3 hok
            rw [hL'] at this
            subst this
            exact .inr (.inr ⟨rfl, rfl, by rw [← hb1, ← hb0], by rw [← hz1, ← hz0]⟩)
          · have hat := vput_at u3 hok
            rw [hL'] at hat
            obtain ⟨h1, h2, h3⟩ := vputB_facts hok
            have e1 : vviewB L' u1 = true := by
              unfold vviewB
              rw [hat, ← hL', vputSt_len, decide_eq_true h1]
              rfl
            refine .inr (.inl ⟨rfl, rfl, by rw [← hb1, e1], by rw [← hz1]; unfold vviewOf; rw [e1, hat]; rfl, ?_⟩)
            rw [← hb0, ← hz0]
            unfold vviewOf
            unfold vviewB
            rw [decide_eq_true h1, Bool.true_and]
            cases hh : (voteAt L u1).1
            · rfl
            · rw [Bool.true_and, if_pos rfl]
              exact decide_eq_false fun hle => h3 ⟨hh, hle⟩
        · have e := vview_congr (q := q) (vputSt_len L u1 u2 u3) (vput_other q0 he)
          rw [hL', hb1, hb0, hz1, hz0] at e
          exact .inl ⟨he, e.1, e.2⟩
      have hcm := hA.b
      have hllt := hA.v.llt
      clear hA cw hrow hcell hu1 hu2 hu3 hb0 hz0 hok hL' hb1 hz1
      go_wp2_with fail
      refine (vview_c gv gl f L q _ A.out.v HL.out hqi b0 HB0.out z0 HZ0.out).mono ?_; rintro e w' ⟨rfl, rfl⟩
      go_wp2_with fail
      go_still_tail 16, (by kernel_rfl)
      change wpList _ _ _ _ _ wr.drew
      go_wp2_with fail
      refine (vput_c gv gl f L u1 u2 u3 _ A.out.v.drew HL.out x1 x2 ok HOK.out L' HL'.out).mono ?_
      rintro e w3 ⟨rfl, hV3, ho3⟩
      have d1 := ho3.cell_ (p := ⟨b, off + k * 4 + 1, none⟩) c1 (by have := G2.out; simp; omega)
      have d2 := ho3.cell_ (p := ⟨b, off + k * 4 + 2, none⟩) c2 (by have := G2.out; simp; omega)
      have A3 := Lib.hid (show At w w3 gv gl f N L' from ⟨hV3, by rw [← HL'.out, vputSt_len]; exact A.out.len, by rw [← HL'.out]; exact A.out.fine.put _ _ _, ho3.below hcm.drew hcm.size (by simpa using G2.out)⟩)
      have HL3 := Lib.hid (show L'.length ≤ 13 by rw [A3.out.len]; exact N13)
      clear c1 c2 c3 hV3 ho3 hcm hllt x3
      go_wp2_with fail
      refine (vview_c gv gl f L' q _ A3.out.v HL3.out hqi b1 HB1.out z1 HZ1.out).mono ?_; rintro e w' ⟨rfl, rfl⟩
      have e5 : (b0 != b0) = false := by simp
      have e6 : (z0 != z0) = false := by simp
      rcases sw with ⟨s1, rfl, rfl⟩ | ⟨rfl, rfl, rfl, rfl, s2⟩ | ⟨rfl, rfl, rfl, rfl⟩
      · go_wp2_with fail
        exact ⟨⟨k + 1, by omega, by omega, by go_num, _, A3.out⟩, by simp [intOf]; omega⟩
      · have e7 : (z1 != z1) = false := by simp
        cases b0
        · go_wp2_with fail
          exact ⟨⟨k + 1, by omega, by omega, by go_num, _, A3.out⟩, by simp [intOf]; omega⟩
        · have s3 : z0 < z1 := by
            simp only [Bool.true_and, decide_eq_false_iff_not] at s2
            omega
          clear s2
          go_wp2_with fail
          exact ⟨⟨k + 1, by omega, by omega, by go_num, _, A3.out⟩, by simp [intOf]; omega⟩
      · go_wp2_with fail
        exact ⟨⟨k + 1, by omega, by omega, by go_num, _, A3.out⟩, by simp [intOf]; omega⟩
    all_goals
      have HB0 := Lib.hid (gone_view A.out.fine.gone q)
      have D1 := Lib.hid (dropN_le L 12)
      obtain ⟨n1, hn1⟩ : ∃ n1, dropN L 12 = n1 := ⟨_, rfl⟩
      rw [hn1] at D1
      have D2 := Lib.hid hn1
      obtain ⟨L1, hL1⟩ : ∃ L1, dropSt L 12 = L1 := ⟨_, rfl⟩
      have S1 := Lib.hid hL1
      rw [hL1] at HB0
      have L13 := Lib.hid (show L1.length ≤ 13 by rw [← hL1, dropSt_len]; exact HL.out)
      have D3 := Lib.hid (show dropN L1 12 = 0 by rw [← hL1]; exact gone_drop A.out.fine.gone 12)
      have n1N : n1 ≤ N := by have := D1.out; have := A.out.len; omega
      clear hn1 hL1 hA
      go_wp2_with fail
      refine (vdrop_c gv gl f L 12 _ A.out.v HL.out n1 D2.out L1 S1.out).mono ?_; rintro e w5 ⟨rfl, hV5, ho5⟩
      have V5 := Lib.hid hV5
      have B5 := Lib.hid (ho5.below A.out.b A.out.b.size (by simpa using G2.out))
      clear hV5 ho5
      go_wp2_with fail
      refine (vview_c gv gl f L1 q _ V5.out L13.out hqi false HB0.out.1 0 HB0.out.2).mono ?_; rintro e w' ⟨rfl, rfl⟩
      go_wp2_with fail
      refine (rnodes_e f N HN.out _ f1 f4).mono ?_; rintro e w' ⟨rfl, rfl⟩
      go_wp2_with fail
      refine (vdrop_c gv gl f L1 12 _ V5.out L13.out 0 D3.out _ rfl).mono ?_; rintro e w6 ⟨rfl, hV6, ho6⟩
      have B6 := Lib.hid (ho6.below B5.out B5.out.size (by simpa using G2.out))
      clear hV6 ho6
      go_wp2_with fail
      refine (vwakes_c _).mono ?_; rintro e w7 ⟨rfl, hb7⟩
      go_wp2
      go_ret
      exact ⟨rfl, B6.out.trans (hb7.mono B6.out.size)⟩

set_option maxRecDepth 100000 in
theorem lawWalk : LawWalk Try.checked 11 Try.f11 := by
  intro H enc W base args ds p hval hA hsz
  rw [Try.params11] at hA hval
  obtain ⟨v0, vs0, d0, ds0, p0, q0, hargs, rfl, rfl, h0, r0⟩ := trodAll_cons hA
  obtain ⟨v1, vs1, d1, ds1, p1, q1, rfl, rfl, rfl, h1, r1⟩ := trodAll_cons r0
  obtain ⟨v2, vs2, d2, ds2, p2, q2, rfl, rfl, rfl, h2, r2⟩ := trodAll_cons r1
  obtain ⟨rfl, rfl, rfl⟩ := trodAll_nil r2
  obtain rfl : args = #[v0, v1, v2] := by cases args; simp_all
  obtain ⟨a0, rfl, rfl, rfl, w0⟩ := open_int Try.underlying3 (hval 0 3 v0 rfl rfl) h0
  obtain ⟨a1, n1, c1, g1, rfl, hnc1, hcm1, hr1⟩ := open_flat Try.underlying56 Try.underlying63 (by kernel_rfl) (by kernel_rfl) (by decide) (by kernel_rfl) (hval 1 56 v1 rfl rfl) h1
  obtain ⟨a2, rfl, rfl, rfl, w2⟩ := open_int Try.underlying3 (hval 2 3 v2 rfl rfl) h2
  exact walk a0 a1 n1 c1 g1 a2 W (I64.of_wf w0) hr1 (Nat.le_trans hnc1 hcm1) (I64.of_wf w2)

theorem lifted (os : Os) (started : os.Started) (H : Type) (enc : TypeId × Value → H) :
    ReturnsInHanded {} Try.checked os 11 .any (Rows.changeRisesSpec.pre6 enc Try.prog Try.f11 Rows.changeRisesRow.domain false) (Rows.changeRisesSpec.post enc Try.prog Try.f11 false true false false) :=
  law_lift (C := Try.checked) (s := Rows.changeRisesSpec) (tb := 4) (by kernel_rfl) started (by kernel_rfl) Try.func11
    (ChangeSpec.witness6 (enc := enc) (C := Try.checked) false ⟨#[], #[.int .i64 0, .slice none 0 0, .int .i64 0], []⟩ 8 (by kernel_rfl) (by kernel_rfl) (by kernel_rfl) (by kernel_rfl))
    rfl (fun H ds h => by
      match ds, h with
      | [d0, d1, d2], _ => rfl) (by kernel_rfl) (by kernel_rfl) (by kernel_rfl) Try.underlying4 lawWalk

theorem over : Rows.changeRisesRow.holds Try.pinned (OpenSpec.ofChange Rows.changeRisesSpec) :=
  OpenClaim.holds_of_wide 11 Try.f11 rfl rfl rfl rfl rfl rfl rfl ⟨rfl, rfl, rfl, rfl, rfl⟩ rfl rfl rfl rfl rfl (by kernel_rfl) Try.func11 (by kernel_rfl)
    (of_decide_eq_true (by kernel_rfl)) (by unfold Func.isWrapper; first | (rw [if_pos (by decide +kernel)]; kernel_rfl) | (rw [if_neg (by decide +kernel)]; exact ⟨rfl, rfl⟩))
    (fun os started H enc _ => lifted os started H enc)

/-- The statement. -/
theorem proved : Rows.ChangeRisesSaid := over
#print axioms proved

end Go.Proofs.Ytpkifmophmjilaa.ChangeRises
