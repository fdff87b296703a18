/- JudgeTurned: for all numbers and lists of numbers the law returns true: with less of a backup's count a master is not too slow where it was not. No condition. -/
import Derived.Test.YtiacklfigpobnaaRows
import Derived.Test.YtiacklfigpobnaaMeasT
import Derived.Test.YtiacklfigpobnaaHalf
import Derived.Test.YtiacklfigpobnaaRow
import Derived.StillTailTactics
import Derived.Laws.Entries
namespace Go.Proofs.Ytiacklfigpobnaa.JudgeTurned
open Go.ChangeShapes Go.WideShapes Go.ChangeAt Go.RowKit F
set_option linter.unusedVariables false

theorem slow_b (num den mn mt : Int) (a : Option Addr) (n c : Nat) (zs : List (Int × Int)) (w : World) (hr : CRow w a n zs) (hu : Usual zs) (hn : n ≤ 64)
    (hnum : 0 ≤ num ∧ num ≤ 64) (hden : 0 ≤ den ∧ den ≤ 64) (hm : 0 ≤ mn ∧ mn ≤ 134217728) (ht : Small mt) (b : Bool) (hb : slowB num den mn zs = b) :
    Calls Try.prog 25 #[.int .i64 num, .int .i64 den, .complex .f64 (fw mn) (fw mt), .slice a n c] w fun e w' => e = .returned (.bool b) ∧ w = w' := by
  have h := slow_c num den mn mt a n c zs w hr hu hn hnum hden hm ht
  rw [hb] at h
  exact h
theorem sumN_set (zs : List (Int × Int)) : ∀ (i : Nat) (hi : i < zs.length) (x : Int × Int), x.1 ≤ zs[i].1 → sumN (zs.set i x) ≤ sumN zs := by
  induction zs with
  | nil => intro i hi; simp at hi
  | cons z zs ih =>
    intro i hi x hx
    cases i with
    | zero =>
      have : x.1 ≤ z.1 := hx
      simp only [sumN, List.set_cons_zero, List.map_cons, List.sum_cons]
      omega
    | succ i =>
      have := ih i (by simpa using hi) x (by simpa using hx)
      simp only [sumN, List.set_cons_succ, List.map_cons, List.sum_cons] at this ⊢
      omega
theorem slow_less (num den m0 : Int) (zs zs' : List (Int × Int)) (hn : 0 ≤ num) (hl : zs'.length = zs.length) (hs : sumN zs' ≤ sumN zs) (h : slowB num den m0 zs = false) : slowB num den m0 zs' = false := by
  unfold slowB at h ⊢
  rw [hl]
  by_cases h0 : 0 < zs.length
  · rw [decide_eq_true h0, Bool.true_and] at h ⊢
    have h' := of_decide_eq_false h
    have := Int.mul_le_mul_of_nonneg_left hs hn
    exact decide_eq_false (by omega)
  · rw [decide_eq_false h0, Bool.false_and]
theorem fw_two : fw 2 = 4611686018427387904 := by decide

theorem run_store_complex (P : Program) (w : World) (a : Addr) (m : Mode) (k : FloatKind) (x y : Nat) : (store a (.complex k x y) m).run P w = stored P w a (.complex k x y) m := run_store P w a _ m rfl
attribute [local go_sem] run_store_complex

set_option maxRecDepth 100000 in
set_option maxHeartbeats 1600000 in
theorem walk (a0 a1 : Int) (a : Option Addr) (n c : Nat) (xs : List Int) (a3 : Int) (w : World) (h1 : I64 a0) (h2 : I64 a1) (hr : IntRow w a n xs) (hm : n ≤ maxLen) (hx : ∀ x ∈ xs, I64 x) (h3 : I64 a3) :
    Calls Try.prog 7 #[.int .i64 a0, .int .i64 a1, .slice a n c, .int .i64 a3] w fun e w' => e = .returned (.bool true) ∧ Below w.heap.size w w' := by
  have hR := Lib.hid hr
  have hX := Lib.hid hx
  clear hr hx
  go_enter Try.func7, Try.ntmps7
  go_wp2_with fail
  refine (within_q a0 9 _ h1 (by omega) (by omega)).mono ?_; rintro e w' ⟨num, rfl, hu, hu0, hu4, rfl⟩
  go_wp2_with fail
  refine (within_q a1 8 _ h2 (by omega) (by omega)).mono ?_; rintro e w' ⟨den, rfl, hv, hv0, hv4, rfl⟩
  go_wp2_with fail
  refine (measures_o a n c xs _ hR.out hm hX.out).mono ?_; rintro e w1 ⟨A1, c1, A2, c2, rfl, hO1, hO2, hb1⟩
  have hN5 : measN n ≤ 5 := by unfold measN; omega
  have hfine := Lib.hid (measTo_fine xs (measN n))
  have hml := Lib.hid (measTo_length xs (measN n))
  have O1 := Lib.hid hO1
  have O2 := Lib.hid hO2
  clear hO1 hO2
  generalize measN n = K at hN5 hfine hml O1 O2 ⊢
  generalize measTo xs K = zs at hfine hml O1 O2
  by_cases hK : K < 2
  · go_wp2_with fail
    refine (jwakes_c _).mono ?_; rintro e w2 ⟨rfl, hb2⟩
    go_wp2
    go_ret
    exact ⟨rfl, hb1.trans (hb2.mono hb1.size)⟩
  · obtain ⟨k, rfl⟩ : ∃ k, K = k + 1 := ⟨K - 1, by omega⟩
    obtain ⟨g1, cap1, hA1, hg1, _⟩ := O1.out.form (by omega)
    obtain ⟨g2, cap2, hA2, hg2, _⟩ := O2.out.form (by omega)
    injection hA1 with e1 _ e2
    injection hA2 with e3 _ e4
    subst e1 e2 e3 e4
    have R1 := Lib.hid (Row.of_own O1.out)
    have R2 := Lib.hid (Row.of_own O2.out)
    have hcap2 := R2.out.cap_le
    have hg12 : g2 ≠ g1 := by
      rcases own_ne O2.out O1.out (by decide) with h | h
      · cases h
      · exact fun e => h (by rw [e]; rfl)
    obtain ⟨z, rest, hz⟩ : ∃ z rest, zs = z :: rest := by
      cases zs with
      | nil => have := hml.out; simp at this
      | cons z rest => exact ⟨z, rest, rfl⟩
    subst hz
    obtain ⟨m0, m1⟩ := z
    have hrl : rest.length = k := by have := hml.out; simpa using this
    have HRL := Lib.hid hrl
    have k3 : w1.cell? ⟨g2, 0, none⟩ = some (.complex .f64 (fw m0) (fw m1)) := R2.out.cell (by rfl)
    have hf := hfine.out.head
    obtain ⟨A, hA, hAv⟩ := from_one (P := Try.prog) 35 39 1 Try.underlying35 (by kernel_rfl) size_cplx g2 0 k c2 hcap2
    have hZ := Lib.hid (show CRow w1 A k rest from hAv _ _ (own_vrow O2.out))
    have HAV := Lib.hid hAv
    have i1 : (2 : Int) ≤ (k : Int) + 1 := by omega
    have i3 : decide ((k : Int) + 1 < 2) = false := decide_eq_false (by omega)
    have i2 : (0 : Int) < (k : Int) + 1 := by omega
    obtain ⟨bs, hbs⟩ : ∃ bs, slowB num (1 + den) m0 rest = bs := ⟨_, rfl⟩
    have HS := Lib.hid hbs
    clear hrl hbs hAv hg12
    go_wp2_with fail
    refine wp_region_still_lit (by kernel_rfl) (by kernel_rfl) ?_
    repeat still_step
    still_call ((slow_b num (1 + den) m0 m1 A k _ rest _ (show CRow w1.drew A k rest from hZ.out) hfine.out.tail.usual (by omega) (by omega) (by omega) (by omega) (Small.of (by omega) (by omega)) bs HS.out).mono fun e w' ⟨he, hw⟩ => ⟨he, hw.symm⟩)
    repeat still_step
    refine wpStill_nil ?_
    change Exit.then _ _ _ _ w1.drew
    have k4 : w1.drew.cell? ⟨g2, 0, none⟩ = _ := k3
    have R3 := Lib.hid R1.out.drew
    have R4 := Lib.hid R2.out.drew
    have hb2 := hb1.drew
    clear k3 R1 R2 hb1 hZ
    generalize w1.drew = w2 at k4 R3 R4 hb2 ⊢
    go_wp2_with fail
    refine (within_q a3 _ _ h3 (by omega) (by omega)).mono ?_; rintro e w' ⟨q, rfl, hq, hq0, hq4, rfl⟩
    obtain ⟨j, rfl⟩ := Int.eq_ofNat_of_zero_le hq0
    have hjk : j < k := by omega
    clear hq
    have hjl : j < rest.length := by rw [HRL.out]; exact hjk
    have hjb := hfine.out rest[j] (by simp)
    obtain ⟨N, hN⟩ := Int.eq_ofNat_of_zero_le hjb.1
    obtain ⟨T, hT⟩ : ∃ T, T = rest[j].2 := ⟨_, rfl⟩
    rw [hN, ← hT] at hjb
    have z1 : w2.cell? ⟨g2, 1 + j, none⟩ = some (.complex .f64 (fw N) (fw T)) := R4.out.cell (by
      rw [Nat.add_comm, List.getElem?_map, List.getElem?_cons_succ, List.getElem?_eq_getElem hjl, hT, ← hN]
      rfl)
    have z2 : w2.cell? ⟨g1, (1 + j) * 2, none⟩ = some (.int .i64 N) := R3.out.cell (by
      have := (mcells_get ((m0, m1) :: rest) (j + 1) (by simpa using hjl)).1
      rw [Nat.add_comm 1 j, this]
      simp [hN])
    have z3 := R4.out.frozen (1 + j)
    have hNb : N < 1048576 := by omega
    have d1 := fun w => run_float_arith (P := Try.prog) (w := w) .quo 44 .f64 (fw N) (fw 2) (hw N) (div_two (by omega))
    rw [fw_two] at d1
    have d2 := fun w => run_float_arith (P := Try.prog) (w := w) .quo 44 .f64 (fw ((N : Int) % 2)) (fw 2) (hw (N % 2)) (by
      have := div_two (n := N % 2) (by omega)
      rw [show ((N % 2 : Nat) : Int) = (N : Int) % 2 by omega] at this
      exact this)
    rw [fw_two, show fw ((N : Int) % 2) = floatOfInt .f64 ((N : Int).tmod 2) by rw [Int.tmod_eq_emod_of_nonneg (by omega)]; rfl] at d2
    have d3 := fun w => run_float_arith (P := Try.prog) (w := w) .sub 44 .f64 (hw N) (hw (N % 2)) (fw ((N : Int) / 2)) (by have := sub_half (a := N) (b := N % 2) (c := N / 2) (by omega) (by omega) (by omega); rw [show ((N / 2 : Nat) : Int) = (N : Int) / 2 by omega] at this; exact this)
    have j0 : (0 : Int) ≤ 1 + (j : Int) := by omega
    have j1 : 1 + (j : Int) < (k : Int) + 1 := by omega
    have j2 : (1 + (j : Int)).toNat = 1 + j := by omega
    have j3 : (0 : Int) ≤ (N : Int) := by omega
    have j4 : IntKind.i64.wrap (1 + (j : Int)) = 1 + (j : Int) := IntWalk.i64_in _ (by omega)
    have HN := Lib.hid hN
    have HT := Lib.hid hT
    clear hN hT
    go_wp2_with fail
    go_still_tail 24, (by kernel_rfl)
    change wpList _ _ _ _ _ w2.drew
    go_wp2_with fail
    obtain ⟨w5, hw5⟩ : ∃ w5, w5 = (w2.setCell ⟨g2, 1 + j, none⟩ (.complex .f64 (fw ((N : Int) / 2)) (fw T))).drew := ⟨_, rfl⟩
    rw [← hw5]
    have R5 := (R4.out.set_ (1 + j) (.complex .f64 (fw ((N : Int) / 2)) (fw T))).drew
    rw [← hw5] at R5
    have hset : ((((m0, m1) :: rest).map fun z => cplx z.1 z.2).set (1 + j) (.complex .f64 (fw ((N : Int) / 2)) (fw T))) = (((m0, m1) :: rest.set j ((N : Int) / 2, T)).map fun z => cplx z.1 z.2) := by
      rw [Nat.add_comm]
      simp [List.map_set, cplx]
    rw [hset] at R5
    have k5 : w5.cell? ⟨g2, 0, none⟩ = some (.complex .f64 (fw m0) (fw m1)) := R5.cell (by rfl)
    have hZ5 : CRow w5 A k (rest.set j ((N : Int) / 2, T)) := by
      have := HAV.out w5 _ (own_vrow (a := some ⟨g2, 0, none⟩) R5)
      rw [List.map_cons, List.drop_one, List.tail_cons] at this
      exact this
    have HZ := Lib.hid hZ5
    have hb5 : Below w.heap.size w w5 := by rw [hw5]; exact (hb2.setCell hg2 _).drew
    have hus : Usual (rest.set j ((N : Int) / 2, T)) := by
      intro z hz
      rcases List.mem_or_eq_of_mem_set hz with h | h
      · exact hfine.out.tail.usual z h
      · subst h
        show 0 ≤ (N : Int) / 2 ∧ (N : Int) / 2 ≤ 134217728 ∧ 0 ≤ T ∧ T ≤ 134217728
        omega
    have HUS := Lib.hid hus
    have hless : bs = false → slowB num (1 + den) m0 (rest.set j ((N : Int) / 2, T)) = false := fun hb =>
      slow_less num (1 + den) m0 rest _ hu0 (by simp) (sumN_set rest j hjl _ (by rw [HN.out]; show (N : Int) / 2 ≤ (N : Int); omega)) (HS.out.trans hb)
    have HLESS := Lib.hid hless
    have y1 := fun (x : Later w5) => x.cell k5
    clear hw5 R5 hset hZ5 hus hless z1 z2 z3 d1 d2 d3 k4 k5 R3 R4 hb2
    cases bs
    all_goals
      refine wp_region_later (by kernel_rfl) (by kernel_rfl) ?_
      repeat (go_big_quiet_step (first
        | (go_at_call 25; exact Later.same (slow_b num (1 + den) m0 m1 A k _ _ _ (VRow.later HZ.out _) HUS.out (by omega) (by omega) (by omega) (by omega) (Small.of (by omega) (by omega)) false (HLESS.out rfl)))
        | (go_at_call 26; exact Later.call (jwakes_c _))))
      refine wpQuiet_nil ?_
      rintro _ ⟨x, rfl⟩
      go_wp2
      go_ret
      exact ⟨rfl, hb5.trans (x.b.mono hb5.size)⟩

theorem lawWalk : LawWalk Try.checked 7 Try.f7 := by
  intro H enc W base args ds p hval hA hsz
  rw [Try.params7] at hA hval
  obtain ⟨v0, vs0, d0, ds0, p0, q0, hargs, rfl, rfl, h0, r0⟩ := trodAll_cons hA
  obtain ⟨v1, vs1, d1, ds1, p1, q1, rfl, rfl, rfl, h1, r1⟩ := trodAll_cons r0
  obtain ⟨v2, vs2, d2, ds2, p2, q2, rfl, rfl, rfl, h2, r2⟩ := trodAll_cons r1
  obtain ⟨v3, vs3, d3, ds3, p3, q3, rfl, rfl, rfl, h3, r3⟩ := trodAll_cons r2
  obtain ⟨rfl, rfl, rfl⟩ := trodAll_nil r3
  obtain rfl : args = #[v0, v1, v2, v3] := by cases args; simp_all
  obtain ⟨a0, rfl, rfl, rfl, w0⟩ := open_int Try.underlying3 (hval 0 3 v0 rfl rfl) h0
  obtain ⟨a1, rfl, rfl, rfl, w1⟩ := open_int Try.underlying3 (hval 1 3 v1 rfl rfl) h1
  obtain ⟨a2, n2, c2, xs2, rfl, hnc2, hcm2, hr2, hx2⟩ := open_int_slice Try.underlying28 Try.underlying3 (by kernel_rfl) (hval 2 28 v2 rfl rfl) h2
  obtain ⟨a3, rfl, rfl, rfl, w3⟩ := open_int Try.underlying3 (hval 3 3 v3 rfl rfl) h3
  exact walk a0 a1 a2 n2 c2 xs2 a3 W (I64.of_wf w0) (I64.of_wf w1) hr2 (Nat.le_trans hnc2 hcm2) hx2 (I64.of_wf w3)

theorem lifted (os : Os) (started : os.Started) (H : Type) (enc : TypeId × Value → H) :
    ReturnsInHanded {} Try.checked os 7 .any (Rows.judgeTurnedSpec.pre6 enc Try.prog Try.f7 Rows.judgeTurnedRow.domain false) (Rows.judgeTurnedSpec.post enc Try.prog Try.f7 false true false false) :=
  law_lift (C := Try.checked) (s := Rows.judgeTurnedSpec) (tb := 4) (by kernel_rfl) started (by kernel_rfl) Try.func7
    (ChangeSpec.witness6 (enc := enc) (C := Try.checked) false ⟨#[], #[.int .i64 0, .int .i64 0, .slice none 0 0, .int .i64 0], []⟩ 8 (by kernel_rfl) (by kernel_rfl) (by kernel_rfl) (by kernel_rfl))
    rfl (fun H ds h => by
      match ds, h with
      | [d0, d1, d2, d3], _ => rfl) (by kernel_rfl) (by kernel_rfl) (by kernel_rfl) Try.underlying4 lawWalk

theorem over : Rows.judgeTurnedRow.holds Try.pinned (OpenSpec.ofChange Rows.judgeTurnedSpec) :=
  OpenClaim.holds_of_wide 7 Try.f7 rfl rfl rfl rfl rfl rfl rfl ⟨rfl, rfl, rfl, rfl, rfl⟩ rfl rfl rfl rfl rfl (by kernel_rfl) Try.func7 (by kernel_rfl)
    (of_decide_eq_true (by kernel_rfl)) (by unfold Func.isWrapper; first | (rw [if_pos (by decide +kernel)]; kernel_rfl) | (rw [if_neg (by decide +kernel)]; exact ⟨rfl, rfl⟩))
    (fun os started H enc _ => lifted os started H enc)

/-- The statement. -/
theorem proved : Rows.JudgeTurnedSaid := over
#print axioms proved

end Go.Proofs.Ytiacklfigpobnaa.JudgeTurned
