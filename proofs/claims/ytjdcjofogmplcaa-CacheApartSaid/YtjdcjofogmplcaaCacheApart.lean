/- CacheApart: for every list of acts and every client the law returns true: whatever others put, a client's replies are those of a cache that saw his puts alone. No condition. -/
import Derived.Test.YtjdcjofogmplcaaCache
import Derived.Test.YtjdcjofogmplcaaKeep
import Derived.Test.YtjdcjofogmplcaaRows
import Derived.BigQuiet
import Derived.Deep.RegionHeld3
namespace Go.Proofs.Ytjdcjofogmplcaa.CacheApart
open Go.RowKit Go.ChangeShapes Go.WideShapes Go.ChangeAt
set_option linter.unusedVariables false

def Rel (w wr : World) (gc gl gd gk n : Nat) (q : Int) (i : Value) : Prop :=
  ∃ k : Nat, k ≤ n ∧ k ≤ 80 ∧ i = .int .i64 k ∧ ∃ st st', Cache wr gc gl st ∧ Cache wr gd gk st' ∧ st.length = 4 ∧ st'.length = 4 ∧ st.getD q.toNat (0, 0) = st'.getD q.toNat (0, 0) ∧ Below w.heap.size w wr

set_option maxRecDepth 100000 in
set_option maxHeartbeats 1600000 in
theorem walk (a : Option Addr) (n c : Nat) (g : Nat → Int) (cl : Int) (w : World) (hr : Flat w a n 4 g) (hm : n ≤ maxLen) (hcl : I64 cl) :
    Calls Try.prog 6 #[.slice a n c, .int .i64 cl] w fun e w' => e = .returned (.bool true) ∧ Below w.heap.size w w' := by
  unfold maxLen at hm
  have hR := Lib.hid hr
  clear hr
  go_enter Try.func6, Try.ntmps6
  go_wp2_with fail
  refine (within_q cl 4 _ hcl (by omega) (by omega)).mono ?_; rintro e w' ⟨q, rfl, hq, hq0, hq4, rfl⟩
  go_wp2_with fail
  refine (new_z 4 4 rfl (by omega) (by omega) _).mono ?_; rintro e w1 ⟨gc, gl, rfl, hC, hg1, hg2, hb1⟩
  go_wp2_with fail
  refine (new_z 4 4 rfl (by omega) (by omega) _).mono ?_; rintro e w2 ⟨gd, gk, rfl, hD, hg3, hg4, hb2⟩
  have n1 := hC.c.lt
  have n2 := hC.l.lt
  have n3 := hD.ne
  have hC2 := hC.below hb2
  have hb02 : Below w.heap.size w w2 := hb1.trans (hb2.mono hb1.size)
  have hs1 := hb1.size
  clear hq hb1 hb2
  have HC := Lib.hid hC2
  have HD := Lib.hid hD
  clear hC hC2 hD
  go_wp2_with fail
  go_loopw [9] (fun i wr => Rel w wr gc gl gd gk n q i) (fun i _ => n - (intOf i).toNat)
  case atStart => exact ⟨0, by omega, by omega, rfl, _, _, HC.out, HD.out, by simp, by simp, rfl, hb02⟩
  case round =>
    obtain ⟨k, hkn, hk80, rfl, st, st', hC, hD, hl, hl', hq, hb⟩ := hrel
    have HQ := Lib.hid hq
    have hwr := hb.size
    rcases (show (k < n ∧ k < 80) ∨ (¬ k < n) ∨ (k < n ∧ ¬ k < 80) by omega) with ⟨hlt, h80⟩ | hlt | ⟨hlt, h80⟩
    · · obtain ⟨hi64, hrow⟩ := hR.out
        obtain ⟨b, off, rfl, hbl, hcell⟩ := hrow (by omega)
        have cw : ∀ j, j < 4 → wr.cell? ⟨b, off + k * 4 + j, none⟩ = some (.int .i64 (g (k * 4 + j))) := fun j hj => by
          rw [hb.cell (p := ⟨b, off + k * 4 + j, none⟩) hbl, Nat.add_assoc]
          exact hcell _ (by omega)
        have x1 := hi64 (k * 4 + 1)
        have x2 := hi64 (k * 4 + 2)
        have x3 := hi64 (k * 4 + 3)
        have c1 := cw 1 (by omega)
        have c2 := cw 2 (by omega)
        have c3 := cw 3 (by omega)
        obtain ⟨u1, hu1⟩ : ∃ u, u = g (k * 4 + 1) := ⟨_, rfl⟩
        obtain ⟨u2, hu2⟩ : ∃ u, u = g (k * 4 + 2) := ⟨_, rfl⟩
        obtain ⟨u3, hu3⟩ : ∃ u, u = g (k * 4 + 3) := ⟨_, rfl⟩
        rw [← hu1] at c1 x1
        rw [← hu2] at c2 x2
        rw [← hu3] at c3 x3
        have i0 : (0 : Int) ≤ k := by omega
        have i1 : (k : Int) < n := by omega
        have HC' := Lib.hid hC
        have HD' := Lib.hid hD
        have HL := Lib.hid hl
        have HL' := Lib.hid hl'
        clear hC hD hl hl' hq hcell cw hrow hu1 hu2 hu3
        go_wp2_with fail
        go_still_tail 16, (by kernel_rfl)
        change wpList _ _ _ _ _ wr.drew
        go_wp2_with fail
        obtain ⟨b1, hb1⟩ : ∃ b1, putB st u1 u2 = b1 := ⟨_, rfl⟩
        have HB1 := Lib.hid hb1
        clear hb1
        refine (put_c gc gl st u1 u2 u3 _ HC'.out.drew (by rw [HL.out]; omega) x1 b1 HB1.out _ rfl).mono ?_
        rintro e w3 ⟨rfl, hC3, ho3⟩
        have g1 : gl < wr.heap.size := HC'.out.l.lt
        have g2 : gd < wr.heap.size := HD'.out.c.lt
        have g3 : gk < wr.heap.size := HD'.out.l.lt
        have hD3 := HD'.out.drew.only ho3 (by simp; omega) (by simp; omega)
        have hb3 : Below w.heap.size w w3 := ho3.below hb.drew hb.size (by simpa using hg2)
        have d1 := ho3.cell_ (p := ⟨b, off + k * 4 + 1, none⟩) c1 (by simp; omega)
        have d2 := ho3.cell_ (p := ⟨b, off + k * 4 + 2, none⟩) c2 (by simp; omega)
        have d3 := ho3.cell_ (p := ⟨b, off + k * 4 + 3, none⟩) c3 (by simp; omega)
        have hl3 : (putSt st u1 u2 u3).length = 4 := by rw [putSt_len]; exact HL.out
        have HC3 := Lib.hid hC3
        have HD3 := Lib.hid hD3
        have HL3 := Lib.hid hl3
        clear c1 c2 c3 hC3 hD3 hl3 ho3
        by_cases he : u1 = q
        · have e1 : (u1 == q) = true := beq_iff_eq.2 he
          have hp : putB st' u1 u2 = b1 := by rw [← HB1.out]; exact (same_put (by rw [HL.out, HL'.out]) (by rw [he]; exact HQ.out) _).symm
          have HP := Lib.hid hp
          have HE := Lib.hid he
          have hbb : (b1 != b1) = false := by cases b1 <;> rfl
          clear he hp
          go_wp2_with fail
          go_region_held3 (fun w' => w'.cell? ⟨b, off + k * 4 + 1, none⟩ = some (.int .i64 u1) ∧ w'.cell? ⟨b, off + k * 4 + 2, none⟩ = some (.int .i64 u2) ∧ w'.cell? ⟨b, off + k * 4 + 3, none⟩ = some (.int .i64 u3))
            (first | go_keep | exact ⟨s1, s2, s3⟩)
            (first | (go_at_call 24; refine (put_c gd gk st' u1 u2 u3 _ HD3.out.drew (by rw [HL'.out]; omega) x1 b1 HP.out _ rfl).mono ?_; rintro e w4 ⟨rfl, hD4, ho4⟩; have s1 := ho4.cell_ (p := ⟨b, off + k * 4 + 1, none⟩) d1 (by simp; omega); have s2 := ho4.cell_ (p := ⟨b, off + k * 4 + 2, none⟩) d2 (by simp; omega); have s3 := ho4.cell_ (p := ⟨b, off + k * 4 + 3, none⟩) d3 (by simp; omega)))
          have hC4 := HC3.out.drew.only ho4 (by simp; omega) (by simp; omega)
          have hb4 : Below w.heap.size w w4 := ho4.below hb3.drew hb3.size (by simp; omega)
          have HC4 := Lib.hid hC4
          have HD4 := Lib.hid hD4
          clear hC4 hD4 ho4
          go_wp2_with fail
          go_roundw
          case rel =>
            refine ⟨k + 1, by omega, by omega, by go_num, _, _, HC4.out, HD4.out, HL3.out, by rw [putSt_len]; exact HL'.out, ?_, hb4⟩
            rw [← HE.out]
            cases b1 with
            | true => rw [put_at HB1.out, put_at HP.out]
            | false =>
              unfold putSt
              rw [HB1.out, HP.out, if_neg (by simp), if_neg (by simp), HE.out]
              exact HQ.out
          case measure => simp [intOf]; omega
        · have e1 : (u1 == q) = false := beq_eq_false_iff_ne.2 he
          have HE := Lib.hid he
          clear he
          go_wp2_with fail
          go_quiet (fail)
          go_wp2_with fail
          go_roundw
          case rel =>
            refine ⟨k + 1, by omega, by omega, by go_num, _, _, HC3.out.drewN nq, HD3.out.drewN nq, HL3.out, HL'.out, ?_, below_drewN hb3 nq⟩
            rw [put_other put_neg hq0 HE.out]
            exact HQ.out
          case measure => simp [intOf]; omega
    all_goals
      have hlen : st.length = st'.length := by rw [hl, hl']
      have e1 := Lib.hid (same_last hlen hq)
      have e2 := Lib.hid (same_getB hlen hq)
      have e3 := Lib.hid (same_getR hlen hq)
      have hqi : I64 q := by unfold I64; omega
      have HL := Lib.hid hl
      have HL' := Lib.hid hl'
      have HC' := Lib.hid hC
      have HD' := Lib.hid hD
      clear hl hl' hlen hq hC hD
      go_wp2_with fail
      refine (last_c gc gl st q _ HC'.out (by rw [HL.out]; omega) hqi _ rfl).mono ?_; rintro e w' ⟨rfl, rfl⟩
      go_wp2_with fail
      refine (get_c gc gl st q _ _ HC'.out (by rw [HL.out]; omega) hqi _ rfl _ rfl).mono ?_; rintro e w' ⟨rfl, rfl⟩
      go_wp2_with fail
      refine (last_c gd gk st' q _ HD'.out (by rw [HL'.out]; omega) hqi _ e1.out.symm).mono ?_; rintro e w' ⟨rfl, rfl⟩
      go_wp2_with fail
      refine (get_c gd gk st' q _ _ HD'.out (by rw [HL'.out]; omega) hqi _ (e2.out _).symm _ (e3.out _).symm).mono ?_; rintro e w' ⟨rfl, rfl⟩
      go_wp2_with fail
      refine (last_c gc gl st q _ HC'.out (by rw [HL.out]; omega) hqi _ rfl).mono ?_; rintro e w' ⟨rfl, rfl⟩
      go_wp2_with fail
      refine (last_c gd gk st' q _ HD'.out (by rw [HL'.out]; omega) hqi _ e1.out.symm).mono ?_; rintro e w' ⟨rfl, rfl⟩
      go_wp2_with fail
      refine (wakes_c _).mono ?_; rintro e w5 ⟨rfl, hb5⟩
      go_wp2
      go_ret
      exact ⟨rfl, hb.trans (hb5.mono hb.size)⟩

theorem lawWalk : LawWalk Try.checked 6 Try.f6 := by
  intro H enc W base args ds p hval hA hsz
  rw [Try.params6] at hA hval
  obtain ⟨v0, vs0, d0, ds0, p0, q0, hargs, rfl, rfl, h0, r0⟩ := trodAll_cons hA
  obtain ⟨v1, vs1, d1, ds1, p1, q1, rfl, rfl, rfl, h1, r1⟩ := trodAll_cons r0
  obtain ⟨rfl, rfl, rfl⟩ := trodAll_nil r1
  obtain rfl : args = #[v0, v1] := by cases args; simp_all
  obtain ⟨a0, n0, c0, g0, rfl, hnc0, hcm0, hr0⟩ := open_flat Try.underlying44 Try.underlying51 (by kernel_rfl) (by kernel_rfl) (by decide) (by kernel_rfl) (hval 0 44 v0 rfl rfl) h0
  obtain ⟨a1, rfl, rfl, rfl, w1⟩ := open_int Try.underlying3 (hval 1 3 v1 rfl rfl) h1
  exact walk a0 n0 c0 g0 a1 W hr0 (Nat.le_trans hnc0 hcm0) (I64.of_wf w1)

theorem lifted (os : Os) (started : os.Started) (H : Type) (enc : TypeId × Value → H) :
    ReturnsInHanded {} Try.checked os 6 .any (Rows.cacheApartSpec.pre6 enc Try.prog Try.f6 Rows.cacheApartRow.domain false) (Rows.cacheApartSpec.post enc Try.prog Try.f6 false true false false) :=
  law_lift (C := Try.checked) (s := Rows.cacheApartSpec) (tb := 4) (by kernel_rfl) started (by kernel_rfl) Try.func6
    (ChangeSpec.witness6 (enc := enc) (C := Try.checked) false ⟨#[], #[.slice none 0 0, .int .i64 0], []⟩ 8 (by kernel_rfl) (by kernel_rfl) (by kernel_rfl) (by kernel_rfl))
    rfl (fun H ds h => by
      match ds, h with
      | [d0, d1], _ => rfl) (by kernel_rfl) (by kernel_rfl) (by kernel_rfl) Try.underlying4 lawWalk

theorem over : Rows.cacheApartRow.holds Try.pinned (OpenSpec.ofChange Rows.cacheApartSpec) :=
  OpenClaim.holds_of_wide 6 Try.f6 rfl rfl rfl rfl rfl rfl rfl ⟨rfl, rfl, rfl, rfl, rfl⟩ rfl rfl rfl rfl rfl (by kernel_rfl) Try.func6 (by kernel_rfl)
    (of_decide_eq_true (by kernel_rfl)) (by unfold Func.isWrapper; first | (rw [if_pos (by decide +kernel)]; kernel_rfl) | (rw [if_neg (by decide +kernel)]; exact ⟨rfl, rfl⟩))
    (fun os started H enc _ => lifted os started H enc)

/-- The statement. -/
theorem proved : Rows.CacheApartSaid := over
#print axioms proved

end Go.Proofs.Ytjdcjofogmplcaa.CacheApart
