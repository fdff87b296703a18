/- CacheRises: for every list of acts and every client the law returns true: a client's last time only rises, and only its last result is there. No condition. -/
import Derived.Test.YtjdcjofogmplcaaCache
import Derived.Test.YtjdcjofogmplcaaKeep
import Derived.Test.YtjdcjofogmplcaaRows
import Derived.BigQuiet
import Derived.StillTactics
namespace Go.Proofs.Ytjdcjofogmplcaa.CacheRises
open Go.RowKit Go.ChangeShapes Go.WideShapes Go.ChangeAt
set_option linter.unusedVariables false

def Rel (w wr : World) (gc gl n : Nat) (i : Value) : Prop :=
  ∃ k : Nat, k ≤ n ∧ k ≤ 100 ∧ i = .int .i64 k ∧ ∃ st, Cache wr gc gl st ∧ st.length = 4 ∧ (∀ p ∈ st, 0 ≤ p.1) ∧ Below w.heap.size w wr

theorem has_get {st : List (Int × Int)} {k : Int} (h : hasB st k = true) : k.toNat < st.length ∧ 0 ≤ k := by
  have := of_decide_eq_true h
  omega
theorem put_has {st : List (Int × Int)} {k t : Int} (h : putB st k t = true) : hasB st k = true := by
  unfold putB at h
  revert h
  cases hasB st k <;> simp
theorem put_time {st : List (Int × Int)} {k t : Int} (h : putB st k t = true) : (st.getD k.toNat (0, 0)).1 < t := by
  unfold putB at h
  rw [put_has h, Bool.true_and] at h
  exact of_decide_eq_true h
theorem put_pos {st : List (Int × Int)} {k t : Int} (hp : ∀ p ∈ st, 0 ≤ p.1) (h : putB st k t = true) : 1 ≤ t := by
  have h1 := put_time h
  have h2 := (has_get (put_has h)).1
  have h3 := hp _ (List.getElem_mem h2)
  have h4 : st.getD k.toNat (0, 0) = st[k.toNat] := by simp [List.getD, h2]
  rw [h4] at h1
  omega
theorem put_all {st : List (Int × Int)} {k t r : Int} (hp : ∀ p ∈ st, 0 ≤ p.1) : ∀ p ∈ putSt st k t r, 0 ≤ p.1 := by
  intro p hm
  unfold putSt at hm
  split at hm
  · rename_i h
    rcases List.mem_or_eq_of_mem_set hm with h1 | h1
    · exact hp _ h1
    · subst h1
      have := put_pos hp h
      show 0 ≤ t
      omega
  · exact hp _ hm
theorem put_last {st : List (Int × Int)} {k t r : Int} (h : putB st k t = true) : lastOf (putSt st k t r) k = t := by
  unfold lastOf
  rw [same_has (putSt_len st k t r), put_has h, put_at h]
  rfl
theorem put_last_old {st : List (Int × Int)} {k t : Int} (h : putB st k t = true) : lastOf st k < t := by
  unfold lastOf
  rw [put_has h]
  exact put_time h
theorem put_last_other {st : List (Int × Int)} {k t r q : Int} (hq : 0 ≤ q) (h : k ≠ q) : lastOf (putSt st k t r) q = lastOf st q := by
  unfold lastOf
  rw [same_has (putSt_len st k t r), put_other put_neg hq h]
theorem put_getB {st : List (Int × Int)} {k t r : Int} (h : putB st k t = true) (ht : 1 ≤ t) : getB (putSt st k t r) k t = true := by
  unfold getB
  rw [same_has (putSt_len st k t r), put_has h, put_at h, decide_eq_true ht, decide_eq_true rfl]
  rfl
theorem put_getR {st : List (Int × Int)} {k t r : Int} (h : putB st k t = true) (ht : 1 ≤ t) : getR (putSt st k t r) k t = r := by
  unfold getR
  rw [put_getB h ht, put_at h]
  rfl
theorem put_getB_old {st : List (Int × Int)} {k t r : Int} (h : putB st k t = true) : getB (putSt st k t r) k (t - 1) = false := by
  unfold getB
  rw [put_at h, decide_eq_false (show ¬ t = t - 1 by omega), Bool.and_false]
theorem put_getR_old {st : List (Int × Int)} {k t r : Int} (h : putB st k t = true) : getR (putSt st k t r) k (t - 1) = 0 := by
  unfold getR
  rw [put_getB_old h]
  rfl

set_option maxRecDepth 100000 in
set_option maxHeartbeats 2400000 in
theorem walk (a : Option Addr) (n c : Nat) (g : Nat → Int) (cl : Int) (w : World) (hr : Flat w a n 4 g) (hm : n ≤ maxLen) (hcl : I64 cl) :
    Calls Try.prog 7 #[.slice a n c, .int .i64 cl] w fun e w' => e = .returned (.bool true) ∧ Below w.heap.size w w' := by
  unfold maxLen at hm
  have hR := Lib.hid hr
  clear hr
  go_enter Try.func7, Try.ntmps7
  go_wp2_with fail
  refine (new_z 4 4 rfl (by omega) (by omega) _).mono ?_; rintro e w1 ⟨gc, gl, rfl, hC, hg1, hg2, hb1⟩
  have HC := Lib.hid hC
  have hs1 := hb1.size
  clear hC
  go_wp2_with fail
  refine (within_q cl 4 _ hcl (by omega) (by omega)).mono ?_; rintro e w' ⟨q, rfl, hq, hq0, hq4, rfl⟩
  clear hq
  go_wp2_with fail
  go_loopw [7] (fun i wr => Rel w wr gc gl n i) (fun i _ => n - (intOf i).toNat)
  case atStart => exact ⟨0, by omega, by omega, rfl, _, HC.out, by simp, by intro p hp; simp at hp; simp [hp], hb1⟩
  case round =>
    obtain ⟨k, hkn, hk80, rfl, st, hC, hl, hp, hb⟩ := hrel
    have hwr := hb.size
    have hqi : I64 q := by unfold I64; omega
    rcases (show (k < n ∧ k < 100) ∨ (¬ k < n) ∨ (k < n ∧ ¬ k < 100) by omega) with ⟨hlt, h80⟩ | hlt | ⟨hlt, h80⟩
    · obtain ⟨hi64, hrow⟩ := hR.out
      obtain ⟨b, off, rfl, hbl, hcell⟩ := hrow (by omega)
      have cw : ∀ j, j < 4 → wr.cell? ⟨b, off + k * 4 + j, none⟩ = some (.int .i64 (g (k * 4 + j))) := fun j hj => by
        rw [hb.cell (p := ⟨b, off + k * 4 + j, none⟩) hbl, Nat.add_assoc]
        exact hcell _ (by omega)
      have x1 := hi64 (k * 4 + 1)
      have x2 := hi64 (k * 4 + 2)
      have x3 := hi64 (k * 4 + 3)
      have c1 := cw 1 (by omega)
      have c2 := cw 2 (by omega)
      have c3 := cw 3 (by omega)
      obtain ⟨u1, hu1⟩ : ∃ u, u = g (k * 4 + 1) := ⟨_, rfl⟩
      obtain ⟨u2, hu2⟩ : ∃ u, u = g (k * 4 + 2) := ⟨_, rfl⟩
      obtain ⟨u3, hu3⟩ : ∃ u, u = g (k * 4 + 3) := ⟨_, rfl⟩
      rw [← hu1] at c1 x1
      rw [← hu2] at c2 x2
      rw [← hu3] at c3 x3
      have i0 : (0 : Int) ≤ k := by omega
      have i1 : (k : Int) < n := by omega
      have HC' := Lib.hid hC
      have HL := Lib.hid hl
      have HP := Lib.hid hp
      obtain ⟨t0, ht0⟩ : ∃ t, lastOf st q = t := ⟨_, rfl⟩
      have HT0 := Lib.hid ht0
      obtain ⟨b1, hb1'⟩ : ∃ b1, putB st u1 u2 = b1 := ⟨_, rfl⟩
      have HB1 := Lib.hid hb1'
      clear hC hl hcell cw hrow hu1 hu2 hu3 hp ht0 hb1'
      go_wp2_with fail
      refine (last_c gc gl st q _ HC'.out (by rw [HL.out]; omega) hqi t0 HT0.out).mono ?_; rintro e w' ⟨rfl, rfl⟩
      go_wp2_with fail
      go_still_tail 16, (by kernel_rfl)
      change wpList _ _ _ _ _ wr.drew
      go_wp2_with fail
      refine (put_c gc gl st u1 u2 u3 _ HC'.out.drew (by rw [HL.out]; omega) x1 b1 HB1.out _ rfl).mono ?_
      rintro e w3 ⟨rfl, hC3, ho3⟩
      have g1 : gl < wr.heap.size := HC'.out.l.lt
      have hb3 : Below w.heap.size w w3 := ho3.below hb.drew hb.size (by simpa using hg2)
      have d1 := ho3.cell_ (p := ⟨b, off + k * 4 + 1, none⟩) c1 (by simp; omega)
      have d2 := ho3.cell_ (p := ⟨b, off + k * 4 + 2, none⟩) c2 (by simp; omega)
      have d3 := ho3.cell_ (p := ⟨b, off + k * 4 + 3, none⟩) c3 (by simp; omega)
      have hl3 : (putSt st u1 u2 u3).length = 4 := by rw [putSt_len]; exact HL.out
      have HC3 := Lib.hid hC3
      have HL3 := Lib.hid hl3
      clear c1 c2 c3 hC3 hl3 ho3
      cases b1 with
      | false =>
        have hS : putSt st u1 u2 u3 = st := by unfold putSt; rw [HB1.out]; rfl
        rw [hS] at HC3
        clear hS
        have e0 : decide (t0 < t0) = false := by simp
        have e1 : (t0 != t0) = false := by simp
        go_wp2_with fail
        refine (last_c gc gl st q _ HC3.out (by rw [HL.out]; omega) hqi t0 HT0.out).mono ?_; rintro e w' ⟨rfl, rfl⟩
        go_wp2_with fail
        go_roundw
        case rel => exact ⟨k + 1, by omega, by omega, by go_num, _, HC3.out, HL.out, HP.out, hb3⟩
        case measure => simp [intOf]; omega
      | true =>
        have hu2 := put_pos HP.out HB1.out
        have HP3 := Lib.hid (put_all (k := u1) (t := u2) (r := u3) HP.out)
        obtain ⟨t1, ht1⟩ : ∃ t, lastOf (putSt st u1 u2 u3) q = t := ⟨_, rfl⟩
        obtain ⟨bb, hbb⟩ : ∃ bb, (u1 == q) = bb := ⟨_, rfl⟩
        have ht : decide (t1 < t0) = false ∧ (t1 != t0) = bb := by
          rw [← ht1, ← HT0.out, ← hbb]
          by_cases he : u1 = q
          · subst he
            have h1 := put_last_old HB1.out
            rw [put_last HB1.out]
            exact ⟨decide_eq_false (by omega), by rw [beq_self_eq_true]; exact bne_iff_ne.2 (by omega)⟩
          · rw [put_last_other hq0 he]
            exact ⟨decide_eq_false (by omega), by rw [beq_eq_false_iff_ne.2 he]; simp⟩
        obtain ⟨e0, e1⟩ := ht
        have e2 : (bb != bb) = false := by simp
        have HT1 := Lib.hid ht1
        have e3 : IntKind.i64.wrap (u2 - 1) = u2 - 1 := IntWalk.i64_in _ (by obtain ⟨_, _⟩ := x2; omega)
        clear ht1
        go_wp2_with fail
        refine (last_c gc gl _ q _ HC3.out (by rw [HL3.out]; omega) hqi t1 HT1.out).mono ?_; rintro e w' ⟨rfl, rfl⟩
        go_wp2_with fail
        refine wp_region_still_lit (by kernel_rfl) (by kernel_rfl) ?_
        repeat still_step
        still_call ((get_c gc gl _ u1 u2 _ HC3.out.drew (by rw [HL3.out]; omega) x1 _ (put_getB HB1.out hu2) _ (put_getR HB1.out hu2)).mono fun e w' ⟨he, hw⟩ => ⟨he, hw.symm⟩)
        repeat still_step
        refine wpStill_nil ?_
        change Exit.then _ _ _ _ w3.drew
        have f1 : w3.drew.cell? ⟨b, off + k * 4 + 1, none⟩ = _ := d1
        have f2 : w3.drew.cell? ⟨b, off + k * 4 + 2, none⟩ = _ := d2
        have f3 : w3.drew.cell? ⟨b, off + k * 4 + 3, none⟩ = _ := d3
        have HC4 := Lib.hid HC3.out.drew
        have hb4 := hb3.drew
        clear d1 d2 d3 HC3 hb3
        generalize w3.drew = w4 at f1 f2 f3 HC4 hb4 ⊢
        go_wp2_with fail
        refine wp_region_still_lit (by kernel_rfl) (by kernel_rfl) ?_
        repeat still_step
        still_call ((get_c gc gl _ u1 (u2 - 1) _ HC4.out.drew (by rw [HL3.out]; omega) x1 _ (put_getB_old HB1.out) _ (put_getR_old HB1.out)).mono fun e w' ⟨he, hw⟩ => ⟨he, hw.symm⟩)
        repeat still_step
        refine wpStill_nil ?_
        change Exit.then _ _ _ _ w4.drew
        have e4 : (u3 != u3) = false := by simp
        go_wp2_with fail
        go_roundw
        case rel => exact ⟨k + 1, by omega, by omega, by go_num, _, HC4.out.drew, HL3.out, HP3.out, hb4.drew⟩
        case measure => simp [intOf]; omega
    all_goals
      go_wp2_with fail
      refine (wakes_c _).mono ?_; rintro e w5 ⟨rfl, hb5⟩
      go_wp2
      go_ret
      exact ⟨rfl, hb.trans (hb5.mono hb.size)⟩

theorem lawWalk : LawWalk Try.checked 7 Try.f7 := by
  intro H enc W base args ds p hval hA hsz
  rw [Try.params7] at hA hval
  obtain ⟨v0, vs0, d0, ds0, p0, q0, hargs, rfl, rfl, h0, r0⟩ := trodAll_cons hA
  obtain ⟨v1, vs1, d1, ds1, p1, q1, rfl, rfl, rfl, h1, r1⟩ := trodAll_cons r0
  obtain ⟨rfl, rfl, rfl⟩ := trodAll_nil r1
  obtain rfl : args = #[v0, v1] := by cases args; simp_all
  obtain ⟨a0, n0, c0, g0, rfl, hnc0, hcm0, hr0⟩ := open_flat Try.underlying44 Try.underlying51 (by kernel_rfl) (by kernel_rfl) (by decide) (by kernel_rfl) (hval 0 44 v0 rfl rfl) h0
  obtain ⟨a1, rfl, rfl, rfl, w1⟩ := open_int Try.underlying3 (hval 1 3 v1 rfl rfl) h1
  exact walk a0 n0 c0 g0 a1 W hr0 (Nat.le_trans hnc0 hcm0) (I64.of_wf w1)

theorem lifted (os : Os) (started : os.Started) (H : Type) (enc : TypeId × Value → H) :
    ReturnsInHanded {} Try.checked os 7 .any (Rows.cacheRisesSpec.pre6 enc Try.prog Try.f7 Rows.cacheRisesRow.domain false) (Rows.cacheRisesSpec.post enc Try.prog Try.f7 false true false false) :=
  law_lift (C := Try.checked) (s := Rows.cacheRisesSpec) (tb := 4) (by kernel_rfl) started (by kernel_rfl) Try.func7
    (ChangeSpec.witness6 (enc := enc) (C := Try.checked) false ⟨#[], #[.slice none 0 0, .int .i64 0], []⟩ 8 (by kernel_rfl) (by kernel_rfl) (by kernel_rfl) (by kernel_rfl))
    rfl (fun H ds h => by
      match ds, h with
      | [d0, d1], _ => rfl) (by kernel_rfl) (by kernel_rfl) (by kernel_rfl) Try.underlying4 lawWalk

theorem over : Rows.cacheRisesRow.holds Try.pinned (OpenSpec.ofChange Rows.cacheRisesSpec) :=
  OpenClaim.holds_of_wide 7 Try.f7 rfl rfl rfl rfl rfl rfl rfl ⟨rfl, rfl, rfl, rfl, rfl⟩ rfl rfl rfl rfl rfl (by kernel_rfl) Try.func7 (by kernel_rfl)
    (of_decide_eq_true (by kernel_rfl)) (by unfold Func.isWrapper; first | (rw [if_pos (by decide +kernel)]; kernel_rfl) | (rw [if_neg (by decide +kernel)]; exact ⟨rfl, rfl⟩))
    (fun os started H enc _ => lifted os started H enc)

/-- The statement. -/
theorem proved : Rows.CacheRisesSaid := over
#print axioms proved

end Go.Proofs.Ytjdcjofogmplcaa.CacheRises
