/- JudgeMore is proved: for all numbers and lists of numbers the law returns true. No condition. -/
import Derived.Test.YtiacklfigpobnaaRows
import Derived.Test.YtiacklfigpobnaaMeasT
import Derived.Deep.RegionWith
import Derived.StillTailTactics
namespace Go.Proofs.Ytiacklfigpobnaa.JudgeMore
open Go.ChangeShapes Go.WideShapes Go.ChangeAt Go.RowKit F
set_option linter.unusedVariables false

theorem slow_f (num den mn mt : Int) (a : Option Addr) (n c : Nat) (zs : List (Int × Int)) (w : World) (hr : CRow w a n zs) (hu : Usual zs) (hn : n ≤ 64)
    (hnum : 0 ≤ num ∧ num ≤ 64) (hden : 0 ≤ den ∧ den ≤ 64) (hm : 0 ≤ mn ∧ mn ≤ 134217728) (ht : Small mt) (hb : slowB num den mn zs = false) :
    Calls Try.prog 25 #[.int .i64 num, .int .i64 den, .complex .f64 (fw mn) (fw mt), .slice a n c] w fun e w' => e = .returned (.bool false) ∧ w = w' := by
  have h := slow_c num den mn mt a n c zs w hr hu hn hnum hden hm ht
  rw [hb] at h
  exact h
theorem late_f (om mn mt : Int) (a : Option Addr) (n c : Nat) (zs : List (Int × Int)) (w : World) (hr : CRow w a n zs) (hu : Usual zs) (hn : n ≤ 64)
    (hom : 0 ≤ om ∧ om ≤ 64) (hm : 0 ≤ mn ∧ mn ≤ 1048576) (ht : 0 ≤ mt ∧ mt ≤ 134217728) (hb : lateB om mn mt zs = false) :
    Calls Try.prog 32 #[.int .i64 om, .complex .f64 (fw mn) (fw mt), .slice a n c] w fun e w' => e = .returned (.bool false) ∧ w = w' := by
  have h := late_c om mn mt a n c zs w hr hu hn hom hm ht
  rw [hb] at h
  exact h
theorem slow_b (num den mn mt : Int) (a : Option Addr) (n c : Nat) (zs : List (Int × Int)) (w : World) (hr : CRow w a n zs) (hu : Usual zs) (hn : n ≤ 64)
    (hnum : 0 ≤ num ∧ num ≤ 64) (hden : 0 ≤ den ∧ den ≤ 64) (hm : 0 ≤ mn ∧ mn ≤ 134217728) (ht : Small mt) (b : Bool) (hb : slowB num den mn zs = b) :
    Calls Try.prog 25 #[.int .i64 num, .int .i64 den, .complex .f64 (fw mn) (fw mt), .slice a n c] w fun e w' => e = .returned (.bool b) ∧ w = w' := by
  have h := slow_c num den mn mt a n c zs w hr hu hn hnum hden hm ht
  rw [hb] at h
  exact h
theorem late_b (om mn mt : Int) (a : Option Addr) (n c : Nat) (zs : List (Int × Int)) (w : World) (hr : CRow w a n zs) (hu : Usual zs) (hn : n ≤ 64)
    (hom : 0 ≤ om ∧ om ≤ 64) (hm : 0 ≤ mn ∧ mn ≤ 1048576) (ht : 0 ≤ mt ∧ mt ≤ 134217728) (b : Bool) (hb : lateB om mn mt zs = b) :
    Calls Try.prog 32 #[.int .i64 om, .complex .f64 (fw mn) (fw mt), .slice a n c] w fun e w' => e = .returned (.bool b) ∧ w = w' := by
  have h := late_c om mn mt a n c zs w hr hu hn hom hm ht
  rw [hb] at h
  exact h
theorem slow_more (num den m0 x : Int) (zs : List (Int × Int)) (hd : 0 ≤ den) (hx : 0 ≤ x) (h : slowB num den m0 zs = false) : slowB num den (m0 + x) zs = false := by
  unfold slowB at h ⊢
  by_cases hl : 0 < zs.length
  · rw [decide_eq_true hl, Bool.true_and] at h ⊢
    have h' := of_decide_eq_false h
    have e : (m0 + x) * den * (zs.length : Int) = m0 * den * (zs.length : Int) + x * den * (zs.length : Int) := by rw [Int.add_mul, Int.add_mul]
    have : 0 ≤ x * den * (zs.length : Int) := Int.mul_nonneg (Int.mul_nonneg hx hd) (by omega)
    exact decide_eq_false (by rw [e]; omega)
  · rw [decide_eq_false hl, Bool.false_and]
theorem late_less (om m0 m1 y : Int) (zs : List (Int × Int)) (hu : Usual zs) (hy : 0 ≤ y) (h : lateB om m0 m1 zs = false) : lateB om m0 (m1 - y) zs = false := by
  have hs := (sum_bd zs hu).1
  unfold lateB at h ⊢
  by_cases h1 : 0 < m0
  · by_cases h2 : 0 < sumN zs
    · rw [decide_eq_true h1, decide_eq_true h2, Bool.true_and, Bool.true_and] at h ⊢
      have h' := of_decide_eq_false h
      have e : (m1 - y) * sumN zs = m1 * sumN zs - y * sumN zs := by rw [Int.sub_mul]
      have : 0 ≤ y * sumN zs := Int.mul_nonneg hy hs
      exact decide_eq_false (by rw [e]; omega)
    · simp [h2]
  · simp [h1]

set_option maxRecDepth 100000 in
set_option maxHeartbeats 1600000 in
theorem walk (a0 a1 a2 : Int) (a : Option Addr) (n c : Nat) (xs : List Int) (a4 a5 : Int) (w : World) (h1 : I64 a0) (h2 : I64 a1) (h3 : I64 a2) (hr : IntRow w a n xs) (hm : n ≤ maxLen) (hx : ∀ x ∈ xs, I64 x) (h4 : I64 a4) (h5 : I64 a5) :
    Calls Try.prog 11 #[.int .i64 a0, .int .i64 a1, .int .i64 a2, .slice a n c, .int .i64 a4, .int .i64 a5] w fun e w' => e = .returned (.bool true) ∧ Below w.heap.size w w' := by
  have hR := Lib.hid hr
  have hX := Lib.hid hx
  clear hr hx
  go_enter Try.func11, Try.ntmps11
  go_wp2_with fail
  refine (within_q a0 9 _ h1 (by omega) (by omega)).mono ?_; rintro e w' ⟨num, rfl, hu, hu0, hu4, rfl⟩
  go_wp2_with fail
  refine (within_q a1 8 _ h2 (by omega) (by omega)).mono ?_; rintro e w' ⟨den, rfl, hv, hv0, hv4, rfl⟩
  go_wp2_with fail
  refine (within_q a2 65 _ h3 (by omega) (by omega)).mono ?_; rintro e w' ⟨om, rfl, ho, ho0, ho4, rfl⟩
  go_wp2_with fail
  refine (measures_t a n c xs _ hR.out hm hX.out).mono ?_; rintro e w1 ⟨⟨d1, c1, d2, c2, rfl⟩ | ⟨b1, o1, c1, b2, o2, c2, k, m0, m1, rest, rfl, B⟩, hb1⟩
  · go_wp2_with fail
    refine (jwakes_c _).mono ?_; rintro e w2 ⟨rfl, hb2⟩
    go_wp2
    go_ret
    exact ⟨rfl, hb1.trans (hb2.mono hb1.size)⟩
  · by_cases hk0 : k = 0
    · subst hk0
      clear B
      go_wp2_with fail
      refine (jwakes_c _).mono ?_; rintro e w2 ⟨rfl, hb2⟩
      go_wp2
      go_ret
      exact ⟨rfl, hb1.trans (hb2.mono hb1.size)⟩
    · obtain ⟨A1, A2, r1, r2, hM, hZ⟩ := B.rest
      have k3 := B.z0
      have q3 := fun (x : Later w1) => x.cell k3
      have k1 := B.m0_.1
      have k2 := B.m0_.2
      have hf := B.fine.head
      have hlen := B.few
      have hF := Lib.hid B.fine
      have HB := Lib.hid B
      have hZ' := Lib.hid hZ
      have i1 : (2 : Int) ≤ (k : Int) + 1 := by omega
      have i3 : decide ((k : Int) + 1 < 2) = false := decide_eq_false (by omega)
      have i2 : (0 : Int) < (k : Int) + 1 := by omega
      obtain ⟨bs, hbs⟩ : ∃ bs, slowB num (1 + den) m0 rest = bs := ⟨_, rfl⟩
      obtain ⟨bl, hbl⟩ : ∃ bl, lateB om m0 m1 rest = bl := ⟨_, rfl⟩
      have HS := Lib.hid hbs
      have HL := Lib.hid hbl
      clear B hM hZ hk0 hbs hbl
      go_wp2_with fail
      refine wp_region_later (by kernel_rfl) (by kernel_rfl) ?_
      repeat (go_big_quiet_step (first
        | (go_at_call 25; exact Later.same (slow_b num (1 + den) m0 m1 A2 k _ rest _ (VRow.later hZ'.out _) hF.out.tail.usual (by omega) (by omega) (by omega) (by omega) (Small.of (by omega) (by omega)) bs HS.out))
        | (go_at_call 32; exact Later.same (late_b om m0 m1 A2 k _ rest _ (VRow.later hZ'.out _) hF.out.tail.usual (by omega) (by omega) (by omega) (by omega) bl HL.out))))
      refine wpQuiet_nil ?_
      rintro _ ⟨x, rfl⟩
      have e1 := x.cell k1
      have e2 := x.cell k2
      have y1 : 0 ≤ a4 % 1000 ∧ a4 % 1000 < 1000 := by omega
      have y2 : IntKind.i64.wrap (m0 + a4 % 1000) = m0 + a4 % 1000 := IntWalk.i64_in _ (by omega)
      go_wp2_with fail
      obtain ⟨w6, hw6⟩ : ∃ w6, w6 = x.w.alloc (.cells #[.int .i64 m0, .int .i64 m1] 42) := ⟨_, rfl⟩
      rw [← hw6]
      have hb16 := hb1.trans (x.b.mono hb1.size)
      have hg0 := hb16.size
      obtain ⟨g, hg⟩ : ∃ g, g = x.w.heap.size := ⟨_, rfl⟩
      have hbk6 := Lib.hid (show Blk w6 g 42 #[.int .i64 m0, .int .i64 m1] by rw [hw6, hg]; exact Blk.new _ _ _)
      have hb6 : Below w.heap.size w w6 := by rw [hw6]; exact hb16.alloc hg0 _
      have hs6 : w6.heap.size = g + 1 := by rw [hw6, hg]; simp
      have HS6 := Lib.hid hs6
      have hb6' : Below x.w.heap.size x.w w6 := by rw [hw6]; exact (Below.refl _ _).alloc (Nat.le_refl _) _
      have hlz := lt_of_cell' (x.cell k3)
      have hl1 := lt_of_cell' e1
      have z6 : w6.cell? ⟨b1, o1, none⟩ = some (.int .i64 m0) := kept hb6' _ _ e1
      have z7 : w6.cell? ⟨b1, o1 + 1, none⟩ = some (.int .i64 m1) := kept hb6' _ _ e2
      have hZ6 := Lib.hid (VRow.below (VRow.later hZ'.out x) hb6')
      rw [← hg]
      have hgg : w.heap.size ≤ g := by rw [hg]; exact hg0
      have hl1' : b1 < g := by rw [hg]; exact hl1
      have HG := Lib.hid hg
      have HW6 := Lib.hid hw6
      clear hw6 hg hs6 e1 e2 hlz hl1 hg0
      have p1 := hbk6.out.cell 0
      have p1' : w6.cell? ⟨g, 0, none⟩ = some (.int .i64 m0) := p1
      have p2 := hbk6.out.frozen 0
      clear p1
      refine wp_region_still_tail 6 (by kernel_rfl) (by kernel_rfl) ?_
      simp only [List.take_succ_cons, List.take_zero, List.drop_succ_cons, List.drop_zero]
      still_step
      still_step
      still_step
      still_call ((within_keep a4 1000 _ h4 (by omega) (by omega)).mono fun e w' ⟨he, hw⟩ => ⟨he, hw.symm⟩)
      still_step
      still_step
      refine wpStill_nil ?_
      change wpList _ _ _ _ _ w6.drew
      go_wp2_with fail
      obtain ⟨w9, hw9⟩ : ∃ w9, w9 = ((w6.setCell ⟨g, 0, none⟩ (.int .i64 (m0 + a4 % 1000))).alloc (.cells #[.int .i64 m0, .int .i64 m1] 42)).drew := ⟨_, rfl⟩
      rw [← hw9]
      have ba9 := Lib.hid (show Blk w9 g 42 #[.int .i64 (m0 + a4 % 1000), .int .i64 m1] by rw [hw9]; exact ((hbk6.out.set_ 0 _).alloc _).drew)
      have bb9 := Lib.hid (show Blk w9 w6.heap.size 42 #[.int .i64 m0, .int .i64 m1] by rw [hw9]; exact (Blk.new' _ _ _ (by simp)).drew)
      have hb9 : Below w.heap.size w w9 := by rw [hw9]; exact ((hb6.setCell hgg _).alloc (by simp; exact hb6.size) _).drew
      have hZ9 := Lib.hid (show CRow w9 A2 k rest by
        rw [hw9]
        refine VRow.keep hZ6.out (show w6.heap.size ≤ (World.alloc _ _).heap.size by simp) fun b hb hlt => ?_
        have hbg : b ≠ g := by
          rintro rfl
          obtain ⟨b', o', hA, hlt', _⟩ := (VRow.later hZ'.out x).2 (by omega)
          rw [hA] at hb
          simp at hb
          rw [← HG.out] at hlt'
          omega
        show (World.alloc _ _).heap[b]? = _
        rw [Below.heap_alloc _ _ _ (by simpa using hlt)]
        exact Below.heap_setCell _ _ _ _ hbg)
      have d1 : w9.cell? ⟨w6.heap.size, 1, none⟩ = some (.int .i64 m1) := bb9.out.cell 1
      have d2 := bb9.out.frozen 1
      have v1 : IntKind.i64.wrap (m1 + 1) = m1 + 1 := IntWalk.i64_in _ (by omega)
      have v2 := Int.emod_nonneg a5 (show m1 + 1 ≠ 0 by omega)
      have v3 := Int.emod_lt_of_pos a5 (show 0 < m1 + 1 by omega)
      have v4 : IntKind.i64.wrap (m1 - a5 % (m1 + 1)) = m1 - a5 % (m1 + 1) := IntWalk.i64_in _ (by omega)
      have HW9 := Lib.hid hw9
      clear hw9 p1' p2 z6 z7 y2
      refine wp_region_still_tail 9 (by kernel_rfl) (by kernel_rfl) ?_
      simp only [List.take_succ_cons, List.take_zero, List.drop_succ_cons, List.drop_zero]
      still_step
      still_step
      still_step
      still_step
      still_step
      still_step
      still_call ((within_keep a5 (m1 + 1) _ h5 (by omega) (by omega)).mono fun e w' ⟨he, hw⟩ => ⟨he, hw.symm⟩)
      still_step
      still_step
      refine wpStill_nil ?_
      change wpList _ _ _ _ _ w9.drew
      go_wp2_with fail
      obtain ⟨wA, hwA⟩ : ∃ wA, wA = (w9.setCell ⟨w6.heap.size, 1, none⟩ (.int .i64 (m1 - a5 % (m1 + 1)))).drew := ⟨_, rfl⟩
      rw [← hwA]
      have hgs : g < w6.heap.size := by rw [HS6.out]; omega
      have aA := (show Blk wA g 42 #[.int .i64 (m0 + a4 % 1000), .int .i64 m1] by rw [hwA]; exact (ba9.out.far (by simp; omega) _).drew)
      have bA := (show Blk wA w6.heap.size 42 #[.int .i64 m0, .int .i64 (m1 - a5 % (m1 + 1))] by rw [hwA]; exact (bb9.out.set_ 1 _).drew)
      have hbA : Below w.heap.size w wA := by rw [hwA]; exact (hb9.setCell hb6.size _).drew
      have hZA := Lib.hid (show CRow wA A2 k rest by
        rw [hwA]
        refine VRow.keep hZ9.out (show w9.heap.size ≤ (World.setCell _ _ _).heap.size by simp) fun b hb hlt => ?_
        have hbg : b ≠ w6.heap.size := by
          rintro rfl
          obtain ⟨b', o', hA, hlt', _⟩ := hZ6.out.2 (by omega)
          rw [hA] at hb
          simp at hb
          omega
        exact Below.heap_setCell _ _ _ _ hbg)
      have l1 := fun (y : Later wA) => aA.laterCell (i := 0) (v := .int .i64 (m0 + a4 % 1000)) rfl y
      have l2 := fun (y : Later wA) => aA.laterCell (i := 1) (v := .int .i64 m1) rfl y
      have l3 := fun (y : Later wA) => bA.laterCell (i := 0) (v := .int .i64 m0) rfl y
      have l4 := fun (y : Later wA) => bA.laterCell (i := 1) (v := .int .i64 (m1 - a5 % (m1 + 1))) rfl y
      have more := Lib.hid (fun h => slow_more num (1 + den) m0 (a4 % 1000) rest (by omega) y1.1 (HS.out.trans h))
      have less := Lib.hid (fun h => late_less om m0 m1 (a5 % (m1 + 1)) rest hF.out.tail.usual v2 (HL.out.trans h))
      have HWA := Lib.hid hwA
      clear hwA aA bA d1 d2 v1 v4
      cases bs <;> cases bl
      all_goals
        refine wp_region_later (by kernel_rfl) (by kernel_rfl) ?_
        repeat (go_big_quiet_step (first
          | (go_at_call 33; exact Later.call (z_c _ _ _))
          | (go_at_call 25; exact Later.same (slow_f num (1 + den) (m0 + a4 % 1000) m1 A2 k _ rest _ (VRow.later hZA.out _) hF.out.tail.usual (by omega) (by omega) (by omega) (by omega) (Small.of (by omega) (by omega)) (more.out rfl)))
          | (go_at_call 32; exact Later.same (late_f om m0 (m1 - a5 % (m1 + 1)) A2 k _ rest _ (VRow.later hZA.out _) hF.out.tail.usual (by omega) (by omega) (by omega) (by omega) (less.out rfl)))
          | (go_at_call 26; exact Later.call (jwakes_c _))))
        refine wpQuiet_nil ?_
        rintro _ ⟨y, rfl⟩
        go_wp2
        go_ret
        exact ⟨rfl, hbA.trans (y.b.mono hbA.size)⟩

theorem lawWalk : LawWalk Try.checked 11 Try.f11 := by
  intro H enc W base args ds p hval hA hsz
  rw [Try.params11] at hA hval
  obtain ⟨v0, vs0, d0, ds0, p0, q0, hargs, rfl, rfl, h0, r0⟩ := trodAll_cons hA
  obtain ⟨v1, vs1, d1, ds1, p1, q1, rfl, rfl, rfl, h1, r1⟩ := trodAll_cons r0
  obtain ⟨v2, vs2, d2, ds2, p2, q2, rfl, rfl, rfl, h2, r2⟩ := trodAll_cons r1
  obtain ⟨v3, vs3, d3, ds3, p3, q3, rfl, rfl, rfl, h3, r3⟩ := trodAll_cons r2
  obtain ⟨v4, vs4, d4, ds4, p4, q4, rfl, rfl, rfl, h4, r4⟩ := trodAll_cons r3
  obtain ⟨v5, vs5, d5, ds5, p5, q5, rfl, rfl, rfl, h5, r5⟩ := trodAll_cons r4
  obtain ⟨rfl, rfl, rfl⟩ := trodAll_nil r5
  obtain rfl : args = #[v0, v1, v2, v3, v4, v5] := by cases args; simp_all
  obtain ⟨a0, rfl, rfl, rfl, w0⟩ := open_int Try.underlying3 (hval 0 3 v0 rfl rfl) h0
  obtain ⟨a1, rfl, rfl, rfl, w1⟩ := open_int Try.underlying3 (hval 1 3 v1 rfl rfl) h1
  obtain ⟨a2, rfl, rfl, rfl, w2⟩ := open_int Try.underlying3 (hval 2 3 v2 rfl rfl) h2
  obtain ⟨a3, n3, c3, xs3, rfl, hnc3, hcm3, hr3, hx3⟩ := open_int_slice Try.underlying28 Try.underlying3 (by kernel_rfl) (hval 3 28 v3 rfl rfl) h3
  obtain ⟨a4, rfl, rfl, rfl, w4⟩ := open_int Try.underlying3 (hval 4 3 v4 rfl rfl) h4
  obtain ⟨a5, rfl, rfl, rfl, w5⟩ := open_int Try.underlying3 (hval 5 3 v5 rfl rfl) h5
  exact walk a0 a1 a2 a3 n3 c3 xs3 a4 a5 W (I64.of_wf w0) (I64.of_wf w1) (I64.of_wf w2) hr3 (Nat.le_trans hnc3 hcm3) hx3 (I64.of_wf w4) (I64.of_wf w5)

theorem lifted (os : Os) (started : os.Started) (H : Type) (enc : TypeId × Value → H) :
    ReturnsInHanded {} Try.checked os 11 .any (Rows.judgeMoreSpec.pre6 enc Try.prog Try.f11 Rows.judgeMoreRow.domain false) (Rows.judgeMoreSpec.post enc Try.prog Try.f11 false true false false) :=
  law_lift (C := Try.checked) (s := Rows.judgeMoreSpec) (tb := 4) (by kernel_rfl) started (by kernel_rfl) Try.func11
    (ChangeSpec.witness6 (enc := enc) (C := Try.checked) false ⟨#[], #[.int .i64 0, .int .i64 0, .int .i64 0, .slice none 0 0, .int .i64 0, .int .i64 0], []⟩ 8 (by kernel_rfl) (by kernel_rfl) (by kernel_rfl) (by kernel_rfl))
    rfl (fun H ds h => by
      match ds, h with
      | [d0, d1, d2, d3, d4, d5], _ => rfl) (by kernel_rfl) (by kernel_rfl) (by kernel_rfl) Try.underlying4 lawWalk

theorem over : Rows.judgeMoreRow.holds Try.pinned (OpenSpec.ofChange Rows.judgeMoreSpec) :=
  OpenClaim.holds_of_wide 11 Try.f11 rfl rfl rfl rfl rfl rfl rfl ⟨rfl, rfl, rfl, rfl, rfl⟩ rfl rfl rfl rfl rfl (by kernel_rfl) Try.func11 (by kernel_rfl)
    (of_decide_eq_true (by kernel_rfl)) (by unfold Func.isWrapper; first | (rw [if_pos (by decide +kernel)]; kernel_rfl) | (rw [if_neg (by decide +kernel)]; exact ⟨rfl, rfl⟩))
    (fun os started H enc _ => lifted os started H enc)

/-- The statement. -/
theorem proved : Rows.JudgeMoreSaid := over
#print axioms proved
end Go.Proofs.Ytiacklfigpobnaa.JudgeMore
