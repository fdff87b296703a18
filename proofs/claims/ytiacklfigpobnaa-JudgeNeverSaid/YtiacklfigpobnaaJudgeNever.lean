/- JudgeNever is proved: for all numbers and lists of numbers the law returns true. No condition. -/
import Derived.Test.YtiacklfigpobnaaRows
import Derived.Test.YtiacklfigpobnaaMeasT
import Derived.Deep.RegionWith
import Derived.Deep.RegionHeld3
namespace Go.Proofs.Ytiacklfigpobnaa.JudgeNever
open Go.ChangeShapes Go.WideShapes Go.ChangeAt Go.RowKit F
set_option linter.unusedVariables false

theorem slow_f (num den mn mt : Int) (a : Option Addr) (n c : Nat) (zs : List (Int × Int)) (w : World) (hr : CRow w a n zs) (hu : Usual zs) (hn : n ≤ 64)
    (hnum : 0 ≤ num ∧ num ≤ 64) (hden : 0 ≤ den ∧ den ≤ 64) (hm : 0 ≤ mn ∧ mn ≤ 134217728) (ht : Small mt) (hb : slowB num den mn zs = false) :
    Calls Try.prog 25 #[.int .i64 num, .int .i64 den, .complex .f64 (fw mn) (fw mt), .slice a n c] w fun e w' => e = .returned (.bool false) ∧ w = w' := by
  have h := slow_c num den mn mt a n c zs w hr hu hn hnum hden hm ht
  rw [hb] at h
  exact h
theorem late_f (om mn mt : Int) (a : Option Addr) (n c : Nat) (zs : List (Int × Int)) (w : World) (hr : CRow w a n zs) (hu : Usual zs) (hn : n ≤ 64)
    (hom : 0 ≤ om ∧ om ≤ 64) (hm : 0 ≤ mn ∧ mn ≤ 1048576) (ht : 0 ≤ mt ∧ mt ≤ 134217728) (hb : lateB om mn mt zs = false) :
    Calls Try.prog 32 #[.int .i64 om, .complex .f64 (fw mn) (fw mt), .slice a n c] w fun e w' => e = .returned (.bool false) ∧ w = w' := by
  have h := late_c om mn mt a n c zs w hr hu hn hom hm ht
  rw [hb] at h
  exact h
theorem idle_usual : Usual [(0, 5), (0, 5)] := by intro z hz; simp at hz; subst hz; omega
theorem idle_row (w : World) (t : TypeId) : CRow ((w.alloc (.cells #[.complex .f64 (fw 0) (fw 5), .complex .f64 (fw 0) (fw 5)] t)).drew) (some ⟨w.heap.size, 0, none⟩) 2 [(0, 5), (0, 5)] :=
  VRow.of_blk (t := t) (cs := #[.complex .f64 (fw 0) (fw 5), .complex .f64 (fw 0) (fw 5)]) (Blk.drew (Blk.new w t _)) rfl
theorem idle_row2 (w : World) (o : Obj) (t : TypeId) : CRow (((w.alloc o).alloc (.cells #[.complex .f64 (fw 0) (fw 5), .complex .f64 (fw 0) (fw 5)] t)).drew) (some ⟨w.heap.size + 1, 0, none⟩) 2 [(0, 5), (0, 5)] :=
  VRow.of_blk (t := t) (cs := #[.complex .f64 (fw 0) (fw 5), .complex .f64 (fw 0) (fw 5)]) (Blk.drew (Blk.new' (w.alloc o) t _ (by simp))) rfl
theorem slow_idle (num den m0 : Int) (h1 : 0 ≤ m0) (h2 : 0 ≤ den) : slowB num den m0 [(0, 5), (0, 5)] = false := by
  have : 0 ≤ m0 * den * 2 := Int.mul_nonneg (Int.mul_nonneg h1 h2) (by omega)
  simp [slowB, sumN]
  omega
theorem late_idle (om m0 m1 : Int) : lateB om m0 m1 [(0, 5), (0, 5)] = false := by simp [lateB, sumN]
theorem slow_zero (den m0 : Int) (zs : List (Int × Int)) (h1 : 0 ≤ m0) (h2 : 0 ≤ den) : slowB 0 den m0 zs = false := by
  have : 0 ≤ m0 * den * (zs.length : Int) := Int.mul_nonneg (Int.mul_nonneg h1 h2) (by omega)
  simp [slowB]
  omega
theorem late_zero (om m1 : Int) (zs : List (Int × Int)) : lateB om 0 m1 zs = false := by simp [lateB]

set_option maxRecDepth 100000 in
set_option maxHeartbeats 1600000 in
theorem walk (a0 a1 a2 : Int) (a : Option Addr) (n c : Nat) (xs : List Int) (w : World) (h1 : I64 a0) (h2 : I64 a1) (h3 : I64 a2) (hr : IntRow w a n xs) (hm : n ≤ maxLen) (hx : ∀ x ∈ xs, I64 x) :
    Calls Try.prog 12 #[.int .i64 a0, .int .i64 a1, .int .i64 a2, .slice a n c] w fun e w' => e = .returned (.bool true) ∧ Below w.heap.size w w' := by
  have hR := Lib.hid hr
  have hX := Lib.hid hx
  clear hr hx
  go_enter Try.func12, Try.ntmps12
  go_wp2_with fail
  refine (within_q a2 9 _ h3 (by omega) (by omega)).mono ?_; rintro e w' ⟨num, rfl, hu, hu0, hu4, rfl⟩
  go_wp2_with fail
  refine (within_q a0 8 _ h1 (by omega) (by omega)).mono ?_; rintro e w' ⟨den, rfl, hv, hv0, hv4, rfl⟩
  go_wp2_with fail
  refine (within_q a1 65 _ h2 (by omega) (by omega)).mono ?_; rintro e w' ⟨om, rfl, ho, ho0, ho4, rfl⟩
  go_wp2_with fail
  refine (measures_t a n c xs _ hR.out hm hX.out).mono ?_; rintro e w1 ⟨⟨d1, c1, d2, c2, rfl⟩ | ⟨b1, o1, c1, b2, o2, c2, k, m0, m1, rest, rfl, B⟩, hb1⟩
  · go_wp2_with fail
    refine (jwakes_c _).mono ?_; rintro e w2 ⟨rfl, hb2⟩
    go_wp2
    go_ret
    exact ⟨rfl, hb1.trans (hb2.mono hb1.size)⟩
  · by_cases hk0 : k = 0
    · subst hk0
      clear B
      go_wp2_with fail
      refine (jwakes_c _).mono ?_; rintro e w2 ⟨rfl, hb2⟩
      go_wp2
      go_ret
      exact ⟨rfl, hb1.trans (hb2.mono hb1.size)⟩
    · have k2 := B.m0_.2
      have HB := Lib.hid B
      have hf := B.fine.head
      have hlen := B.few
      have i1 : (2 : Int) ≤ (k : Int) + 1 := by omega
      have i3 : decide ((k : Int) + 1 < 2) = false := decide_eq_false (by omega)
      have i2 : (0 : Int) < (k : Int) + 1 := by omega
      clear B hk0
      go_wp2_with fail
      refine (z_c 0 m1 _).mono ?_; rintro e w2 ⟨rfl, hb2⟩
      go_wp2_with fail
      refine (z_c 0 5 _).mono ?_; rintro e w3 ⟨rfl, hb3⟩
      have hb23 := hb2.trans (hb3.mono hb2.size)
      have B3 := HB.out.below hb23
      obtain ⟨A1, A2, r1, r2, hM, hZ⟩ := B3.rest
      have k3 := B3.z0
      have n3 := World.new_ne w3 _ k3
      have hF := Lib.hid B3.fine
      have hZ' := Lib.hid hZ
      have f1 := Lib.hid (slow_zero (1 + den) m0 rest (by omega) (by omega))
      have f2 := Lib.hid (late_zero om m1 rest)
      have f3 := Lib.hid (slow_idle num (1 + den) m0 (by omega) (by omega))
      have f4 := Lib.hid (late_idle om m0 m1)
      have hb13 := hb1.trans (hb23.mono hb1.size)
      clear B3 hM hZ k2
      go_wp2_with fail
      go_region_held3 (fun w' => w'.cell? ⟨b2, o2, none⟩ = some (.complex .f64 (fw m0) (fw m1))) (first | go_keep)
        (first
          | (go_at_call_of 25 (Value.int IntKind.i64 0); refine (slow_f 0 (1 + den) m0 m1 A2 k _ rest _ (VRow.drew hZ'.out) hF.out.tail.usual (by omega) (by omega) (by omega) (by omega) (Small.of (by omega) (by omega)) f1.out).mono ?_; rintro e w' ⟨rfl, rfl⟩)
          | (go_at_call_of 32 (Value.complex FloatKind.f64 (fw 0) (fw m1)); refine (late_f om 0 m1 A2 k _ rest _ (VRow.drew hZ'.out) hF.out.tail.usual (by omega) (by omega) (by omega) (by omega) f2.out).mono ?_; rintro e w' ⟨rfl, rfl⟩)
          | (go_at_call 25; refine (slow_f num (1 + den) m0 m1 _ 2 _ [(0, 5), (0, 5)] _ (idle_row _ _) idle_usual (by omega) (by omega) (by omega) (by omega) (Small.of (by omega) (by omega)) f3.out).mono ?_; rintro e w' ⟨rfl, rfl⟩)
          | (go_at_call 32; refine (late_f om m0 m1 _ 2 _ [(0, 5), (0, 5)] _ (idle_row2 _ _ _) idle_usual (by omega) (by omega) (by omega) (by omega) f4.out).mono ?_; rintro e w' ⟨rfl, rfl⟩)
          | (go_at_call 26; refine (jwakes_c _).mono ?_; rintro e w5 ⟨rfl, hb5⟩; have hk5 := kept hb5))
      go_wp2
      go_ret
      exact ⟨rfl, (((hb13.alloc hb13.size _).alloc (by simp; have := hb13.size; omega) _).drew).trans (hb5.mono (show w.heap.size ≤ ((w3.alloc _).alloc _).heap.size by simp; have := hb13.size; omega))⟩

theorem lawWalk : LawWalk Try.checked 12 Try.f12 := by
  intro H enc W base args ds p hval hA hsz
  rw [Try.params12] at hA hval
  obtain ⟨v0, vs0, d0, ds0, p0, q0, hargs, rfl, rfl, h0, r0⟩ := trodAll_cons hA
  obtain ⟨v1, vs1, d1, ds1, p1, q1, rfl, rfl, rfl, h1, r1⟩ := trodAll_cons r0
  obtain ⟨v2, vs2, d2, ds2, p2, q2, rfl, rfl, rfl, h2, r2⟩ := trodAll_cons r1
  obtain ⟨v3, vs3, d3, ds3, p3, q3, rfl, rfl, rfl, h3, r3⟩ := trodAll_cons r2
  obtain ⟨rfl, rfl, rfl⟩ := trodAll_nil r3
  obtain rfl : args = #[v0, v1, v2, v3] := by cases args; simp_all
  obtain ⟨a0, rfl, rfl, rfl, w0⟩ := open_int Try.underlying3 (hval 0 3 v0 rfl rfl) h0
  obtain ⟨a1, rfl, rfl, rfl, w1⟩ := open_int Try.underlying3 (hval 1 3 v1 rfl rfl) h1
  obtain ⟨a2, rfl, rfl, rfl, w2⟩ := open_int Try.underlying3 (hval 2 3 v2 rfl rfl) h2
  obtain ⟨a3, n3, c3, xs3, rfl, hnc3, hcm3, hr3, hx3⟩ := open_int_slice Try.underlying28 Try.underlying3 (by kernel_rfl) (hval 3 28 v3 rfl rfl) h3
  exact walk a0 a1 a2 a3 n3 c3 xs3 W (I64.of_wf w0) (I64.of_wf w1) (I64.of_wf w2) hr3 (Nat.le_trans hnc3 hcm3) hx3

theorem lifted (os : Os) (started : os.Started) (H : Type) (enc : TypeId × Value → H) :
    ReturnsInHanded {} Try.checked os 12 .any (Rows.judgeNeverSpec.pre6 enc Try.prog Try.f12 Rows.judgeNeverRow.domain false) (Rows.judgeNeverSpec.post enc Try.prog Try.f12 false true false false) :=
  law_lift (C := Try.checked) (s := Rows.judgeNeverSpec) (tb := 4) (by kernel_rfl) started (by kernel_rfl) Try.func12
    (ChangeSpec.witness6 (enc := enc) (C := Try.checked) false ⟨#[], #[.int .i64 0, .int .i64 0, .int .i64 0, .slice none 0 0], []⟩ 8 (by kernel_rfl) (by kernel_rfl) (by kernel_rfl) (by kernel_rfl))
    rfl (fun H ds h => by
      match ds, h with
      | [d0, d1, d2, d3], _ => rfl) (by kernel_rfl) (by kernel_rfl) (by kernel_rfl) Try.underlying4 lawWalk

theorem over : Rows.judgeNeverRow.holds Try.pinned (OpenSpec.ofChange Rows.judgeNeverSpec) :=
  OpenClaim.holds_of_wide 12 Try.f12 rfl rfl rfl rfl rfl rfl rfl ⟨rfl, rfl, rfl, rfl, rfl⟩ rfl rfl rfl rfl rfl (by kernel_rfl) Try.func12 (by kernel_rfl)
    (of_decide_eq_true (by kernel_rfl)) (by unfold Func.isWrapper; first | (rw [if_pos (by decide +kernel)]; kernel_rfl) | (rw [if_neg (by decide +kernel)]; exact ⟨rfl, rfl⟩))
    (fun os started H enc _ => lifted os started H enc)

/-- The statement. -/
theorem proved : Rows.JudgeNeverSaid := over
#print axioms proved
end Go.Proofs.Ytiacklfigpobnaa.JudgeNever
