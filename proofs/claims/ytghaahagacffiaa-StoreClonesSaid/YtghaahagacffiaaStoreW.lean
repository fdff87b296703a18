/- The laws' example on a store. -/
import Derived.Test.YtghaahagacffiaaStoreC
import Derived.Test.YtghaahagacffiaaKeep
namespace Go.Proofs.Ytghaahagacffiaa
open Go.RowKit
set_option linter.unusedVariables false

theorem I64.of {n : Int} (h1 : -9223372036854775808 ≤ n) (h2 : n ≤ 9223372036854775807) : I64 n := ⟨h1, h2⟩

set_option maxRecDepth 100000 in
set_option maxHeartbeats 1600000 in
theorem swakes_c (w : World) : Calls Try.prog 14 #[] w fun e w' => e = .returned (.bool true) ∧ Below w.heap.size w w' := by
  obtain ⟨s1, hs1⟩ : ∃ s, opSt st0 1 1 5 = s := ⟨_, rfl⟩
  obtain ⟨s2, hs2⟩ : ∃ s, opSt s1 3 1 2 = s := ⟨_, rfl⟩
  obtain ⟨s3, hs3⟩ : ∃ s, opSt s2 4 1 0 = s := ⟨_, rfl⟩
  have r1 : opR st0 1 1 5 = 0 := by decide
  have r2 : opR s1 3 1 2 = 7 := by subst hs1; decide
  have r3 : opR s2 5 0 0 = 7 := by subst hs2 hs1; decide
  have t3 : opSt s2 5 0 0 = s2 := by subst hs2 hs1; decide
  have r4 : opR s2 4 1 0 = 7 := by subst hs2 hs1; decide
  have r5 : (allTo s3 64).length = 0 := by subst hs3 hs2 hs1; decide
  have m1 : Smalls s1 := by rw [← hs1]; exact Smalls.zero.op _ _ _
  have m2 : Smalls s2 := by rw [← hs2]; exact m1.op _ _ _
  have HS1 := Lib.hid hs1
  have HS2 := Lib.hid hs2
  have HS3 := Lib.hid hs3
  have R1 := Lib.hid r1
  have R2 := Lib.hid r2
  have R3 := Lib.hid r3
  have R4 := Lib.hid r4
  have R5 := Lib.hid r5
  have T3 := Lib.hid t3
  have M1 := Lib.hid m1
  have M2 := Lib.hid m2
  clear hs1 hs2 hs3 r1 r2 r3 r4 r5 t3 m1 m2
  go_enter Try.func14, Try.ntmps14
  go_wp2_with fail
  refine (new_c _).mono ?_; rintro e w1 ⟨gs, rfl, h1, hg, hb1⟩
  go_wp2_with fail
  refine (apply_c gs _ 1 1 5 _ h1 Smalls.zero (I64.of (by omega) (by omega)) (I64.of (by omega) (by omega)) (I64.of (by omega) (by omega)) 0 R1.out _ HS1.out).mono ?_; rintro e w2 ⟨rfl, h2, o2⟩
  go_wp2_with fail
  refine (apply_c gs _ 3 1 2 _ h2 M1.out (I64.of (by omega) (by omega)) (I64.of (by omega) (by omega)) (I64.of (by omega) (by omega)) 7 R2.out _ HS2.out).mono ?_; rintro e w3 ⟨rfl, h3, o3⟩
  go_wp2_with fail
  refine (apply_c gs _ 5 0 0 _ h3 M2.out (I64.of (by omega) (by omega)) (I64.of (by omega) (by omega)) (I64.of (by omega) (by omega)) 7 R3.out _ T3.out).mono ?_; rintro e w4 ⟨rfl, h4, o4⟩
  go_wp2_with fail
  refine (apply_c gs _ 4 1 0 _ h4 M2.out (I64.of (by omega) (by omega)) (I64.of (by omega) (by omega)) (I64.of (by omega) (by omega)) 7 R4.out _ HS3.out).mono ?_; rintro e w5 ⟨rfl, h5, o5⟩
  go_wp2_with fail
  refine (len_c gs _ _ h5 0 R5.out).mono ?_; rintro e w6 ⟨rfl, hb6⟩
  go_wp2
  go_ret
  have o := ((o2.trans o3).trans o4).trans o5
  have b := o.below hb1 hb1.size (by simpa using hg)
  exact ⟨rfl, b.trans (hb6.mono b.size)⟩
end Go.Proofs.Ytghaahagacffiaa
