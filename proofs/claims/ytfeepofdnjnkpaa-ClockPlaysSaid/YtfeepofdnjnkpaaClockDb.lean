/- The law's act: sets that may not be. -/
import Derived.Test.YtfeepofdnjnkpaaClockDo
import Derived.Test.YtfeepofdnjnkpaaPlanS
import Derived.Deep.CutRange
import Derived.Deep.DeepCutAuto
import Derived.Deep.CutBlock
namespace Go.Proofs.Ytfeepofdnjnkpaa
open Go.RowKit
set_option linter.unusedVariables false

set_option maxRecDepth 100000 in
set_option maxHeartbeats 3200000 in
theorem do_bad3 (B gc gp : Nat) (now : Int) (L P : List (Int × Int)) (d id t : Int) (w : World) (hC : Clk w B gc now L) (hP : Pn w B gp now P) (M : Mt L P) (hnow : 0 ≤ now ∧ now ≤ 300) (hn : L.length ≤ 300) (xd : I64 d) (hi : I64 id) (xt : I64 t) (hd : d % 8 = 3) (hb : t < 1 ∨ 1048576 < t) :
    Calls Try.prog 38 #[.pointer (some ⟨gc, 0, none⟩), .pointer (some ⟨gp, 0, none⟩), .agg #[.int .i64 d, .int .i64 id, .int .i64 t]] w (DoPost B gc gp now L.length w) := by
  have HB := Lib.hid hb
  obtain ⟨fi, hfi⟩ := find_ex P id
  have HC := Lib.hid hC
  have HP := Lib.hid hP
  have MM := Lib.hid M
  have HD := Lib.hid hd
  have HI := Lib.hid hi
  have HF := Lib.hid hfi
  have PL := Lib.hid (show P.length ≤ 300 by rw [M.len]; exact hn)
  have GPL := Lib.hid hP.lt
  have BW : B ≤ w.heap.size := Nat.le_trans hC.ge (Nat.le_of_lt hC.lt)
  clear hC hP M hd hi hfi
  go_enter Try.func38, Try.ntmps38
  go_upto_region 2 with fail
  obtain ⟨w1, hw1⟩ : ∃ w1, w1 = w.alloc (.cells #[.int .i64 d, .int .i64 id, .int .i64 t] 73) := ⟨_, rfl⟩
  obtain ⟨ga, hga⟩ : ∃ ga, ga = w.heap.size := ⟨_, rfl⟩
  rw [← hw1, ← hga]
  have hA : Blk w1 ga 73 #[.int .i64 d, .int .i64 id, .int .i64 t] := by rw [hw1, hga]; exact Blk.new _ _ _
  have b1 : Below w.heap.size w w1 := by rw [hw1]; exact (Below.refl _ _).alloc (Nat.le_refl _) _
  have A1 := Lib.hid hA
  have B1 := Lib.hid b1
  have C1 := Lib.hid (HC.out.below b1)
  have P1 := Lib.hid (HP.out.below b1)
  have a0 : w1.cell? ⟨ga, 0, none⟩ = some (.int .i64 d) := hA.cell 0
  have a1 : w1.cell? ⟨ga, 1, none⟩ = some (.int .i64 id) := hA.cell 1
  have a2 : w1.cell? ⟨ga, 2, none⟩ = some (.int .i64 t) := hA.cell 2
  have GA : Hid (w.heap.size ≤ ga) := Lib.hid (Nat.le_of_eq hga.symm)
  clear hw1 hga hA b1
  go_wp2_with fail
  refine (find_c B gp now P id _ P1.out (by have := PL.out; omega) HI.out fi HF.out).mono ?_; rintro e w' ⟨rfl, rfl⟩
  go_wp2_with fail
  refine (within_q d 8 _ xd (by omega) (by omega)).mono ?_; rintro e w' ⟨x, rfl, hx5, _, _, rfl⟩
  obtain rfl : x = 3 := by rw [hx5.out, HD.out]
  clear hx5
  rcases (show t < 1 ∨ (¬ t < 1 ∧ 1 ≤ t ∧ ¬ t ≤ 1048576) by omega) with h1 | ⟨h1, h2, h3⟩
  case' inl =>
    have h2 : ¬ 1 ≤ t := by omega
    have z1 : decide (1 ≤ t) = false := decide_eq_false h2
  case' inr =>
    have z1 : decide (1 ≤ t) = true := decide_eq_true h2
    have z2 : decide (t ≤ 1048576) = false := decide_eq_false h3
  all_goals
    go_wp2_with fail
    refine (set_bad B gc now L id t _ HB.out).mono ?_; rintro e w3 ⟨rfl, rfl⟩
    have B3 := Lib.hid (B1.out.mono BW)
    clear a0 a1 a2
    obtain ⟨aT, cT, aT2, cT2, kT, _, _⟩ := P1.out.ex
    have g0 : World.cell? _ ⟨gp, 0, none⟩ = some (.int .i64 (now)) := kT.cell 0
    clear kT
    go_upto_region 38 with fail
    go_quiet ((go_at_call 34; exact Calls.quiet_of_same ((now_c B gc (now) (L) _ (C1.out.drewN _)).mono fun _ _ e => ⟨e.1, e.2.symm⟩)))
    go_wp2_with fail
    all_goals go_ret
    all_goals exact ⟨rfl, now, L, P, C1.out.drewN _, P1.out.drewN _, MM.out, by omega, by omega, by omega, below_drewN B3.out _⟩

set_option maxRecDepth 100000 in
set_option maxHeartbeats 3200000 in
theorem do_bad4 (B gc gp : Nat) (now : Int) (L P : List (Int × Int)) (d id t : Int) (w : World) (hC : Clk w B gc now L) (hP : Pn w B gp now P) (M : Mt L P) (hnow : 0 ≤ now ∧ now ≤ 300) (hn : L.length ≤ 300) (xd : I64 d) (hi : I64 id) (xt : I64 t) (hd : d % 8 = 4) (hb : t < 1 ∨ 1048576 < t) :
    Calls Try.prog 38 #[.pointer (some ⟨gc, 0, none⟩), .pointer (some ⟨gp, 0, none⟩), .agg #[.int .i64 d, .int .i64 id, .int .i64 t]] w (DoPost B gc gp now L.length w) := by
  have HB := Lib.hid hb
  obtain ⟨fi, hfi⟩ := find_ex P id
  have HC := Lib.hid hC
  have HP := Lib.hid hP
  have MM := Lib.hid M
  have HD := Lib.hid hd
  have HI := Lib.hid hi
  have HF := Lib.hid hfi
  have PL := Lib.hid (show P.length ≤ 300 by rw [M.len]; exact hn)
  have GPL := Lib.hid hP.lt
  have BW : B ≤ w.heap.size := Nat.le_trans hC.ge (Nat.le_of_lt hC.lt)
  clear hC hP M hd hi hfi
  go_enter Try.func38, Try.ntmps38
  go_upto_region 2 with fail
  obtain ⟨w1, hw1⟩ : ∃ w1, w1 = w.alloc (.cells #[.int .i64 d, .int .i64 id, .int .i64 t] 73) := ⟨_, rfl⟩
  obtain ⟨ga, hga⟩ : ∃ ga, ga = w.heap.size := ⟨_, rfl⟩
  rw [← hw1, ← hga]
  have hA : Blk w1 ga 73 #[.int .i64 d, .int .i64 id, .int .i64 t] := by rw [hw1, hga]; exact Blk.new _ _ _
  have b1 : Below w.heap.size w w1 := by rw [hw1]; exact (Below.refl _ _).alloc (Nat.le_refl _) _
  have A1 := Lib.hid hA
  have B1 := Lib.hid b1
  have C1 := Lib.hid (HC.out.below b1)
  have P1 := Lib.hid (HP.out.below b1)
  have a0 : w1.cell? ⟨ga, 0, none⟩ = some (.int .i64 d) := hA.cell 0
  have a1 : w1.cell? ⟨ga, 1, none⟩ = some (.int .i64 id) := hA.cell 1
  have a2 : w1.cell? ⟨ga, 2, none⟩ = some (.int .i64 t) := hA.cell 2
  have GA : Hid (w.heap.size ≤ ga) := Lib.hid (Nat.le_of_eq hga.symm)
  clear hw1 hga hA b1
  go_wp2_with fail
  refine (find_c B gp now P id _ P1.out (by have := PL.out; omega) HI.out fi HF.out).mono ?_; rintro e w' ⟨rfl, rfl⟩
  go_wp2_with fail
  refine (within_q d 8 _ xd (by omega) (by omega)).mono ?_; rintro e w' ⟨x, rfl, hx5, _, _, rfl⟩
  obtain rfl : x = 4 := by rw [hx5.out, HD.out]
  clear hx5
  rcases (show t < 1 ∨ (¬ t < 1 ∧ 1 ≤ t ∧ ¬ t ≤ 1048576) by omega) with h1 | ⟨h1, h2, h3⟩
  case' inl =>
    have h2 : ¬ 1 ≤ t := by omega
    have z1 : decide (1 ≤ t) = false := decide_eq_false h2
  case' inr =>
    have z1 : decide (1 ≤ t) = true := decide_eq_true h2
    have z2 : decide (t ≤ 1048576) = false := decide_eq_false h3
  all_goals
    go_wp2_with fail
    refine (set_bad B gc now L id t _ HB.out).mono ?_; rintro e w3 ⟨rfl, rfl⟩
    have B3 := Lib.hid (B1.out.mono BW)
    clear a0 a1 a2
    obtain ⟨aT, cT, aT2, cT2, kT, _, _⟩ := P1.out.ex
    have g0 : World.cell? _ ⟨gp, 0, none⟩ = some (.int .i64 (now)) := kT.cell 0
    clear kT
    go_upto_region 38 with fail
    go_quiet ((go_at_call 34; exact Calls.quiet_of_same ((now_c B gc (now) (L) _ (C1.out.drewN _)).mono fun _ _ e => ⟨e.1, e.2.symm⟩)))
    go_wp2_with fail
    all_goals go_ret
    all_goals exact ⟨rfl, now, L, P, C1.out.drewN _, P1.out.drewN _, MM.out, by omega, by omega, by omega, below_drewN B3.out _⟩

end Go.Proofs.Ytfeepofdnjnkpaa
