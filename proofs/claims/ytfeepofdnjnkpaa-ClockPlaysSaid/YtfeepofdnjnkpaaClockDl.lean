/- The law's act: what is left. -/
import Derived.Test.YtfeepofdnjnkpaaClockDo
import Derived.Test.YtfeepofdnjnkpaaPlanS
import Derived.Deep.CutRange
import Derived.Deep.DeepCutAuto
import Derived.Deep.CutBlock
namespace Go.Proofs.Ytfeepofdnjnkpaa
open Go.RowKit
set_option linter.unusedVariables false

set_option maxRecDepth 100000 in
set_option maxHeartbeats 3200000 in
theorem do_left (B gc gp : Nat) (now : Int) (L P : List (Int × Int)) (d id t : Int) (w : World) (hC : Clk w B gc now L) (hP : Pn w B gp now P) (M : Mt L P) (hnow : 0 ≤ now ∧ now ≤ 300) (hn : L.length ≤ 300) (xd : I64 d) (hi : I64 id) (xt : I64 t) (hd : d % 8 = 6) :
    Calls Try.prog 38 #[.pointer (some ⟨gc, 0, none⟩), .pointer (some ⟨gp, 0, none⟩), .agg #[.int .i64 d, .int .i64 id, .int .i64 t]] w (DoPost B gc gp now L.length w) := by
  obtain ⟨k, is, hpl⟩ := place_ex L id
  have PLC := Lib.hid hpl
  clear hpl
  obtain ⟨fi, hfi⟩ := find_ex P id
  have HC := Lib.hid hC
  have HP := Lib.hid hP
  have MM := Lib.hid M
  have HD := Lib.hid hd
  have HI := Lib.hid hi
  have HF := Lib.hid hfi
  have PL := Lib.hid (show P.length ≤ 300 by rw [M.len]; exact hn)
  have GPL := Lib.hid hP.lt
  have BW : B ≤ w.heap.size := Nat.le_trans hC.ge (Nat.le_of_lt hC.lt)
  clear hC hP M hd hi hfi
  go_enter Try.func38, Try.ntmps38
  go_upto_region 2 with fail
  obtain ⟨w1, hw1⟩ : ∃ w1, w1 = w.alloc (.cells #[.int .i64 d, .int .i64 id, .int .i64 t] 73) := ⟨_, rfl⟩
  obtain ⟨ga, hga⟩ : ∃ ga, ga = w.heap.size := ⟨_, rfl⟩
  rw [← hw1, ← hga]
  have hA : Blk w1 ga 73 #[.int .i64 d, .int .i64 id, .int .i64 t] := by rw [hw1, hga]; exact Blk.new _ _ _
  have b1 : Below w.heap.size w w1 := by rw [hw1]; exact (Below.refl _ _).alloc (Nat.le_refl _) _
  have A1 := Lib.hid hA
  have B1 := Lib.hid b1
  have C1 := Lib.hid (HC.out.below b1)
  have P1 := Lib.hid (HP.out.below b1)
  have a0 : w1.cell? ⟨ga, 0, none⟩ = some (.int .i64 d) := hA.cell 0
  have a1 : w1.cell? ⟨ga, 1, none⟩ = some (.int .i64 id) := hA.cell 1
  have a2 : w1.cell? ⟨ga, 2, none⟩ = some (.int .i64 t) := hA.cell 2
  have GA : Hid (w.heap.size ≤ ga) := Lib.hid (Nat.le_of_eq hga.symm)
  clear hw1 hga hA b1
  go_wp2_with fail
  refine (find_c B gp now P id _ P1.out (by have := PL.out; omega) HI.out fi HF.out).mono ?_; rintro e w' ⟨rfl, rfl⟩
  go_wp2_with fail
  refine (within_q d 8 _ xd (by omega) (by omega)).mono ?_; rintro e w' ⟨x, rfl, hx5, _, _, rfl⟩
  obtain rfl : x = 6 := by rw [hx5.out, HD.out]
  clear hx5
  cases is with
  | false =>
    have hfi := find_not MM.out.up MM.out.has HF.out PLC.out
    subst hfi
    go_wp2_with fail
    refine (left_no B gc now L id _ C1.out MM.out.fine (by omega) HI.out k PLC.out).mono ?_; rintro e w3 ⟨rfl, hb3⟩
    have C3 := Lib.hid (C1.out.below hb3)
    have P3 := Lib.hid (P1.out.below hb3)
    have B3 := Lib.hid ((B1.out.mono BW).trans (hb3.mono (Nat.le_trans BW B1.out.size)))
    clear hb3 a0 a1 a2
    go_upto_region 37 with fail
    refine wp_region_plan (fun w' => True) 33 (.take 0 (.take 1 (.take 2 (.take 3 (.take 4 (.take 5 (.take 6 (.take 7 (.take 8 (.take 9 (.take 10 (.take 11 (.take 12 (.take 13 (.take 14 (.take 15 (.take 16 (.take 17 (.take 18 (.take 19 (.take 20 (.take 21 (.take 22 (.take 23 (.take 24 (.take 25 (.take 26 (.take 27 (.take 28 (.take 29 (.take 30 (.take 31 (.take 32 .done))))))))))))))))))))))))))))))))) (by kernel_rfl) (by kernel_rfl) (by kernel_rfl) trivial ?_
    intro hS0
    repeat (first | (refine' wpPlan_take rfl (by rfl) (by assumption) ?_ ?_; rotate_left; (· (intro w hSw; (try dsimp only at hSw); go_simp; try with_reducible rfl)); try simp only [Act.put, List.setIfInBounds_toArray, List.set_cons_zero, List.set_cons_succ]) | (refine' wpPlan_skip rfl (by rfl) (by assumption) ?_; try simp only [Act.put, List.setIfInBounds_toArray, List.set_cons_zero, List.set_cons_succ]))
    refine wpPlan_done ?_
    have C4 : Hid (Clk w3.drew B gc now L) := Lib.hid (C3.out.drewN 1)
    have P4 : Hid (Pn w3.drew B gp now P) := Lib.hid (P3.out.drewN 1)
    have B4 : Hid (Below B w w3.drew) := Lib.hid (below_drewN B3.out 1)
    obtain ⟨w4, hw4⟩ : ∃ w4, w4 = w3.drew := ⟨_, rfl⟩
    rw [← hw4] at C4 P4 B4 ⊢
    clear hw4
    obtain ⟨aT, cT, aT2, cT2, kT, _, _⟩ := P4.out.ex
    have g0 : World.cell? _ ⟨gp, 0, none⟩ = some (.int .i64 (now)) := kT.cell 0
    clear kT
    go_upto_region 38 with fail
    go_quiet ((go_at_call 34; exact Calls.quiet_of_same ((now_c B gc (now) (L) _ (C4.out.drewN _)).mono fun _ _ e => ⟨e.1, e.2.symm⟩)))
    go_wp2_with fail
    all_goals go_ret
    all_goals exact ⟨rfl, now, L, P, C4.out.drewN _, P4.out.drewN _, MM.out, by omega, by omega, by omega, below_drewN B4.out _⟩
  | true =>
    obtain ⟨j, hj, hk, rfl, he, he2⟩ := find_yes MM.out.up MM.out.has HF.out PLC.out
    have j0 : (0 : Int) ≤ j := by omega
    obtain ⟨D, hD⟩ : ∃ D, D = L[k].2 := ⟨_, rfl⟩
    have hbd := (MM.out.bd _ (List.getElem_mem hk)).2
    rw [← hD] at hbd
    obtain ⟨r, hr⟩ : ∃ r : Int, (0 < D - now ∧ r = D - now) ∨ (D - now ≤ 0 ∧ r = 0) := by
      by_cases h : 0 < D - now
      · exact ⟨_, .inl ⟨h, rfl⟩⟩
      · exact ⟨0, .inr ⟨by omega, rfl⟩⟩
    have PD : Hid (P[j].2 = D) := Lib.hid (by rw [he, hD])
    go_wp2_with fail
    refine (left_yes B gc now L id _ C1.out MM.out.fine (by omega) HI.out k PLC.out D ⟨hk, hD.symm⟩ hbd (by omega) r hr).mono ?_; rintro e w3 ⟨rfl, hb3⟩
    have C3 := Lib.hid (C1.out.below hb3)
    have P3 := Lib.hid (P1.out.below hb3)
    have B3 := Lib.hid ((B1.out.mono BW).trans (hb3.mono (Nat.le_trans BW B1.out.size)))
    obtain ⟨aP, cP, aQ, cQ, kP, rP, rQ⟩ := P3.out.ex
    have g0 : w3.cell? ⟨gp, 0, none⟩ = some (.int .i64 now) := kP.cell 0
    have g2 : w3.cell? ⟨gp, 2, none⟩ = some (.slice aQ P.length cQ) := kP.cell 2
    obtain ⟨b, off, rfl, hbl, hcl⟩ := (own_vrow rQ).2 (by omega)
    have g3 : w3.cell? ⟨b, off + j, none⟩ = some (.int .i64 D) := by
      rw [← PD.out]
      exact hcl j _ (by simp [ats, hj])
    obtain ⟨pl, hpl⟩ : ∃ pl, pl = P.length := ⟨_, rfl⟩
    rw [← hpl] at g2
    have j1 : (j : Int) < pl := by omega
    have e9 : IntKind.i64.wrap (D - now) = D - now := IntWalk.i64_in _ (by omega)
    clear hb3 a0 a1 a2 kP rP rQ hcl he hD hpl hbl
    go_upto_region 37 with fail
    have mx : (r == if D - now < 0 then 0 else D - now) = true := by
      rw [beq_iff_eq]
      split <;> omega
    have KS : ∀ j', (w3.drewN j').cell? ⟨gp, 0, none⟩ = some (.int .i64 now) ∧ (w3.drewN j').cell? ⟨gp, 2, none⟩ = some (.slice (some ⟨b, off, none⟩) pl cQ) ∧ (w3.drewN j').cell? ⟨b, off + j, none⟩ = some (.int .i64 D) := fun _ => ⟨g0, g2, g3⟩
    refine wp_region_plan (fun w' => w'.cell? ⟨gp, 0, none⟩ = some (.int .i64 now) ∧ w'.cell? ⟨gp, 2, none⟩ = some (.slice (some ⟨b, off, none⟩) pl cQ) ∧ w'.cell? ⟨b, off + j, none⟩ = some (.int .i64 D)) 33 (.take 0 (.take 1 (.take 2 (.take 3 (.take 4 (.take 5 (.take 6 (.take 7 (.take 8 (.take 9 (.take 10 (.take 11 (.take 12 (.take 13 (.take 14 (.take 15 (.take 16 (.take 17 (.take 18 (.take 19 (.take 20 (.take 21 (.take 22 (.take 23 (.take 24 (.take 25 (.take 26 (.take 27 (.take 28 (.take 29 (.take 30 (.take 31 (.take 32 .done))))))))))))))))))))))))))))))))) (by kernel_rfl) (by kernel_rfl) (by kernel_rfl) (KS 1) ?_
    intro hS0
    repeat (first | (refine' wpPlan_take rfl (by rfl) (by assumption) ?_ ?_; rotate_left; (· (intro w hSw; (try dsimp only at hSw); go_simp; try with_reducible rfl)); try simp only [Act.put, List.setIfInBounds_toArray, List.set_cons_zero, List.set_cons_succ]) | (refine' wpPlan_skip rfl (by rfl) (by assumption) ?_; try simp only [Act.put, List.setIfInBounds_toArray, List.set_cons_zero, List.set_cons_succ]))
    refine wpPlan_done ?_
    try simp only [mx]
    have C4 : Hid (Clk w3.drew B gc now L) := Lib.hid (C3.out.drewN 1)
    have P4 : Hid (Pn w3.drew B gp now P) := Lib.hid (P3.out.drewN 1)
    have B4 : Hid (Below B w w3.drew) := Lib.hid (below_drewN B3.out 1)
    obtain ⟨w4, hw4⟩ : ∃ w4, w4 = w3.drew := ⟨_, rfl⟩
    rw [← hw4] at C4 P4 B4 ⊢
    clear hw4 KS hS0 g0 g2 g3
    obtain ⟨aT, cT, aT2, cT2, kT, _, _⟩ := P4.out.ex
    have g0 : World.cell? _ ⟨gp, 0, none⟩ = some (.int .i64 (now)) := kT.cell 0
    clear kT
    go_upto_region 38 with fail
    go_quiet ((go_at_call 34; exact Calls.quiet_of_same ((now_c B gc (now) (L) _ (C4.out.drewN _)).mono fun _ _ e => ⟨e.1, e.2.symm⟩)))
    go_wp2_with fail
    all_goals go_ret
    all_goals exact ⟨rfl, now, L, P, C4.out.drewN _, P4.out.drewN _, MM.out, by omega, by omega, by omega, below_drewN B4.out _⟩

end Go.Proofs.Ytfeepofdnjnkpaa
