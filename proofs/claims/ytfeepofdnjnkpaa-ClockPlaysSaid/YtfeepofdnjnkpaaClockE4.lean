/- The law's act: a timer is set. -/
import Derived.Test.YtfeepofdnjnkpaaClockE
import Derived.Test.YtfeepofdnjnkpaaPlanL
import Derived.Deep.CutRange
import Derived.Deep.DeepCutAuto
import Derived.Deep.CutBlock
namespace Go.Proofs.Ytfeepofdnjnkpaa
open Go.RowKit
set_option linter.unusedVariables false

set_option maxRecDepth 100000 in
set_option maxHeartbeats 25600000 in
theorem do_put4 (B gc gp : Nat) (now : Int) (L P : List (Int × Int)) (d id t : Int) (w : World) (hC : Clk w B gc now L) (hP : Pn w B gp now P) (M : Mt L P) (hnow : 0 ≤ now ∧ now ≤ 300) (hn : L.length ≤ 300) (xd : I64 d) (hi : I64 id) (xt : I64 t) (hd : d % 8 = 4) (ht : 1 ≤ t ∧ t ≤ 1048576) :
    Calls Try.prog 38 #[.pointer (some ⟨gc, 0, none⟩), .pointer (some ⟨gp, 0, none⟩), .agg #[.int .i64 d, .int .i64 id, .int .i64 t]] w (DoPost B gc gp now L.length w) := by
  obtain ⟨ti, hi0, hz0, hz1, hz2⟩ := info_parts info_intQ
  have HT := Lib.hid ht
  obtain ⟨fi, hfi⟩ := find_ex P id
  have HC := Lib.hid hC
  have HP := Lib.hid hP
  have MM := Lib.hid M
  have HD := Lib.hid hd
  have HI := Lib.hid hi
  have HF := Lib.hid hfi
  have PL := Lib.hid (show P.length ≤ 300 by rw [M.len]; exact hn)
  have GPL := Lib.hid hP.lt
  have BW : B ≤ w.heap.size := Nat.le_trans hC.ge (Nat.le_of_lt hC.lt)
  clear hC hP M hd hi hfi
  go_enter Try.func38, Try.ntmps38
  go_upto_region 2 with fail
  obtain ⟨w1, hw1⟩ : ∃ w1, w1 = w.alloc (.cells #[.int .i64 d, .int .i64 id, .int .i64 t] 73) := ⟨_, rfl⟩
  obtain ⟨ga, hga⟩ : ∃ ga, ga = w.heap.size := ⟨_, rfl⟩
  rw [← hw1, ← hga]
  have hA : Blk w1 ga 73 #[.int .i64 d, .int .i64 id, .int .i64 t] := by rw [hw1, hga]; exact Blk.new _ _ _
  have b1 : Below w.heap.size w w1 := by rw [hw1]; exact (Below.refl _ _).alloc (Nat.le_refl _) _
  have A1 := Lib.hid hA
  have B1 := Lib.hid b1
  have C1 := Lib.hid (HC.out.below b1)
  have P1 := Lib.hid (HP.out.below b1)
  have a0 : w1.cell? ⟨ga, 0, none⟩ = some (.int .i64 d) := hA.cell 0
  have a1 : w1.cell? ⟨ga, 1, none⟩ = some (.int .i64 id) := hA.cell 1
  have a2 : w1.cell? ⟨ga, 2, none⟩ = some (.int .i64 t) := hA.cell 2
  have GA : Hid (w.heap.size ≤ ga) := Lib.hid (Nat.le_of_eq hga.symm)
  clear hw1 hga hA b1
  go_wp2_with fail
  refine (find_c B gp now P id _ P1.out (by have := PL.out; omega) HI.out fi HF.out).mono ?_; rintro e w' ⟨rfl, rfl⟩
  go_wp2_with fail
  refine (within_q d 8 _ xd (by omega) (by omega)).mono ?_; rintro e w' ⟨x, rfl, hx5, _, _, rfl⟩
  obtain rfl : x = 4 := by rw [hx5.out, HD.out]
  clear hx5
  have t1 : 1 ≤ t := HT.out.1
  have t2 : t ≤ 1048576 := HT.out.2
  have z1 : decide (1 ≤ t) = true := decide_eq_true t1
  have z2 : decide (t ≤ 1048576) = true := decide_eq_true t2
  go_upto_block 0 with fail
  go_cut [7] from 7 to 217 (fun s wx => s = .bool true ∧ ∃ L2 P2, L2.length ≤ L.length + 1 ∧ Mt L2 (P2 ++ [(id, now + t)]) ∧ Pn wx B gp now (P2 ++ [(id, now + t)]) ∧ Clk wx B gc now L2 ∧ Below B w wx)
  case first =>
    go_wp2_with fail
    refine (set_any B gc now L P id t _ C1.out MM.out hn HI.out HT.out hnow fi HF.out).mono ?_; rintro e w3 ⟨rfl, L2, P2, hC3, ht3, hM3, hL3, hP3, hfi3⟩
    have C3 := Lib.hid hC3
    have P3 := Lib.hid (P1.out.ticked ht3)
    have B3 := Lib.hid ((B1.out.mono BW).trans ht3.b)
    have Z3 := Lib.hid ht3.b.size
    have A3 := Lib.hid (ht3.far _ _ _ A1.out (by decide) (by decide))
    have M3 := Lib.hid hM3
    have L3 := Lib.hid hL3
    have a1 : w3.cell? ⟨ga, 1, none⟩ = some (.int .i64 id) := A3.out.cell 1
    have a2 : w3.cell? ⟨ga, 2, none⟩ = some (.int .i64 t) := A3.out.cell 2
    have PL2 : P2.length ≤ 300 := by have := PL.out; omega
    clear hC3 ht3 hM3 a0
    have NGA : Hid (ga ≠ gp) := Lib.hid (by have := GA.out; have := GPL.out; omega)
    have hPL2 : Hid (P2.length ≤ 300) := Lib.hid PL2
    have B1W : Hid (B ≤ w3.heap.size) := Lib.hid (Nat.le_trans BW (Nat.le_trans B1.out.size Z3.out))
    go_upto_if 130 with fail
    go_cut [] from 131 to 133 (fun wx => Clk wx B gc now L2 ∧ Pn wx B gp now P2 ∧ Below B w wx ∧ Blk wx ga 73 #[.int .i64 d, .int .i64 id, .int .i64 t])
    case first =>
      rcases hfi3 with ⟨h1, rfl⟩ | ⟨j, hj, rfl, rfl⟩
      · have h2 : ¬ 0 ≤ fi := by omega
        go_wp2_with fail
        go_meet
        exact ⟨C3.out, P3.out, B3.out, A3.out⟩
      · have j0 : (0 : Int) ≤ j := by omega
        go_wp2_with fail
        refine (pdrop_c B gp now P j _ P3.out (by have := PL.out; omega) hj).mono ?_; rintro e w4 ⟨rfl, hP4, ho4⟩
        have P4 := Lib.hid hP4
        have C4 := Lib.hid (C3.out.only ho4 P3.out.typ)
        have B4 := Lib.hid (ho4.below B3.out B1W.out (by simp; exact HP.out.ge))
        have A4 := Lib.hid (A3.out.only ho4 (by simp; exact NGA.out))
        clear hP4 ho4
        go_wp2_with fail
        go_meet
        exact ⟨C4.out, P4.out, B4.out, A4.out⟩
    case rest =>
      obtain ⟨hC4, hP4, hB4, hA4⟩ := hcut
      obtain ⟨w4, hw4⟩ : ∃ w4, w4 = wc := ⟨_, rfl⟩
      rw [← hw4] at hC4 hP4 hB4 hA4 ⊢
      have C4 := Lib.hid hC4
      have B4 := Lib.hid hB4
      have A4 := Lib.hid hA4
      have PP4 := Lib.hid hP4
      clear hw4 a1 a2 hfi3
      obtain ⟨P4, hP4e⟩ : ∃ P4, P4 = P2 := ⟨_, rfl⟩
      have a1 : w4.cell? ⟨ga, 1, none⟩ = some (.int .i64 id) := hA4.cell 1
      have a2 : w4.cell? ⟨ga, 2, none⟩ = some (.int .i64 t) := hA4.cell 2
      subst hP4e
      obtain ⟨aP, cP, aQ, cQ, kP, rP, rQ⟩ := hP4.ex
      obtain ⟨n, hn4⟩ : ∃ n, n = P4.length := ⟨_, rfl⟩
      rw [← hn4] at kP rP rQ PL2
      have N4 := Lib.hid hn4
      have g0 : w4.cell? ⟨gp, 0, none⟩ = some (.int .i64 now) := kP.cell 0
      have g1 : w4.cell? ⟨gp, 1, none⟩ = some (.slice aP n cP) := kP.cell 1
      have g2 : w4.cell? ⟨gp, 2, none⟩ = some (.slice aQ n cQ) := kP.cell 2
      have VP := Lib.hid (own_vrow rP)
      have VQ := Lib.hid (own_vrow rQ)
      have KP := Lib.hid kP
      have KPL := Lib.hid kP.lt
      have GE4 := Lib.hid hP4.ge
      have BW4 : B ≤ w4.heap.size := Nat.le_trans hP4.ge (Nat.le_of_lt kP.lt)
      have e9 : IntKind.i64.wrap (now + t) = now + t := IntWalk.i64_in _ (by omega)
      clear hC4 hB4 hA4 hP4 hn4 kP rP rQ
      have E0 : Below w4.heap.size w4 w4.drew := (Below.refl _ _).drew
      have KS : ∀ w', Below w4.heap.size w4 w' → w'.cell? ⟨gp, 0, none⟩ = some (.int .i64 now) ∧ w'.cell? ⟨gp, 1, none⟩ = some (.slice aP n cP) ∧ w'.cell? ⟨gp, 2, none⟩ = some (.slice aQ n cQ) ∧ w'.cell? ⟨ga, 1, none⟩ = some (.int .i64 id) ∧ w'.cell? ⟨ga, 2, none⟩ = some (.int .i64 t) := fun w' o => ⟨kept o _ _ g0, kept o _ _ g1, kept o _ _ g2, kept o _ _ a1, kept o _ _ a2⟩
      go_upto_region 30 with fail
      refine wp_region_pln (fun w' => w'.cell? ⟨gp, 0, none⟩ = some (.int .i64 now) ∧ w'.cell? ⟨gp, 1, none⟩ = some (.slice aP n cP) ∧ w'.cell? ⟨gp, 2, none⟩ = some (.slice aQ n cQ) ∧ w'.cell? ⟨ga, 1, none⟩ = some (.int .i64 id) ∧ w'.cell? ⟨ga, 2, none⟩ = some (.int .i64 t)) 25 (.take 0 (.take 2 (.take 3 (.take 4 (.take 5 (.take 7 (.take 8 (.take 11 (.take 12 (.take 13 (.take 14 (.take 16 (.take 17 (.take 18 (.take 19 (.take 20 (.take 21 (.take 22 (.free 1 (.three 6 (.two 9 (.two 10 (.two 15 (.one 23 (.one 24 (.free 25 (.free 26 (.one 27 (.free 28 (.free 29 (.one 30 .done)))))))) 23 (.one 15 (.one 24 (.free 25 (.free 26 (.one 27 (.free 28 (.free 29 (.one 30 .done))))))))) 23 (.one 10 (.one 15 (.one 24 (.free 25 (.free 26 (.one 27 (.free 28 (.free 29 (.one 30 .done)))))))))) 23 (.one 9 (.one 10 (.one 15 (.one 24 (.free 25 (.free 26 (.one 27 (.free 28 (.free 29 (.one 30 .done))))))))))) 9 (.two 6 (.two 10 (.two 15 (.one 23 (.one 24 (.free 25 (.free 26 (.one 27 (.free 28 (.free 29 (.one 30 .done)))))))) 23 (.one 15 (.one 24 (.free 25 (.free 26 (.one 27 (.free 28 (.free 29 (.one 30 .done))))))))) 23 (.one 10 (.one 15 (.one 24 (.free 25 (.free 26 (.one 27 (.free 28 (.free 29 (.one 30 .done)))))))))) 23 (.one 6 (.one 10 (.one 15 (.one 24 (.free 25 (.free 26 (.one 27 (.free 28 (.free 29 (.one 30 .done))))))))))) 23 (.two 6 (.one 9 (.one 10 (.one 15 (.one 24 (.free 25 (.free 26 (.one 27 (.free 28 (.free 29 (.one 30 .done)))))))))) 9 (.one 6 (.one 10 (.one 15 (.one 24 (.free 25 (.free 26 (.one 27 (.free 28 (.free 29 (.one 30 .done))))))))))))))))))))))))))))))) (by kernel_rfl) (by kernel_rfl) (by kernel_rfl) (KS _ E0) ?_
      intro hS0
      obtain ⟨v0, hv0⟩ : ∃ v, v = w4.drew := ⟨_, rfl⟩
      rw [← hv0] at hS0 E0 ⊢
      clear hv0
      clear g0 g1 g2 a1 a2
      repeat (first | (refine' wpPln_take rfl (by rfl) (by assumption) ?_ ?_; rotate_left; (· (intro w hSw; (try dsimp only at hSw); go_simp; try with_reducible rfl)); try simp only [Act.put, List.setIfInBounds_toArray, List.set_cons_zero, List.set_cons_succ]) | (refine' wpPln_free rfl (by rfl) ?_ ?_; rotate_left; (· (intro w; go_simp; try with_reducible rfl)); try simp only [Act.put, List.setIfInBounds_toArray, List.set_cons_zero, List.set_cons_succ]))
      refine wpPln_three ?_ ?_ ?_
      · skip
        refine wpPln_one rfl (fun KT hKT => ?_)
        go_simp
        refine (copy_i aP n cP (ids P4) _ (VP.out.below E0) (ids_one P4) (by omega)).mono ?_
        rintro e v1 ⟨a1, c1, rfl, h9, hb9⟩
        have E1 : Below w4.heap.size w4 v1 := E0.trans (hb9.mono E0.size)
        have Z1 : v0.heap.size ≤ v1.heap.size := hb9.size
        have T1 : Hid (∀ g, a1.map (·.block) = some g → v0.heap.size ≤ g ∧ g < v1.heap.size) := Lib.hid fun g hg => World.ownsRow.lt h9 g (by rw [own_block_eq]; exact hg)
        have O1 := Lib.hid (own_base_le h9 E0.size)
        clear h9 hb9
        refine hKT.out _ _ (KS _ E1) (fun _ => ?_); clear hKT KT; try simp only [Act.put, List.setIfInBounds_toArray, List.set_cons_zero, List.set_cons_succ]
        repeat (first | (refine' wpPln_take rfl (by rfl) (by assumption) ?_ ?_; rotate_left; (· (intro w hSw; (try dsimp only at hSw); go_simp; try with_reducible rfl)); try simp only [Act.put, List.setIfInBounds_toArray, List.set_cons_zero, List.set_cons_succ]) | (refine' wpPln_free rfl (by rfl) ?_ ?_; rotate_left; (· (intro w; go_simp; try with_reducible rfl)); try simp only [Act.put, List.setIfInBounds_toArray, List.set_cons_zero, List.set_cons_succ]))
        refine wpPln_two ?_ ?_
        · skip
          refine wpPln_one rfl (fun KT hKT => ?_)
          go_simp
          refine hKT.out _ _ (KS _ (E1.alloc E1.size _)) (fun _ => ?_); clear hKT KT; try simp only [Act.put, List.setIfInBounds_toArray, List.set_cons_zero, List.set_cons_succ]
          obtain ⟨v2, hv9⟩ : ∃ v, v = (v1).alloc (.cells #[.int .i64 id] 3) := ⟨_, rfl⟩
          rw [← hv9]
          have hb9 : Below (v1.heap.size) (v1) v2 := by rw [hv9]; exact (Below.refl _ _).alloc (Nat.le_refl _) _
          have E2 : Below w4.heap.size w4 v2 := E1.trans (hb9.mono E1.size)
          have Z2 : v1.heap.size + 1 ≤ v2.heap.size := by rw [hv9]; simp
          have O1 := Lib.hid (own_below O1.out hb9)
          have B1 : Hid (VRow v2 (some ⟨v1.heap.size, 0, none⟩) 1 1 [.int .i64 id]) := Lib.hid (by rw [hv9]; exact own_one _ _ _)
          have SK := KS _ E2
          clear hv9 hb9
          repeat (first | (refine' wpPln_take rfl (by rfl) (by assumption) ?_ ?_; rotate_left; (· (intro w hSw; (try dsimp only at hSw); go_simp; try with_reducible rfl)); try simp only [Act.put, List.setIfInBounds_toArray, List.set_cons_zero, List.set_cons_succ]) | (refine' wpPln_free rfl (by rfl) ?_ ?_; rotate_left; (· (intro w; go_simp; try with_reducible rfl)); try simp only [Act.put, List.setIfInBounds_toArray, List.set_cons_zero, List.set_cons_succ]))
          refine wpPln_two ?_ ?_
          · skip
            refine wpPln_one rfl (fun KT hKT => ?_)
            refine step_app (by rfl) _ _ _ (by rfl) w4.heap.size 3 ti _ 1 8 Try.underlying51 hi0 hz0 hz1 hz2 rfl (by omega) a1 n c1 (ids P4) (by rfl) O1.out (some ⟨v1.heap.size, 0, none⟩) 1 1 [.int .i64 id] (by rfl) B1.out (by intro u hu; simp only [List.mem_singleton] at hu; subst hu; rfl) (by unfold maxLen; omega) (by omega) E2.size ?_
            intro b1 d1 v3 h9
            have E3 : Below w4.heap.size w4 v3 := h9.below O1.out E2 (Nat.le_refl _) E2.size
            have Z3 : v2.heap.size ≤ v3.heap.size := h9.only.size
            have R1 := Lib.hid h9.own
            have U1 : Hid (∀ g, b1.map (·.block) = some g → g < v3.heap.size) := Lib.hid fun g hg => (World.ownsRow.lt h9.own g (by rw [own_block_eq]; exact hg)).2
            clear h9
            refine hKT.out _ _ (KS _ E3) (fun _ => ?_); clear hKT KT; try simp only [Act.put, List.setIfInBounds_toArray, List.set_cons_zero, List.set_cons_succ]
            repeat (first | (refine' wpPln_take rfl (by rfl) (by assumption) ?_ ?_; rotate_left; (· (intro w hSw; (try dsimp only at hSw); go_simp; try with_reducible rfl)); try simp only [Act.put, List.setIfInBounds_toArray, List.set_cons_zero, List.set_cons_succ]) | (refine' wpPln_free rfl (by rfl) ?_ ?_; rotate_left; (· (intro w; go_simp; try with_reducible rfl)); try simp only [Act.put, List.setIfInBounds_toArray, List.set_cons_zero, List.set_cons_succ]))
            refine wpPln_two ?_ ?_
            · skip
              refine wpPln_one rfl (fun KT hKT => ?_)
              go_simp
              refine (copy_i aQ n cQ (ats P4) _ (VQ.out.below E3) (ats_one P4) (by omega)).mono ?_
              rintro e v4 ⟨a2, c2, rfl, h9, hb9⟩
              have E4 : Below w4.heap.size w4 v4 := E3.trans (hb9.mono E3.size)
              have Z4 : v3.heap.size ≤ v4.heap.size := hb9.size
              have T2 : Hid (∀ g, a2.map (·.block) = some g → v3.heap.size ≤ g ∧ g < v4.heap.size) := Lib.hid fun g hg => World.ownsRow.lt h9 g (by rw [own_block_eq]; exact hg)
              have R1 := Lib.hid (own_below R1.out hb9)
              have O2 := Lib.hid (own_base_le h9 E3.size)
              clear h9 hb9
              refine hKT.out _ _ (KS _ E4) (fun _ => ?_); clear hKT KT; try simp only [Act.put, List.setIfInBounds_toArray, List.set_cons_zero, List.set_cons_succ]
              repeat (first | (refine' wpPln_take rfl (by rfl) (by assumption) ?_ ?_; rotate_left; (· (intro w hSw; (try dsimp only at hSw); go_simp; try with_reducible rfl)); try simp only [Act.put, List.setIfInBounds_toArray, List.set_cons_zero, List.set_cons_succ]) | (refine' wpPln_free rfl (by rfl) ?_ ?_; rotate_left; (· (intro w; go_simp; try with_reducible rfl)); try simp only [Act.put, List.setIfInBounds_toArray, List.set_cons_zero, List.set_cons_succ]))
              refine wpPln_one rfl (fun KT hKT => ?_)
              go_simp
              refine hKT.out _ _ (KS _ (E4.alloc E4.size _)) (fun _ => ?_); clear hKT KT; try simp only [Act.put, List.setIfInBounds_toArray, List.set_cons_zero, List.set_cons_succ]
              obtain ⟨v5, hv9⟩ : ∃ v, v = (v4).alloc (.cells #[.int .i64 (now + t)] 3) := ⟨_, rfl⟩
              rw [← hv9]
              have hb9 : Below (v4.heap.size) (v4) v5 := by rw [hv9]; exact (Below.refl _ _).alloc (Nat.le_refl _) _
              have E5 : Below w4.heap.size w4 v5 := E4.trans (hb9.mono E4.size)
              have Z5 : v4.heap.size + 1 ≤ v5.heap.size := by rw [hv9]; simp
              have R1 := Lib.hid (own_below R1.out hb9)
              have O2 := Lib.hid (own_below O2.out hb9)
              have B2 : Hid (VRow v5 (some ⟨v4.heap.size, 0, none⟩) 1 1 [.int .i64 (now + t)]) := Lib.hid (by rw [hv9]; exact own_one _ _ _)
              have SK := KS _ E5
              clear hv9 hb9
              repeat (first | (refine' wpPln_take rfl (by rfl) (by assumption) ?_ ?_; rotate_left; (· (intro w hSw; (try dsimp only at hSw); go_simp; try with_reducible rfl)); try simp only [Act.put, List.setIfInBounds_toArray, List.set_cons_zero, List.set_cons_succ]) | (refine' wpPln_free rfl (by rfl) ?_ ?_; rotate_left; (· (intro w; go_simp; try with_reducible rfl)); try simp only [Act.put, List.setIfInBounds_toArray, List.set_cons_zero, List.set_cons_succ]))
              refine wpPln_one rfl (fun KT hKT => ?_)
              refine step_app (by rfl) _ _ _ (by rfl) w4.heap.size 3 ti _ 1 8 Try.underlying51 hi0 hz0 hz1 hz2 rfl (by omega) a2 n c2 (ats P4) (by rfl) O2.out (some ⟨v4.heap.size, 0, none⟩) 1 1 [.int .i64 (now + t)] (by rfl) B2.out (by intro u hu; simp only [List.mem_singleton] at hu; subst hu; rfl) (by unfold maxLen; omega) (by omega) E5.size ?_
              intro b2 d2 v6 h9
              have E6 : Below w4.heap.size w4 v6 := h9.below O2.out E5 (Nat.le_refl _) E5.size
              have Z6 : v5.heap.size ≤ v6.heap.size := h9.only.size
              have R1 := Lib.hid (own_only R1.out h9.only (fun g hg hm => by
                have h7 := U1.out g (by rw [own_block_eq] at hg; exact hg)
                have h8 := T2.out g (Option.mem_toList.1 hm)
                omega))
              have R2 := Lib.hid h9.own
              clear h9
              refine hKT.out _ _ (KS _ E6) (fun _ => ?_); clear hKT KT; try simp only [Act.put, List.setIfInBounds_toArray, List.set_cons_zero, List.set_cons_succ]
              repeat (first | (refine' wpPln_take rfl (by rfl) (by assumption) ?_ ?_; rotate_left; (· (intro w hSw; (try dsimp only at hSw); go_simp; try with_reducible rfl)); try simp only [Act.put, List.setIfInBounds_toArray, List.set_cons_zero, List.set_cons_succ]) | (refine' wpPln_free rfl (by rfl) ?_ ?_; rotate_left; (· (intro w; go_simp; try with_reducible rfl)); try simp only [Act.put, List.setIfInBounds_toArray, List.set_cons_zero, List.set_cons_succ]))
              repeat (first | (refine' wpPln_take rfl (by rfl) (by assumption) ?_ ?_; rotate_left; (· (intro w hSw; (try dsimp only at hSw); go_simp; try with_reducible rfl)); try simp only [Act.put, List.setIfInBounds_toArray, List.set_cons_zero, List.set_cons_succ]) | (refine' wpPln_free rfl (by rfl) ?_ ?_; rotate_left; (· (intro w; go_simp; try with_reducible rfl)); try simp only [Act.put, List.setIfInBounds_toArray, List.set_cons_zero, List.set_cons_succ]))
              have k9 := KP.out.below E6 KPL.out
              have f9 := k9.frozen 1
              have d9 := k9.cell 1
              refine wpPln_late (by decide) rfl (fun KT hKT => ?_)
              go_simp
              refine hKT.out _ _ ?_; clear hKT KT; try simp only [Act.put, List.setIfInBounds_toArray, List.set_cons_zero, List.set_cons_succ]
              obtain ⟨vA, hvA⟩ : ∃ v, v = v6.setCell ⟨gp, 1, none⟩ (.slice b1 (n + 1) d1) := ⟨_, rfl⟩
              rw [← hvA]
              have kA : Blk vA gp 70 #[.int .i64 now, .slice b1 (n + 1) d1, .slice aQ n cQ] := by rw [hvA]; exact k9.set_ 1 _
              have RA1 := Lib.hid (show vA.ownsRow w4.heap.size 3 1 (.slice b1 (n + 1) d1) (n + 1) _ by rw [hvA]; exact ownsRow_setCell_other R1.out (own_blk_ne R1.out k9 (by decide)) _)
              have RA2 := Lib.hid (show vA.ownsRow w4.heap.size 3 1 (.slice b2 (n + 1) d2) (n + 1) _ by rw [hvA]; exact ownsRow_setCell_other R2.out (own_blk_ne R2.out k9 (by decide)) _)
              have OA := Lib.hid (show Only [gp] w4 vA by rw [hvA]; exact (Only.of_below (S := [gp]) E6).setCell (.inl (by simp)) _)
              have fA := kA.frozen 2
              have dA := kA.cell 2
              clear hvA f9 k9 d9
              repeat (first | (refine' wpPln_take rfl (by rfl) (by assumption) ?_ ?_; rotate_left; (· (intro w hSw; (try dsimp only at hSw); go_simp; try with_reducible rfl)); try simp only [Act.put, List.setIfInBounds_toArray, List.set_cons_zero, List.set_cons_succ]) | (refine' wpPln_free rfl (by rfl) ?_ ?_; rotate_left; (· (intro w; go_simp; try with_reducible rfl)); try simp only [Act.put, List.setIfInBounds_toArray, List.set_cons_zero, List.set_cons_succ]))
              refine wpPln_late (by decide) rfl (fun KT hKT => ?_)
              go_simp
              refine hKT.out _ _ ?_; clear hKT KT; try simp only [Act.put, List.setIfInBounds_toArray, List.set_cons_zero, List.set_cons_succ]
              obtain ⟨vB, hvB⟩ : ∃ v, v = vA.setCell ⟨gp, 2, none⟩ (.slice b2 (n + 1) d2) := ⟨_, rfl⟩
              rw [← hvB]
              have FB := Lib.hid (put_fin B gp now id (now + t) P4 w4 vA vB n N4.out b1 d1 b2 d2 aQ cQ n KP.out BW4 GE4.out kA RA1.out RA2.out OA.out hvB)
              clear hvB fA kA dA
              refine wpPln_done ?_
              go_wp2_with fail
              go_meet
              exact ⟨rfl, L2, P4, L3.out, M3.out, FB.out.1, C4.out.only FB.out.2 PP4.out.typ, FB.out.2.below B4.out BW4 (by simp; exact GE4.out)⟩
            · skip
              refine wpPln_one rfl (fun KT hKT => ?_)
              go_simp
              refine hKT.out _ _ (KS _ (E3.alloc E3.size _)) (fun _ => ?_); clear hKT KT; try simp only [Act.put, List.setIfInBounds_toArray, List.set_cons_zero, List.set_cons_succ]
              obtain ⟨v4, hv9⟩ : ∃ v, v = (v3).alloc (.cells #[.int .i64 (now + t)] 3) := ⟨_, rfl⟩
              rw [← hv9]
              have hb9 : Below (v3.heap.size) (v3) v4 := by rw [hv9]; exact (Below.refl _ _).alloc (Nat.le_refl _) _
              have E4 : Below w4.heap.size w4 v4 := E3.trans (hb9.mono E3.size)
              have Z4 : v3.heap.size + 1 ≤ v4.heap.size := by rw [hv9]; simp
              have R1 := Lib.hid (own_below R1.out hb9)
              have B2 : Hid (VRow v4 (some ⟨v3.heap.size, 0, none⟩) 1 1 [.int .i64 (now + t)]) := Lib.hid (by rw [hv9]; exact own_one _ _ _)
              have SK := KS _ E4
              clear hv9 hb9
              repeat (first | (refine' wpPln_take rfl (by rfl) (by assumption) ?_ ?_; rotate_left; (· (intro w hSw; (try dsimp only at hSw); go_simp; try with_reducible rfl)); try simp only [Act.put, List.setIfInBounds_toArray, List.set_cons_zero, List.set_cons_succ]) | (refine' wpPln_free rfl (by rfl) ?_ ?_; rotate_left; (· (intro w; go_simp; try with_reducible rfl)); try simp only [Act.put, List.setIfInBounds_toArray, List.set_cons_zero, List.set_cons_succ]))
              refine wpPln_one rfl (fun KT hKT => ?_)
              go_simp
              refine (copy_i aQ n cQ (ats P4) _ (VQ.out.below E4) (ats_one P4) (by omega)).mono ?_
              rintro e v5 ⟨a2, c2, rfl, h9, hb9⟩
              have E5 : Below w4.heap.size w4 v5 := E4.trans (hb9.mono E4.size)
              have Z5 : v4.heap.size ≤ v5.heap.size := hb9.size
              have T2 : Hid (∀ g, a2.map (·.block) = some g → v4.heap.size ≤ g ∧ g < v5.heap.size) := Lib.hid fun g hg => World.ownsRow.lt h9 g (by rw [own_block_eq]; exact hg)
              have R1 := Lib.hid (own_below R1.out hb9)
              have B2 := Lib.hid (B2.out.below hb9)
              have O2 := Lib.hid (own_base_le h9 E4.size)
              clear h9 hb9
              refine hKT.out _ _ (KS _ E5) (fun _ => ?_); clear hKT KT; try simp only [Act.put, List.setIfInBounds_toArray, List.set_cons_zero, List.set_cons_succ]
              repeat (first | (refine' wpPln_take rfl (by rfl) (by assumption) ?_ ?_; rotate_left; (· (intro w hSw; (try dsimp only at hSw); go_simp; try with_reducible rfl)); try simp only [Act.put, List.setIfInBounds_toArray, List.set_cons_zero, List.set_cons_succ]) | (refine' wpPln_free rfl (by rfl) ?_ ?_; rotate_left; (· (intro w; go_simp; try with_reducible rfl)); try simp only [Act.put, List.setIfInBounds_toArray, List.set_cons_zero, List.set_cons_succ]))
              refine wpPln_one rfl (fun KT hKT => ?_)
              refine step_app (by rfl) _ _ _ (by rfl) w4.heap.size 3 ti _ 1 8 Try.underlying51 hi0 hz0 hz1 hz2 rfl (by omega) a2 n c2 (ats P4) (by rfl) O2.out (some ⟨v3.heap.size, 0, none⟩) 1 1 [.int .i64 (now + t)] (by rfl) B2.out (by intro u hu; simp only [List.mem_singleton] at hu; subst hu; rfl) (by unfold maxLen; omega) (by omega) E5.size ?_
              intro b2 d2 v6 h9
              have E6 : Below w4.heap.size w4 v6 := h9.below O2.out E5 (Nat.le_refl _) E5.size
              have Z6 : v5.heap.size ≤ v6.heap.size := h9.only.size
              have R1 := Lib.hid (own_only R1.out h9.only (fun g hg hm => by
                have h7 := U1.out g (by rw [own_block_eq] at hg; exact hg)
                have h8 := T2.out g (Option.mem_toList.1 hm)
                omega))
              have R2 := Lib.hid h9.own
              clear h9
              refine hKT.out _ _ (KS _ E6) (fun _ => ?_); clear hKT KT; try simp only [Act.put, List.setIfInBounds_toArray, List.set_cons_zero, List.set_cons_succ]
              repeat (first | (refine' wpPln_take rfl (by rfl) (by assumption) ?_ ?_; rotate_left; (· (intro w hSw; (try dsimp only at hSw); go_simp; try with_reducible rfl)); try simp only [Act.put, List.setIfInBounds_toArray, List.set_cons_zero, List.set_cons_succ]) | (refine' wpPln_free rfl (by rfl) ?_ ?_; rotate_left; (· (intro w; go_simp; try with_reducible rfl)); try simp only [Act.put, List.setIfInBounds_toArray, List.set_cons_zero, List.set_cons_succ]))
              repeat (first | (refine' wpPln_take rfl (by rfl) (by assumption) ?_ ?_; rotate_left; (· (intro w hSw; (try dsimp only at hSw); go_simp; try with_reducible rfl)); try simp only [Act.put, List.setIfInBounds_toArray, List.set_cons_zero, List.set_cons_succ]) | (refine' wpPln_free rfl (by rfl) ?_ ?_; rotate_left; (· (intro w; go_simp; try with_reducible rfl)); try simp only [Act.put, List.setIfInBounds_toArray, List.set_cons_zero, List.set_cons_succ]))
              have k9 := KP.out.below E6 KPL.out
              have f9 := k9.frozen 1
              have d9 := k9.cell 1
              refine wpPln_late (by decide) rfl (fun KT hKT => ?_)
              go_simp
              refine hKT.out _ _ ?_; clear hKT KT; try simp only [Act.put, List.setIfInBounds_toArray, List.set_cons_zero, List.set_cons_succ]
              obtain ⟨vA, hvA⟩ : ∃ v, v = v6.setCell ⟨gp, 1, none⟩ (.slice b1 (n + 1) d1) := ⟨_, rfl⟩
              rw [← hvA]
              have kA : Blk vA gp 70 #[.int .i64 now, .slice b1 (n + 1) d1, .slice aQ n cQ] := by rw [hvA]; exact k9.set_ 1 _
              have RA1 := Lib.hid (show vA.ownsRow w4.heap.size 3 1 (.slice b1 (n + 1) d1) (n + 1) _ by rw [hvA]; exact ownsRow_setCell_other R1.out (own_blk_ne R1.out k9 (by decide)) _)
              have RA2 := Lib.hid (show vA.ownsRow w4.heap.size 3 1 (.slice b2 (n + 1) d2) (n + 1) _ by rw [hvA]; exact ownsRow_setCell_other R2.out (own_blk_ne R2.out k9 (by decide)) _)
              have OA := Lib.hid (show Only [gp] w4 vA by rw [hvA]; exact (Only.of_below (S := [gp]) E6).setCell (.inl (by simp)) _)
              have fA := kA.frozen 2
              have dA := kA.cell 2
              clear hvA f9 k9 d9
              repeat (first | (refine' wpPln_take rfl (by rfl) (by assumption) ?_ ?_; rotate_left; (· (intro w hSw; (try dsimp only at hSw); go_simp; try with_reducible rfl)); try simp only [Act.put, List.setIfInBounds_toArray, List.set_cons_zero, List.set_cons_succ]) | (refine' wpPln_free rfl (by rfl) ?_ ?_; rotate_left; (· (intro w; go_simp; try with_reducible rfl)); try simp only [Act.put, List.setIfInBounds_toArray, List.set_cons_zero, List.set_cons_succ]))
              refine wpPln_late (by decide) rfl (fun KT hKT => ?_)
              go_simp
              refine hKT.out _ _ ?_; clear hKT KT; try simp only [Act.put, List.setIfInBounds_toArray, List.set_cons_zero, List.set_cons_succ]
              obtain ⟨vB, hvB⟩ : ∃ v, v = vA.setCell ⟨gp, 2, none⟩ (.slice b2 (n + 1) d2) := ⟨_, rfl⟩
              rw [← hvB]
              have FB := Lib.hid (put_fin B gp now id (now + t) P4 w4 vA vB n N4.out b1 d1 b2 d2 aQ cQ n KP.out BW4 GE4.out kA RA1.out RA2.out OA.out hvB)
              clear hvB fA kA dA
              refine wpPln_done ?_
              go_wp2_with fail
              go_meet
              exact ⟨rfl, L2, P4, L3.out, M3.out, FB.out.1, C4.out.only FB.out.2 PP4.out.typ, FB.out.2.below B4.out BW4 (by simp; exact GE4.out)⟩
          · skip
            refine wpPln_one rfl (fun KT hKT => ?_)
            go_simp
            refine hKT.out _ _ (KS _ (E2.alloc E2.size _)) (fun _ => ?_); clear hKT KT; try simp only [Act.put, List.setIfInBounds_toArray, List.set_cons_zero, List.set_cons_succ]
            obtain ⟨v3, hv9⟩ : ∃ v, v = (v2).alloc (.cells #[.int .i64 (now + t)] 3) := ⟨_, rfl⟩
            rw [← hv9]
            have hb9 : Below (v2.heap.size) (v2) v3 := by rw [hv9]; exact (Below.refl _ _).alloc (Nat.le_refl _) _
            have E3 : Below w4.heap.size w4 v3 := E2.trans (hb9.mono E2.size)
            have Z3 : v2.heap.size + 1 ≤ v3.heap.size := by rw [hv9]; simp
            have O1 := Lib.hid (own_below O1.out hb9)
            have B1 := Lib.hid (B1.out.below hb9)
            have B2 : Hid (VRow v3 (some ⟨v2.heap.size, 0, none⟩) 1 1 [.int .i64 (now + t)]) := Lib.hid (by rw [hv9]; exact own_one _ _ _)
            have SK := KS _ E3
            clear hv9 hb9
            repeat (first | (refine' wpPln_take rfl (by rfl) (by assumption) ?_ ?_; rotate_left; (· (intro w hSw; (try dsimp only at hSw); go_simp; try with_reducible rfl)); try simp only [Act.put, List.setIfInBounds_toArray, List.set_cons_zero, List.set_cons_succ]) | (refine' wpPln_free rfl (by rfl) ?_ ?_; rotate_left; (· (intro w; go_simp; try with_reducible rfl)); try simp only [Act.put, List.setIfInBounds_toArray, List.set_cons_zero, List.set_cons_succ]))
            refine wpPln_one rfl (fun KT hKT => ?_)
            refine step_app (by rfl) _ _ _ (by rfl) w4.heap.size 3 ti _ 1 8 Try.underlying51 hi0 hz0 hz1 hz2 rfl (by omega) a1 n c1 (ids P4) (by rfl) O1.out (some ⟨v1.heap.size, 0, none⟩) 1 1 [.int .i64 id] (by rfl) B1.out (by intro u hu; simp only [List.mem_singleton] at hu; subst hu; rfl) (by unfold maxLen; omega) (by omega) E3.size ?_
            intro b1 d1 v4 h9
            have E4 : Below w4.heap.size w4 v4 := h9.below O1.out E3 (Nat.le_refl _) E3.size
            have Z4 : v3.heap.size ≤ v4.heap.size := h9.only.size
            have B2 := Lib.hid (B2.out.only h9.only (fun b hb hm => by
              have e : v2.heap.size = b := by simpa using hb
              have h8 := T1.out b (Option.mem_toList.1 hm)
              omega))
            have R1 := Lib.hid h9.own
            have U1 : Hid (∀ g, b1.map (·.block) = some g → g < v4.heap.size) := Lib.hid fun g hg => (World.ownsRow.lt h9.own g (by rw [own_block_eq]; exact hg)).2
            clear h9
            refine hKT.out _ _ (KS _ E4) (fun _ => ?_); clear hKT KT; try simp only [Act.put, List.setIfInBounds_toArray, List.set_cons_zero, List.set_cons_succ]
            repeat (first | (refine' wpPln_take rfl (by rfl) (by assumption) ?_ ?_; rotate_left; (· (intro w hSw; (try dsimp only at hSw); go_simp; try with_reducible rfl)); try simp only [Act.put, List.setIfInBounds_toArray, List.set_cons_zero, List.set_cons_succ]) | (refine' wpPln_free rfl (by rfl) ?_ ?_; rotate_left; (· (intro w; go_simp; try with_reducible rfl)); try simp only [Act.put, List.setIfInBounds_toArray, List.set_cons_zero, List.set_cons_succ]))
            refine wpPln_one rfl (fun KT hKT => ?_)
            go_simp
            refine (copy_i aQ n cQ (ats P4) _ (VQ.out.below E4) (ats_one P4) (by omega)).mono ?_
            rintro e v5 ⟨a2, c2, rfl, h9, hb9⟩
            have E5 : Below w4.heap.size w4 v5 := E4.trans (hb9.mono E4.size)
            have Z5 : v4.heap.size ≤ v5.heap.size := hb9.size
            have T2 : Hid (∀ g, a2.map (·.block) = some g → v4.heap.size ≤ g ∧ g < v5.heap.size) := Lib.hid fun g hg => World.ownsRow.lt h9 g (by rw [own_block_eq]; exact hg)
            have R1 := Lib.hid (own_below R1.out hb9)
            have B2 := Lib.hid (B2.out.below hb9)
            have O2 := Lib.hid (own_base_le h9 E4.size)
            clear h9 hb9
            refine hKT.out _ _ (KS _ E5) (fun _ => ?_); clear hKT KT; try simp only [Act.put, List.setIfInBounds_toArray, List.set_cons_zero, List.set_cons_succ]
            repeat (first | (refine' wpPln_take rfl (by rfl) (by assumption) ?_ ?_; rotate_left; (· (intro w hSw; (try dsimp only at hSw); go_simp; try with_reducible rfl)); try simp only [Act.put, List.setIfInBounds_toArray, List.set_cons_zero, List.set_cons_succ]) | (refine' wpPln_free rfl (by rfl) ?_ ?_; rotate_left; (· (intro w; go_simp; try with_reducible rfl)); try simp only [Act.put, List.setIfInBounds_toArray, List.set_cons_zero, List.set_cons_succ]))
            refine wpPln_one rfl (fun KT hKT => ?_)
            refine step_app (by rfl) _ _ _ (by rfl) w4.heap.size 3 ti _ 1 8 Try.underlying51 hi0 hz0 hz1 hz2 rfl (by omega) a2 n c2 (ats P4) (by rfl) O2.out (some ⟨v2.heap.size, 0, none⟩) 1 1 [.int .i64 (now + t)] (by rfl) B2.out (by intro u hu; simp only [List.mem_singleton] at hu; subst hu; rfl) (by unfold maxLen; omega) (by omega) E5.size ?_
            intro b2 d2 v6 h9
            have E6 : Below w4.heap.size w4 v6 := h9.below O2.out E5 (Nat.le_refl _) E5.size
            have Z6 : v5.heap.size ≤ v6.heap.size := h9.only.size
            have R1 := Lib.hid (own_only R1.out h9.only (fun g hg hm => by
              have h7 := U1.out g (by rw [own_block_eq] at hg; exact hg)
              have h8 := T2.out g (Option.mem_toList.1 hm)
              omega))
            have R2 := Lib.hid h9.own
            clear h9
            refine hKT.out _ _ (KS _ E6) (fun _ => ?_); clear hKT KT; try simp only [Act.put, List.setIfInBounds_toArray, List.set_cons_zero, List.set_cons_succ]
            repeat (first | (refine' wpPln_take rfl (by rfl) (by assumption) ?_ ?_; rotate_left; (· (intro w hSw; (try dsimp only at hSw); go_simp; try with_reducible rfl)); try simp only [Act.put, List.setIfInBounds_toArray, List.set_cons_zero, List.set_cons_succ]) | (refine' wpPln_free rfl (by rfl) ?_ ?_; rotate_left; (· (intro w; go_simp; try with_reducible rfl)); try simp only [Act.put, List.setIfInBounds_toArray, List.set_cons_zero, List.set_cons_succ]))
            repeat (first | (refine' wpPln_take rfl (by rfl) (by assumption) ?_ ?_; rotate_left; (· (intro w hSw; (try dsimp only at hSw); go_simp; try with_reducible rfl)); try simp only [Act.put, List.setIfInBounds_toArray, List.set_cons_zero, List.set_cons_succ]) | (refine' wpPln_free rfl (by rfl) ?_ ?_; rotate_left; (· (intro w; go_simp; try with_reducible rfl)); try simp only [Act.put, List.setIfInBounds_toArray, List.set_cons_zero, List.set_cons_succ]))
            have k9 := KP.out.below E6 KPL.out
            have f9 := k9.frozen 1
            have d9 := k9.cell 1
            refine wpPln_late (by decide) rfl (fun KT hKT => ?_)
            go_simp
            refine hKT.out _ _ ?_; clear hKT KT; try simp only [Act.put, List.setIfInBounds_toArray, List.set_cons_zero, List.set_cons_succ]
            obtain ⟨vA, hvA⟩ : ∃ v, v = v6.setCell ⟨gp, 1, none⟩ (.slice b1 (n + 1) d1) := ⟨_, rfl⟩
            rw [← hvA]
            have kA : Blk vA gp 70 #[.int .i64 now, .slice b1 (n + 1) d1, .slice aQ n cQ] := by rw [hvA]; exact k9.set_ 1 _
            have RA1 := Lib.hid (show vA.ownsRow w4.heap.size 3 1 (.slice b1 (n + 1) d1) (n + 1) _ by rw [hvA]; exact ownsRow_setCell_other R1.out (own_blk_ne R1.out k9 (by decide)) _)
            have RA2 := Lib.hid (show vA.ownsRow w4.heap.size 3 1 (.slice b2 (n + 1) d2) (n + 1) _ by rw [hvA]; exact ownsRow_setCell_other R2.out (own_blk_ne R2.out k9 (by decide)) _)
            have OA := Lib.hid (show Only [gp] w4 vA by rw [hvA]; exact (Only.of_below (S := [gp]) E6).setCell (.inl (by simp)) _)
            have fA := kA.frozen 2
            have dA := kA.cell 2
            clear hvA f9 k9 d9
            repeat (first | (refine' wpPln_take rfl (by rfl) (by assumption) ?_ ?_; rotate_left; (· (intro w hSw; (try dsimp only at hSw); go_simp; try with_reducible rfl)); try simp only [Act.put, List.setIfInBounds_toArray, List.set_cons_zero, List.set_cons_succ]) | (refine' wpPln_free rfl (by rfl) ?_ ?_; rotate_left; (· (intro w; go_simp; try with_reducible rfl)); try simp only [Act.put, List.setIfInBounds_toArray, List.set_cons_zero, List.set_cons_succ]))
            refine wpPln_late (by decide) rfl (fun KT hKT => ?_)
            go_simp
            refine hKT.out _ _ ?_; clear hKT KT; try simp only [Act.put, List.setIfInBounds_toArray, List.set_cons_zero, List.set_cons_succ]
            obtain ⟨vB, hvB⟩ : ∃ v, v = vA.setCell ⟨gp, 2, none⟩ (.slice b2 (n + 1) d2) := ⟨_, rfl⟩
            rw [← hvB]
            have FB := Lib.hid (put_fin B gp now id (now + t) P4 w4 vA vB n N4.out b1 d1 b2 d2 aQ cQ n KP.out BW4 GE4.out kA RA1.out RA2.out OA.out hvB)
            clear hvB fA kA dA
            refine wpPln_done ?_
            go_wp2_with fail
            go_meet
            exact ⟨rfl, L2, P4, L3.out, M3.out, FB.out.1, C4.out.only FB.out.2 PP4.out.typ, FB.out.2.below B4.out BW4 (by simp; exact GE4.out)⟩
        · skip
          refine wpPln_one rfl (fun KT hKT => ?_)
          go_simp
          refine hKT.out _ _ (KS _ (E1.alloc E1.size _)) (fun _ => ?_); clear hKT KT; try simp only [Act.put, List.setIfInBounds_toArray, List.set_cons_zero, List.set_cons_succ]
          obtain ⟨v2, hv9⟩ : ∃ v, v = (v1).alloc (.cells #[.int .i64 (now + t)] 3) := ⟨_, rfl⟩
          rw [← hv9]
          have hb9 : Below (v1.heap.size) (v1) v2 := by rw [hv9]; exact (Below.refl _ _).alloc (Nat.le_refl _) _
          have E2 : Below w4.heap.size w4 v2 := E1.trans (hb9.mono E1.size)
          have Z2 : v1.heap.size + 1 ≤ v2.heap.size := by rw [hv9]; simp
          have O1 := Lib.hid (own_below O1.out hb9)
          have B2 : Hid (VRow v2 (some ⟨v1.heap.size, 0, none⟩) 1 1 [.int .i64 (now + t)]) := Lib.hid (by rw [hv9]; exact own_one _ _ _)
          have SK := KS _ E2
          clear hv9 hb9
          repeat (first | (refine' wpPln_take rfl (by rfl) (by assumption) ?_ ?_; rotate_left; (· (intro w hSw; (try dsimp only at hSw); go_simp; try with_reducible rfl)); try simp only [Act.put, List.setIfInBounds_toArray, List.set_cons_zero, List.set_cons_succ]) | (refine' wpPln_free rfl (by rfl) ?_ ?_; rotate_left; (· (intro w; go_simp; try with_reducible rfl)); try simp only [Act.put, List.setIfInBounds_toArray, List.set_cons_zero, List.set_cons_succ]))
          refine wpPln_one rfl (fun KT hKT => ?_)
          go_simp
          refine hKT.out _ _ (KS _ (E2.alloc E2.size _)) (fun _ => ?_); clear hKT KT; try simp only [Act.put, List.setIfInBounds_toArray, List.set_cons_zero, List.set_cons_succ]
          obtain ⟨v3, hv9⟩ : ∃ v, v = (v2).alloc (.cells #[.int .i64 id] 3) := ⟨_, rfl⟩
          rw [← hv9]
          have hb9 : Below (v2.heap.size) (v2) v3 := by rw [hv9]; exact (Below.refl _ _).alloc (Nat.le_refl _) _
          have E3 : Below w4.heap.size w4 v3 := E2.trans (hb9.mono E2.size)
          have Z3 : v2.heap.size + 1 ≤ v3.heap.size := by rw [hv9]; simp
          have O1 := Lib.hid (own_below O1.out hb9)
          have B2 := Lib.hid (B2.out.below hb9)
          have B1 : Hid (VRow v3 (some ⟨v2.heap.size, 0, none⟩) 1 1 [.int .i64 id]) := Lib.hid (by rw [hv9]; exact own_one _ _ _)
          have SK := KS _ E3
          clear hv9 hb9
          repeat (first | (refine' wpPln_take rfl (by rfl) (by assumption) ?_ ?_; rotate_left; (· (intro w hSw; (try dsimp only at hSw); go_simp; try with_reducible rfl)); try simp only [Act.put, List.setIfInBounds_toArray, List.set_cons_zero, List.set_cons_succ]) | (refine' wpPln_free rfl (by rfl) ?_ ?_; rotate_left; (· (intro w; go_simp; try with_reducible rfl)); try simp only [Act.put, List.setIfInBounds_toArray, List.set_cons_zero, List.set_cons_succ]))
          refine wpPln_one rfl (fun KT hKT => ?_)
          refine step_app (by rfl) _ _ _ (by rfl) w4.heap.size 3 ti _ 1 8 Try.underlying51 hi0 hz0 hz1 hz2 rfl (by omega) a1 n c1 (ids P4) (by rfl) O1.out (some ⟨v2.heap.size, 0, none⟩) 1 1 [.int .i64 id] (by rfl) B1.out (by intro u hu; simp only [List.mem_singleton] at hu; subst hu; rfl) (by unfold maxLen; omega) (by omega) E3.size ?_
          intro b1 d1 v4 h9
          have E4 : Below w4.heap.size w4 v4 := h9.below O1.out E3 (Nat.le_refl _) E3.size
          have Z4 : v3.heap.size ≤ v4.heap.size := h9.only.size
          have B2 := Lib.hid (B2.out.only h9.only (fun b hb hm => by
            have e : v1.heap.size = b := by simpa using hb
            have h8 := T1.out b (Option.mem_toList.1 hm)
            omega))
          have R1 := Lib.hid h9.own
          have U1 : Hid (∀ g, b1.map (·.block) = some g → g < v4.heap.size) := Lib.hid fun g hg => (World.ownsRow.lt h9.own g (by rw [own_block_eq]; exact hg)).2
          clear h9
          refine hKT.out _ _ (KS _ E4) (fun _ => ?_); clear hKT KT; try simp only [Act.put, List.setIfInBounds_toArray, List.set_cons_zero, List.set_cons_succ]
          repeat (first | (refine' wpPln_take rfl (by rfl) (by assumption) ?_ ?_; rotate_left; (· (intro w hSw; (try dsimp only at hSw); go_simp; try with_reducible rfl)); try simp only [Act.put, List.setIfInBounds_toArray, List.set_cons_zero, List.set_cons_succ]) | (refine' wpPln_free rfl (by rfl) ?_ ?_; rotate_left; (· (intro w; go_simp; try with_reducible rfl)); try simp only [Act.put, List.setIfInBounds_toArray, List.set_cons_zero, List.set_cons_succ]))
          refine wpPln_one rfl (fun KT hKT => ?_)
          go_simp
          refine (copy_i aQ n cQ (ats P4) _ (VQ.out.below E4) (ats_one P4) (by omega)).mono ?_
          rintro e v5 ⟨a2, c2, rfl, h9, hb9⟩
          have E5 : Below w4.heap.size w4 v5 := E4.trans (hb9.mono E4.size)
          have Z5 : v4.heap.size ≤ v5.heap.size := hb9.size
          have T2 : Hid (∀ g, a2.map (·.block) = some g → v4.heap.size ≤ g ∧ g < v5.heap.size) := Lib.hid fun g hg => World.ownsRow.lt h9 g (by rw [own_block_eq]; exact hg)
          have R1 := Lib.hid (own_below R1.out hb9)
          have B2 := Lib.hid (B2.out.below hb9)
          have O2 := Lib.hid (own_base_le h9 E4.size)
          clear h9 hb9
          refine hKT.out _ _ (KS _ E5) (fun _ => ?_); clear hKT KT; try simp only [Act.put, List.setIfInBounds_toArray, List.set_cons_zero, List.set_cons_succ]
          repeat (first | (refine' wpPln_take rfl (by rfl) (by assumption) ?_ ?_; rotate_left; (· (intro w hSw; (try dsimp only at hSw); go_simp; try with_reducible rfl)); try simp only [Act.put, List.setIfInBounds_toArray, List.set_cons_zero, List.set_cons_succ]) | (refine' wpPln_free rfl (by rfl) ?_ ?_; rotate_left; (· (intro w; go_simp; try with_reducible rfl)); try simp only [Act.put, List.setIfInBounds_toArray, List.set_cons_zero, List.set_cons_succ]))
          refine wpPln_one rfl (fun KT hKT => ?_)
          refine step_app (by rfl) _ _ _ (by rfl) w4.heap.size 3 ti _ 1 8 Try.underlying51 hi0 hz0 hz1 hz2 rfl (by omega) a2 n c2 (ats P4) (by rfl) O2.out (some ⟨v1.heap.size, 0, none⟩) 1 1 [.int .i64 (now + t)] (by rfl) B2.out (by intro u hu; simp only [List.mem_singleton] at hu; subst hu; rfl) (by unfold maxLen; omega) (by omega) E5.size ?_
          intro b2 d2 v6 h9
          have E6 : Below w4.heap.size w4 v6 := h9.below O2.out E5 (Nat.le_refl _) E5.size
          have Z6 : v5.heap.size ≤ v6.heap.size := h9.only.size
          have R1 := Lib.hid (own_only R1.out h9.only (fun g hg hm => by
            have h7 := U1.out g (by rw [own_block_eq] at hg; exact hg)
            have h8 := T2.out g (Option.mem_toList.1 hm)
            omega))
          have R2 := Lib.hid h9.own
          clear h9
          refine hKT.out _ _ (KS _ E6) (fun _ => ?_); clear hKT KT; try simp only [Act.put, List.setIfInBounds_toArray, List.set_cons_zero, List.set_cons_succ]
          repeat (first | (refine' wpPln_take rfl (by rfl) (by assumption) ?_ ?_; rotate_left; (· (intro w hSw; (try dsimp only at hSw); go_simp; try with_reducible rfl)); try simp only [Act.put, List.setIfInBounds_toArray, List.set_cons_zero, List.set_cons_succ]) | (refine' wpPln_free rfl (by rfl) ?_ ?_; rotate_left; (· (intro w; go_simp; try with_reducible rfl)); try simp only [Act.put, List.setIfInBounds_toArray, List.set_cons_zero, List.set_cons_succ]))
          repeat (first | (refine' wpPln_take rfl (by rfl) (by assumption) ?_ ?_; rotate_left; (· (intro w hSw; (try dsimp only at hSw); go_simp; try with_reducible rfl)); try simp only [Act.put, List.setIfInBounds_toArray, List.set_cons_zero, List.set_cons_succ]) | (refine' wpPln_free rfl (by rfl) ?_ ?_; rotate_left; (· (intro w; go_simp; try with_reducible rfl)); try simp only [Act.put, List.setIfInBounds_toArray, List.set_cons_zero, List.set_cons_succ]))
          have k9 := KP.out.below E6 KPL.out
          have f9 := k9.frozen 1
          have d9 := k9.cell 1
          refine wpPln_late (by decide) rfl (fun KT hKT => ?_)
          go_simp
          refine hKT.out _ _ ?_; clear hKT KT; try simp only [Act.put, List.setIfInBounds_toArray, List.set_cons_zero, List.set_cons_succ]
          obtain ⟨vA, hvA⟩ : ∃ v, v = v6.setCell ⟨gp, 1, none⟩ (.slice b1 (n + 1) d1) := ⟨_, rfl⟩
          rw [← hvA]
          have kA : Blk vA gp 70 #[.int .i64 now, .slice b1 (n + 1) d1, .slice aQ n cQ] := by rw [hvA]; exact k9.set_ 1 _
          have RA1 := Lib.hid (show vA.ownsRow w4.heap.size 3 1 (.slice b1 (n + 1) d1) (n + 1) _ by rw [hvA]; exact ownsRow_setCell_other R1.out (own_blk_ne R1.out k9 (by decide)) _)
          have RA2 := Lib.hid (show vA.ownsRow w4.heap.size 3 1 (.slice b2 (n + 1) d2) (n + 1) _ by rw [hvA]; exact ownsRow_setCell_other R2.out (own_blk_ne R2.out k9 (by decide)) _)
          have OA := Lib.hid (show Only [gp] w4 vA by rw [hvA]; exact (Only.of_below (S := [gp]) E6).setCell (.inl (by simp)) _)
          have fA := kA.frozen 2
          have dA := kA.cell 2
          clear hvA f9 k9 d9
          repeat (first | (refine' wpPln_take rfl (by rfl) (by assumption) ?_ ?_; rotate_left; (· (intro w hSw; (try dsimp only at hSw); go_simp; try with_reducible rfl)); try simp only [Act.put, List.setIfInBounds_toArray, List.set_cons_zero, List.set_cons_succ]) | (refine' wpPln_free rfl (by rfl) ?_ ?_; rotate_left; (· (intro w; go_simp; try with_reducible rfl)); try simp only [Act.put, List.setIfInBounds_toArray, List.set_cons_zero, List.set_cons_succ]))
          refine wpPln_late (by decide) rfl (fun KT hKT => ?_)
          go_simp
          refine hKT.out _ _ ?_; clear hKT KT; try simp only [Act.put, List.setIfInBounds_toArray, List.set_cons_zero, List.set_cons_succ]
          obtain ⟨vB, hvB⟩ : ∃ v, v = vA.setCell ⟨gp, 2, none⟩ (.slice b2 (n + 1) d2) := ⟨_, rfl⟩
          rw [← hvB]
          have FB := Lib.hid (put_fin B gp now id (now + t) P4 w4 vA vB n N4.out b1 d1 b2 d2 aQ cQ n KP.out BW4 GE4.out kA RA1.out RA2.out OA.out hvB)
          clear hvB fA kA dA
          refine wpPln_done ?_
          go_wp2_with fail
          go_meet
          exact ⟨rfl, L2, P4, L3.out, M3.out, FB.out.1, C4.out.only FB.out.2 PP4.out.typ, FB.out.2.below B4.out BW4 (by simp; exact GE4.out)⟩
      · skip
        refine wpPln_one rfl (fun KT hKT => ?_)
        go_simp
        refine hKT.out _ _ (KS _ (E0.alloc E0.size _)) (fun _ => ?_); clear hKT KT; try simp only [Act.put, List.setIfInBounds_toArray, List.set_cons_zero, List.set_cons_succ]
        obtain ⟨v1, hv9⟩ : ∃ v, v = (v0).alloc (.cells #[.int .i64 id] 3) := ⟨_, rfl⟩
        rw [← hv9]
        have hb9 : Below (v0.heap.size) (v0) v1 := by rw [hv9]; exact (Below.refl _ _).alloc (Nat.le_refl _) _
        have E1 : Below w4.heap.size w4 v1 := E0.trans (hb9.mono E0.size)
        have Z1 : v0.heap.size + 1 ≤ v1.heap.size := by rw [hv9]; simp
        have B1 : Hid (VRow v1 (some ⟨v0.heap.size, 0, none⟩) 1 1 [.int .i64 id]) := Lib.hid (by rw [hv9]; exact own_one _ _ _)
        have SK := KS _ E1
        clear hv9 hb9
        repeat (first | (refine' wpPln_take rfl (by rfl) (by assumption) ?_ ?_; rotate_left; (· (intro w hSw; (try dsimp only at hSw); go_simp; try with_reducible rfl)); try simp only [Act.put, List.setIfInBounds_toArray, List.set_cons_zero, List.set_cons_succ]) | (refine' wpPln_free rfl (by rfl) ?_ ?_; rotate_left; (· (intro w; go_simp; try with_reducible rfl)); try simp only [Act.put, List.setIfInBounds_toArray, List.set_cons_zero, List.set_cons_succ]))
        refine wpPln_two ?_ ?_
        · skip
          refine wpPln_one rfl (fun KT hKT => ?_)
          go_simp
          refine (copy_i aP n cP (ids P4) _ (VP.out.below E1) (ids_one P4) (by omega)).mono ?_
          rintro e v2 ⟨a1, c1, rfl, h9, hb9⟩
          have E2 : Below w4.heap.size w4 v2 := E1.trans (hb9.mono E1.size)
          have Z2 : v1.heap.size ≤ v2.heap.size := hb9.size
          have T1 : Hid (∀ g, a1.map (·.block) = some g → v1.heap.size ≤ g ∧ g < v2.heap.size) := Lib.hid fun g hg => World.ownsRow.lt h9 g (by rw [own_block_eq]; exact hg)
          have B1 := Lib.hid (B1.out.below hb9)
          have O1 := Lib.hid (own_base_le h9 E1.size)
          clear h9 hb9
          refine hKT.out _ _ (KS _ E2) (fun _ => ?_); clear hKT KT; try simp only [Act.put, List.setIfInBounds_toArray, List.set_cons_zero, List.set_cons_succ]
          repeat (first | (refine' wpPln_take rfl (by rfl) (by assumption) ?_ ?_; rotate_left; (· (intro w hSw; (try dsimp only at hSw); go_simp; try with_reducible rfl)); try simp only [Act.put, List.setIfInBounds_toArray, List.set_cons_zero, List.set_cons_succ]) | (refine' wpPln_free rfl (by rfl) ?_ ?_; rotate_left; (· (intro w; go_simp; try with_reducible rfl)); try simp only [Act.put, List.setIfInBounds_toArray, List.set_cons_zero, List.set_cons_succ]))
          refine wpPln_two ?_ ?_
          · skip
            refine wpPln_one rfl (fun KT hKT => ?_)
            refine step_app (by rfl) _ _ _ (by rfl) w4.heap.size 3 ti _ 1 8 Try.underlying51 hi0 hz0 hz1 hz2 rfl (by omega) a1 n c1 (ids P4) (by rfl) O1.out (some ⟨v0.heap.size, 0, none⟩) 1 1 [.int .i64 id] (by rfl) B1.out (by intro u hu; simp only [List.mem_singleton] at hu; subst hu; rfl) (by unfold maxLen; omega) (by omega) E2.size ?_
            intro b1 d1 v3 h9
            have E3 : Below w4.heap.size w4 v3 := h9.below O1.out E2 (Nat.le_refl _) E2.size
            have Z3 : v2.heap.size ≤ v3.heap.size := h9.only.size
            have R1 := Lib.hid h9.own
            have U1 : Hid (∀ g, b1.map (·.block) = some g → g < v3.heap.size) := Lib.hid fun g hg => (World.ownsRow.lt h9.own g (by rw [own_block_eq]; exact hg)).2
            clear h9
            refine hKT.out _ _ (KS _ E3) (fun _ => ?_); clear hKT KT; try simp only [Act.put, List.setIfInBounds_toArray, List.set_cons_zero, List.set_cons_succ]
            repeat (first | (refine' wpPln_take rfl (by rfl) (by assumption) ?_ ?_; rotate_left; (· (intro w hSw; (try dsimp only at hSw); go_simp; try with_reducible rfl)); try simp only [Act.put, List.setIfInBounds_toArray, List.set_cons_zero, List.set_cons_succ]) | (refine' wpPln_free rfl (by rfl) ?_ ?_; rotate_left; (· (intro w; go_simp; try with_reducible rfl)); try simp only [Act.put, List.setIfInBounds_toArray, List.set_cons_zero, List.set_cons_succ]))
            refine wpPln_two ?_ ?_
            · skip
              refine wpPln_one rfl (fun KT hKT => ?_)
              go_simp
              refine (copy_i aQ n cQ (ats P4) _ (VQ.out.below E3) (ats_one P4) (by omega)).mono ?_
              rintro e v4 ⟨a2, c2, rfl, h9, hb9⟩
              have E4 : Below w4.heap.size w4 v4 := E3.trans (hb9.mono E3.size)
              have Z4 : v3.heap.size ≤ v4.heap.size := hb9.size
              have T2 : Hid (∀ g, a2.map (·.block) = some g → v3.heap.size ≤ g ∧ g < v4.heap.size) := Lib.hid fun g hg => World.ownsRow.lt h9 g (by rw [own_block_eq]; exact hg)
              have R1 := Lib.hid (own_below R1.out hb9)
              have O2 := Lib.hid (own_base_le h9 E3.size)
              clear h9 hb9
              refine hKT.out _ _ (KS _ E4) (fun _ => ?_); clear hKT KT; try simp only [Act.put, List.setIfInBounds_toArray, List.set_cons_zero, List.set_cons_succ]
              repeat (first | (refine' wpPln_take rfl (by rfl) (by assumption) ?_ ?_; rotate_left; (· (intro w hSw; (try dsimp only at hSw); go_simp; try with_reducible rfl)); try simp only [Act.put, List.setIfInBounds_toArray, List.set_cons_zero, List.set_cons_succ]) | (refine' wpPln_free rfl (by rfl) ?_ ?_; rotate_left; (· (intro w; go_simp; try with_reducible rfl)); try simp only [Act.put, List.setIfInBounds_toArray, List.set_cons_zero, List.set_cons_succ]))
              refine wpPln_one rfl (fun KT hKT => ?_)
              go_simp
              refine hKT.out _ _ (KS _ (E4.alloc E4.size _)) (fun _ => ?_); clear hKT KT; try simp only [Act.put, List.setIfInBounds_toArray, List.set_cons_zero, List.set_cons_succ]
              obtain ⟨v5, hv9⟩ : ∃ v, v = (v4).alloc (.cells #[.int .i64 (now + t)] 3) := ⟨_, rfl⟩
              rw [← hv9]
              have hb9 : Below (v4.heap.size) (v4) v5 := by rw [hv9]; exact (Below.refl _ _).alloc (Nat.le_refl _) _
              have E5 : Below w4.heap.size w4 v5 := E4.trans (hb9.mono E4.size)
              have Z5 : v4.heap.size + 1 ≤ v5.heap.size := by rw [hv9]; simp
              have R1 := Lib.hid (own_below R1.out hb9)
              have O2 := Lib.hid (own_below O2.out hb9)
              have B2 : Hid (VRow v5 (some ⟨v4.heap.size, 0, none⟩) 1 1 [.int .i64 (now + t)]) := Lib.hid (by rw [hv9]; exact own_one _ _ _)
              have SK := KS _ E5
              clear hv9 hb9
              repeat (first | (refine' wpPln_take rfl (by rfl) (by assumption) ?_ ?_; rotate_left; (· (intro w hSw; (try dsimp only at hSw); go_simp; try with_reducible rfl)); try simp only [Act.put, List.setIfInBounds_toArray, List.set_cons_zero, List.set_cons_succ]) | (refine' wpPln_free rfl (by rfl) ?_ ?_; rotate_left; (· (intro w; go_simp; try with_reducible rfl)); try simp only [Act.put, List.setIfInBounds_toArray, List.set_cons_zero, List.set_cons_succ]))
              refine wpPln_one rfl (fun KT hKT => ?_)
              refine step_app (by rfl) _ _ _ (by rfl) w4.heap.size 3 ti _ 1 8 Try.underlying51 hi0 hz0 hz1 hz2 rfl (by omega) a2 n c2 (ats P4) (by rfl) O2.out (some ⟨v4.heap.size, 0, none⟩) 1 1 [.int .i64 (now + t)] (by rfl) B2.out (by intro u hu; simp only [List.mem_singleton] at hu; subst hu; rfl) (by unfold maxLen; omega) (by omega) E5.size ?_
              intro b2 d2 v6 h9
              have E6 : Below w4.heap.size w4 v6 := h9.below O2.out E5 (Nat.le_refl _) E5.size
              have Z6 : v5.heap.size ≤ v6.heap.size := h9.only.size
              have R1 := Lib.hid (own_only R1.out h9.only (fun g hg hm => by
                have h7 := U1.out g (by rw [own_block_eq] at hg; exact hg)
                have h8 := T2.out g (Option.mem_toList.1 hm)
                omega))
              have R2 := Lib.hid h9.own
              clear h9
              refine hKT.out _ _ (KS _ E6) (fun _ => ?_); clear hKT KT; try simp only [Act.put, List.setIfInBounds_toArray, List.set_cons_zero, List.set_cons_succ]
              repeat (first | (refine' wpPln_take rfl (by rfl) (by assumption) ?_ ?_; rotate_left; (· (intro w hSw; (try dsimp only at hSw); go_simp; try with_reducible rfl)); try simp only [Act.put, List.setIfInBounds_toArray, List.set_cons_zero, List.set_cons_succ]) | (refine' wpPln_free rfl (by rfl) ?_ ?_; rotate_left; (· (intro w; go_simp; try with_reducible rfl)); try simp only [Act.put, List.setIfInBounds_toArray, List.set_cons_zero, List.set_cons_succ]))
              repeat (first | (refine' wpPln_take rfl (by rfl) (by assumption) ?_ ?_; rotate_left; (· (intro w hSw; (try dsimp only at hSw); go_simp; try with_reducible rfl)); try simp only [Act.put, List.setIfInBounds_toArray, List.set_cons_zero, List.set_cons_succ]) | (refine' wpPln_free rfl (by rfl) ?_ ?_; rotate_left; (· (intro w; go_simp; try with_reducible rfl)); try simp only [Act.put, List.setIfInBounds_toArray, List.set_cons_zero, List.set_cons_succ]))
              have k9 := KP.out.below E6 KPL.out
              have f9 := k9.frozen 1
              have d9 := k9.cell 1
              refine wpPln_late (by decide) rfl (fun KT hKT => ?_)
              go_simp
              refine hKT.out _ _ ?_; clear hKT KT; try simp only [Act.put, List.setIfInBounds_toArray, List.set_cons_zero, List.set_cons_succ]
              obtain ⟨vA, hvA⟩ : ∃ v, v = v6.setCell ⟨gp, 1, none⟩ (.slice b1 (n + 1) d1) := ⟨_, rfl⟩
              rw [← hvA]
              have kA : Blk vA gp 70 #[.int .i64 now, .slice b1 (n + 1) d1, .slice aQ n cQ] := by rw [hvA]; exact k9.set_ 1 _
              have RA1 := Lib.hid (show vA.ownsRow w4.heap.size 3 1 (.slice b1 (n + 1) d1) (n + 1) _ by rw [hvA]; exact ownsRow_setCell_other R1.out (own_blk_ne R1.out k9 (by decide)) _)
              have RA2 := Lib.hid (show vA.ownsRow w4.heap.size 3 1 (.slice b2 (n + 1) d2) (n + 1) _ by rw [hvA]; exact ownsRow_setCell_other R2.out (own_blk_ne R2.out k9 (by decide)) _)
              have OA := Lib.hid (show Only [gp] w4 vA by rw [hvA]; exact (Only.of_below (S := [gp]) E6).setCell (.inl (by simp)) _)
              have fA := kA.frozen 2
              have dA := kA.cell 2
              clear hvA f9 k9 d9
              repeat (first | (refine' wpPln_take rfl (by rfl) (by assumption) ?_ ?_; rotate_left; (· (intro w hSw; (try dsimp only at hSw); go_simp; try with_reducible rfl)); try simp only [Act.put, List.setIfInBounds_toArray, List.set_cons_zero, List.set_cons_succ]) | (refine' wpPln_free rfl (by rfl) ?_ ?_; rotate_left; (· (intro w; go_simp; try with_reducible rfl)); try simp only [Act.put, List.setIfInBounds_toArray, List.set_cons_zero, List.set_cons_succ]))
              refine wpPln_late (by decide) rfl (fun KT hKT => ?_)
              go_simp
              refine hKT.out _ _ ?_; clear hKT KT; try simp only [Act.put, List.setIfInBounds_toArray, List.set_cons_zero, List.set_cons_succ]
              obtain ⟨vB, hvB⟩ : ∃ v, v = vA.setCell ⟨gp, 2, none⟩ (.slice b2 (n + 1) d2) := ⟨_, rfl⟩
              rw [← hvB]
              have FB := Lib.hid (put_fin B gp now id (now + t) P4 w4 vA vB n N4.out b1 d1 b2 d2 aQ cQ n KP.out BW4 GE4.out kA RA1.out RA2.out OA.out hvB)
              clear hvB fA kA dA
              refine wpPln_done ?_
              go_wp2_with fail
              go_meet
              exact ⟨rfl, L2, P4, L3.out, M3.out, FB.out.1, C4.out.only FB.out.2 PP4.out.typ, FB.out.2.below B4.out BW4 (by simp; exact GE4.out)⟩
            · skip
              refine wpPln_one rfl (fun KT hKT => ?_)
              go_simp
              refine hKT.out _ _ (KS _ (E3.alloc E3.size _)) (fun _ => ?_); clear hKT KT; try simp only [Act.put, List.setIfInBounds_toArray, List.set_cons_zero, List.set_cons_succ]
              obtain ⟨v4, hv9⟩ : ∃ v, v = (v3).alloc (.cells #[.int .i64 (now + t)] 3) := ⟨_, rfl⟩
              rw [← hv9]
              have hb9 : Below (v3.heap.size) (v3) v4 := by rw [hv9]; exact (Below.refl _ _).alloc (Nat.le_refl _) _
              have E4 : Below w4.heap.size w4 v4 := E3.trans (hb9.mono E3.size)
              have Z4 : v3.heap.size + 1 ≤ v4.heap.size := by rw [hv9]; simp
              have R1 := Lib.hid (own_below R1.out hb9)
              have B2 : Hid (VRow v4 (some ⟨v3.heap.size, 0, none⟩) 1 1 [.int .i64 (now + t)]) := Lib.hid (by rw [hv9]; exact own_one _ _ _)
              have SK := KS _ E4
              clear hv9 hb9
              repeat (first | (refine' wpPln_take rfl (by rfl) (by assumption) ?_ ?_; rotate_left; (· (intro w hSw; (try dsimp only at hSw); go_simp; try with_reducible rfl)); try simp only [Act.put, List.setIfInBounds_toArray, List.set_cons_zero, List.set_cons_succ]) | (refine' wpPln_free rfl (by rfl) ?_ ?_; rotate_left; (· (intro w; go_simp; try with_reducible rfl)); try simp only [Act.put, List.setIfInBounds_toArray, List.set_cons_zero, List.set_cons_succ]))
              refine wpPln_one rfl (fun KT hKT => ?_)
              go_simp
              refine (copy_i aQ n cQ (ats P4) _ (VQ.out.below E4) (ats_one P4) (by omega)).mono ?_
              rintro e v5 ⟨a2, c2, rfl, h9, hb9⟩
              have E5 : Below w4.heap.size w4 v5 := E4.trans (hb9.mono E4.size)
              have Z5 : v4.heap.size ≤ v5.heap.size := hb9.size
              have T2 : Hid (∀ g, a2.map (·.block) = some g → v4.heap.size ≤ g ∧ g < v5.heap.size) := Lib.hid fun g hg => World.ownsRow.lt h9 g (by rw [own_block_eq]; exact hg)
              have R1 := Lib.hid (own_below R1.out hb9)
              have B2 := Lib.hid (B2.out.below hb9)
              have O2 := Lib.hid (own_base_le h9 E4.size)
              clear h9 hb9
              refine hKT.out _ _ (KS _ E5) (fun _ => ?_); clear hKT KT; try simp only [Act.put, List.setIfInBounds_toArray, List.set_cons_zero, List.set_cons_succ]
              repeat (first | (refine' wpPln_take rfl (by rfl) (by assumption) ?_ ?_; rotate_left; (· (intro w hSw; (try dsimp only at hSw); go_simp; try with_reducible rfl)); try simp only [Act.put, List.setIfInBounds_toArray, List.set_cons_zero, List.set_cons_succ]) | (refine' wpPln_free rfl (by rfl) ?_ ?_; rotate_left; (· (intro w; go_simp; try with_reducible rfl)); try simp only [Act.put, List.setIfInBounds_toArray, List.set_cons_zero, List.set_cons_succ]))
              refine wpPln_one rfl (fun KT hKT => ?_)
              refine step_app (by rfl) _ _ _ (by rfl) w4.heap.size 3 ti _ 1 8 Try.underlying51 hi0 hz0 hz1 hz2 rfl (by omega) a2 n c2 (ats P4) (by rfl) O2.out (some ⟨v3.heap.size, 0, none⟩) 1 1 [.int .i64 (now + t)] (by rfl) B2.out (by intro u hu; simp only [List.mem_singleton] at hu; subst hu; rfl) (by unfold maxLen; omega) (by omega) E5.size ?_
              intro b2 d2 v6 h9
              have E6 : Below w4.heap.size w4 v6 := h9.below O2.out E5 (Nat.le_refl _) E5.size
              have Z6 : v5.heap.size ≤ v6.heap.size := h9.only.size
              have R1 := Lib.hid (own_only R1.out h9.only (fun g hg hm => by
                have h7 := U1.out g (by rw [own_block_eq] at hg; exact hg)
                have h8 := T2.out g (Option.mem_toList.1 hm)
                omega))
              have R2 := Lib.hid h9.own
              clear h9
              refine hKT.out _ _ (KS _ E6) (fun _ => ?_); clear hKT KT; try simp only [Act.put, List.setIfInBounds_toArray, List.set_cons_zero, List.set_cons_succ]
              repeat (first | (refine' wpPln_take rfl (by rfl) (by assumption) ?_ ?_; rotate_left; (· (intro w hSw; (try dsimp only at hSw); go_simp; try with_reducible rfl)); try simp only [Act.put, List.setIfInBounds_toArray, List.set_cons_zero, List.set_cons_succ]) | (refine' wpPln_free rfl (by rfl) ?_ ?_; rotate_left; (· (intro w; go_simp; try with_reducible rfl)); try simp only [Act.put, List.setIfInBounds_toArray, List.set_cons_zero, List.set_cons_succ]))
              repeat (first | (refine' wpPln_take rfl (by rfl) (by assumption) ?_ ?_; rotate_left; (· (intro w hSw; (try dsimp only at hSw); go_simp; try with_reducible rfl)); try simp only [Act.put, List.setIfInBounds_toArray, List.set_cons_zero, List.set_cons_succ]) | (refine' wpPln_free rfl (by rfl) ?_ ?_; rotate_left; (· (intro w; go_simp; try with_reducible rfl)); try simp only [Act.put, List.setIfInBounds_toArray, List.set_cons_zero, List.set_cons_succ]))
              have k9 := KP.out.below E6 KPL.out
              have f9 := k9.frozen 1
              have d9 := k9.cell 1
              refine wpPln_late (by decide) rfl (fun KT hKT => ?_)
              go_simp
              refine hKT.out _ _ ?_; clear hKT KT; try simp only [Act.put, List.setIfInBounds_toArray, List.set_cons_zero, List.set_cons_succ]
              obtain ⟨vA, hvA⟩ : ∃ v, v = v6.setCell ⟨gp, 1, none⟩ (.slice b1 (n + 1) d1) := ⟨_, rfl⟩
              rw [← hvA]
              have kA : Blk vA gp 70 #[.int .i64 now, .slice b1 (n + 1) d1, .slice aQ n cQ] := by rw [hvA]; exact k9.set_ 1 _
              have RA1 := Lib.hid (show vA.ownsRow w4.heap.size 3 1 (.slice b1 (n + 1) d1) (n + 1) _ by rw [hvA]; exact ownsRow_setCell_other R1.out (own_blk_ne R1.out k9 (by decide)) _)
              have RA2 := Lib.hid (show vA.ownsRow w4.heap.size 3 1 (.slice b2 (n + 1) d2) (n + 1) _ by rw [hvA]; exact ownsRow_setCell_other R2.out (own_blk_ne R2.out k9 (by decide)) _)
              have OA := Lib.hid (show Only [gp] w4 vA by rw [hvA]; exact (Only.of_below (S := [gp]) E6).setCell (.inl (by simp)) _)
              have fA := kA.frozen 2
              have dA := kA.cell 2
              clear hvA f9 k9 d9
              repeat (first | (refine' wpPln_take rfl (by rfl) (by assumption) ?_ ?_; rotate_left; (· (intro w hSw; (try dsimp only at hSw); go_simp; try with_reducible rfl)); try simp only [Act.put, List.setIfInBounds_toArray, List.set_cons_zero, List.set_cons_succ]) | (refine' wpPln_free rfl (by rfl) ?_ ?_; rotate_left; (· (intro w; go_simp; try with_reducible rfl)); try simp only [Act.put, List.setIfInBounds_toArray, List.set_cons_zero, List.set_cons_succ]))
              refine wpPln_late (by decide) rfl (fun KT hKT => ?_)
              go_simp
              refine hKT.out _ _ ?_; clear hKT KT; try simp only [Act.put, List.setIfInBounds_toArray, List.set_cons_zero, List.set_cons_succ]
              obtain ⟨vB, hvB⟩ : ∃ v, v = vA.setCell ⟨gp, 2, none⟩ (.slice b2 (n + 1) d2) := ⟨_, rfl⟩
              rw [← hvB]
              have FB := Lib.hid (put_fin B gp now id (now + t) P4 w4 vA vB n N4.out b1 d1 b2 d2 aQ cQ n KP.out BW4 GE4.out kA RA1.out RA2.out OA.out hvB)
              clear hvB fA kA dA
              refine wpPln_done ?_
              go_wp2_with fail
              go_meet
              exact ⟨rfl, L2, P4, L3.out, M3.out, FB.out.1, C4.out.only FB.out.2 PP4.out.typ, FB.out.2.below B4.out BW4 (by simp; exact GE4.out)⟩
          · skip
            refine wpPln_one rfl (fun KT hKT => ?_)
            go_simp
            refine hKT.out _ _ (KS _ (E2.alloc E2.size _)) (fun _ => ?_); clear hKT KT; try simp only [Act.put, List.setIfInBounds_toArray, List.set_cons_zero, List.set_cons_succ]
            obtain ⟨v3, hv9⟩ : ∃ v, v = (v2).alloc (.cells #[.int .i64 (now + t)] 3) := ⟨_, rfl⟩
            rw [← hv9]
            have hb9 : Below (v2.heap.size) (v2) v3 := by rw [hv9]; exact (Below.refl _ _).alloc (Nat.le_refl _) _
            have E3 : Below w4.heap.size w4 v3 := E2.trans (hb9.mono E2.size)
            have Z3 : v2.heap.size + 1 ≤ v3.heap.size := by rw [hv9]; simp
            have O1 := Lib.hid (own_below O1.out hb9)
            have B1 := Lib.hid (B1.out.below hb9)
            have B2 : Hid (VRow v3 (some ⟨v2.heap.size, 0, none⟩) 1 1 [.int .i64 (now + t)]) := Lib.hid (by rw [hv9]; exact own_one _ _ _)
            have SK := KS _ E3
            clear hv9 hb9
            repeat (first | (refine' wpPln_take rfl (by rfl) (by assumption) ?_ ?_; rotate_left; (· (intro w hSw; (try dsimp only at hSw); go_simp; try with_reducible rfl)); try simp only [Act.put, List.setIfInBounds_toArray, List.set_cons_zero, List.set_cons_succ]) | (refine' wpPln_free rfl (by rfl) ?_ ?_; rotate_left; (· (intro w; go_simp; try with_reducible rfl)); try simp only [Act.put, List.setIfInBounds_toArray, List.set_cons_zero, List.set_cons_succ]))
            refine wpPln_one rfl (fun KT hKT => ?_)
            refine step_app (by rfl) _ _ _ (by rfl) w4.heap.size 3 ti _ 1 8 Try.underlying51 hi0 hz0 hz1 hz2 rfl (by omega) a1 n c1 (ids P4) (by rfl) O1.out (some ⟨v0.heap.size, 0, none⟩) 1 1 [.int .i64 id] (by rfl) B1.out (by intro u hu; simp only [List.mem_singleton] at hu; subst hu; rfl) (by unfold maxLen; omega) (by omega) E3.size ?_
            intro b1 d1 v4 h9
            have E4 : Below w4.heap.size w4 v4 := h9.below O1.out E3 (Nat.le_refl _) E3.size
            have Z4 : v3.heap.size ≤ v4.heap.size := h9.only.size
            have B2 := Lib.hid (B2.out.only h9.only (fun b hb hm => by
              have e : v2.heap.size = b := by simpa using hb
              have h8 := T1.out b (Option.mem_toList.1 hm)
              omega))
            have R1 := Lib.hid h9.own
            have U1 : Hid (∀ g, b1.map (·.block) = some g → g < v4.heap.size) := Lib.hid fun g hg => (World.ownsRow.lt h9.own g (by rw [own_block_eq]; exact hg)).2
            clear h9
            refine hKT.out _ _ (KS _ E4) (fun _ => ?_); clear hKT KT; try simp only [Act.put, List.setIfInBounds_toArray, List.set_cons_zero, List.set_cons_succ]
            repeat (first | (refine' wpPln_take rfl (by rfl) (by assumption) ?_ ?_; rotate_left; (· (intro w hSw; (try dsimp only at hSw); go_simp; try with_reducible rfl)); try simp only [Act.put, List.setIfInBounds_toArray, List.set_cons_zero, List.set_cons_succ]) | (refine' wpPln_free rfl (by rfl) ?_ ?_; rotate_left; (· (intro w; go_simp; try with_reducible rfl)); try simp only [Act.put, List.setIfInBounds_toArray, List.set_cons_zero, List.set_cons_succ]))
            refine wpPln_one rfl (fun KT hKT => ?_)
            go_simp
            refine (copy_i aQ n cQ (ats P4) _ (VQ.out.below E4) (ats_one P4) (by omega)).mono ?_
            rintro e v5 ⟨a2, c2, rfl, h9, hb9⟩
            have E5 : Below w4.heap.size w4 v5 := E4.trans (hb9.mono E4.size)
            have Z5 : v4.heap.size ≤ v5.heap.size := hb9.size
            have T2 : Hid (∀ g, a2.map (·.block) = some g → v4.heap.size ≤ g ∧ g < v5.heap.size) := Lib.hid fun g hg => World.ownsRow.lt h9 g (by rw [own_block_eq]; exact hg)
            have R1 := Lib.hid (own_below R1.out hb9)
            have B2 := Lib.hid (B2.out.below hb9)
            have O2 := Lib.hid (own_base_le h9 E4.size)
            clear h9 hb9
            refine hKT.out _ _ (KS _ E5) (fun _ => ?_); clear hKT KT; try simp only [Act.put, List.setIfInBounds_toArray, List.set_cons_zero, List.set_cons_succ]
            repeat (first | (refine' wpPln_take rfl (by rfl) (by assumption) ?_ ?_; rotate_left; (· (intro w hSw; (try dsimp only at hSw); go_simp; try with_reducible rfl)); try simp only [Act.put, List.setIfInBounds_toArray, List.set_cons_zero, List.set_cons_succ]) | (refine' wpPln_free rfl (by rfl) ?_ ?_; rotate_left; (· (intro w; go_simp; try with_reducible rfl)); try simp only [Act.put, List.setIfInBounds_toArray, List.set_cons_zero, List.set_cons_succ]))
            refine wpPln_one rfl (fun KT hKT => ?_)
            refine step_app (by rfl) _ _ _ (by rfl) w4.heap.size 3 ti _ 1 8 Try.underlying51 hi0 hz0 hz1 hz2 rfl (by omega) a2 n c2 (ats P4) (by rfl) O2.out (some ⟨v2.heap.size, 0, none⟩) 1 1 [.int .i64 (now + t)] (by rfl) B2.out (by intro u hu; simp only [List.mem_singleton] at hu; subst hu; rfl) (by unfold maxLen; omega) (by omega) E5.size ?_
            intro b2 d2 v6 h9
            have E6 : Below w4.heap.size w4 v6 := h9.below O2.out E5 (Nat.le_refl _) E5.size
            have Z6 : v5.heap.size ≤ v6.heap.size := h9.only.size
            have R1 := Lib.hid (own_only R1.out h9.only (fun g hg hm => by
              have h7 := U1.out g (by rw [own_block_eq] at hg; exact hg)
              have h8 := T2.out g (Option.mem_toList.1 hm)
              omega))
            have R2 := Lib.hid h9.own
            clear h9
            refine hKT.out _ _ (KS _ E6) (fun _ => ?_); clear hKT KT; try simp only [Act.put, List.setIfInBounds_toArray, List.set_cons_zero, List.set_cons_succ]
            repeat (first | (refine' wpPln_take rfl (by rfl) (by assumption) ?_ ?_; rotate_left; (· (intro w hSw; (try dsimp only at hSw); go_simp; try with_reducible rfl)); try simp only [Act.put, List.setIfInBounds_toArray, List.set_cons_zero, List.set_cons_succ]) | (refine' wpPln_free rfl (by rfl) ?_ ?_; rotate_left; (· (intro w; go_simp; try with_reducible rfl)); try simp only [Act.put, List.setIfInBounds_toArray, List.set_cons_zero, List.set_cons_succ]))
            repeat (first | (refine' wpPln_take rfl (by rfl) (by assumption) ?_ ?_; rotate_left; (· (intro w hSw; (try dsimp only at hSw); go_simp; try with_reducible rfl)); try simp only [Act.put, List.setIfInBounds_toArray, List.set_cons_zero, List.set_cons_succ]) | (refine' wpPln_free rfl (by rfl) ?_ ?_; rotate_left; (· (intro w; go_simp; try with_reducible rfl)); try simp only [Act.put, List.setIfInBounds_toArray, List.set_cons_zero, List.set_cons_succ]))
            have k9 := KP.out.below E6 KPL.out
            have f9 := k9.frozen 1
            have d9 := k9.cell 1
            refine wpPln_late (by decide) rfl (fun KT hKT => ?_)
            go_simp
            refine hKT.out _ _ ?_; clear hKT KT; try simp only [Act.put, List.setIfInBounds_toArray, List.set_cons_zero, List.set_cons_succ]
            obtain ⟨vA, hvA⟩ : ∃ v, v = v6.setCell ⟨gp, 1, none⟩ (.slice b1 (n + 1) d1) := ⟨_, rfl⟩
            rw [← hvA]
            have kA : Blk vA gp 70 #[.int .i64 now, .slice b1 (n + 1) d1, .slice aQ n cQ] := by rw [hvA]; exact k9.set_ 1 _
            have RA1 := Lib.hid (show vA.ownsRow w4.heap.size 3 1 (.slice b1 (n + 1) d1) (n + 1) _ by rw [hvA]; exact ownsRow_setCell_other R1.out (own_blk_ne R1.out k9 (by decide)) _)
            have RA2 := Lib.hid (show vA.ownsRow w4.heap.size 3 1 (.slice b2 (n + 1) d2) (n + 1) _ by rw [hvA]; exact ownsRow_setCell_other R2.out (own_blk_ne R2.out k9 (by decide)) _)
            have OA := Lib.hid (show Only [gp] w4 vA by rw [hvA]; exact (Only.of_below (S := [gp]) E6).setCell (.inl (by simp)) _)
            have fA := kA.frozen 2
            have dA := kA.cell 2
            clear hvA f9 k9 d9
            repeat (first | (refine' wpPln_take rfl (by rfl) (by assumption) ?_ ?_; rotate_left; (· (intro w hSw; (try dsimp only at hSw); go_simp; try with_reducible rfl)); try simp only [Act.put, List.setIfInBounds_toArray, List.set_cons_zero, List.set_cons_succ]) | (refine' wpPln_free rfl (by rfl) ?_ ?_; rotate_left; (· (intro w; go_simp; try with_reducible rfl)); try simp only [Act.put, List.setIfInBounds_toArray, List.set_cons_zero, List.set_cons_succ]))
            refine wpPln_late (by decide) rfl (fun KT hKT => ?_)
            go_simp
            refine hKT.out _ _ ?_; clear hKT KT; try simp only [Act.put, List.setIfInBounds_toArray, List.set_cons_zero, List.set_cons_succ]
            obtain ⟨vB, hvB⟩ : ∃ v, v = vA.setCell ⟨gp, 2, none⟩ (.slice b2 (n + 1) d2) := ⟨_, rfl⟩
            rw [← hvB]
            have FB := Lib.hid (put_fin B gp now id (now + t) P4 w4 vA vB n N4.out b1 d1 b2 d2 aQ cQ n KP.out BW4 GE4.out kA RA1.out RA2.out OA.out hvB)
            clear hvB fA kA dA
            refine wpPln_done ?_
            go_wp2_with fail
            go_meet
            exact ⟨rfl, L2, P4, L3.out, M3.out, FB.out.1, C4.out.only FB.out.2 PP4.out.typ, FB.out.2.below B4.out BW4 (by simp; exact GE4.out)⟩
        · skip
          refine wpPln_one rfl (fun KT hKT => ?_)
          go_simp
          refine hKT.out _ _ (KS _ (E1.alloc E1.size _)) (fun _ => ?_); clear hKT KT; try simp only [Act.put, List.setIfInBounds_toArray, List.set_cons_zero, List.set_cons_succ]
          obtain ⟨v2, hv9⟩ : ∃ v, v = (v1).alloc (.cells #[.int .i64 (now + t)] 3) := ⟨_, rfl⟩
          rw [← hv9]
          have hb9 : Below (v1.heap.size) (v1) v2 := by rw [hv9]; exact (Below.refl _ _).alloc (Nat.le_refl _) _
          have E2 : Below w4.heap.size w4 v2 := E1.trans (hb9.mono E1.size)
          have Z2 : v1.heap.size + 1 ≤ v2.heap.size := by rw [hv9]; simp
          have B1 := Lib.hid (B1.out.below hb9)
          have B2 : Hid (VRow v2 (some ⟨v1.heap.size, 0, none⟩) 1 1 [.int .i64 (now + t)]) := Lib.hid (by rw [hv9]; exact own_one _ _ _)
          have SK := KS _ E2
          clear hv9 hb9
          repeat (first | (refine' wpPln_take rfl (by rfl) (by assumption) ?_ ?_; rotate_left; (· (intro w hSw; (try dsimp only at hSw); go_simp; try with_reducible rfl)); try simp only [Act.put, List.setIfInBounds_toArray, List.set_cons_zero, List.set_cons_succ]) | (refine' wpPln_free rfl (by rfl) ?_ ?_; rotate_left; (· (intro w; go_simp; try with_reducible rfl)); try simp only [Act.put, List.setIfInBounds_toArray, List.set_cons_zero, List.set_cons_succ]))
          refine wpPln_one rfl (fun KT hKT => ?_)
          go_simp
          refine (copy_i aP n cP (ids P4) _ (VP.out.below E2) (ids_one P4) (by omega)).mono ?_
          rintro e v3 ⟨a1, c1, rfl, h9, hb9⟩
          have E3 : Below w4.heap.size w4 v3 := E2.trans (hb9.mono E2.size)
          have Z3 : v2.heap.size ≤ v3.heap.size := hb9.size
          have T1 : Hid (∀ g, a1.map (·.block) = some g → v2.heap.size ≤ g ∧ g < v3.heap.size) := Lib.hid fun g hg => World.ownsRow.lt h9 g (by rw [own_block_eq]; exact hg)
          have B1 := Lib.hid (B1.out.below hb9)
          have B2 := Lib.hid (B2.out.below hb9)
          have O1 := Lib.hid (own_base_le h9 E2.size)
          clear h9 hb9
          refine hKT.out _ _ (KS _ E3) (fun _ => ?_); clear hKT KT; try simp only [Act.put, List.setIfInBounds_toArray, List.set_cons_zero, List.set_cons_succ]
          repeat (first | (refine' wpPln_take rfl (by rfl) (by assumption) ?_ ?_; rotate_left; (· (intro w hSw; (try dsimp only at hSw); go_simp; try with_reducible rfl)); try simp only [Act.put, List.setIfInBounds_toArray, List.set_cons_zero, List.set_cons_succ]) | (refine' wpPln_free rfl (by rfl) ?_ ?_; rotate_left; (· (intro w; go_simp; try with_reducible rfl)); try simp only [Act.put, List.setIfInBounds_toArray, List.set_cons_zero, List.set_cons_succ]))
          refine wpPln_one rfl (fun KT hKT => ?_)
          refine step_app (by rfl) _ _ _ (by rfl) w4.heap.size 3 ti _ 1 8 Try.underlying51 hi0 hz0 hz1 hz2 rfl (by omega) a1 n c1 (ids P4) (by rfl) O1.out (some ⟨v0.heap.size, 0, none⟩) 1 1 [.int .i64 id] (by rfl) B1.out (by intro u hu; simp only [List.mem_singleton] at hu; subst hu; rfl) (by unfold maxLen; omega) (by omega) E3.size ?_
          intro b1 d1 v4 h9
          have E4 : Below w4.heap.size w4 v4 := h9.below O1.out E3 (Nat.le_refl _) E3.size
          have Z4 : v3.heap.size ≤ v4.heap.size := h9.only.size
          have B2 := Lib.hid (B2.out.only h9.only (fun b hb hm => by
            have e : v1.heap.size = b := by simpa using hb
            have h8 := T1.out b (Option.mem_toList.1 hm)
            omega))
          have R1 := Lib.hid h9.own
          have U1 : Hid (∀ g, b1.map (·.block) = some g → g < v4.heap.size) := Lib.hid fun g hg => (World.ownsRow.lt h9.own g (by rw [own_block_eq]; exact hg)).2
          clear h9
          refine hKT.out _ _ (KS _ E4) (fun _ => ?_); clear hKT KT; try simp only [Act.put, List.setIfInBounds_toArray, List.set_cons_zero, List.set_cons_succ]
          repeat (first | (refine' wpPln_take rfl (by rfl) (by assumption) ?_ ?_; rotate_left; (· (intro w hSw; (try dsimp only at hSw); go_simp; try with_reducible rfl)); try simp only [Act.put, List.setIfInBounds_toArray, List.set_cons_zero, List.set_cons_succ]) | (refine' wpPln_free rfl (by rfl) ?_ ?_; rotate_left; (· (intro w; go_simp; try with_reducible rfl)); try simp only [Act.put, List.setIfInBounds_toArray, List.set_cons_zero, List.set_cons_succ]))
          refine wpPln_one rfl (fun KT hKT => ?_)
          go_simp
          refine (copy_i aQ n cQ (ats P4) _ (VQ.out.below E4) (ats_one P4) (by omega)).mono ?_
          rintro e v5 ⟨a2, c2, rfl, h9, hb9⟩
          have E5 : Below w4.heap.size w4 v5 := E4.trans (hb9.mono E4.size)
          have Z5 : v4.heap.size ≤ v5.heap.size := hb9.size
          have T2 : Hid (∀ g, a2.map (·.block) = some g → v4.heap.size ≤ g ∧ g < v5.heap.size) := Lib.hid fun g hg => World.ownsRow.lt h9 g (by rw [own_block_eq]; exact hg)
          have R1 := Lib.hid (own_below R1.out hb9)
          have B2 := Lib.hid (B2.out.below hb9)
          have O2 := Lib.hid (own_base_le h9 E4.size)
          clear h9 hb9
          refine hKT.out _ _ (KS _ E5) (fun _ => ?_); clear hKT KT; try simp only [Act.put, List.setIfInBounds_toArray, List.set_cons_zero, List.set_cons_succ]
          repeat (first | (refine' wpPln_take rfl (by rfl) (by assumption) ?_ ?_; rotate_left; (· (intro w hSw; (try dsimp only at hSw); go_simp; try with_reducible rfl)); try simp only [Act.put, List.setIfInBounds_toArray, List.set_cons_zero, List.set_cons_succ]) | (refine' wpPln_free rfl (by rfl) ?_ ?_; rotate_left; (· (intro w; go_simp; try with_reducible rfl)); try simp only [Act.put, List.setIfInBounds_toArray, List.set_cons_zero, List.set_cons_succ]))
          refine wpPln_one rfl (fun KT hKT => ?_)
          refine step_app (by rfl) _ _ _ (by rfl) w4.heap.size 3 ti _ 1 8 Try.underlying51 hi0 hz0 hz1 hz2 rfl (by omega) a2 n c2 (ats P4) (by rfl) O2.out (some ⟨v1.heap.size, 0, none⟩) 1 1 [.int .i64 (now + t)] (by rfl) B2.out (by intro u hu; simp only [List.mem_singleton] at hu; subst hu; rfl) (by unfold maxLen; omega) (by omega) E5.size ?_
          intro b2 d2 v6 h9
          have E6 : Below w4.heap.size w4 v6 := h9.below O2.out E5 (Nat.le_refl _) E5.size
          have Z6 : v5.heap.size ≤ v6.heap.size := h9.only.size
          have R1 := Lib.hid (own_only R1.out h9.only (fun g hg hm => by
            have h7 := U1.out g (by rw [own_block_eq] at hg; exact hg)
            have h8 := T2.out g (Option.mem_toList.1 hm)
            omega))
          have R2 := Lib.hid h9.own
          clear h9
          refine hKT.out _ _ (KS _ E6) (fun _ => ?_); clear hKT KT; try simp only [Act.put, List.setIfInBounds_toArray, List.set_cons_zero, List.set_cons_succ]
          repeat (first | (refine' wpPln_take rfl (by rfl) (by assumption) ?_ ?_; rotate_left; (· (intro w hSw; (try dsimp only at hSw); go_simp; try with_reducible rfl)); try simp only [Act.put, List.setIfInBounds_toArray, List.set_cons_zero, List.set_cons_succ]) | (refine' wpPln_free rfl (by rfl) ?_ ?_; rotate_left; (· (intro w; go_simp; try with_reducible rfl)); try simp only [Act.put, List.setIfInBounds_toArray, List.set_cons_zero, List.set_cons_succ]))
          repeat (first | (refine' wpPln_take rfl (by rfl) (by assumption) ?_ ?_; rotate_left; (· (intro w hSw; (try dsimp only at hSw); go_simp; try with_reducible rfl)); try simp only [Act.put, List.setIfInBounds_toArray, List.set_cons_zero, List.set_cons_succ]) | (refine' wpPln_free rfl (by rfl) ?_ ?_; rotate_left; (· (intro w; go_simp; try with_reducible rfl)); try simp only [Act.put, List.setIfInBounds_toArray, List.set_cons_zero, List.set_cons_succ]))
          have k9 := KP.out.below E6 KPL.out
          have f9 := k9.frozen 1
          have d9 := k9.cell 1
          refine wpPln_late (by decide) rfl (fun KT hKT => ?_)
          go_simp
          refine hKT.out _ _ ?_; clear hKT KT; try simp only [Act.put, List.setIfInBounds_toArray, List.set_cons_zero, List.set_cons_succ]
          obtain ⟨vA, hvA⟩ : ∃ v, v = v6.setCell ⟨gp, 1, none⟩ (.slice b1 (n + 1) d1) := ⟨_, rfl⟩
          rw [← hvA]
          have kA : Blk vA gp 70 #[.int .i64 now, .slice b1 (n + 1) d1, .slice aQ n cQ] := by rw [hvA]; exact k9.set_ 1 _
          have RA1 := Lib.hid (show vA.ownsRow w4.heap.size 3 1 (.slice b1 (n + 1) d1) (n + 1) _ by rw [hvA]; exact ownsRow_setCell_other R1.out (own_blk_ne R1.out k9 (by decide)) _)
          have RA2 := Lib.hid (show vA.ownsRow w4.heap.size 3 1 (.slice b2 (n + 1) d2) (n + 1) _ by rw [hvA]; exact ownsRow_setCell_other R2.out (own_blk_ne R2.out k9 (by decide)) _)
          have OA := Lib.hid (show Only [gp] w4 vA by rw [hvA]; exact (Only.of_below (S := [gp]) E6).setCell (.inl (by simp)) _)
          have fA := kA.frozen 2
          have dA := kA.cell 2
          clear hvA f9 k9 d9
          repeat (first | (refine' wpPln_take rfl (by rfl) (by assumption) ?_ ?_; rotate_left; (· (intro w hSw; (try dsimp only at hSw); go_simp; try with_reducible rfl)); try simp only [Act.put, List.setIfInBounds_toArray, List.set_cons_zero, List.set_cons_succ]) | (refine' wpPln_free rfl (by rfl) ?_ ?_; rotate_left; (· (intro w; go_simp; try with_reducible rfl)); try simp only [Act.put, List.setIfInBounds_toArray, List.set_cons_zero, List.set_cons_succ]))
          refine wpPln_late (by decide) rfl (fun KT hKT => ?_)
          go_simp
          refine hKT.out _ _ ?_; clear hKT KT; try simp only [Act.put, List.setIfInBounds_toArray, List.set_cons_zero, List.set_cons_succ]
          obtain ⟨vB, hvB⟩ : ∃ v, v = vA.setCell ⟨gp, 2, none⟩ (.slice b2 (n + 1) d2) := ⟨_, rfl⟩
          rw [← hvB]
          have FB := Lib.hid (put_fin B gp now id (now + t) P4 w4 vA vB n N4.out b1 d1 b2 d2 aQ cQ n KP.out BW4 GE4.out kA RA1.out RA2.out OA.out hvB)
          clear hvB fA kA dA
          refine wpPln_done ?_
          go_wp2_with fail
          go_meet
          exact ⟨rfl, L2, P4, L3.out, M3.out, FB.out.1, C4.out.only FB.out.2 PP4.out.typ, FB.out.2.below B4.out BW4 (by simp; exact GE4.out)⟩
      · skip
        refine wpPln_one rfl (fun KT hKT => ?_)
        go_simp
        refine hKT.out _ _ (KS _ (E0.alloc E0.size _)) (fun _ => ?_); clear hKT KT; try simp only [Act.put, List.setIfInBounds_toArray, List.set_cons_zero, List.set_cons_succ]
        obtain ⟨v1, hv9⟩ : ∃ v, v = (v0).alloc (.cells #[.int .i64 (now + t)] 3) := ⟨_, rfl⟩
        rw [← hv9]
        have hb9 : Below (v0.heap.size) (v0) v1 := by rw [hv9]; exact (Below.refl _ _).alloc (Nat.le_refl _) _
        have E1 : Below w4.heap.size w4 v1 := E0.trans (hb9.mono E0.size)
        have Z1 : v0.heap.size + 1 ≤ v1.heap.size := by rw [hv9]; simp
        have B2 : Hid (VRow v1 (some ⟨v0.heap.size, 0, none⟩) 1 1 [.int .i64 (now + t)]) := Lib.hid (by rw [hv9]; exact own_one _ _ _)
        have SK := KS _ E1
        clear hv9 hb9
        repeat (first | (refine' wpPln_take rfl (by rfl) (by assumption) ?_ ?_; rotate_left; (· (intro w hSw; (try dsimp only at hSw); go_simp; try with_reducible rfl)); try simp only [Act.put, List.setIfInBounds_toArray, List.set_cons_zero, List.set_cons_succ]) | (refine' wpPln_free rfl (by rfl) ?_ ?_; rotate_left; (· (intro w; go_simp; try with_reducible rfl)); try simp only [Act.put, List.setIfInBounds_toArray, List.set_cons_zero, List.set_cons_succ]))
        refine wpPln_two ?_ ?_
        · skip
          refine wpPln_one rfl (fun KT hKT => ?_)
          go_simp
          refine (copy_i aP n cP (ids P4) _ (VP.out.below E1) (ids_one P4) (by omega)).mono ?_
          rintro e v2 ⟨a1, c1, rfl, h9, hb9⟩
          have E2 : Below w4.heap.size w4 v2 := E1.trans (hb9.mono E1.size)
          have Z2 : v1.heap.size ≤ v2.heap.size := hb9.size
          have T1 : Hid (∀ g, a1.map (·.block) = some g → v1.heap.size ≤ g ∧ g < v2.heap.size) := Lib.hid fun g hg => World.ownsRow.lt h9 g (by rw [own_block_eq]; exact hg)
          have B2 := Lib.hid (B2.out.below hb9)
          have O1 := Lib.hid (own_base_le h9 E1.size)
          clear h9 hb9
          refine hKT.out _ _ (KS _ E2) (fun _ => ?_); clear hKT KT; try simp only [Act.put, List.setIfInBounds_toArray, List.set_cons_zero, List.set_cons_succ]
          repeat (first | (refine' wpPln_take rfl (by rfl) (by assumption) ?_ ?_; rotate_left; (· (intro w hSw; (try dsimp only at hSw); go_simp; try with_reducible rfl)); try simp only [Act.put, List.setIfInBounds_toArray, List.set_cons_zero, List.set_cons_succ]) | (refine' wpPln_free rfl (by rfl) ?_ ?_; rotate_left; (· (intro w; go_simp; try with_reducible rfl)); try simp only [Act.put, List.setIfInBounds_toArray, List.set_cons_zero, List.set_cons_succ]))
          refine wpPln_one rfl (fun KT hKT => ?_)
          go_simp
          refine hKT.out _ _ (KS _ (E2.alloc E2.size _)) (fun _ => ?_); clear hKT KT; try simp only [Act.put, List.setIfInBounds_toArray, List.set_cons_zero, List.set_cons_succ]
          obtain ⟨v3, hv9⟩ : ∃ v, v = (v2).alloc (.cells #[.int .i64 id] 3) := ⟨_, rfl⟩
          rw [← hv9]
          have hb9 : Below (v2.heap.size) (v2) v3 := by rw [hv9]; exact (Below.refl _ _).alloc (Nat.le_refl _) _
          have E3 : Below w4.heap.size w4 v3 := E2.trans (hb9.mono E2.size)
          have Z3 : v2.heap.size + 1 ≤ v3.heap.size := by rw [hv9]; simp
          have O1 := Lib.hid (own_below O1.out hb9)
          have B2 := Lib.hid (B2.out.below hb9)
          have B1 : Hid (VRow v3 (some ⟨v2.heap.size, 0, none⟩) 1 1 [.int .i64 id]) := Lib.hid (by rw [hv9]; exact own_one _ _ _)
          have SK := KS _ E3
          clear hv9 hb9
          repeat (first | (refine' wpPln_take rfl (by rfl) (by assumption) ?_ ?_; rotate_left; (· (intro w hSw; (try dsimp only at hSw); go_simp; try with_reducible rfl)); try simp only [Act.put, List.setIfInBounds_toArray, List.set_cons_zero, List.set_cons_succ]) | (refine' wpPln_free rfl (by rfl) ?_ ?_; rotate_left; (· (intro w; go_simp; try with_reducible rfl)); try simp only [Act.put, List.setIfInBounds_toArray, List.set_cons_zero, List.set_cons_succ]))
          refine wpPln_one rfl (fun KT hKT => ?_)
          refine step_app (by rfl) _ _ _ (by rfl) w4.heap.size 3 ti _ 1 8 Try.underlying51 hi0 hz0 hz1 hz2 rfl (by omega) a1 n c1 (ids P4) (by rfl) O1.out (some ⟨v2.heap.size, 0, none⟩) 1 1 [.int .i64 id] (by rfl) B1.out (by intro u hu; simp only [List.mem_singleton] at hu; subst hu; rfl) (by unfold maxLen; omega) (by omega) E3.size ?_
          intro b1 d1 v4 h9
          have E4 : Below w4.heap.size w4 v4 := h9.below O1.out E3 (Nat.le_refl _) E3.size
          have Z4 : v3.heap.size ≤ v4.heap.size := h9.only.size
          have B2 := Lib.hid (B2.out.only h9.only (fun b hb hm => by
            have e : v0.heap.size = b := by simpa using hb
            have h8 := T1.out b (Option.mem_toList.1 hm)
            omega))
          have R1 := Lib.hid h9.own
          have U1 : Hid (∀ g, b1.map (·.block) = some g → g < v4.heap.size) := Lib.hid fun g hg => (World.ownsRow.lt h9.own g (by rw [own_block_eq]; exact hg)).2
          clear h9
          refine hKT.out _ _ (KS _ E4) (fun _ => ?_); clear hKT KT; try simp only [Act.put, List.setIfInBounds_toArray, List.set_cons_zero, List.set_cons_succ]
          repeat (first | (refine' wpPln_take rfl (by rfl) (by assumption) ?_ ?_; rotate_left; (· (intro w hSw; (try dsimp only at hSw); go_simp; try with_reducible rfl)); try simp only [Act.put, List.setIfInBounds_toArray, List.set_cons_zero, List.set_cons_succ]) | (refine' wpPln_free rfl (by rfl) ?_ ?_; rotate_left; (· (intro w; go_simp; try with_reducible rfl)); try simp only [Act.put, List.setIfInBounds_toArray, List.set_cons_zero, List.set_cons_succ]))
          refine wpPln_one rfl (fun KT hKT => ?_)
          go_simp
          refine (copy_i aQ n cQ (ats P4) _ (VQ.out.below E4) (ats_one P4) (by omega)).mono ?_
          rintro e v5 ⟨a2, c2, rfl, h9, hb9⟩
          have E5 : Below w4.heap.size w4 v5 := E4.trans (hb9.mono E4.size)
          have Z5 : v4.heap.size ≤ v5.heap.size := hb9.size
          have T2 : Hid (∀ g, a2.map (·.block) = some g → v4.heap.size ≤ g ∧ g < v5.heap.size) := Lib.hid fun g hg => World.ownsRow.lt h9 g (by rw [own_block_eq]; exact hg)
          have R1 := Lib.hid (own_below R1.out hb9)
          have B2 := Lib.hid (B2.out.below hb9)
          have O2 := Lib.hid (own_base_le h9 E4.size)
          clear h9 hb9
          refine hKT.out _ _ (KS _ E5) (fun _ => ?_); clear hKT KT; try simp only [Act.put, List.setIfInBounds_toArray, List.set_cons_zero, List.set_cons_succ]
          repeat (first | (refine' wpPln_take rfl (by rfl) (by assumption) ?_ ?_; rotate_left; (· (intro w hSw; (try dsimp only at hSw); go_simp; try with_reducible rfl)); try simp only [Act.put, List.setIfInBounds_toArray, List.set_cons_zero, List.set_cons_succ]) | (refine' wpPln_free rfl (by rfl) ?_ ?_; rotate_left; (· (intro w; go_simp; try with_reducible rfl)); try simp only [Act.put, List.setIfInBounds_toArray, List.set_cons_zero, List.set_cons_succ]))
          refine wpPln_one rfl (fun KT hKT => ?_)
          refine step_app (by rfl) _ _ _ (by rfl) w4.heap.size 3 ti _ 1 8 Try.underlying51 hi0 hz0 hz1 hz2 rfl (by omega) a2 n c2 (ats P4) (by rfl) O2.out (some ⟨v0.heap.size, 0, none⟩) 1 1 [.int .i64 (now + t)] (by rfl) B2.out (by intro u hu; simp only [List.mem_singleton] at hu; subst hu; rfl) (by unfold maxLen; omega) (by omega) E5.size ?_
          intro b2 d2 v6 h9
          have E6 : Below w4.heap.size w4 v6 := h9.below O2.out E5 (Nat.le_refl _) E5.size
          have Z6 : v5.heap.size ≤ v6.heap.size := h9.only.size
          have R1 := Lib.hid (own_only R1.out h9.only (fun g hg hm => by
            have h7 := U1.out g (by rw [own_block_eq] at hg; exact hg)
            have h8 := T2.out g (Option.mem_toList.1 hm)
            omega))
          have R2 := Lib.hid h9.own
          clear h9
          refine hKT.out _ _ (KS _ E6) (fun _ => ?_); clear hKT KT; try simp only [Act.put, List.setIfInBounds_toArray, List.set_cons_zero, List.set_cons_succ]
          repeat (first | (refine' wpPln_take rfl (by rfl) (by assumption) ?_ ?_; rotate_left; (· (intro w hSw; (try dsimp only at hSw); go_simp; try with_reducible rfl)); try simp only [Act.put, List.setIfInBounds_toArray, List.set_cons_zero, List.set_cons_succ]) | (refine' wpPln_free rfl (by rfl) ?_ ?_; rotate_left; (· (intro w; go_simp; try with_reducible rfl)); try simp only [Act.put, List.setIfInBounds_toArray, List.set_cons_zero, List.set_cons_succ]))
          repeat (first | (refine' wpPln_take rfl (by rfl) (by assumption) ?_ ?_; rotate_left; (· (intro w hSw; (try dsimp only at hSw); go_simp; try with_reducible rfl)); try simp only [Act.put, List.setIfInBounds_toArray, List.set_cons_zero, List.set_cons_succ]) | (refine' wpPln_free rfl (by rfl) ?_ ?_; rotate_left; (· (intro w; go_simp; try with_reducible rfl)); try simp only [Act.put, List.setIfInBounds_toArray, List.set_cons_zero, List.set_cons_succ]))
          have k9 := KP.out.below E6 KPL.out
          have f9 := k9.frozen 1
          have d9 := k9.cell 1
          refine wpPln_late (by decide) rfl (fun KT hKT => ?_)
          go_simp
          refine hKT.out _ _ ?_; clear hKT KT; try simp only [Act.put, List.setIfInBounds_toArray, List.set_cons_zero, List.set_cons_succ]
          obtain ⟨vA, hvA⟩ : ∃ v, v = v6.setCell ⟨gp, 1, none⟩ (.slice b1 (n + 1) d1) := ⟨_, rfl⟩
          rw [← hvA]
          have kA : Blk vA gp 70 #[.int .i64 now, .slice b1 (n + 1) d1, .slice aQ n cQ] := by rw [hvA]; exact k9.set_ 1 _
          have RA1 := Lib.hid (show vA.ownsRow w4.heap.size 3 1 (.slice b1 (n + 1) d1) (n + 1) _ by rw [hvA]; exact ownsRow_setCell_other R1.out (own_blk_ne R1.out k9 (by decide)) _)
          have RA2 := Lib.hid (show vA.ownsRow w4.heap.size 3 1 (.slice b2 (n + 1) d2) (n + 1) _ by rw [hvA]; exact ownsRow_setCell_other R2.out (own_blk_ne R2.out k9 (by decide)) _)
          have OA := Lib.hid (show Only [gp] w4 vA by rw [hvA]; exact (Only.of_below (S := [gp]) E6).setCell (.inl (by simp)) _)
          have fA := kA.frozen 2
          have dA := kA.cell 2
          clear hvA f9 k9 d9
          repeat (first | (refine' wpPln_take rfl (by rfl) (by assumption) ?_ ?_; rotate_left; (· (intro w hSw; (try dsimp only at hSw); go_simp; try with_reducible rfl)); try simp only [Act.put, List.setIfInBounds_toArray, List.set_cons_zero, List.set_cons_succ]) | (refine' wpPln_free rfl (by rfl) ?_ ?_; rotate_left; (· (intro w; go_simp; try with_reducible rfl)); try simp only [Act.put, List.setIfInBounds_toArray, List.set_cons_zero, List.set_cons_succ]))
          refine wpPln_late (by decide) rfl (fun KT hKT => ?_)
          go_simp
          refine hKT.out _ _ ?_; clear hKT KT; try simp only [Act.put, List.setIfInBounds_toArray, List.set_cons_zero, List.set_cons_succ]
          obtain ⟨vB, hvB⟩ : ∃ v, v = vA.setCell ⟨gp, 2, none⟩ (.slice b2 (n + 1) d2) := ⟨_, rfl⟩
          rw [← hvB]
          have FB := Lib.hid (put_fin B gp now id (now + t) P4 w4 vA vB n N4.out b1 d1 b2 d2 aQ cQ n KP.out BW4 GE4.out kA RA1.out RA2.out OA.out hvB)
          clear hvB fA kA dA
          refine wpPln_done ?_
          go_wp2_with fail
          go_meet
          exact ⟨rfl, L2, P4, L3.out, M3.out, FB.out.1, C4.out.only FB.out.2 PP4.out.typ, FB.out.2.below B4.out BW4 (by simp; exact GE4.out)⟩
        · skip
          refine wpPln_one rfl (fun KT hKT => ?_)
          go_simp
          refine hKT.out _ _ (KS _ (E1.alloc E1.size _)) (fun _ => ?_); clear hKT KT; try simp only [Act.put, List.setIfInBounds_toArray, List.set_cons_zero, List.set_cons_succ]
          obtain ⟨v2, hv9⟩ : ∃ v, v = (v1).alloc (.cells #[.int .i64 id] 3) := ⟨_, rfl⟩
          rw [← hv9]
          have hb9 : Below (v1.heap.size) (v1) v2 := by rw [hv9]; exact (Below.refl _ _).alloc (Nat.le_refl _) _
          have E2 : Below w4.heap.size w4 v2 := E1.trans (hb9.mono E1.size)
          have Z2 : v1.heap.size + 1 ≤ v2.heap.size := by rw [hv9]; simp
          have B2 := Lib.hid (B2.out.below hb9)
          have B1 : Hid (VRow v2 (some ⟨v1.heap.size, 0, none⟩) 1 1 [.int .i64 id]) := Lib.hid (by rw [hv9]; exact own_one _ _ _)
          have SK := KS _ E2
          clear hv9 hb9
          repeat (first | (refine' wpPln_take rfl (by rfl) (by assumption) ?_ ?_; rotate_left; (· (intro w hSw; (try dsimp only at hSw); go_simp; try with_reducible rfl)); try simp only [Act.put, List.setIfInBounds_toArray, List.set_cons_zero, List.set_cons_succ]) | (refine' wpPln_free rfl (by rfl) ?_ ?_; rotate_left; (· (intro w; go_simp; try with_reducible rfl)); try simp only [Act.put, List.setIfInBounds_toArray, List.set_cons_zero, List.set_cons_succ]))
          refine wpPln_one rfl (fun KT hKT => ?_)
          go_simp
          refine (copy_i aP n cP (ids P4) _ (VP.out.below E2) (ids_one P4) (by omega)).mono ?_
          rintro e v3 ⟨a1, c1, rfl, h9, hb9⟩
          have E3 : Below w4.heap.size w4 v3 := E2.trans (hb9.mono E2.size)
          have Z3 : v2.heap.size ≤ v3.heap.size := hb9.size
          have T1 : Hid (∀ g, a1.map (·.block) = some g → v2.heap.size ≤ g ∧ g < v3.heap.size) := Lib.hid fun g hg => World.ownsRow.lt h9 g (by rw [own_block_eq]; exact hg)
          have B1 := Lib.hid (B1.out.below hb9)
          have B2 := Lib.hid (B2.out.below hb9)
          have O1 := Lib.hid (own_base_le h9 E2.size)
          clear h9 hb9
          refine hKT.out _ _ (KS _ E3) (fun _ => ?_); clear hKT KT; try simp only [Act.put, List.setIfInBounds_toArray, List.set_cons_zero, List.set_cons_succ]
          repeat (first | (refine' wpPln_take rfl (by rfl) (by assumption) ?_ ?_; rotate_left; (· (intro w hSw; (try dsimp only at hSw); go_simp; try with_reducible rfl)); try simp only [Act.put, List.setIfInBounds_toArray, List.set_cons_zero, List.set_cons_succ]) | (refine' wpPln_free rfl (by rfl) ?_ ?_; rotate_left; (· (intro w; go_simp; try with_reducible rfl)); try simp only [Act.put, List.setIfInBounds_toArray, List.set_cons_zero, List.set_cons_succ]))
          refine wpPln_one rfl (fun KT hKT => ?_)
          refine step_app (by rfl) _ _ _ (by rfl) w4.heap.size 3 ti _ 1 8 Try.underlying51 hi0 hz0 hz1 hz2 rfl (by omega) a1 n c1 (ids P4) (by rfl) O1.out (some ⟨v1.heap.size, 0, none⟩) 1 1 [.int .i64 id] (by rfl) B1.out (by intro u hu; simp only [List.mem_singleton] at hu; subst hu; rfl) (by unfold maxLen; omega) (by omega) E3.size ?_
          intro b1 d1 v4 h9
          have E4 : Below w4.heap.size w4 v4 := h9.below O1.out E3 (Nat.le_refl _) E3.size
          have Z4 : v3.heap.size ≤ v4.heap.size := h9.only.size
          have B2 := Lib.hid (B2.out.only h9.only (fun b hb hm => by
            have e : v0.heap.size = b := by simpa using hb
            have h8 := T1.out b (Option.mem_toList.1 hm)
            omega))
          have R1 := Lib.hid h9.own
          have U1 : Hid (∀ g, b1.map (·.block) = some g → g < v4.heap.size) := Lib.hid fun g hg => (World.ownsRow.lt h9.own g (by rw [own_block_eq]; exact hg)).2
          clear h9
          refine hKT.out _ _ (KS _ E4) (fun _ => ?_); clear hKT KT; try simp only [Act.put, List.setIfInBounds_toArray, List.set_cons_zero, List.set_cons_succ]
          repeat (first | (refine' wpPln_take rfl (by rfl) (by assumption) ?_ ?_; rotate_left; (· (intro w hSw; (try dsimp only at hSw); go_simp; try with_reducible rfl)); try simp only [Act.put, List.setIfInBounds_toArray, List.set_cons_zero, List.set_cons_succ]) | (refine' wpPln_free rfl (by rfl) ?_ ?_; rotate_left; (· (intro w; go_simp; try with_reducible rfl)); try simp only [Act.put, List.setIfInBounds_toArray, List.set_cons_zero, List.set_cons_succ]))
          refine wpPln_one rfl (fun KT hKT => ?_)
          go_simp
          refine (copy_i aQ n cQ (ats P4) _ (VQ.out.below E4) (ats_one P4) (by omega)).mono ?_
          rintro e v5 ⟨a2, c2, rfl, h9, hb9⟩
          have E5 : Below w4.heap.size w4 v5 := E4.trans (hb9.mono E4.size)
          have Z5 : v4.heap.size ≤ v5.heap.size := hb9.size
          have T2 : Hid (∀ g, a2.map (·.block) = some g → v4.heap.size ≤ g ∧ g < v5.heap.size) := Lib.hid fun g hg => World.ownsRow.lt h9 g (by rw [own_block_eq]; exact hg)
          have R1 := Lib.hid (own_below R1.out hb9)
          have B2 := Lib.hid (B2.out.below hb9)
          have O2 := Lib.hid (own_base_le h9 E4.size)
          clear h9 hb9
          refine hKT.out _ _ (KS _ E5) (fun _ => ?_); clear hKT KT; try simp only [Act.put, List.setIfInBounds_toArray, List.set_cons_zero, List.set_cons_succ]
          repeat (first | (refine' wpPln_take rfl (by rfl) (by assumption) ?_ ?_; rotate_left; (· (intro w hSw; (try dsimp only at hSw); go_simp; try with_reducible rfl)); try simp only [Act.put, List.setIfInBounds_toArray, List.set_cons_zero, List.set_cons_succ]) | (refine' wpPln_free rfl (by rfl) ?_ ?_; rotate_left; (· (intro w; go_simp; try with_reducible rfl)); try simp only [Act.put, List.setIfInBounds_toArray, List.set_cons_zero, List.set_cons_succ]))
          refine wpPln_one rfl (fun KT hKT => ?_)
          refine step_app (by rfl) _ _ _ (by rfl) w4.heap.size 3 ti _ 1 8 Try.underlying51 hi0 hz0 hz1 hz2 rfl (by omega) a2 n c2 (ats P4) (by rfl) O2.out (some ⟨v0.heap.size, 0, none⟩) 1 1 [.int .i64 (now + t)] (by rfl) B2.out (by intro u hu; simp only [List.mem_singleton] at hu; subst hu; rfl) (by unfold maxLen; omega) (by omega) E5.size ?_
          intro b2 d2 v6 h9
          have E6 : Below w4.heap.size w4 v6 := h9.below O2.out E5 (Nat.le_refl _) E5.size
          have Z6 : v5.heap.size ≤ v6.heap.size := h9.only.size
          have R1 := Lib.hid (own_only R1.out h9.only (fun g hg hm => by
            have h7 := U1.out g (by rw [own_block_eq] at hg; exact hg)
            have h8 := T2.out g (Option.mem_toList.1 hm)
            omega))
          have R2 := Lib.hid h9.own
          clear h9
          refine hKT.out _ _ (KS _ E6) (fun _ => ?_); clear hKT KT; try simp only [Act.put, List.setIfInBounds_toArray, List.set_cons_zero, List.set_cons_succ]
          repeat (first | (refine' wpPln_take rfl (by rfl) (by assumption) ?_ ?_; rotate_left; (· (intro w hSw; (try dsimp only at hSw); go_simp; try with_reducible rfl)); try simp only [Act.put, List.setIfInBounds_toArray, List.set_cons_zero, List.set_cons_succ]) | (refine' wpPln_free rfl (by rfl) ?_ ?_; rotate_left; (· (intro w; go_simp; try with_reducible rfl)); try simp only [Act.put, List.setIfInBounds_toArray, List.set_cons_zero, List.set_cons_succ]))
          repeat (first | (refine' wpPln_take rfl (by rfl) (by assumption) ?_ ?_; rotate_left; (· (intro w hSw; (try dsimp only at hSw); go_simp; try with_reducible rfl)); try simp only [Act.put, List.setIfInBounds_toArray, List.set_cons_zero, List.set_cons_succ]) | (refine' wpPln_free rfl (by rfl) ?_ ?_; rotate_left; (· (intro w; go_simp; try with_reducible rfl)); try simp only [Act.put, List.setIfInBounds_toArray, List.set_cons_zero, List.set_cons_succ]))
          have k9 := KP.out.below E6 KPL.out
          have f9 := k9.frozen 1
          have d9 := k9.cell 1
          refine wpPln_late (by decide) rfl (fun KT hKT => ?_)
          go_simp
          refine hKT.out _ _ ?_; clear hKT KT; try simp only [Act.put, List.setIfInBounds_toArray, List.set_cons_zero, List.set_cons_succ]
          obtain ⟨vA, hvA⟩ : ∃ v, v = v6.setCell ⟨gp, 1, none⟩ (.slice b1 (n + 1) d1) := ⟨_, rfl⟩
          rw [← hvA]
          have kA : Blk vA gp 70 #[.int .i64 now, .slice b1 (n + 1) d1, .slice aQ n cQ] := by rw [hvA]; exact k9.set_ 1 _
          have RA1 := Lib.hid (show vA.ownsRow w4.heap.size 3 1 (.slice b1 (n + 1) d1) (n + 1) _ by rw [hvA]; exact ownsRow_setCell_other R1.out (own_blk_ne R1.out k9 (by decide)) _)
          have RA2 := Lib.hid (show vA.ownsRow w4.heap.size 3 1 (.slice b2 (n + 1) d2) (n + 1) _ by rw [hvA]; exact ownsRow_setCell_other R2.out (own_blk_ne R2.out k9 (by decide)) _)
          have OA := Lib.hid (show Only [gp] w4 vA by rw [hvA]; exact (Only.of_below (S := [gp]) E6).setCell (.inl (by simp)) _)
          have fA := kA.frozen 2
          have dA := kA.cell 2
          clear hvA f9 k9 d9
          repeat (first | (refine' wpPln_take rfl (by rfl) (by assumption) ?_ ?_; rotate_left; (· (intro w hSw; (try dsimp only at hSw); go_simp; try with_reducible rfl)); try simp only [Act.put, List.setIfInBounds_toArray, List.set_cons_zero, List.set_cons_succ]) | (refine' wpPln_free rfl (by rfl) ?_ ?_; rotate_left; (· (intro w; go_simp; try with_reducible rfl)); try simp only [Act.put, List.setIfInBounds_toArray, List.set_cons_zero, List.set_cons_succ]))
          refine wpPln_late (by decide) rfl (fun KT hKT => ?_)
          go_simp
          refine hKT.out _ _ ?_; clear hKT KT; try simp only [Act.put, List.setIfInBounds_toArray, List.set_cons_zero, List.set_cons_succ]
          obtain ⟨vB, hvB⟩ : ∃ v, v = vA.setCell ⟨gp, 2, none⟩ (.slice b2 (n + 1) d2) := ⟨_, rfl⟩
          rw [← hvB]
          have FB := Lib.hid (put_fin B gp now id (now + t) P4 w4 vA vB n N4.out b1 d1 b2 d2 aQ cQ n KP.out BW4 GE4.out kA RA1.out RA2.out OA.out hvB)
          clear hvB fA kA dA
          refine wpPln_done ?_
          go_wp2_with fail
          go_meet
          exact ⟨rfl, L2, P4, L3.out, M3.out, FB.out.1, C4.out.only FB.out.2 PP4.out.typ, FB.out.2.below B4.out BW4 (by simp; exact GE4.out)⟩
  case rest =>
    obtain ⟨rfl, L2, P2, hL3, hM3, hP5, hC5, hB5⟩ := hcut
    have M3 := Lib.hid hM3
    have P5 := Lib.hid hP5
    have C5 := Lib.hid hC5
    have B5 := Lib.hid hB5
    clear hP5 hC5 hB5 hM3 a0 a1 a2
    obtain ⟨aT, cT, aT2, cT2, kT, _, _⟩ := P5.out.ex
    have g0 : World.cell? _ ⟨gp, 0, none⟩ = some (.int .i64 (now)) := kT.cell 0
    clear kT
    go_upto_region 38 with fail
    go_quiet ((go_at_call 34; exact Calls.quiet_of_same ((now_c B gc (now) (L2) _ (C5.out.drewN _)).mono fun _ _ e => ⟨e.1, e.2.symm⟩)))
    go_wp2_with fail
    all_goals go_ret
    all_goals exact ⟨rfl, now, L2, P2 ++ [(id, now + t)], C5.out.drewN _, P5.out.drewN _, M3.out, by omega, by omega, hL3, below_drewN B5.out _⟩

end Go.Proofs.Ytfeepofdnjnkpaa
