/- PlD6. -/
import Derived.Test.YtfhlcjfgbhmecaaZDeep
import Derived.Test.YtfhlcjfgbhmecaaZPlan
import Derived.Test.YtfhlcjfgbhmecaaZSameB
import Derived.Test.YtfhlcjfgbhmecaaZApp
import Derived.Test.YtfhlcjfgbhmecaaZBytes
import Derived.Deep.CutRange
import Derived.Deep.DeepCutAuto
import Derived.Deep.CutBlock
/- The law's act: a message looked at. -/
namespace Go.Proofs.Ytfhlcjfgbhmecaa
open Go.RowKit
set_option linter.unusedVariables false

set_option maxRecDepth 100000 in
set_option maxHeartbeats 6400000 in
theorem do_peek (w0 w : World) (gn x : Nat) (room S : Int) (Q : Nat → List (List Int)) (nk : Prop) (d A B K T : Int) (R : Byt) (hJ : J2 w0 w gn x room S S Q Q nk (fun _ => False)) (hr : 1 ≤ room ∧ room ≤ 256) (hd : I64 d) (hA : I64 A) (hB : I64 B) (hK : I64 K) (hT : I64 T) (hRi : R.Is w0) (hS : 0 ≤ S ∧ S ≤ 1000000) (h9 : d % 9 = 6) :
    Calls Try.prog 47 #[.pointer (some ⟨gn, 0, none⟩), .pointer (some ⟨x, 0, none⟩), .agg #[.int .i64 d, .int .i64 A, .int .i64 B, .int .i64 K, .int .i64 T, .slice R.a R.xs.length R.c]] w (fun e w' => e = .returned (.bool true) ∧ ∃ S' Q', S ≤ S' ∧ S' ≤ S + 1 ∧ J2 w0 w' gn x room S' S' Q' Q' nk (fun _ => False)) := by
  obtain ⟨s0, s1⟩ := hS
  have HR := Lib.hid hr
  have HA := Lib.hid hA
  have HB := Lib.hid hB
  have HK := Lib.hid hK
  have HT := Lib.hid hT
  have HRI := Lib.hid hRi
  have H9 := Lib.hid h9
  have HL := Lib.hid (link_or (prt A) (prt B) (prt_mem A) (prt_mem B))
  obtain ⟨src, hsrc⟩ : ∃ s, s = prt A := ⟨_, rfl⟩
  obtain ⟨dst, hdst⟩ : ∃ s, s = prt B := ⟨_, rfl⟩
  have SE : Hid (Sends src) := Lib.hid (by rw [hsrc]; exact sends_of (prt_mem A))
  rw [← hsrc, ← hdst] at HL
  have PA := Lib.hid hsrc
  have PB := Lib.hid hdst
  have HJ := Lib.hid hJ
  clear hr hA hB hK hT hRi h9 hsrc hdst
  go_enter Try.func47, Try.ntmps47
  go_upto_region 1 with fail
  obtain ⟨w1, hw1⟩ : ∃ w1, w1 = w.alloc (.cells #[.int .i64 d, .int .i64 A, .int .i64 B, .int .i64 K, .int .i64 T, .slice R.a R.xs.length R.c] 102) := ⟨_, rfl⟩
  obtain ⟨ga, hga⟩ : ∃ ga, ga = w.heap.size := ⟨_, rfl⟩
  rw [← hw1, ← hga]
  have hA : Blk w1 ga 102 #[.int .i64 d, .int .i64 A, .int .i64 B, .int .i64 K, .int .i64 T, .slice R.a R.xs.length R.c] := by rw [hw1, hga]; exact Blk.new _ _ _
  have hb1 : Below w.heap.size w w1 := by rw [hw1]; exact (Below.refl _ _).alloc (Nat.le_refl _) _
  have a1 := (hA.cell 1).trans (show _ = some (.int .i64 A) from rfl)
  have a2 := (hA.cell 2).trans (show _ = some (.int .i64 B) from rfl)
  have KS : ∀ w', Below w1.heap.size w1 w' → w'.cell? ⟨ga, 1, none⟩ = some (.int .i64 A) ∧ w'.cell? ⟨ga, 2, none⟩ = some (.int .i64 B) := fun w' o => ⟨kept o _ _ a1, kept o _ _ a2⟩
  have J1 := Lib.hid (hJ.keep hb1)
  have BA := Lib.hid hA
  clear hw1 hb1 hA hga hJ HJ a1 a2
  refine wp_region_plan (fun w' => w'.cell? ⟨ga, 1, none⟩ = some (.int .i64 A) ∧ w'.cell? ⟨ga, 2, none⟩ = some (.int .i64 B)) 8 (.take 0 (.take 1 (.take 3 (.take 4 (.one 2 (.one 5 (.take 6 (.take 7 .done)))))))) (by kernel_rfl) (by kernel_rfl) (by kernel_rfl) (KS _ ((Below.refl _ _).drew)) ?_
  intro hS0
  repeat (refine' wpPlan_take rfl (by rfl) (by assumption) ?_ ?_; rotate_left; (· (intro w hSw; (try dsimp only at hSw); go_simp; try with_reducible rfl)); try simp only [Act.put, List.setIfInBounds_toArray, List.set_cons_zero, List.set_cons_succ])
  refine wpPlan_one rfl (fun KT hKT => ?_)
  go_simp
  refine (party_c A HA.out _).mono ?_; rintro e w' ⟨rfl, rfl⟩
  rw [← PA.out]
  refine hKT.out _ _ (hS0) (fun _ => ?_); clear hKT KT; try simp only [Act.put, List.setIfInBounds_toArray, List.set_cons_zero, List.set_cons_succ]
  refine wpPlan_one rfl (fun KT hKT => ?_)
  go_simp
  refine (party_c B HB.out _).mono ?_; rintro e w' ⟨rfl, rfl⟩
  rw [← PB.out]
  refine hKT.out _ _ (hS0) (fun _ => ?_); clear hKT KT; try simp only [Act.put, List.setIfInBounds_toArray, List.set_cons_zero, List.set_cons_succ]
  repeat (refine' wpPlan_take rfl (by rfl) (by assumption) ?_ ?_; rotate_left; (· (intro w hSw; (try dsimp only at hSw); go_simp; try with_reducible rfl)); try simp only [Act.put, List.setIfInBounds_toArray, List.set_cons_zero, List.set_cons_succ])
  refine wpPlan_done ?_
  obtain ⟨w2, hw2⟩ : ∃ w2, w2 = w1.drew := ⟨_, rfl⟩
  rw [← hw2]
  have J2' : Hid (J2 w0 w2 gn x room S S Q Q nk (fun _ => False)) := by rw [hw2]; exact Lib.hid (J1.out.keep ((Below.refl _ _).drew))
  have A2 : Hid (Blk w2 ga 102 #[.int .i64 d, .int .i64 A, .int .i64 B, .int .i64 K, .int .i64 T, .slice R.a R.xs.length R.c]) := by rw [hw2]; exact Lib.hid (BA.out.drewN 1)
  clear hw2 KS hS0 J1 BA
  have a0 := (A2.out.cell 0).trans (show _ = some (.int .i64 d) from rfl)
  have a3 := (A2.out.cell 3).trans (show _ = some (.int .i64 K) from rfl)
  have a4 := (A2.out.cell 4).trans (show _ = some (.int .i64 T) from rfl)
  have a5 := (A2.out.cell 5).trans (show _ = some (.slice R.a R.xs.length R.c) from rfl)
  go_wp2_with fail
  refine (within_q d 9 _ hd (by omega) (by omega)).mono ?_; rintro e w' ⟨xx, rfl, hx5, _, _, rfl⟩
  obtain rfl : xx = 6 := by rw [hx5.out, H9.out]
  clear hx5 a0
  go_upto_block 0 with fail
  go_cut [9] from 11 to 199 (fun v wx => v = .bool true ∧ ∃ S' Q', S ≤ S' ∧ S' ≤ S + 1 ∧ J2 w0 wx gn x room S' S' Q' Q' nk (fun _ => False))
  case first =>
    rcases HL.out with ⟨a, b, ha, hb, hab, hl, he⟩ | ⟨hl, he⟩
    · have LL := Lib.hid hl
      have EE := Lib.hid he
      clear hl he HL
      by_cases hin : 0 ≤ K ∧ K < (Q (a * 6 + b)).length
      · skip
        obtain ⟨i, rfl⟩ := Int.eq_ofNat_of_zero_le hin.1
        have hi : i < (Q (a * 6 + b)).length := by omega
        have HI := Lib.hid hi
        obtain ⟨bs, hbs⟩ : ∃ bs, (Q (a * 6 + b))[i]? = some bs := ⟨_, List.getElem?_eq_getElem hi⟩
        have sm : bs.length ≤ 65536 := J2'.out.small _ (k_lt ha hb) _ (List.mem_of_getElem? hbs)
        have HBS := Lib.hid hbs
        clear hin hi hbs
        go_wp2_with fail
        refine (j_peek_bs J2'.out src dst _ a b LL.out i rfl bs HBS.out).mono ?_; rintro e w4 ⟨v, rfl, ht, hb4⟩
        obtain ⟨v1, c1, rfl, ho4⟩ := ht
        have J4 := Lib.hid (J2'.out.keep hb4)
        have A4 := Lib.hid (Blk.below A2.out hb4 (Blk.lt A2.out))
        have O4 := Lib.hid ho4
        clear hb4 ho4
        go_wp2_with fail
        refine (j_rlink J4.out src dst _ EE.out).mono ?_; rintro e w' ⟨rfl, rfl⟩
        obtain ⟨gq, cq, gr, o, cA, av, cv, q1, q2, q4, q5⟩ := J4.out.queue_bs a b ha hb hab i bs HBS.out
        obtain ⟨L, hL⟩ : ∃ L, L = (Q (a * 6 + b)).length := ⟨_, rfl⟩
        rw [← hL] at q2
        have iL : i < L := by rw [hL]; exact HI.out
        obtain ⟨ei, hei⟩ : ∃ e, e = eidx a b := ⟨_, rfl⟩
        have e30 : ei < 30 := by rw [hei]; exact eidx_lt a b ha hb hab
        rw [← hei] at q2 ⊢
        have V4 := Lib.hid (q5.below J4.out.below)
        clear q5 hL hei
        have a6 := (A4.out.cell 3).trans (show _ = some (.int .i64 i) from rfl)
        have z0 : (0 : Int) ≤ ei := by omega
        have z1 : (ei : Int) < 30 := by omega
        have z2 : (0 : Int) ≤ i := by omega
        have z3 : (i : Int) < L := by omega
        have d0 : decide ((0 : Int) ≤ ei) = true := decide_eq_true z0
        have d1 : decide ((ei : Int) < 30) = true := decide_eq_true z1
        have d2 : decide ((0 : Int) ≤ i) = true := decide_eq_true z2
        have d3 : decide ((i : Int) < L) = true := decide_eq_true z3
        have d4 : decide (i < L) = true := decide_eq_true iL
        go_upto_region 20 with fail
        go_quiet (fail)
        obtain ⟨w5, hw5⟩ : ∃ w5, w5 = w4.drewN nq := ⟨_, rfl⟩
        rw [← hw5]
        have b6 : w5.cell? ⟨ga, 3, none⟩ = some (.int .i64 i) := by rw [hw5]; exact a6
        have p1 : w5.cell? ⟨x, 20, none⟩ = some (.slice (some ⟨gq, 0, none⟩) 30 cq) := by rw [hw5]; exact q1
        have p2 : w5.cell? ⟨gq, ei, none⟩ = some (.slice (some ⟨gr, o, none⟩) L cA) := by rw [hw5]; exact q2
        have p4 : w5.cell? ⟨gr, o + i, none⟩ = some (.slice av bs.length cv) := by rw [hw5]; exact q4
        have B5 : Hid (Below w4.heap.size w4 w5) := by rw [hw5]; exact Lib.hid (below_drewN (Below.refl _ _) nq)
        have J5 := Lib.hid (J4.out.keep B5.out)
        clear hw5 a6 q1 q2 q4
        have KS : ∀ w', Below w5.heap.size w5 w' → w'.cell? ⟨ga, 3, none⟩ = some (.int .i64 i) ∧ w'.cell? ⟨x, 20, none⟩ = some (.slice (some ⟨gq, 0, none⟩) 30 cq) ∧ w'.cell? ⟨gq, ei, none⟩ = some (.slice (some ⟨gr, o, none⟩) L cA) ∧ w'.cell? ⟨gr, o + i, none⟩ = some (.slice av bs.length cv) := fun w' o => ⟨kept o _ _ b6, kept o _ _ p1, kept o _ _ p2, kept o _ _ p4⟩
        go_upto_region 21 with fail
        refine wp_region_plan (fun w' => w'.cell? ⟨ga, 3, none⟩ = some (.int .i64 i) ∧ w'.cell? ⟨x, 20, none⟩ = some (.slice (some ⟨gq, 0, none⟩) 30 cq) ∧ w'.cell? ⟨gq, ei, none⟩ = some (.slice (some ⟨gr, o, none⟩) L cA) ∧ w'.cell? ⟨gr, o + i, none⟩ = some (.slice av bs.length cv)) 31 (.take 0 (.take 1 (.take 2 (.take 3 (.take 4 (.take 5 (.take 6 (.take 7 (.take 8 (.take 9 (.take 10 (.take 11 (.take 12 (.take 13 (.take 14 (.take 15 (.take 16 (.take 17 (.take 18 (.take 19 (.take 20 (.take 21 (.take 22 (.take 23 (.take 24 (.take 25 (.one 26 (.take 27 (.take 28 (.take 29 (.take 30 .done))))))))))))))))))))))))))))))) (by kernel_rfl) (by kernel_rfl) (by kernel_rfl) (KS _ ((Below.refl _ _).drew)) ?_
        intro hS0
        repeat (first | (refine' wpPlan_take rfl (by rfl) (by assumption) ?_ ?_; rotate_left; (· (intro w hSw; (try dsimp only at hSw); go_simp; try with_reducible rfl)); try simp only [Act.put, List.setIfInBounds_toArray, List.set_cons_zero, List.set_cons_succ]) | (refine' wpPlan_skip rfl (by rfl) (by assumption) ?_; try simp only [Act.put, List.setIfInBounds_toArray, List.set_cons_zero, List.set_cons_succ]))
        refine wpPlan_one rfl (fun KT hKT => ?_)
        go_simp
        refine (same_byte_c v1 bs.length c1 av bs.length cv bs _ ((own_vrow O4.out).below (B5.out.drew)) (V4.out.below (B5.out.drew)) (by omega)).mono ?_; rintro e w6 ⟨rfl, hb6⟩
        have B6 := Lib.hid hb6
        refine hKT.out _ _ (KS _ (((Below.refl w5.heap.size w5).drew).trans hb6)) (fun _ => ?_); clear hKT KT; try simp only [Act.put, List.setIfInBounds_toArray, List.set_cons_zero, List.set_cons_succ]
        clear hb6
        repeat (first | (refine' wpPlan_take rfl (by rfl) (by assumption) ?_ ?_; rotate_left; (· (intro w hSw; (try dsimp only at hSw); go_simp; try with_reducible rfl)); try simp only [Act.put, List.setIfInBounds_toArray, List.set_cons_zero, List.set_cons_succ]) | (refine' wpPlan_skip rfl (by rfl) (by assumption) ?_; try simp only [Act.put, List.setIfInBounds_toArray, List.set_cons_zero, List.set_cons_succ]))
        refine wpPlan_done ?_
        go_wp2_with fail
        go_meet
        exact ⟨rfl, S, Q, by omega, by omega, (J5.out.keep ((Below.refl _ _).drew)).keep B6.out⟩
      · skip
        have HIN := Lib.hid hin
        by_cases h0 : 0 ≤ K
        · have h1 : ¬ K < (Q (a * 6 + b)).length := fun h => hin ⟨h0, h⟩
          clear hin
          go_wp2_with fail
          refine (j_peek_no J2'.out src dst K a b LL.out HK.out HIN.out).mono ?_; rintro e w' ⟨rfl, rfl⟩
          go_wp2_with fail
          refine (j_rlink J2'.out src dst _ EE.out).mono ?_; rintro e w' ⟨rfl, rfl⟩
          obtain ⟨gq, cq, AA, cA, q1, q2, -⟩ := J2'.out.queue a b ha hb hab
          obtain ⟨L, hL⟩ : ∃ L, L = (Q (a * 6 + b)).length := ⟨_, rfl⟩
          rw [← hL] at q2
          have iL : ¬ (0 ≤ K ∧ K < L) := by rw [hL]; exact HIN.out
          obtain ⟨ei, hei⟩ : ∃ e, e = eidx a b := ⟨_, rfl⟩
          have e30 : ei < 30 := by rw [hei]; exact eidx_lt a b ha hb hab
          rw [← hei] at q2 ⊢
          clear hL hei
          have z0 : (0 : Int) ≤ ei := by omega
          have z1 : (ei : Int) < 30 := by omega
          have d0 : decide ((0 : Int) ≤ ei) = true := decide_eq_true z0
          have d1 : decide ((ei : Int) < 30) = true := decide_eq_true z1
          have d2 : decide ((0 : Int) ≤ K) = true := decide_eq_true h0
          have d3 : decide (K < (L : Int)) = false := decide_eq_false (by omega)
          go_upto_region 20 with fail
          go_quiet (fail)
          go_upto_region 21 with fail
          go_quiet (fail)
          go_wp2_with fail
          go_meet
          exact ⟨rfl, S, Q, by omega, by omega, J2'.out.keep (below_drewN (below_drewN (Below.refl _ _) _) _)⟩
        · clear hin
          go_wp2_with fail
          refine (j_peek_no J2'.out src dst K a b LL.out HK.out HIN.out).mono ?_; rintro e w' ⟨rfl, rfl⟩
          go_wp2_with fail
          refine (j_rlink J2'.out src dst _ EE.out).mono ?_; rintro e w' ⟨rfl, rfl⟩
          obtain ⟨gq, cq, AA, cA, q1, q2, -⟩ := J2'.out.queue a b ha hb hab
          obtain ⟨L, hL⟩ : ∃ L, L = (Q (a * 6 + b)).length := ⟨_, rfl⟩
          rw [← hL] at q2
          have iL : ¬ (0 ≤ K ∧ K < L) := by rw [hL]; exact HIN.out
          obtain ⟨ei, hei⟩ : ∃ e, e = eidx a b := ⟨_, rfl⟩
          have e30 : ei < 30 := by rw [hei]; exact eidx_lt a b ha hb hab
          rw [← hei] at q2 ⊢
          clear hL hei
          have z0 : (0 : Int) ≤ ei := by omega
          have z1 : (ei : Int) < 30 := by omega
          have d0 : decide ((0 : Int) ≤ ei) = true := decide_eq_true z0
          have d1 : decide ((ei : Int) < 30) = true := decide_eq_true z1
          have d2 : decide ((0 : Int) ≤ K) = false := decide_eq_false (by omega)
          go_upto_region 20 with fail
          go_quiet (fail)
          go_upto_region 21 with fail
          go_quiet (fail)
          go_wp2_with fail
          go_meet
          exact ⟨rfl, S, Q, by omega, by omega, J2'.out.keep (below_drewN (below_drewN (Below.refl _ _) _) _)⟩
    · have LL := Lib.hid hl
      have EE := Lib.hid he
      clear hl he HL
      go_wp2_with fail
      refine (j_peek_none J2'.out src dst K LL.out).mono ?_; rintro e w' ⟨rfl, rfl⟩
      go_wp2_with fail
      refine (j_rlink J2'.out src dst _ EE.out).mono ?_; rintro e w' ⟨rfl, rfl⟩
      go_upto_region 20 with fail
      go_quiet (fail)
      go_upto_region 21 with fail
      go_quiet (fail)
      go_wp2_with fail
      go_meet
      exact ⟨rfl, S, Q, by omega, by omega, J2'.out.keep (below_drewN (below_drewN (Below.refl _ _) _) _)⟩
  case rest =>
    obtain ⟨rfl, S', Q', t0, t1, hJ3⟩ := hcut
    have J3 := Lib.hid hJ3
    have c21 := hJ3.rlost
    have KS : ∀ w', Below wc.heap.size wc w' → w'.cell? ⟨x, 21, none⟩ = some (.int .i64 S') := fun w' o => kept o _ _ c21
    have J3' := Lib.hid (hJ3.keep ((Below.refl _ _).drew))
    clear hJ3 a3 a4 a5 A2 J2'
    rcases HL.out with ⟨a, b, ha, hb, hab, hl, he⟩ | ⟨hl, he⟩
    · have LL := Lib.hid hl
      have EE := Lib.hid he
      obtain ⟨l, hm⟩ : ∃ l, (Q' (a * 6 + b)).length = l := ⟨_, rfl⟩
      have HM := Lib.hid hm
      clear hl he hm HL
      go_upto_region 24 with fail
      refine wp_region_plan (fun w' => w'.cell? ⟨x, 21, none⟩ = some (.int .i64 S')) 22 (.take 0 (.take 1 (.take 2 (.take 3 (.take 4 (.take 6 (.take 7 (.take 8 (.one 5 (.one 9 (.take 10 (.take 11 (.take 12 (.take 13 (.take 15 (.take 16 (.take 17 (.take 18 (.one 14 (.take 19 (.take 20 (.take 21 .done)))))))))))))))))))))) (by kernel_rfl) (by kernel_rfl) (by kernel_rfl) (KS _ ((Below.refl _ _).drew)) ?_
      intro hS0
      repeat (refine' wpPlan_take rfl (by rfl) (by assumption) ?_ ?_; rotate_left; (· (intro w hSw; (try dsimp only at hSw); go_simp; try with_reducible rfl)); try simp only [Act.put, List.setIfInBounds_toArray, List.set_cons_zero, List.set_cons_succ])
      refine wpPlan_one rfl (fun KT hKT => ?_)
      go_simp
      refine (j_len J3'.out src dst a b LL.out l HM.out).mono ?_; rintro e w' ⟨rfl, rfl⟩
      refine hKT.out _ _ (hS0) (fun _ => ?_); clear hKT KT; try simp only [Act.put, List.setIfInBounds_toArray, List.set_cons_zero, List.set_cons_succ]
      repeat (refine' wpPlan_take rfl (by rfl) (by assumption) ?_ ?_; rotate_left; (· (intro w hSw; (try dsimp only at hSw); go_simp; try with_reducible rfl)); try simp only [Act.put, List.setIfInBounds_toArray, List.set_cons_zero, List.set_cons_succ])
      refine wpPlan_one rfl (fun KT hKT => ?_)
      go_simp
      refine (j_rlen J3'.out src dst a b ha hb hab EE.out l HM.out).mono ?_; rintro e w' ⟨rfl, rfl⟩
      refine hKT.out _ _ (hS0) (fun _ => ?_); clear hKT KT; try simp only [Act.put, List.setIfInBounds_toArray, List.set_cons_zero, List.set_cons_succ]
      repeat (refine' wpPlan_take rfl (by rfl) (by assumption) ?_ ?_; rotate_left; (· (intro w hSw; (try dsimp only at hSw); go_simp; try with_reducible rfl)); try simp only [Act.put, List.setIfInBounds_toArray, List.set_cons_zero, List.set_cons_succ])
      refine wpPlan_one rfl (fun KT hKT => ?_)
      go_simp
      refine (j_lost J3'.out (by omega)).mono ?_; rintro e w' ⟨rfl, rfl⟩
      refine hKT.out _ _ (hS0) (fun _ => ?_); clear hKT KT; try simp only [Act.put, List.setIfInBounds_toArray, List.set_cons_zero, List.set_cons_succ]
      repeat (refine' wpPlan_take rfl (by rfl) (by assumption) ?_ ?_; rotate_left; (· (intro w hSw; (try dsimp only at hSw); go_simp; try with_reducible rfl)); try simp only [Act.put, List.setIfInBounds_toArray, List.set_cons_zero, List.set_cons_succ])
      refine wpPlan_done ?_
      go_wp2_with fail
      go_ret
      exact ⟨by first | rfl | trivial, S', Q', t0, t1, J3'.out⟩
    · have LL := Lib.hid hl
      have EE := Lib.hid he
      clear hl he HL
      go_upto_region 24 with fail
      refine wp_region_plan (fun w' => w'.cell? ⟨x, 21, none⟩ = some (.int .i64 S')) 22 (.take 0 (.take 1 (.take 2 (.take 3 (.take 4 (.take 6 (.take 7 (.take 8 (.one 5 (.one 9 (.take 10 (.take 11 (.take 12 (.take 13 (.take 15 (.take 16 (.take 17 (.take 18 (.one 14 (.take 19 (.take 20 (.take 21 .done)))))))))))))))))))))) (by kernel_rfl) (by kernel_rfl) (by kernel_rfl) (KS _ ((Below.refl _ _).drew)) ?_
      intro hS0
      repeat (refine' wpPlan_take rfl (by rfl) (by assumption) ?_ ?_; rotate_left; (· (intro w hSw; (try dsimp only at hSw); go_simp; try with_reducible rfl)); try simp only [Act.put, List.setIfInBounds_toArray, List.set_cons_zero, List.set_cons_succ])
      refine wpPlan_one rfl (fun KT hKT => ?_)
      go_simp
      refine (j_len_none J3'.out src dst LL.out).mono ?_; rintro e w' ⟨rfl, rfl⟩
      refine hKT.out _ _ (hS0) (fun _ => ?_); clear hKT KT; try simp only [Act.put, List.setIfInBounds_toArray, List.set_cons_zero, List.set_cons_succ]
      repeat (refine' wpPlan_take rfl (by rfl) (by assumption) ?_ ?_; rotate_left; (· (intro w hSw; (try dsimp only at hSw); go_simp; try with_reducible rfl)); try simp only [Act.put, List.setIfInBounds_toArray, List.set_cons_zero, List.set_cons_succ])
      refine wpPlan_one rfl (fun KT hKT => ?_)
      go_simp
      refine (j_rlen_none J3'.out src dst EE.out).mono ?_; rintro e w' ⟨rfl, rfl⟩
      refine hKT.out _ _ (hS0) (fun _ => ?_); clear hKT KT; try simp only [Act.put, List.setIfInBounds_toArray, List.set_cons_zero, List.set_cons_succ]
      repeat (refine' wpPlan_take rfl (by rfl) (by assumption) ?_ ?_; rotate_left; (· (intro w hSw; (try dsimp only at hSw); go_simp; try with_reducible rfl)); try simp only [Act.put, List.setIfInBounds_toArray, List.set_cons_zero, List.set_cons_succ])
      refine wpPlan_one rfl (fun KT hKT => ?_)
      go_simp
      refine (j_lost J3'.out (by omega)).mono ?_; rintro e w' ⟨rfl, rfl⟩
      refine hKT.out _ _ (hS0) (fun _ => ?_); clear hKT KT; try simp only [Act.put, List.setIfInBounds_toArray, List.set_cons_zero, List.set_cons_succ]
      repeat (refine' wpPlan_take rfl (by rfl) (by assumption) ?_ ?_; rotate_left; (· (intro w hSw; (try dsimp only at hSw); go_simp; try with_reducible rfl)); try simp only [Act.put, List.setIfInBounds_toArray, List.set_cons_zero, List.set_cons_succ])
      refine wpPlan_done ?_
      go_wp2_with fail
      go_ret
      exact ⟨by first | rfl | trivial, S', Q', t0, t1, J3'.out⟩
end Go.Proofs.Ytfhlcjfgbhmecaa
