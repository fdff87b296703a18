/- PlD7. -/
import Derived.Test.YtfhlcjfgbhmecaaZDeep
import Derived.Test.YtfhlcjfgbhmecaaZPlan
import Derived.Test.YtfhlcjfgbhmecaaZSameB
import Derived.Test.YtfhlcjfgbhmecaaZApp
import Derived.Test.YtfhlcjfgbhmecaaZBytes
import Derived.Deep.CutRange
import Derived.Deep.DeepCutAuto
import Derived.Deep.CutBlock
/- The law's act: a message repeated. -/
namespace Go.Proofs.Ytfhlcjfgbhmecaa
open Go.RowKit
set_option linter.unusedVariables false

set_option maxRecDepth 100000 in
set_option maxHeartbeats 6400000 in
theorem do_dup (w0 w : World) (gn x : Nat) (room S : Int) (Q : Nat → List (List Int)) (nk : Prop) (d A B K T : Int) (R : Byt) (hJ : J2 w0 w gn x room S S Q Q nk (fun _ => False)) (hr : 1 ≤ room ∧ room ≤ 256) (hd : I64 d) (hA : I64 A) (hB : I64 B) (hK : I64 K) (hT : I64 T) (hRi : R.Is w0) (hS : 0 ≤ S ∧ S ≤ 1000000) (h9 : d % 9 = 7) :
    Calls Try.prog 47 #[.pointer (some ⟨gn, 0, none⟩), .pointer (some ⟨x, 0, none⟩), .agg #[.int .i64 d, .int .i64 A, .int .i64 B, .int .i64 K, .int .i64 T, .slice R.a R.xs.length R.c]] w (fun e w' => e = .returned (.bool true) ∧ ∃ S' Q', S ≤ S' ∧ S' ≤ S + 1 ∧ J2 w0 w' gn x room S' S' Q' Q' nk (fun _ => False)) := by
  obtain ⟨s0, s1⟩ := hS
  have HR := Lib.hid hr
  have HA := Lib.hid hA
  have HB := Lib.hid hB
  have HK := Lib.hid hK
  have HT := Lib.hid hT
  have HRI := Lib.hid hRi
  have H9 := Lib.hid h9
  have HL := Lib.hid (link_or (prt A) (prt B) (prt_mem A) (prt_mem B))
  obtain ⟨src, hsrc⟩ : ∃ s, s = prt A := ⟨_, rfl⟩
  obtain ⟨dst, hdst⟩ : ∃ s, s = prt B := ⟨_, rfl⟩
  have SE : Hid (Sends src) := Lib.hid (by rw [hsrc]; exact sends_of (prt_mem A))
  rw [← hsrc, ← hdst] at HL
  have PA := Lib.hid hsrc
  have PB := Lib.hid hdst
  have HJ := Lib.hid hJ
  clear hr hA hB hK hT hRi h9 hsrc hdst
  go_enter Try.func47, Try.ntmps47
  go_upto_region 1 with fail
  obtain ⟨w1, hw1⟩ : ∃ w1, w1 = w.alloc (.cells #[.int .i64 d, .int .i64 A, .int .i64 B, .int .i64 K, .int .i64 T, .slice R.a R.xs.length R.c] 102) := ⟨_, rfl⟩
  obtain ⟨ga, hga⟩ : ∃ ga, ga = w.heap.size := ⟨_, rfl⟩
  rw [← hw1, ← hga]
  have hA : Blk w1 ga 102 #[.int .i64 d, .int .i64 A, .int .i64 B, .int .i64 K, .int .i64 T, .slice R.a R.xs.length R.c] := by rw [hw1, hga]; exact Blk.new _ _ _
  have hb1 : Below w.heap.size w w1 := by rw [hw1]; exact (Below.refl _ _).alloc (Nat.le_refl _) _
  have a1 := (hA.cell 1).trans (show _ = some (.int .i64 A) from rfl)
  have a2 := (hA.cell 2).trans (show _ = some (.int .i64 B) from rfl)
  have KS : ∀ w', Below w1.heap.size w1 w' → w'.cell? ⟨ga, 1, none⟩ = some (.int .i64 A) ∧ w'.cell? ⟨ga, 2, none⟩ = some (.int .i64 B) := fun w' o => ⟨kept o _ _ a1, kept o _ _ a2⟩
  have J1 := Lib.hid (hJ.keep hb1)
  have BA := Lib.hid hA
  clear hw1 hb1 hA hga hJ HJ a1 a2
  refine wp_region_plan (fun w' => w'.cell? ⟨ga, 1, none⟩ = some (.int .i64 A) ∧ w'.cell? ⟨ga, 2, none⟩ = some (.int .i64 B)) 8 (.take 0 (.take 1 (.take 3 (.take 4 (.one 2 (.one 5 (.take 6 (.take 7 .done)))))))) (by kernel_rfl) (by kernel_rfl) (by kernel_rfl) (KS _ ((Below.refl _ _).drew)) ?_
  intro hS0
  repeat (refine' wpPlan_take rfl (by rfl) (by assumption) ?_ ?_; rotate_left; (· (intro w hSw; (try dsimp only at hSw); go_simp; try with_reducible rfl)); try simp only [Act.put, List.setIfInBounds_toArray, List.set_cons_zero, List.set_cons_succ])
  refine wpPlan_one rfl (fun KT hKT => ?_)
  go_simp
  refine (party_c A HA.out _).mono ?_; rintro e w' ⟨rfl, rfl⟩
  rw [← PA.out]
  refine hKT.out _ _ (hS0) (fun _ => ?_); clear hKT KT; try simp only [Act.put, List.setIfInBounds_toArray, List.set_cons_zero, List.set_cons_succ]
  refine wpPlan_one rfl (fun KT hKT => ?_)
  go_simp
  refine (party_c B HB.out _).mono ?_; rintro e w' ⟨rfl, rfl⟩
  rw [← PB.out]
  refine hKT.out _ _ (hS0) (fun _ => ?_); clear hKT KT; try simp only [Act.put, List.setIfInBounds_toArray, List.set_cons_zero, List.set_cons_succ]
  repeat (refine' wpPlan_take rfl (by rfl) (by assumption) ?_ ?_; rotate_left; (· (intro w hSw; (try dsimp only at hSw); go_simp; try with_reducible rfl)); try simp only [Act.put, List.setIfInBounds_toArray, List.set_cons_zero, List.set_cons_succ])
  refine wpPlan_done ?_
  obtain ⟨w2, hw2⟩ : ∃ w2, w2 = w1.drew := ⟨_, rfl⟩
  rw [← hw2]
  have J2' : Hid (J2 w0 w2 gn x room S S Q Q nk (fun _ => False)) := by rw [hw2]; exact Lib.hid (J1.out.keep ((Below.refl _ _).drew))
  have A2 : Hid (Blk w2 ga 102 #[.int .i64 d, .int .i64 A, .int .i64 B, .int .i64 K, .int .i64 T, .slice R.a R.xs.length R.c]) := by rw [hw2]; exact Lib.hid (BA.out.drewN 1)
  clear hw2 KS hS0 J1 BA
  have a0 := (A2.out.cell 0).trans (show _ = some (.int .i64 d) from rfl)
  have a3 := (A2.out.cell 3).trans (show _ = some (.int .i64 K) from rfl)
  have a4 := (A2.out.cell 4).trans (show _ = some (.int .i64 T) from rfl)
  have a5 := (A2.out.cell 5).trans (show _ = some (.slice R.a R.xs.length R.c) from rfl)
  go_wp2_with fail
  refine (within_q d 9 _ hd (by omega) (by omega)).mono ?_; rintro e w' ⟨xx, rfl, hx5, _, _, rfl⟩
  obtain rfl : xx = 7 := by rw [hx5.out, H9.out]
  clear hx5 a0
  go_upto_block 0 with fail
  go_cut [9] from 11 to 199 (fun v wx => v = .bool true ∧ ∃ S' Q', S ≤ S' ∧ S' ≤ S + 1 ∧ J2 w0 wx gn x room S' S' Q' Q' nk (fun _ => False))
  case first =>
    rcases HL.out with ⟨a, b, ha, hb, hab, hl, he⟩ | ⟨hl, he⟩
    · have LL := Lib.hid hl
      have EE := Lib.hid he
      clear hl he HL
      by_cases hin : (0 ≤ K ∧ K < (Q (a * 6 + b)).length) ∧ (Q (a * 6 + b)).length < room
      · have HLT := Lib.hid hin.2
        replace hin := hin.1
        obtain ⟨i, rfl⟩ := Int.eq_ofNat_of_zero_le hin.1
        have hi : i < (Q (a * 6 + b)).length := by omega
        have HI := Lib.hid hi
        clear hin hi
        have HLT' := HLT
        have A2d : Hid (Blk w2.drew ga 102 #[.int .i64 d, .int .i64 A, .int .i64 B, .int .i64 i, .int .i64 T, .slice R.a R.xs.length R.c]) := Lib.hid (A2.out.drewN 1)
        have J2d := Lib.hid (J2'.out.keep ((Below.refl _ _).drew))
        have KS : ∀ w', Blk w' ga 102 #[.int .i64 d, .int .i64 A, .int .i64 B, .int .i64 i, .int .i64 T, .slice R.a R.xs.length R.c] → w'.cell? ⟨ga, 3, none⟩ = some (.int .i64 i) ∧ w'.cell? ⟨ga, 4, none⟩ = some (.int .i64 T) := fun w' hb => ⟨hb.cell 3, hb.cell 4⟩
        go_upto_region 23 with fail
        refine wp_region_plan (fun w' => w'.cell? ⟨ga, 3, none⟩ = some (.int .i64 i) ∧ w'.cell? ⟨ga, 4, none⟩ = some (.int .i64 T)) 14 (.take 0 (.take 1 (.take 2 (.take 3 (.take 4 (.take 6 (.take 7 (.take 8 (.take 9 (.take 10 (.one 5 (.one 11 (.take 12 (.take 13 .done)))))))))))))) (by kernel_rfl) (by kernel_rfl) (by kernel_rfl) (KS _ A2d.out) ?_
        intro hS0
        repeat (refine' wpPlan_take rfl (by rfl) (by assumption) ?_ ?_; rotate_left; (· (intro w hSw; (try dsimp only at hSw); go_simp; try with_reducible rfl)); try simp only [Act.put, List.setIfInBounds_toArray, List.set_cons_zero, List.set_cons_succ])
        refine wpPlan_one rfl (fun KT hKT => ?_)
        go_simp
        refine (j_dup_ok J2d.out HR.out src dst a b ha hb hab LL.out i HI.out HLT.out).mono ?_; rintro e w4 ⟨rfl, hJ4, st4⟩; have J4 := Lib.hid hJ4; have A4 := Lib.hid (st4.blk A2d.out (by decide)); clear hJ4 st4
        refine hKT.out _ _ (KS _ A4.out) (fun _ => ?_); clear hKT KT; try simp only [Act.put, List.setIfInBounds_toArray, List.set_cons_zero, List.set_cons_succ]
        refine wpPlan_one rfl (fun KT hKT => ?_)
        go_simp
        refine (j_rdup_ok J4.out HR.out.2 src dst _ a b ha hb hab EE.out i rfl HI.out HLT.out).mono ?_; rintro e w5 ⟨rfl, hJ5, st5⟩; have J5 := Lib.hid hJ5; have A5 := Lib.hid (st5.blk A4.out (by decide)); clear hJ5 st5
        refine hKT.out _ _ (KS _ A5.out) (fun _ => ?_); clear hKT KT; try simp only [Act.put, List.setIfInBounds_toArray, List.set_cons_zero, List.set_cons_succ]
        repeat (refine' wpPlan_take rfl (by rfl) (by assumption) ?_ ?_; rotate_left; (· (intro w hSw; (try dsimp only at hSw); go_simp; try with_reducible rfl)); try simp only [Act.put, List.setIfInBounds_toArray, List.set_cons_zero, List.set_cons_succ])
        refine wpPlan_done ?_
        go_wp2_with fail
        go_meet
        exact ⟨rfl, S, _, by omega, by omega, J5.out⟩
      · have HIN : Hid (¬ (0 ≤ K ∧ K < (Q (a * 6 + b)).length) ∨ room ≤ (Q (a * 6 + b)).length) := Lib.hid (by omega)
        clear hin
        have A2d : Hid (Blk w2.drew ga 102 #[.int .i64 d, .int .i64 A, .int .i64 B, .int .i64 K, .int .i64 T, .slice R.a R.xs.length R.c]) := Lib.hid (A2.out.drewN 1)
        have J2d := Lib.hid (J2'.out.keep ((Below.refl _ _).drew))
        have KS : ∀ w', Blk w' ga 102 #[.int .i64 d, .int .i64 A, .int .i64 B, .int .i64 K, .int .i64 T, .slice R.a R.xs.length R.c] → w'.cell? ⟨ga, 3, none⟩ = some (.int .i64 K) ∧ w'.cell? ⟨ga, 4, none⟩ = some (.int .i64 T) := fun w' hb => ⟨hb.cell 3, hb.cell 4⟩
        go_upto_region 23 with fail
        refine wp_region_plan (fun w' => w'.cell? ⟨ga, 3, none⟩ = some (.int .i64 K) ∧ w'.cell? ⟨ga, 4, none⟩ = some (.int .i64 T)) 14 (.take 0 (.take 1 (.take 2 (.take 3 (.take 4 (.take 6 (.take 7 (.take 8 (.take 9 (.take 10 (.one 5 (.one 11 (.take 12 (.take 13 .done)))))))))))))) (by kernel_rfl) (by kernel_rfl) (by kernel_rfl) (KS _ A2d.out) ?_
        intro hS0
        repeat (refine' wpPlan_take rfl (by rfl) (by assumption) ?_ ?_; rotate_left; (· (intro w hSw; (try dsimp only at hSw); go_simp; try with_reducible rfl)); try simp only [Act.put, List.setIfInBounds_toArray, List.set_cons_zero, List.set_cons_succ])
        refine wpPlan_one rfl (fun KT hKT => ?_)
        go_simp
        refine (j_dup_no J2d.out HR.out src dst K a b LL.out HK.out HIN.out).mono ?_; rintro e w4 ⟨rfl, hJ4, st4⟩; have J4 := Lib.hid hJ4; have A4 := Lib.hid (st4.blk A2d.out (by decide)); clear hJ4 st4
        refine hKT.out _ _ (KS _ A4.out) (fun _ => ?_); clear hKT KT; try simp only [Act.put, List.setIfInBounds_toArray, List.set_cons_zero, List.set_cons_succ]
        refine wpPlan_one rfl (fun KT hKT => ?_)
        go_simp
        refine (j_rdup_no J4.out src dst K a b ha hb hab EE.out HIN.out).mono ?_; rintro e w5 ⟨rfl, hJ5, st5⟩; have J5 := Lib.hid hJ5; have A5 := Lib.hid (st5.blk A4.out (by decide)); clear hJ5 st5
        refine hKT.out _ _ (KS _ A5.out) (fun _ => ?_); clear hKT KT; try simp only [Act.put, List.setIfInBounds_toArray, List.set_cons_zero, List.set_cons_succ]
        repeat (refine' wpPlan_take rfl (by rfl) (by assumption) ?_ ?_; rotate_left; (· (intro w hSw; (try dsimp only at hSw); go_simp; try with_reducible rfl)); try simp only [Act.put, List.setIfInBounds_toArray, List.set_cons_zero, List.set_cons_succ])
        refine wpPlan_done ?_
        go_wp2_with fail
        go_meet
        exact ⟨rfl, S, _, by omega, by omega, J5.out⟩
    · have LL := Lib.hid hl
      have EE := Lib.hid he
      clear hl he HL
      have A2d : Hid (Blk w2.drew ga 102 #[.int .i64 d, .int .i64 A, .int .i64 B, .int .i64 K, .int .i64 T, .slice R.a R.xs.length R.c]) := Lib.hid (A2.out.drewN 1)
      have J2d := Lib.hid (J2'.out.keep ((Below.refl _ _).drew))
      have KS : ∀ w', Blk w' ga 102 #[.int .i64 d, .int .i64 A, .int .i64 B, .int .i64 K, .int .i64 T, .slice R.a R.xs.length R.c] → w'.cell? ⟨ga, 3, none⟩ = some (.int .i64 K) ∧ w'.cell? ⟨ga, 4, none⟩ = some (.int .i64 T) := fun w' hb => ⟨hb.cell 3, hb.cell 4⟩
      go_upto_region 23 with fail
      refine wp_region_plan (fun w' => w'.cell? ⟨ga, 3, none⟩ = some (.int .i64 K) ∧ w'.cell? ⟨ga, 4, none⟩ = some (.int .i64 T)) 14 (.take 0 (.take 1 (.take 2 (.take 3 (.take 4 (.take 6 (.take 7 (.take 8 (.take 9 (.take 10 (.one 5 (.one 11 (.take 12 (.take 13 .done)))))))))))))) (by kernel_rfl) (by kernel_rfl) (by kernel_rfl) (KS _ A2d.out) ?_
      intro hS0
      repeat (refine' wpPlan_take rfl (by rfl) (by assumption) ?_ ?_; rotate_left; (· (intro w hSw; (try dsimp only at hSw); go_simp; try with_reducible rfl)); try simp only [Act.put, List.setIfInBounds_toArray, List.set_cons_zero, List.set_cons_succ])
      refine wpPlan_one rfl (fun KT hKT => ?_)
      go_simp
      refine (j_dup_none J2d.out src dst K LL.out).mono ?_; rintro e w4 ⟨rfl, hw4⟩; have J4 := J2d; rw [hw4] at J4; have A4 := A2d; rw [hw4] at A4; clear hw4
      refine hKT.out _ _ (KS _ A4.out) (fun _ => ?_); clear hKT KT; try simp only [Act.put, List.setIfInBounds_toArray, List.set_cons_zero, List.set_cons_succ]
      refine wpPlan_one rfl (fun KT hKT => ?_)
      go_simp
      refine (j_rdup_none J4.out src dst K EE.out).mono ?_; rintro e w5 ⟨rfl, hJ5, st5⟩; have J5 := Lib.hid hJ5; have A5 := Lib.hid (st5.blk A4.out (by decide)); clear hJ5 st5
      refine hKT.out _ _ (KS _ A5.out) (fun _ => ?_); clear hKT KT; try simp only [Act.put, List.setIfInBounds_toArray, List.set_cons_zero, List.set_cons_succ]
      repeat (refine' wpPlan_take rfl (by rfl) (by assumption) ?_ ?_; rotate_left; (· (intro w hSw; (try dsimp only at hSw); go_simp; try with_reducible rfl)); try simp only [Act.put, List.setIfInBounds_toArray, List.set_cons_zero, List.set_cons_succ])
      refine wpPlan_done ?_
      go_wp2_with fail
      go_meet
      exact ⟨rfl, S, _, by omega, by omega, J5.out⟩
  case rest =>
    obtain ⟨rfl, S', Q', t0, t1, hJ3⟩ := hcut
    have J3 := Lib.hid hJ3
    have c21 := hJ3.rlost
    have KS : ∀ w', Below wc.heap.size wc w' → w'.cell? ⟨x, 21, none⟩ = some (.int .i64 S') := fun w' o => kept o _ _ c21
    have J3' := Lib.hid (hJ3.keep ((Below.refl _ _).drew))
    clear hJ3 a3 a4 a5 A2 J2'
    rcases HL.out with ⟨a, b, ha, hb, hab, hl, he⟩ | ⟨hl, he⟩
    · have LL := Lib.hid hl
      have EE := Lib.hid he
      obtain ⟨l, hm⟩ : ∃ l, (Q' (a * 6 + b)).length = l := ⟨_, rfl⟩
      have HM := Lib.hid hm
      clear hl he hm HL
      go_upto_region 24 with fail
      refine wp_region_plan (fun w' => w'.cell? ⟨x, 21, none⟩ = some (.int .i64 S')) 22 (.take 0 (.take 1 (.take 2 (.take 3 (.take 4 (.take 6 (.take 7 (.take 8 (.one 5 (.one 9 (.take 10 (.take 11 (.take 12 (.take 13 (.take 15 (.take 16 (.take 17 (.take 18 (.one 14 (.take 19 (.take 20 (.take 21 .done)))))))))))))))))))))) (by kernel_rfl) (by kernel_rfl) (by kernel_rfl) (KS _ ((Below.refl _ _).drew)) ?_
      intro hS0
      repeat (refine' wpPlan_take rfl (by rfl) (by assumption) ?_ ?_; rotate_left; (· (intro w hSw; (try dsimp only at hSw); go_simp; try with_reducible rfl)); try simp only [Act.put, List.setIfInBounds_toArray, List.set_cons_zero, List.set_cons_succ])
      refine wpPlan_one rfl (fun KT hKT => ?_)
      go_simp
      refine (j_len J3'.out src dst a b LL.out l HM.out).mono ?_; rintro e w' ⟨rfl, rfl⟩
      refine hKT.out _ _ (hS0) (fun _ => ?_); clear hKT KT; try simp only [Act.put, List.setIfInBounds_toArray, List.set_cons_zero, List.set_cons_succ]
      repeat (refine' wpPlan_take rfl (by rfl) (by assumption) ?_ ?_; rotate_left; (· (intro w hSw; (try dsimp only at hSw); go_simp; try with_reducible rfl)); try simp only [Act.put, List.setIfInBounds_toArray, List.set_cons_zero, List.set_cons_succ])
      refine wpPlan_one rfl (fun KT hKT => ?_)
      go_simp
      refine (j_rlen J3'.out src dst a b ha hb hab EE.out l HM.out).mono ?_; rintro e w' ⟨rfl, rfl⟩
      refine hKT.out _ _ (hS0) (fun _ => ?_); clear hKT KT; try simp only [Act.put, List.setIfInBounds_toArray, List.set_cons_zero, List.set_cons_succ]
      repeat (refine' wpPlan_take rfl (by rfl) (by assumption) ?_ ?_; rotate_left; (· (intro w hSw; (try dsimp only at hSw); go_simp; try with_reducible rfl)); try simp only [Act.put, List.setIfInBounds_toArray, List.set_cons_zero, List.set_cons_succ])
      refine wpPlan_one rfl (fun KT hKT => ?_)
      go_simp
      refine (j_lost J3'.out (by omega)).mono ?_; rintro e w' ⟨rfl, rfl⟩
      refine hKT.out _ _ (hS0) (fun _ => ?_); clear hKT KT; try simp only [Act.put, List.setIfInBounds_toArray, List.set_cons_zero, List.set_cons_succ]
      repeat (refine' wpPlan_take rfl (by rfl) (by assumption) ?_ ?_; rotate_left; (· (intro w hSw; (try dsimp only at hSw); go_simp; try with_reducible rfl)); try simp only [Act.put, List.setIfInBounds_toArray, List.set_cons_zero, List.set_cons_succ])
      refine wpPlan_done ?_
      go_wp2_with fail
      go_ret
      exact ⟨by first | rfl | trivial, S', Q', t0, t1, J3'.out⟩
    · have LL := Lib.hid hl
      have EE := Lib.hid he
      clear hl he HL
      go_upto_region 24 with fail
      refine wp_region_plan (fun w' => w'.cell? ⟨x, 21, none⟩ = some (.int .i64 S')) 22 (.take 0 (.take 1 (.take 2 (.take 3 (.take 4 (.take 6 (.take 7 (.take 8 (.one 5 (.one 9 (.take 10 (.take 11 (.take 12 (.take 13 (.take 15 (.take 16 (.take 17 (.take 18 (.one 14 (.take 19 (.take 20 (.take 21 .done)))))))))))))))))))))) (by kernel_rfl) (by kernel_rfl) (by kernel_rfl) (KS _ ((Below.refl _ _).drew)) ?_
      intro hS0
      repeat (refine' wpPlan_take rfl (by rfl) (by assumption) ?_ ?_; rotate_left; (· (intro w hSw; (try dsimp only at hSw); go_simp; try with_reducible rfl)); try simp only [Act.put, List.setIfInBounds_toArray, List.set_cons_zero, List.set_cons_succ])
      refine wpPlan_one rfl (fun KT hKT => ?_)
      go_simp
      refine (j_len_none J3'.out src dst LL.out).mono ?_; rintro e w' ⟨rfl, rfl⟩
      refine hKT.out _ _ (hS0) (fun _ => ?_); clear hKT KT; try simp only [Act.put, List.setIfInBounds_toArray, List.set_cons_zero, List.set_cons_succ]
      repeat (refine' wpPlan_take rfl (by rfl) (by assumption) ?_ ?_; rotate_left; (· (intro w hSw; (try dsimp only at hSw); go_simp; try with_reducible rfl)); try simp only [Act.put, List.setIfInBounds_toArray, List.set_cons_zero, List.set_cons_succ])
      refine wpPlan_one rfl (fun KT hKT => ?_)
      go_simp
      refine (j_rlen_none J3'.out src dst EE.out).mono ?_; rintro e w' ⟨rfl, rfl⟩
      refine hKT.out _ _ (hS0) (fun _ => ?_); clear hKT KT; try simp only [Act.put, List.setIfInBounds_toArray, List.set_cons_zero, List.set_cons_succ]
      repeat (refine' wpPlan_take rfl (by rfl) (by assumption) ?_ ?_; rotate_left; (· (intro w hSw; (try dsimp only at hSw); go_simp; try with_reducible rfl)); try simp only [Act.put, List.setIfInBounds_toArray, List.set_cons_zero, List.set_cons_succ])
      refine wpPlan_one rfl (fun KT hKT => ?_)
      go_simp
      refine (j_lost J3'.out (by omega)).mono ?_; rintro e w' ⟨rfl, rfl⟩
      refine hKT.out _ _ (hS0) (fun _ => ?_); clear hKT KT; try simp only [Act.put, List.setIfInBounds_toArray, List.set_cons_zero, List.set_cons_succ]
      repeat (refine' wpPlan_take rfl (by rfl) (by assumption) ?_ ?_; rotate_left; (· (intro w hSw; (try dsimp only at hSw); go_simp; try with_reducible rfl)); try simp only [Act.put, List.setIfInBounds_toArray, List.set_cons_zero, List.set_cons_succ])
      refine wpPlan_done ?_
      go_wp2_with fail
      go_ret
      exact ⟨by first | rfl | trivial, S', Q', t0, t1, J3'.out⟩
end Go.Proofs.Ytfhlcjfgbhmecaa
