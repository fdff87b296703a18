/- The law's plain clock: drop. -/
import Derived.Test.YtfeepofdnjnkpaaClockQ
namespace Go.Proofs.Ytfeepofdnjnkpaa
open Go.RowKit
set_option linter.unusedVariables false

theorem ids_cut (P : List (Int × Int)) (i : Nat) : (ids P).take (i * 1) ++ (ids P).drop ((i + 1) * 1) = ids (P.take i ++ P.drop (i + 1)) := by simp [ids, List.map_take, List.map_drop]
theorem ats_cut (P : List (Int × Int)) (i : Nat) : (ats P).take (i * 1) ++ (ats P).drop ((i + 1) * 1) = ats (P.take i ++ P.drop (i + 1)) := by simp [ats, List.map_take, List.map_drop]
theorem one_take {xs : List Value} (h : ∀ v ∈ xs, v.oneCell' = true) (k : Nat) : ∀ v ∈ xs.take k, v.oneCell' = true := fun v hv => h v (List.mem_of_mem_take hv)
theorem one_drop {xs : List Value} (h : ∀ v ∈ xs, v.oneCell' = true) (k : Nat) : ∀ v ∈ xs.drop k, v.oneCell' = true := fun v hv => h v (List.mem_of_mem_drop hv)

set_option maxRecDepth 100000 in
set_option maxHeartbeats 6400000 in
theorem pdrop_c (B gp : Nat) (now : Int) (P : List (Int × Int)) (i : Nat) (w : World) (h : Pn w B gp now P) (hn : P.length ≤ 1000) (hi : i < P.length) :
    Calls Try.prog 43 #[.pointer (some ⟨gp, 0, none⟩), .int .i64 i] w fun e w' => e = .returned (.tuple #[]) ∧ Pn w' B gp now (P.take i ++ P.drop (i + 1)) ∧ Only [gp] w w' := by
  obtain ⟨ti, hi0, hz0, hz1, hz2⟩ := info_parts info_intQ
  obtain ⟨a, c, a', c', h1, h2, h3⟩ := h.ex
  obtain ⟨n, hnn⟩ : ∃ n, n = P.length := ⟨_, rfl⟩
  rw [← hnn] at h1 h2 h3 hn hi
  have N := Lib.hid hnn
  have c1 : w.cell? ⟨gp, 1, none⟩ = some (.slice a n c) := h1.cell 1
  have V1 := Lib.hid (own_vrow h2)
  have V2 := Lib.hid (own_vrow h3)
  have K := Lib.hid h1
  have GE := Lib.hid h.ge
  have GL := Lib.hid h1.lt
  have cap1 := own_cap h2
  have cap2 := own_cap h3
  have sl1 : ∀ w : World, (Instr.slice 51 (.slice a n c) none (some (.int .i64 i)) none).run Try.prog w = .ok (.slice a i c) w := to_any (P := Try.prog) 51 3 1 Try.underlying51 (by kernel_rfl) size_intQ a n c i (by omega) cap1
  obtain ⟨A1, sl2, v2⟩ := from_v h2 Try.underlying51 (by kernel_rfl) size_intQ (i + 1) (by omega) ((i : Int) + 1) (by omega)
  have sl3 : ∀ w : World, (Instr.slice 51 (.slice a' n c') none (some (.int .i64 i)) none).run Try.prog w = .ok (.slice a' i c') w := to_any (P := Try.prog) 51 3 1 Try.underlying51 (by kernel_rfl) size_intQ a' n c' i (by omega) cap2
  obtain ⟨A2, sl4, v4⟩ := from_v h3 Try.underlying51 (by kernel_rfl) size_intQ (i + 1) (by omega) ((i : Int) + 1) (by omega)
  have T1 := Lib.hid (V1.out.take (k := i) (by omega))
  have T2 := Lib.hid (V2.out.take (k := i) (by omega))
  have D1 := Lib.hid v2
  have D2 := Lib.hid v4
  have O3 := Lib.hid h3
  have NB : Hid (∀ g, (Value.slice a' n c').ownBlock = some g → g ≠ gp) := Lib.hid (fun g hg e => own_blk_ne h3 h1 (by decide) (by rw [hg, e]))
  have e9 : IntKind.i64.wrap ((i : Int) + 1) = (i : Int) + 1 := IntWalk.i64_in _ (by omega)
  have i0 : (0 : Int) ≤ i := by omega
  clear h1 h2 h3 h v2 v4 hnn
  go_enter Try.func43, Try.ntmps43
  have E1 : Below w.heap.size w w.drew := (Below.refl _ _).drew
  have KS : ∀ w', Below w.heap.size w w' → w'.cell? ⟨gp, 1, none⟩ = some (.slice a n c) ∧ Below w.heap.size w w' := fun w' o => ⟨kept o _ _ c1, o⟩
  go_upto_region 0 with fail
  refine wp_region_plan (fun w' => w'.cell? ⟨gp, 1, none⟩ = some (.slice a n c) ∧ Below w.heap.size w w') 18 (.take 0 (.take 1 (.take 2 (.take 3 (.take 4 (.take 5 (.take 6 (.take 8 (.take 9 (.take 10 (.take 11 (.take 12 (.take 13 (.take 14 (.one 7 (.one 15 (.one 16 (.take 17 (.one 18 .done))))))))))))))))))) (by kernel_rfl) (by kernel_rfl) (by kernel_rfl) (KS _ E1) ?_
  intro hS0
  repeat (refine' wpPlan_take rfl (by rfl) (by assumption) ?_ ?_; rotate_left; (· (intro w hSw; (try dsimp only at hSw); go_simp; try with_reducible rfl)); try simp only [Act.put, List.setIfInBounds_toArray, List.set_cons_zero, List.set_cons_succ])
  refine wpPlan_one rfl (fun KT hKT => ?_)
  go_simp
  refine (copy_i a i c ((ids P).take (i * 1)) _ (T1.out.below E1) (one_take (ids_one P) _) (by omega)).mono ?_
  rintro e w2 ⟨a2, c2, rfl, h2, hb2⟩
  have E2 : Below w.heap.size w w2 := E1.trans (hb2.mono E1.size)
  have h2' : w2.ownsRow w.heap.size 3 1 (.slice a2 i c2) i ((ids P).take (i * 1)) := own_base_le h2 E1.size
  refine hKT.out _ _ (KS _ E2) (fun _ => ?_); clear hKT KT; try simp only [Act.put, List.setIfInBounds_toArray, List.set_cons_zero, List.set_cons_succ]
  repeat (refine' wpPlan_take rfl (by rfl) (by assumption) ?_ ?_; rotate_left; (· (intro w hSw; (try dsimp only at hSw); go_simp; try with_reducible rfl)); try simp only [Act.put, List.setIfInBounds_toArray, List.set_cons_zero, List.set_cons_succ])
  refine wpPlan_one rfl (fun KT hKT => ?_)
  refine step_app (by rfl) _ _ _ (by rfl) w.heap.size 3 ti _ 1 8 Try.underlying51 hi0 hz0 hz1 hz2 rfl (by omega) a2 i c2 ((ids P).take (i * 1)) (by rfl) h2' A1 (n - (i + 1)) (c - (i + 1)) ((ids P).drop ((i + 1) * 1)) (by rfl) (D1.out.below E2) (one_drop (ids_one P) _) (by unfold maxLen; omega) (by omega) E2.size ?_
  intro a5 c5 w5 h5
  have E5 : Below w.heap.size w w5 := h5.below h2' E2 (Nat.le_refl _) E2.size
  have k5 := K.out.below E5 GL.out
  refine hKT.out _ _ (KS _ E5) (fun _ => ?_); clear hKT KT; try simp only [Act.put, List.setIfInBounds_toArray, List.set_cons_zero, List.set_cons_succ]
  repeat (refine' wpPlan_take rfl (by rfl) (by assumption) ?_ ?_; rotate_left; (· (intro w hSw; (try dsimp only at hSw); go_simp; try with_reducible rfl)); try simp only [Act.put, List.setIfInBounds_toArray, List.set_cons_zero, List.set_cons_succ])
  refine wpPlan_one rfl (fun KT hKT => ?_)
  go_simp
  refine hKT.out _ _ (KS _ E5) (fun _ => ?_); clear hKT KT; try simp only [Act.put, List.setIfInBounds_toArray, List.set_cons_zero, List.set_cons_succ]
  repeat (refine' wpPlan_take rfl (by rfl) (by assumption) ?_ ?_; rotate_left; (· (intro w hSw; (try dsimp only at hSw); go_simp; try with_reducible rfl)); try simp only [Act.put, List.setIfInBounds_toArray, List.set_cons_zero, List.set_cons_succ])
  refine wpPlan_last rfl (fun KT hKT => ?_)
  have f5 := k5.frozen 1
  have d5 := k5.cell 1
  go_simp
  refine hKT.out _ _ ?_; clear hKT KT; try simp only [Act.put, List.setIfInBounds_toArray, List.set_cons_zero, List.set_cons_succ]
  refine wpPlan_done ?_
  have hm : i + (n - (i + 1)) = n - 1 := by omega
  rw [hm] at h5 ⊢
  obtain ⟨w6, hw6⟩ : ∃ w6, w6 = w5.setCell ⟨gp, 1, none⟩ (.slice a5 (n - 1) c5) := ⟨_, rfl⟩
  rw [← hw6]
  have o6 : Only [gp] w5 w6 := by rw [hw6]; exact (Only.refl _ _).setCell (.inl (by simp)) _
  have K6 := Lib.hid (show Blk w6 gp 70 #[.int .i64 now, .slice a5 (n - 1) c5, .slice a' n c'] by rw [hw6]; exact k5.set_ 1 _)
  have R6 := Lib.hid (own_only h5.own o6 (fun g hg hm => by
    simp only [List.mem_singleton] at hm
    exact own_blk_ne h5.own k5 (by decide) (by rw [hg, hm])))
  have W6 := Lib.hid ((Only.of_below (S := [gp]) E5).trans o6)
  have T2' := Lib.hid ((T2.out.below E5))
  have OO : Hid (∀ g, (Value.slice a' n c').ownBlock = some g → g ≠ gp) := NB
  have Z6 := Lib.hid (Nat.le_trans E5.size o6.size)
  have T6 : Hid (VRow w6 a' i 1 ((ats P).take (i * 1))) := Lib.hid ((own_vrow (own_only O3.out W6.out (fun g hg hm => NB.out g hg (by simpa using hm)))).take (k := i) (by omega))
  have D6 : Hid (VRow w6 A2 (n - (i + 1)) 1 ((ats P).drop ((i + 1) * 1))) := Lib.hid (by
    obtain ⟨A, sl5, v5⟩ := from_v (own_only O3.out W6.out (fun g hg hm => NB.out g hg (by simpa using hm))) (P := Try.prog) Try.underlying51 (by kernel_rfl) size_intQ (i + 1) (by omega) ((i : Int) + 1) (by omega)
    have e1 := sl5 w
    rw [sl4 w] at e1
    injection e1 with e1
    injection e1 with e1
    rw [e1]
    exact v5)
  clear hw6 o6 k5 f5 d5 h5 E5 h2 h2' hb2 E2 E1 KS hS0 c1 T2'
  have c6 : w6.cell? ⟨gp, 2, none⟩ = some (.slice a' n c') := K6.out.cell 2
  have E1 : Below w6.heap.size w6 w6.drew := (Below.refl _ _).drew
  have KS : ∀ w', Below w6.heap.size w6 w' → w'.cell? ⟨gp, 2, none⟩ = some (.slice a' n c') ∧ Below w6.heap.size w6 w' := fun w' o => ⟨kept o _ _ c6, o⟩
  go_upto_region 1 with fail
  refine wp_region_plan (fun w' => w'.cell? ⟨gp, 2, none⟩ = some (.slice a' n c') ∧ Below w6.heap.size w6 w') 18 (.take 0 (.take 1 (.take 2 (.take 3 (.take 4 (.take 5 (.take 6 (.take 8 (.take 9 (.take 10 (.take 11 (.take 12 (.take 13 (.take 14 (.one 7 (.one 15 (.one 16 (.take 17 (.one 18 .done))))))))))))))))))) (by kernel_rfl) (by kernel_rfl) (by kernel_rfl) (KS _ E1) ?_
  intro hS0
  repeat (refine' wpPlan_take rfl (by rfl) (by assumption) ?_ ?_; rotate_left; (· (intro w hSw; (try dsimp only at hSw); go_simp; try with_reducible rfl)); try simp only [Act.put, List.setIfInBounds_toArray, List.set_cons_zero, List.set_cons_succ])
  refine wpPlan_one rfl (fun KT hKT => ?_)
  go_simp
  refine (copy_i a' i c' ((ats P).take (i * 1)) _ (T6.out.below E1) (one_take (ats_one P) _) (by omega)).mono ?_
  rintro e w2 ⟨a2, c2, rfl, h2, hb2⟩
  have E2 : Below w6.heap.size w6 w2 := E1.trans (hb2.mono E1.size)
  have h2' : w2.ownsRow w6.heap.size 3 1 (.slice a2 i c2) i ((ats P).take (i * 1)) := own_base_le h2 E1.size
  refine hKT.out _ _ (KS _ E2) (fun _ => ?_); clear hKT KT; try simp only [Act.put, List.setIfInBounds_toArray, List.set_cons_zero, List.set_cons_succ]
  repeat (refine' wpPlan_take rfl (by rfl) (by assumption) ?_ ?_; rotate_left; (· (intro w hSw; (try dsimp only at hSw); go_simp; try with_reducible rfl)); try simp only [Act.put, List.setIfInBounds_toArray, List.set_cons_zero, List.set_cons_succ])
  refine wpPlan_one rfl (fun KT hKT => ?_)
  refine step_app (by rfl) _ _ _ (by rfl) w6.heap.size 3 ti _ 1 8 Try.underlying51 hi0 hz0 hz1 hz2 rfl (by omega) a2 i c2 ((ats P).take (i * 1)) (by rfl) h2' A2 (n - (i + 1)) (c' - (i + 1)) ((ats P).drop ((i + 1) * 1)) (by rfl) (D6.out.below E2) (one_drop (ats_one P) _) (by unfold maxLen; omega) (by omega) E2.size ?_
  intro a7 c7 w7 h7
  have E7 : Below w6.heap.size w6 w7 := h7.below h2' E2 (Nat.le_refl _) E2.size
  have k7 := K6.out.below E7 K6.out.lt
  refine hKT.out _ _ (KS _ E7) (fun _ => ?_); clear hKT KT; try simp only [Act.put, List.setIfInBounds_toArray, List.set_cons_zero, List.set_cons_succ]
  repeat (refine' wpPlan_take rfl (by rfl) (by assumption) ?_ ?_; rotate_left; (· (intro w hSw; (try dsimp only at hSw); go_simp; try with_reducible rfl)); try simp only [Act.put, List.setIfInBounds_toArray, List.set_cons_zero, List.set_cons_succ])
  refine wpPlan_one rfl (fun KT hKT => ?_)
  go_simp
  refine hKT.out _ _ (KS _ E7) (fun _ => ?_); clear hKT KT; try simp only [Act.put, List.setIfInBounds_toArray, List.set_cons_zero, List.set_cons_succ]
  repeat (refine' wpPlan_take rfl (by rfl) (by assumption) ?_ ?_; rotate_left; (· (intro w hSw; (try dsimp only at hSw); go_simp; try with_reducible rfl)); try simp only [Act.put, List.setIfInBounds_toArray, List.set_cons_zero, List.set_cons_succ])
  refine wpPlan_last rfl (fun KT hKT => ?_)
  have f7 := k7.frozen 2
  have d7 := k7.cell 2
  go_simp
  refine hKT.out _ _ ?_; clear hKT KT; try simp only [Act.put, List.setIfInBounds_toArray, List.set_cons_zero, List.set_cons_succ]
  refine wpPlan_done ?_
  try rw [hm] at h7
  try rw [hm]
  obtain ⟨w8, hw8⟩ : ∃ w8, w8 = w7.setCell ⟨gp, 2, none⟩ (.slice a7 (n - 1) c7) := ⟨_, rfl⟩
  rw [← hw8]
  have o8 : Only [gp] w7 w8 := by rw [hw8]; exact (Only.refl _ _).setCell (.inl (by simp)) _
  have FIN : Hid (Pn w8 B gp now (P.take i ++ P.drop (i + 1)) ∧ Only [gp] w w8) := Lib.hid (by
    have k8 : Blk w8 gp 70 #[.int .i64 now, .slice a5 (n - 1) c5, .slice a7 (n - 1) c7] := by rw [hw8]; exact k7.set_ 2 _
    have r7 := own_below R6.out E7
    have r8 := own_only r7 o8 (fun g hg hm => by
      simp only [List.mem_singleton] at hm
      exact own_blk_ne r7 k7 (by decide) (by rw [hg, hm]))
    have t8 := own_only h7.own o8 (fun g hg hm => by
      simp only [List.mem_singleton] at hm
      exact own_blk_ne h7.own k7 (by decide) (by rw [hg, hm]))
    rw [ids_cut] at r8
    rw [ats_cut] at t8
    have hl : n - 1 = (P.take i ++ P.drop (i + 1)).length := by rw [List.length_append, List.length_take, List.length_drop, ← N.out]; omega
    have hBw : B ≤ w.heap.size := Nat.le_trans GE.out (Nat.le_of_lt GL.out)
    rw [hl] at k8 r8 t8
    exact ⟨⟨⟨a5, c5, a7, c7, k8, own_base_le r8 (Nat.zero_le _), own_base_le t8 (Nat.zero_le _)⟩, GE.out⟩, (W6.out.trans (Only.of_below (S := [gp]) E7)).trans o8⟩)
  clear hw8 o8 k7 f7 d7 h7 E7 h2 h2' hb2 E2 E1 KS hS0 c6
  go_wp2_with fail
  go_end0
  exact ⟨rfl, FIN.out⟩
end Go.Proofs.Ytfeepofdnjnkpaa
