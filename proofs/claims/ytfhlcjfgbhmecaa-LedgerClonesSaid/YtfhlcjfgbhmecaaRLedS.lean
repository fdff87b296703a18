/- The law's comparison of a ledger and the reference's. -/
import Derived.Test.YtfhlcjfgbhmecaaRLedR
import Derived.Test.YtfhlcjfgbhmecaaPairs
namespace Go.Proofs.Ytfhlcjfgbhmecaa
open Go.RowKit
set_option linter.unusedVariables false

set_option maxRecDepth 100000 in
set_option maxHeartbeats 6400000 in
theorem lright_c (S : List Nat) (gd : Nat) (F : List Nat) (gr C : Nat) (es : List Ent) (st : List (Bool × Int)) (ct : List (Int × Int)) (w : World) (h : Led w S gd C es st ct) (h' : RLg w F gr C es st ct) (hn : es.length ≤ 4096) :
    Calls Try.prog 29 #[.pointer (some ⟨gd, 0, none⟩), .pointer (some ⟨gr, 0, none⟩)] w fun e w' => e = .returned (.bool true) ∧ Below w.heap.size w w' := by
  obtain ⟨aL, cL, _, hR, hO⟩ := h'.ex
  have L := Lib.hid h
  have RL := Lib.hid h'
  obtain ⟨n, hn'⟩ : ∃ n, n = es.length := ⟨_, rfl⟩
  rw [← hn'] at hR hO hn
  have N := Lib.hid hn'
  obtain ⟨V, hV⟩ : ∃ V, V = Value.slice aL n cL := ⟨_, rfl⟩
  have c0 := hR.cl
  have cL9 := hR.log
  have RS := Lib.hid hR
  have VL := Lib.hid (own_vrow hO)
  have CC := Lib.hid h'.len
  have C4 := h'.c
  clear h h' hR hO hn' hV
  go_enter Try.func29, Try.ntmps29
  go_upto_region 1 with fail
  have KS : ∀ w', Below w.heap.size w w' → w'.cell? ⟨gr, 137, none⟩ = some (.slice aL n cL) ∧ Below w.heap.size w w' := fun w' o => ⟨kept o _ _ cL9, o⟩
  have E1 : Below w.heap.size w w.drew := (Below.refl _ _).drew
  refine wp_region_plan (fun w' => w'.cell? ⟨gr, 137, none⟩ = some (.slice aL n cL) ∧ Below w.heap.size w w') 22 (.take 0 (.take 1 (.take 2 (.take 3 (.take 5 (.take 6 (.take 7 (.take 8 (.one 4 (.one 9 (.take 10 (.take 11 (.take 12 (.take 13 (.take 15 (.take 16 (.take 17 (.take 18 (.take 19 (.one 14 (.take 20 (.take 21 .done)))))))))))))))))))))) (by kernel_rfl) (by kernel_rfl) (by kernel_rfl) (KS _ E1) ?_
  intro hS0
  repeat (refine' wpPlan_take rfl (by rfl) (by assumption) ?_ ?_; rotate_left; (· (intro w hSw; (try dsimp only at hSw); go_simp; try with_reducible rfl)); try simp only [Act.put, List.setIfInBounds_toArray, List.set_cons_zero, List.set_cons_succ])
  refine wpPlan_one rfl (fun KT hKT => ?_)
  go_simp
  refine (lall_c S gd C es st ct _ (L.out.below E1) n N.out.symm hn).mono ?_; rintro e w2 ⟨a5, c5, rfl, h5, hb2⟩
  have E2 : Below w.heap.size w w2 := E1.trans (hb2.mono E1.size)
  refine hKT.out _ _ (KS _ E2) (fun _ => ?_); clear hKT KT; try simp only [Act.put, List.setIfInBounds_toArray, List.set_cons_zero, List.set_cons_succ]
  repeat (refine' wpPlan_take rfl (by rfl) (by assumption) ?_ ?_; rotate_left; (· (intro w hSw; (try dsimp only at hSw); go_simp; try with_reducible rfl)); try simp only [Act.put, List.setIfInBounds_toArray, List.set_cons_zero, List.set_cons_succ])
  refine wpPlan_one rfl (fun KT hKT => ?_)
  go_simp
  refine (same_ent_c a5 n c5 aL n cL es _ (own_vrow h5) (VL.out.below E2) N.out.symm N.out.symm hn).mono ?_; rintro e w3 ⟨rfl, hb3⟩
  have E3 : Below w.heap.size w w3 := E2.trans (hb3.mono E2.size)
  refine hKT.out _ _ (KS _ E3) (fun _ => ?_); clear hKT KT; try simp only [Act.put, List.setIfInBounds_toArray, List.set_cons_zero, List.set_cons_succ]
  repeat (refine' wpPlan_take rfl (by rfl) (by assumption) ?_ ?_; rotate_left; (· (intro w hSw; (try dsimp only at hSw); go_simp; try with_reducible rfl)); try simp only [Act.put, List.setIfInBounds_toArray, List.set_cons_zero, List.set_cons_succ])
  refine wpPlan_one rfl (fun KT hKT => ?_)
  go_simp
  refine (llen_c S gd C es st ct _ (L.out.below E3) n N.out.symm).mono ?_; rintro e w4 ⟨rfl, rfl⟩
  refine hKT.out _ _ (KS _ E3) (fun _ => ?_); clear hKT KT; try simp only [Act.put, List.setIfInBounds_toArray, List.set_cons_zero, List.set_cons_succ]
  repeat (refine' wpPlan_take rfl (by rfl) (by assumption) ?_ ?_; rotate_left; (· (intro w hSw; (try dsimp only at hSw); go_simp; try with_reducible rfl)); try simp only [Act.put, List.setIfInBounds_toArray, List.set_cons_zero, List.set_cons_succ])
  refine wpPlan_done ?_
  have B3 := Lib.hid E3
  clear h5 hb2 hb3 E1 E2 E3 KS hS0
  go_wp2_with fail
  go_loopw [5] (fun i wr => ∃ k : Int, -1 ≤ k ∧ k ≤ 5 ∧ i = .int .i64 k ∧ Below w.heap.size w wr) (fun i _ => 6 - (intOf i + 1).toNat)
  case atStart => exact ⟨-1, by omega, by omega, rfl, B3.out⟩
  case round =>
    obtain ⟨k, hk1, hk5, rfl, hb⟩ := hrel
    have B := Lib.hid hb
    have d0 := kept hb _ _ c0
    by_cases hlt : k ≤ 4
    · have KI : Hid (I64 k) := Lib.hid (by unfold I64; omega)
      have w9 : IntKind.i64.wrap (k + 1) = k + 1 := IntWalk.i64_in _ (by omega)
      by_cases hin : 0 ≤ k ∧ k < (C : Int)
      · obtain ⟨j, rfl⟩ := Int.eq_ofNat_of_zero_le hin.1
        have hj4 : j < 4 := by omega
        have t9 := (RS.out.below hb).time j hj4
        have v9 := (RS.out.below hb).res j hj4
        have hB : hasB ct (j : Int) = true := decide_eq_true (by rw [CC.out]; exact hin)
        obtain ⟨t, ht⟩ : ∃ t, t = (ct.getD j (0, 0)).1 := ⟨_, rfl⟩
        obtain ⟨v, hv⟩ : ∃ v, v = (ct.getD j (0, 0)).2 := ⟨_, rfl⟩
        rw [← ht] at t9
        rw [← hv] at v9
        have H1 : Hid (lastOf ct (j : Int) = t) := Lib.hid (by unfold lastOf; rw [if_pos hB, ht]; rfl)
        have g1 : (0 : Int) ≤ j := by omega
        have g2 : (j : Int) < (C : Int) := hin.2
        have g2' : decide (j < C) = true := decide_eq_true (by omega)
        have g3 : (j : Int) < 4 := by omega
        by_cases hpos : 1 ≤ t
        · have H2 : Hid (getB ct (j : Int) t = true) := Lib.hid (by unfold getB; rw [hB, decide_eq_true hpos, show (ct.getD ((j : Int).toNat) (0, 0)).1 = t from ht.symm]; simp)
          have H3 : Hid (getR ct (j : Int) t = v) := Lib.hid (by unfold getR; rw [H2.out, if_pos rfl, hv]; rfl)
          have p1 : t > 0 := by omega
          have p2 : (0 : Int) < t := by omega
          clear hb hB ht hv hpos hin
          go_wp2_with fail
          refine (llast_c S gd C es st ct j _ (L.out.below B.out) KI.out t H1.out).mono ?_; rintro e w5 ⟨rfl, rfl⟩
          go_wp2_with fail
          refine (lreply_c S gd C es st ct j t _ (L.out.below B.out) KI.out true H2.out v H3.out).mono ?_; rintro e w5 ⟨rfl, rfl⟩
          go_wp2_with fail
          go_roundw
          case rel => exact ⟨(j : Int) + 1, by omega, by omega, by go_num, B.out⟩
          case measure => simp [intOf]; omega
        · have H2 : Hid (getB ct (j : Int) t = false) := Lib.hid (by unfold getB; rw [decide_eq_false hpos]; simp)
          have H3 : Hid (getR ct (j : Int) t = 0) := Lib.hid (by unfold getR; rw [H2.out]; rfl)
          have p1 : ¬ t > 0 := by omega
          have p2 : ¬ (0 : Int) < t := by omega
          clear hb hB ht hv hpos hin
          go_wp2_with fail
          refine (llast_c S gd C es st ct j _ (L.out.below B.out) KI.out t H1.out).mono ?_; rintro e w5 ⟨rfl, rfl⟩
          go_wp2_with fail
          refine (lreply_c S gd C es st ct j t _ (L.out.below B.out) KI.out false H2.out 0 H3.out).mono ?_; rintro e w5 ⟨rfl, rfl⟩
          go_wp2_with fail
          go_roundw
          case rel => exact ⟨(j : Int) + 1, by omega, by omega, by go_num, B.out⟩
          case measure => simp [intOf]; omega
      · have hB : hasB ct k = false := decide_eq_false (by rw [CC.out]; exact hin)
        have H1 : Hid (lastOf ct k = 0) := Lib.hid (by unfold lastOf; rw [hB]; rfl)
        have H2 : Hid (getB ct k 0 = false) := Lib.hid (by unfold getB; rw [hB]; rfl)
        have H3 : Hid (getR ct k 0 = 0) := Lib.hid (by unfold getR; rw [H2.out]; rfl)
        rcases (show k < 0 ∨ (0 ≤ k ∧ ¬ k < (C : Int)) by omega) with g1 | ⟨g1, g2⟩
        case' inl =>
          have g3 : ¬ (0 : Int) ≤ k := by omega
        all_goals
          clear hb hB hin
          go_wp2_with fail
          refine (llast_c S gd C es st ct k _ (L.out.below B.out) KI.out 0 H1.out).mono ?_; rintro e w5 ⟨rfl, rfl⟩
          go_wp2_with fail
          refine (lreply_c S gd C es st ct k 0 _ (L.out.below B.out) KI.out false H2.out 0 H3.out).mono ?_; rintro e w5 ⟨rfl, rfl⟩
          go_wp2_with fail
          go_roundw
          case rel => exact ⟨k + 1, by omega, by omega, by go_num, B.out⟩
          case measure => simp [intOf]; omega
    · clear d0 hb
      go_wp2_with fail
      refine (lstore_c S gd C es st ct _ (L.out.below B.out)).mono ?_; rintro e w5 ⟨gs, rfl, hs5, hg5, hb5⟩
      have E5 := B.out.trans (hb5.mono B.out.size)
      go_upto_region 15 with fail
      refine wp_region_plan (fun w' => True) 12 (.take 0 (.take 1 (.take 2 (.take 3 (.take 5 (.take 6 (.take 7 (.one 4 (.one 8 (.one 9 (.take 10 (.take 11 .done)))))))))))) (by kernel_rfl) (by kernel_rfl) (by kernel_rfl) trivial ?_
      intro hS0
      repeat (refine' wpPlan_take rfl (by rfl) (by assumption) ?_ ?_; rotate_left; (· (intro w hSw; (try dsimp only at hSw); go_simp; try with_reducible rfl)); try simp only [Act.put, List.setIfInBounds_toArray, List.set_cons_zero, List.set_cons_succ])
      refine wpPlan_one rfl (fun KT hKT => ?_)
      go_simp
      refine (all_c gs st _ hs5.drew).mono ?_; rintro e w6 ⟨a6, c6, rfl, h6, hb6⟩
      have E6 : Below w.heap.size w w6 := E5.drew.trans (hb6.mono E5.drew.size)
      refine hKT.out _ _ (trivial) (fun _ => ?_); clear hKT KT; try simp only [Act.put, List.setIfInBounds_toArray, List.set_cons_zero, List.set_cons_succ]
      repeat (refine' wpPlan_take rfl (by rfl) (by assumption) ?_ ?_; rotate_left; (· (intro w hSw; (try dsimp only at hSw); go_simp; try with_reducible rfl)); try simp only [Act.put, List.setIfInBounds_toArray, List.set_cons_zero, List.set_cons_succ])
      refine wpPlan_one rfl (fun KT hKT => ?_)
      go_simp
      refine (lrall_c C ct _ gr st _ (RS.out.below E6)).mono ?_; rintro e w7 ⟨a7, c7, rfl, h7, hb7⟩
      have E7 : Below w.heap.size w w7 := E6.trans (hb7.mono E6.size)
      have hlen := allTo_len st 64
      have v6 := (own_vrow h6).below hb7
      have v7 := own_vrow h7
      refine hKT.out _ _ (trivial) (fun _ => ?_); clear hKT KT; try simp only [Act.put, List.setIfInBounds_toArray, List.set_cons_zero, List.set_cons_succ]
      repeat (refine' wpPlan_take rfl (by rfl) (by assumption) ?_ ?_; rotate_left; (· (intro w hSw; (try dsimp only at hSw); go_simp; try with_reducible rfl)); try simp only [Act.put, List.setIfInBounds_toArray, List.set_cons_zero, List.set_cons_succ])
      refine wpPlan_one rfl (fun KT hKT => ?_)
      go_simp
      refine (same2_c a6 a7 _ _ c6 c7 (allTo st 64) (allTo st 64) _ v6 v7 rfl rfl (by omega) (by omega) true (by simp)).mono ?_; rintro e w8 ⟨rfl, hb8⟩
      have E8 := Lib.hid (E7.trans (hb8.mono E7.size))
      clear E5 E6 E7 hb5 hb6 hb7 hb8 v6 v7 h6 h7 hs5 hg5
      refine hKT.out _ _ (trivial) (fun _ => ?_); clear hKT KT; try simp only [Act.put, List.setIfInBounds_toArray, List.set_cons_zero, List.set_cons_succ]
      repeat (refine' wpPlan_take rfl (by rfl) (by assumption) ?_ ?_; rotate_left; (· (intro w hSw; (try dsimp only at hSw); go_simp; try with_reducible rfl)); try simp only [Act.put, List.setIfInBounds_toArray, List.set_cons_zero, List.set_cons_succ])
      refine wpPlan_done ?_
      go_wp2_with fail
      go_ret
      exact ⟨rfl, E8.out⟩
end Go.Proofs.Ytfhlcjfgbhmecaa
