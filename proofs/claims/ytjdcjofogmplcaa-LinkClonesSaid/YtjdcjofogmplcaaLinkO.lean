/- The law's act: a message repeated. -/
import Derived.Test.YtjdcjofogmplcaaLinkC
import Derived.Test.YtjdcjofogmplcaaPlan
import Derived.Deep.DeepCutAuto
import Derived.Deep.CutBlock
namespace Go.Proofs.Ytjdcjofogmplcaa
open Go.RowKit
set_option linter.unusedVariables false

set_option maxRecDepth 100000 in
set_option maxHeartbeats 3200000 in
/-- Dup. -/
theorem do_dup (w0 w : World) (q g p h : Nat) (room lost : Int) (L : List (List Int)) (d k t : Int) (R : Byt) (T : Two w0 w q g p h room lost L) (hr : 1 ≤ room ∧ room ≤ 256) (hx : I64 d) (hk : I64 k) (hl : L.length ≤ 256) (hd : d % 7 = 5) :
    Calls Try.prog 44 #[.pointer (some ⟨q, 0, none⟩), .pointer (some ⟨p, 0, none⟩), .agg #[.int .i64 d, .int .i64 k, .int .i64 t, .slice R.a R.xs.length R.c]] w (fun e w' => ∃ L', L'.length ≤ 256 ∧ DoPost w0 w q g p h room lost L' e w') := by
  obtain ⟨ti, hi0, hz0, hz1, hz2⟩ := info_parts info_b8
  obtain ⟨ms, hq, hms⟩ := T.que
  obtain ⟨ps, hpl, hps⟩ := T.pl
  have hpn : ps.length = L.length := by rw [← hps]; simp
  have hmn : ms.length = L.length := by rw [← hms]; simp
  obtain ⟨A, C, c0, c1, c2, hrow, hcap, hmax⟩ := hpl.row
  have n0 := hpl.lt
  obtain ⟨n1, n2, n3⟩ := que_pl_ne hq hpl
  rw [hpn] at c2 hrow hcap
  obtain ⟨n, hn⟩ : ∃ n, n = L.length := ⟨_, rfl⟩
  rw [← hn] at c2 hrow hcap hl hpn hmn
  have HT := Lib.hid T
  have HQ := Lib.hid hq
  have HP := Lib.hid hpl
  have HMS := Lib.hid hms
  have HPS := Lib.hid hps
  have HPN := Lib.hid hpn
  have HMN := Lib.hid hmn
  have HN := Lib.hid hn
  have HR := Lib.hid hrow
  have HK := Lib.hid hk
  have HD := Lib.hid hd
  clear T hpl hps hq hms hrow hmax hk hd hpn hmn hn
  go_enter Try.func44, Try.ntmps44
  go_upto_region 1 with fail
  obtain ⟨w1, hw1⟩ : ∃ w1, w1 = w.alloc (.cells #[.int .i64 d, .int .i64 k, .int .i64 t, .slice R.a R.xs.length R.c] 82) := ⟨_, rfl⟩
  obtain ⟨ga, hga⟩ : ∃ ga, ga = w.heap.size := ⟨_, rfl⟩
  rw [← hw1, ← hga]
  have hA : Blk w1 ga 82 #[.int .i64 d, .int .i64 k, .int .i64 t, .slice R.a R.xs.length R.c] := by rw [hw1, hga]; exact Blk.new _ _ _
  have hb1 : Below w.heap.size w w1 := by rw [hw1]; exact (Below.refl _ _).alloc (Nat.le_refl _) _
  have a0 := (hA.cell 0).trans (show _ = some (.int .i64 d) from rfl)
  have a1 := (hA.cell 1).trans (show _ = some (.int .i64 k) from rfl)
  have b0 := kept hb1 _ _ c0
  have b2 := kept hb1 _ _ c2
  have B1 := Lib.hid hb1
  have hgp : ga ≠ p := by rw [hga]; omega
  have HGA := Lib.hid hga
  clear hw1 hb1 c0 c1 c2 hA hga
  go_cut [7] (fun v wx => v = .bool (decide (0 ≤ k ∧ k < n)) ∧ ∃ j, wx = w1.drewN j)
  case first =>
    rcases (show (0 ≤ k ∧ k < n) ∨ k < 0 ∨ (0 ≤ k ∧ ¬ k < n) by omega) with h1 | h1 | h1
    · have e0 : decide (0 ≤ k) = true := decide_eq_true h1.1
      have e1 : decide (k < (n : Int)) = true := decide_eq_true h1.2
      have e2 : decide (0 ≤ k ∧ k < n) = true := decide_eq_true h1
      go_quiet (fail)
      go_wp2_with fail
      go_meet
      exact ⟨by rw [e2], _, rfl⟩
    · have e0 : decide (0 ≤ k) = false := decide_eq_false (by omega)
      have e2 : decide (0 ≤ k ∧ k < n) = false := decide_eq_false (by omega)
      go_quiet (fail)
      go_wp2_with fail
      go_meet
      exact ⟨by rw [e2], _, rfl⟩
    · have e0 : decide (0 ≤ k) = true := decide_eq_true h1.1
      have e1 : decide (k < (n : Int)) = false := decide_eq_false h1.2
      have e2 : decide (0 ≤ k ∧ k < n) = false := decide_eq_false (by omega)
      go_quiet (fail)
      go_wp2_with fail
      go_meet
      exact ⟨by rw [e2], _, rfl⟩
  case rest =>
    obtain ⟨rfl, j, rfl⟩ := hcut
    obtain ⟨w2, hw2⟩ : ∃ w2, w2 = w1.drewN j := ⟨_, rfl⟩
    rw [← hw2]
    have a0' : w2.cell? ⟨ga, 0, none⟩ = some (.int .i64 d) := by rw [hw2]; exact a0
    have a1' : w2.cell? ⟨ga, 1, none⟩ = some (.int .i64 k) := by rw [hw2]; exact a1
    have b0' : w2.cell? ⟨p, 0, none⟩ = some (.int .i64 room) := by rw [hw2]; exact b0
    have b2' : w2.cell? ⟨p, 2, none⟩ = some (.slice A n C) := by rw [hw2]; exact b2
    have B2 : Hid (Below w.heap.size w w2) := by rw [hw2]; exact Lib.hid (below_drewN B1.out j)
    clear hw2 a0 a1 b0 b2 B1
    by_cases hin : 0 ≤ k ∧ k < n
    · have e2 : decide (0 ≤ k ∧ k < n) = true := decide_eq_true hin
      rw [e2]
      obtain ⟨m, rfl⟩ := Int.eq_ofNat_of_zero_le hin.1
      have hmlt : m < n := by omega
      have i0 : (0 : Int) ≤ m := by omega
      have i1 : (m : Int) < n := by omega
      clear e2 hin
      go_wp2_with fail
      refine (within_q d 7 _ hx (by omega) (by omega)).mono ?_; rintro e w' ⟨x, rfl, hx5, _, _, rfl⟩
      obtain rfl : x = 5 := by rw [hx5.out, HD.out]
      clear hx5
      by_cases hroom : (n : Int) < room
      · have e3 : decide ((n : Int) < room) = true := decide_eq_true hroom
        go_upto_region 40 with fail
        go_quiet (fail)
        obtain ⟨w3, hw3⟩ : ∃ w3, w3 = w2.drewN nq := ⟨_, rfl⟩
        rw [← hw3]
        have a1 : w3.cell? ⟨ga, 1, none⟩ = some (.int .i64 m) := by rw [hw3]; exact a1'
        have b2 : w3.cell? ⟨p, 2, none⟩ = some (.slice A n C) := by rw [hw3]; exact b2'
        have B3 : Hid (Below w.heap.size w w3) := by rw [hw3]; exact Lib.hid (below_drewN B2.out _)
        clear hw3 a0' a1' b0' b2' B2
        have T3 := Lib.hid (HT.out.below B3.out)
        have Q3 := Lib.hid (HQ.out.below B3.out)
        have P3 := Lib.hid (HP.out.below B3.out)
        go_wp2_with fail
        refine (dup_ok q g room lost ms m _ Q3.out hr (by rw [HMN.out]; exact hmlt) (by rw [HMN.out]; exact hroom)).mono ?_; rintro e w4 ⟨g4, rfl, hq4, ho4, hg4⟩
        have O4 := Lib.hid ho4
        have Q4 := Lib.hid hq4
        have R4 := Lib.hid (two_que T3.out Q3.out P3.out hq4 ho4 hg4)
        have hga3 : ga ≠ q ∧ ga ≠ g := by
          have h5 := HQ.out.lt
          have h6 := HQ.out.glt
          have h7 := HGA.out
          omega
        have a4 : w4.cell? ⟨ga, 1, none⟩ = some (.int .i64 m) := ho4.cell_ a1 (by simp; exact hga3)
        have b4 : w4.cell? ⟨p, 2, none⟩ = some (.slice A n C) := ho4.cell_ b2 (by simp; exact ⟨n1, n2⟩)
        have G4 := Lib.hid hg4
        clear a1 b2 hq4 ho4 hg4 hga3
        obtain ⟨aa, cc, hpx, hpo, hph⟩ := R4.out.1.ex
        have haa : aa = A ∧ cc = C := by
          have e := hpx.cell 2
          rw [b4] at e
          have e2 : (Value.slice A n C) = .slice aa ps.length cc := by simpa using e
          injection e2 with x1 x2 x3
          exact ⟨x1.symm, x3.symm⟩
        obtain ⟨rfl, rfl⟩ := haa
        rw [HPN.out] at hpx hpo
        have HX := Lib.hid hpx
        have V4 := Lib.hid (own_vrow hpo)
        have hm' : m < ps.length := by rw [HPN.out]; exact hmlt
        have hold := HP.out.old _ (List.getElem_mem hm')
        obtain ⟨a', c', e', -⟩ := hold
        obtain ⟨b', off, rfl, hlt', hcell⟩ := V4.out.2 (by omega)
        have hbp : b' ≠ p := own_sep hpo hpx (by decide) _ rfl
        have r4 : w4.cell? ⟨b', off + m, none⟩ = some (.slice a' (ps[m].2.length) c') := by
          have := hcell m (ps[m].1) (by simp [hm'])
          rw [e'] at this
          exact this
        obtain ⟨y, hy⟩ : ∃ y, y = ps[m].2.length := ⟨_, rfl⟩
        rw [← hy] at r4 e'
        have E' := Lib.hid e'
        have h1 : ∀ u ∈ ps.map Prod.fst, u.oneCell' = true := by
          intro u hu
          obtain ⟨m, hm, rfl⟩ := List.mem_map.1 hu
          exact (HP.out.old m hm).one
        have HO := Lib.hid h1
        have f4 := hpx.frozen 2
        have lp := hpx.lt
        have la := lt_of_cell' a4
        have HM' := Lib.hid hm'
        clear hpx hpo hph hcell h1 hy
        have KS : ∀ w', Below w4.heap.size w4 w' → w'.cell? ⟨ga, 1, none⟩ = some (.int .i64 m) ∧ w'.cell? ⟨p, 2, none⟩ = some (.slice (some ⟨b', off, none⟩) n cc) ∧ w'.cell? ⟨b', off + m, none⟩ = some (.slice a' y c') ∧ Below w4.heap.size w4 w' := fun w' o => ⟨kept o _ _ a4, kept o _ _ b4, kept o _ _ r4, o⟩
        go_wp2_with fail
        refine wp_region_plan (fun w' => w'.cell? ⟨ga, 1, none⟩ = some (.int .i64 m) ∧ w'.cell? ⟨p, 2, none⟩ = some (.slice (some ⟨b', off, none⟩) n cc) ∧ w'.cell? ⟨b', off + m, none⟩ = some (.slice a' y c') ∧ Below w4.heap.size w4 w') 18 (.take 0 (.take 1 (.take 2 (.take 3 (.take 4 (.take 6 (.take 7 (.take 8 (.take 9 (.take 10 (.take 11 (.take 12 (.take 13 (.two 5 (.one 14 (.one 15 (.one 16 (.take 17 (.one 18 .done))))) 14 (.one 5 (.one 15 (.one 16 (.take 17 (.one 18 .done))))))))))))))))))) (by kernel_rfl) (by kernel_rfl) (by kernel_rfl) (KS _ ((Below.refl _ _).drew)) ?_
        intro hS0
        repeat (refine' wpPlan_take rfl (by rfl) (by assumption) ?_ ?_; rotate_left; (· (intro w hSw; (try dsimp only at hSw); go_simp; try with_reducible rfl)); try simp only [Act.put, List.setIfInBounds_toArray, List.set_cons_zero, List.set_cons_succ])
        have fin : ∀ a6 c6 w6, Below w4.heap.size w4 w6 → w6.ownsRow w4.heap.size 33 1 (.slice a6 (n + 1) c6) (n + 1) (ps.map Prod.fst ++ [.slice a' y c']) → ∃ h' L', L'.length ≤ 256 ∧ Two w0 (w6.setCell ⟨p, 2, none⟩ (.slice a6 (n + 1) c6)) q g4 p h' room lost L' ∧ Only [q, g, p] w (w6.setCell ⟨p, 2, none⟩ (.slice a6 (n + 1) c6)) ∧ (g4 = g ∨ w.heap.size ≤ g4) ∧ (h' = h ∨ h' = p ∨ w.heap.size ≤ h') := by
          intro a6 c6 w6 E6 h6
          obtain ⟨h7, k7, o7, f7⟩ := R4.out.1.next (w2 := w6) (a' := a6) (c' := c6) (ps' := ps ++ [ps[m]'HM'.out]) (n' := n + 1) (by have e := HPN.out; rw [List.length_append, List.length_cons, List.length_nil]; omega) (by rw [List.map_append, List.map_cons, E'.out]; exact h6) (fun x hx => by
            rcases List.mem_append.1 hx with hx | hx
            · exact HP.out.old x hx
            · simp only [List.mem_cons, List.not_mem_nil, or_false] at hx
              subst hx
              exact HP.out.old _ (List.getElem_mem _)) E6 R4.out.2.2.2.size
          refine ⟨h7, (ms ++ [ms[m]'(by rw [HMN.out]; exact hmlt)]).map Prod.snd, ?_, two_pl Q4.out rfl R4.out.1 k7 (by rw [List.map_append, List.map_append, HMS.out, HPS.out, List.map_cons, List.map_cons, nth_same HMS.out HPS.out m (by rw [HMN.out]; exact hmlt) HM'.out]) o7 f7 R4.out.2.2.2 T3.out.hq R4.out.2.2.1 T3.out.hp, (Only.of_below (S := [q, g, p]) B3.out).trans ((O4.out.mono (by simp)).trans (o7.mono (by simp))), ?_, ?_⟩
          · have e := HMN.out
            rw [List.length_map, List.length_append, List.length_cons, List.length_nil]
            omega
          · rcases G4.out with e | e
            · exact .inl e
            · exact .inr (Nat.le_trans B3.out.size e)
          · rcases f7 with e | e
            · exact .inr (.inl e)
            · exact .inr (.inr (Nat.le_trans B3.out.size (Nat.le_trans O4.out.size e)))
        have FIN := Lib.hid fin
        clear fin
        refine wpPlan_two ?_ ?_
        · refine wpPlan_one rfl (fun K hK => ?_)
          go_simp
          refine (copy_b8 _ n cc (ps.map Prod.fst) _ V4.out.drew HO.out (by omega)).mono ?_
          rintro e w5 ⟨a5, c5, rfl, h5, hb5⟩
          have E5 : Below w4.heap.size w4 w5 := ((Below.refl w4.heap.size w4).drew).trans hb5
          refine hK.out _ _ (KS _ E5) (fun _ => ?_); clear hK K; try simp only [Act.put, List.setIfInBounds_toArray, List.set_cons_zero, List.set_cons_succ]
          refine wpPlan_one rfl (fun K hK => ?_)
          go_simp
          refine hK.out _ _ (KS _ (E5.alloc E5.size _)) (fun _ => ?_); clear hK K; try simp only [Act.put, List.setIfInBounds_toArray, List.set_cons_zero, List.set_cons_succ]
          refine wpPlan_one rfl (fun K hK => ?_)
          refine step_app (by rfl) _ _ _ (by rfl) w4.heap.size 33 ti _ 1 24 Try.underlying77 hi0 hz0 hz1 hz2 rfl (by omega) a5 n c5 (ps.map Prod.fst) (by rfl) (own_below h5 ((Below.refl _ _).alloc (Nat.le_refl _) _)) _ 1 1 [.slice a' y c'] (by rfl) (own_one _ _ _) (by simp [Value.oneCell']) (by unfold maxLen; omega) (by omega) (E5.alloc E5.size _).size ?_
          intro a6 c6 w6 h6
          have E6 : Below w4.heap.size w4 w6 := h6.below (own_below h5 ((Below.refl _ _).alloc (Nat.le_refl _) _)) (E5.alloc E5.size _) (Nat.le_refl _) (E5.alloc E5.size _).size
          refine hK.out _ _ (KS _ E6) (fun _ => ?_); clear hK K; try simp only [Act.put, List.setIfInBounds_toArray, List.set_cons_zero, List.set_cons_succ]
          refine wpPlan_one rfl (fun K hK => ?_)
          go_simp
          refine hK.out _ _ (KS _ E6) (fun _ => ?_); clear hK K; try simp only [Act.put, List.setIfInBounds_toArray, List.set_cons_zero, List.set_cons_succ]
          repeat (refine' wpPlan_take rfl (by rfl) (by assumption) ?_ ?_; rotate_left; (· (intro w hSw; (try dsimp only at hSw); go_simp; try with_reducible rfl)); try simp only [Act.put, List.setIfInBounds_toArray, List.set_cons_zero, List.set_cons_succ])
          refine wpPlan_last rfl (fun K hK => ?_)
          have f6 := (HX.out.below E6 lp).frozen 2
          have y6 := kept E6 _ _ b4
          go_simp
          refine hK.out _ _ ?_; clear hK K; try simp only [Act.put, List.setIfInBounds_toArray, List.set_cons_zero, List.set_cons_succ]
          refine wpPlan_done ?_
          obtain ⟨h9, L9, H9, T9, O9, G9, F9⟩ := FIN.out a6 c6 w6 E6 h6.own
          obtain ⟨w9, hw9⟩ : ∃ w9, w9 = w6.setCell ⟨p, 2, none⟩ (.slice a6 (n + 1) c6) := ⟨_, rfl⟩
          rw [← hw9] at T9 O9 ⊢
          have HH := Lib.hid (And.intro T9 (And.intro O9 (And.intro G9 F9)))
          clear T9 O9 G9 F9 hw9 f6 y6 a4 b4 r4 f4
          obtain ⟨ms9, a9, c9, HQ9, l9, t1, t2⟩ := HH.out.1.tail
          obtain ⟨x9, hx9⟩ : ∃ x9, x9 = L9.length := ⟨_, rfl⟩
          rw [← hx9] at l9 t2
          clear hx9
          go_wp2_with fail
          go_quiet (first
            | (go_at_call 34; exact Calls.quiet_of_same ((lq_len_c q g4 room _ ms9 _ (HQ9.out.drewN _) x9 l9).mono fun _ _ e => ⟨e.1, e.2.symm⟩))
            | (go_at_call 35; exact Calls.quiet_of_same ((lq_lost_c q g4 room _ ms9 _ (HQ9.out.drewN _)).mono fun _ _ e => ⟨e.1, e.2.symm⟩)))
          go_wp2_with fail
          go_ret
          exact ⟨L9, H9, rfl, _, h9, HH.out.1.drewN _, HH.out.2.1.drewN _, HH.out.2.2.1, HH.out.2.2.2⟩
        · refine wpPlan_one rfl (fun K hK => ?_)
          go_simp
          refine hK.out _ _ (KS _ (((Below.refl w4.heap.size w4).drew).alloc (Nat.le_refl _) _)) (fun _ => ?_); clear hK K; try simp only [Act.put, List.setIfInBounds_toArray, List.set_cons_zero, List.set_cons_succ]
          refine wpPlan_one rfl (fun K hK => ?_)
          go_simp
          refine (copy_b8 _ n cc (ps.map Prod.fst) _ (V4.out.drew.below ((Below.refl _ _).alloc (Nat.le_refl _) _)) HO.out (by omega)).mono ?_
          rintro e w5 ⟨a5, c5, rfl, h5, hb5⟩
          have E5 : Below w4.heap.size w4 w5 := (((Below.refl w4.heap.size w4).drew).alloc (Nat.le_refl _) _).trans (hb5.mono (by simp))
          have h5' := own_base_le (base' := w4.heap.size) h5 (by simp)
          refine hK.out _ _ (KS _ E5) (fun _ => ?_); clear hK K; try simp only [Act.put, List.setIfInBounds_toArray, List.set_cons_zero, List.set_cons_succ]
          refine wpPlan_one rfl (fun K hK => ?_)
          refine step_app (by rfl) _ _ _ (by rfl) w4.heap.size 33 ti _ 1 24 Try.underlying77 hi0 hz0 hz1 hz2 rfl (by omega) a5 n c5 (ps.map Prod.fst) (by rfl) h5' _ 1 1 [.slice a' y c'] (by rfl) ((own_one w4.drew 33 _).below hb5) (by simp [Value.oneCell']) (by unfold maxLen; omega) (by omega) E5.size ?_
          intro a6 c6 w6 h6
          have E6 : Below w4.heap.size w4 w6 := h6.below h5' E5 (Nat.le_refl _) E5.size
          refine hK.out _ _ (KS _ E6) (fun _ => ?_); clear hK K; try simp only [Act.put, List.setIfInBounds_toArray, List.set_cons_zero, List.set_cons_succ]
          refine wpPlan_one rfl (fun K hK => ?_)
          go_simp
          refine hK.out _ _ (KS _ E6) (fun _ => ?_); clear hK K; try simp only [Act.put, List.setIfInBounds_toArray, List.set_cons_zero, List.set_cons_succ]
          repeat (refine' wpPlan_take rfl (by rfl) (by assumption) ?_ ?_; rotate_left; (· (intro w hSw; (try dsimp only at hSw); go_simp; try with_reducible rfl)); try simp only [Act.put, List.setIfInBounds_toArray, List.set_cons_zero, List.set_cons_succ])
          refine wpPlan_last rfl (fun K hK => ?_)
          have f6 := (HX.out.below E6 lp).frozen 2
          have y6 := kept E6 _ _ b4
          go_simp
          refine hK.out _ _ ?_; clear hK K; try simp only [Act.put, List.setIfInBounds_toArray, List.set_cons_zero, List.set_cons_succ]
          refine wpPlan_done ?_
          obtain ⟨h9, L9, H9, T9, O9, G9, F9⟩ := FIN.out a6 c6 w6 E6 h6.own
          obtain ⟨w9, hw9⟩ : ∃ w9, w9 = w6.setCell ⟨p, 2, none⟩ (.slice a6 (n + 1) c6) := ⟨_, rfl⟩
          rw [← hw9] at T9 O9 ⊢
          have HH := Lib.hid (And.intro T9 (And.intro O9 (And.intro G9 F9)))
          clear T9 O9 G9 F9 hw9 f6 y6 a4 b4 r4 f4
          obtain ⟨ms9, a9, c9, HQ9, l9, t1, t2⟩ := HH.out.1.tail
          obtain ⟨x9, hx9⟩ : ∃ x9, x9 = L9.length := ⟨_, rfl⟩
          rw [← hx9] at l9 t2
          clear hx9
          go_wp2_with fail
          go_quiet (first
            | (go_at_call 34; exact Calls.quiet_of_same ((lq_len_c q g4 room _ ms9 _ (HQ9.out.drewN _) x9 l9).mono fun _ _ e => ⟨e.1, e.2.symm⟩))
            | (go_at_call 35; exact Calls.quiet_of_same ((lq_lost_c q g4 room _ ms9 _ (HQ9.out.drewN _)).mono fun _ _ e => ⟨e.1, e.2.symm⟩)))
          go_wp2_with fail
          go_ret
          exact ⟨L9, H9, rfl, _, h9, HH.out.1.drewN _, HH.out.2.1.drewN _, HH.out.2.2.1, HH.out.2.2.2⟩
      · have e3 : decide ((n : Int) < room) = false := decide_eq_false hroom
        go_upto_region 40 with fail
        go_quiet (fail)
        obtain ⟨w3, hw3⟩ : ∃ w3, w3 = w2.drewN nq := ⟨_, rfl⟩
        rw [← hw3]
        have a1 : w3.cell? ⟨ga, 1, none⟩ = some (.int .i64 m) := by rw [hw3]; exact a1'
        have B3 : Hid (Below w.heap.size w w3) := by rw [hw3]; exact Lib.hid (below_drewN B2.out _)
        clear hw3 a0' a1' b0' b2' B2
        have T3 := Lib.hid (HT.out.below B3.out)
        have Q3 := Lib.hid (HQ.out.below B3.out)
        go_wp2_with fail
        refine (dup_no q g room lost ms m _ Q3.out hr HK.out (.inr (by rw [HMN.out]; omega))).mono ?_; rintro e w4 ⟨rfl, j4, hj4⟩
        have T4 := Lib.hid (show Two w0 w4 q g p h room lost L by rw [hj4]; exact T3.out.drewN j4)
        have B4 := Lib.hid (show Below w.heap.size w w4 by rw [hj4]; exact below_drewN B3.out j4)
        clear a1 hj4
        obtain ⟨L9, hL9⟩ : ∃ L9, L9 = L := ⟨_, rfl⟩
        have HL9 := Lib.hid hL9
        clear hL9
        have HH := Lib.hid (And.intro (show Two w0 w4 q g p h room lost L9 by rw [HL9.out]; exact T4.out) (Only.of_below (S := [q, g, p]) B4.out))
        obtain ⟨ms9, a9, c9, HQ9, l9, t1, t2⟩ := HH.out.1.tail
        obtain ⟨x9, hx9⟩ : ∃ x9, x9 = L9.length := ⟨_, rfl⟩
        rw [← hx9] at l9 t2
        clear hx9
        go_wp2_with fail
        go_quiet (first
          | (go_at_call 34; exact Calls.quiet_of_same ((lq_len_c q g room _ ms9 _ (HQ9.out.drewN _) x9 l9).mono fun _ _ e => ⟨e.1, e.2.symm⟩))
          | (go_at_call 35; exact Calls.quiet_of_same ((lq_lost_c q g room _ ms9 _ (HQ9.out.drewN _)).mono fun _ _ e => ⟨e.1, e.2.symm⟩)))
        go_wp2_with fail
        go_ret
        exact ⟨L9, by rw [HL9.out, ← HN.out]; exact hl, rfl, g, h, HH.out.1.drewN _, HH.out.2.drewN _, .inl rfl, .inl rfl⟩
    · have e2 : decide (0 ≤ k ∧ k < n) = false := decide_eq_false hin
      rw [e2]
      have HNI := Lib.hid hin
      clear e2 hin
      go_wp2_with fail
      refine (within_q d 7 _ hx (by omega) (by omega)).mono ?_; rintro e w' ⟨x, rfl, hx5, _, _, rfl⟩
      obtain rfl : x = 5 := by rw [hx5.out, HD.out]
      clear hx5
      go_upto_region 40 with fail
      go_quiet (fail)
      obtain ⟨w3, hw3⟩ : ∃ w3, w3 = w2.drewN nq := ⟨_, rfl⟩
      rw [← hw3]
      have a1 : w3.cell? ⟨ga, 1, none⟩ = some (.int .i64 k) := by rw [hw3]; exact a1'
      have B3 : Hid (Below w.heap.size w w3) := by rw [hw3]; exact Lib.hid (below_drewN B2.out _)
      clear hw3 a0' a1' b0' b2' B2
      have T3 := Lib.hid (HT.out.below B3.out)
      have Q3 := Lib.hid (HQ.out.below B3.out)
      go_wp2_with fail
      refine (dup_no q g room lost ms k _ Q3.out hr HK.out (.inl (by rw [HMN.out]; exact HNI.out))).mono ?_; rintro e w4 ⟨rfl, j4, hj4⟩
      have T4 := Lib.hid (show Two w0 w4 q g p h room lost L by rw [hj4]; exact T3.out.drewN j4)
      have B4 := Lib.hid (show Below w.heap.size w w4 by rw [hj4]; exact below_drewN B3.out j4)
      clear a1 hj4
      obtain ⟨L9, hL9⟩ : ∃ L9, L9 = L := ⟨_, rfl⟩
      have HL9 := Lib.hid hL9
      clear hL9
      have HH := Lib.hid (And.intro (show Two w0 w4 q g p h room lost L9 by rw [HL9.out]; exact T4.out) (Only.of_below (S := [q, g, p]) B4.out))
      obtain ⟨ms9, a9, c9, HQ9, l9, t1, t2⟩ := HH.out.1.tail
      obtain ⟨x9, hx9⟩ : ∃ x9, x9 = L9.length := ⟨_, rfl⟩
      rw [← hx9] at l9 t2
      clear hx9
      go_wp2_with fail
      go_quiet (first
        | (go_at_call 34; exact Calls.quiet_of_same ((lq_len_c q g room _ ms9 _ (HQ9.out.drewN _) x9 l9).mono fun _ _ e => ⟨e.1, e.2.symm⟩))
        | (go_at_call 35; exact Calls.quiet_of_same ((lq_lost_c q g room _ ms9 _ (HQ9.out.drewN _)).mono fun _ _ e => ⟨e.1, e.2.symm⟩)))
      go_wp2_with fail
      go_ret
      exact ⟨L9, by rw [HL9.out, ← HN.out]; exact hl, rfl, g, h, HH.out.1.drewN _, HH.out.2.drewN _, .inl rfl, .inl rfl⟩
end Go.Proofs.Ytjdcjofogmplcaa
