/- The law's act: a message pushed. -/
import Derived.Test.YtjdcjofogmplcaaLinkC2
import Derived.Deep.CutRange
import Derived.Test.YtjdcjofogmplcaaPlan
import Derived.Deep.DeepCutAuto
import Derived.Deep.CutBlock
namespace Go.Proofs.Ytjdcjofogmplcaa
open Go.RowKit
set_option linter.unusedVariables false

set_option maxRecDepth 100000 in
set_option maxHeartbeats 6400000 in
theorem do_push2 (w0 w : World) (q g p h : Nat) (room lost : Int) (L : List (List Int)) (d k t : Int) (R : Byt) (T : Two w0 w q g p h room lost L) (hr : 1 ≤ room ∧ room ≤ 256) (hx : I64 d) (hk : I64 k) (ht : I64 t) (hRi : R.Is w0) (hlo : 0 ≤ lost ∧ lost ≤ 1048500) (hl : L.length ≤ 256) (hd : d % 7 = 2) :
    Calls Try.prog 44 #[.pointer (some ⟨q, 0, none⟩), .pointer (some ⟨p, 0, none⟩), .agg #[.int .i64 d, .int .i64 k, .int .i64 t, .slice R.a R.xs.length R.c]] w (fun e w' => ∃ lost' L', L'.length ≤ 256 ∧ lost ≤ lost' ∧ lost' ≤ lost + 1 ∧ DoPost w0 w q g p h room lost' L' e w') := by
  obtain ⟨ti, hi0, hz0, hz1, hz2⟩ := info_parts info_b8
  obtain ⟨ms, hq, hms⟩ := T.que
  obtain ⟨ps, hpl, hps⟩ := T.pl
  have hpn : ps.length = L.length := by rw [← hps]; simp
  have hmn : ms.length = L.length := by rw [← hms]; simp
  obtain ⟨A, C, c0, c1, c2, hrow, hcap, hmax⟩ := hpl.row
  have n0 := hpl.lt
  obtain ⟨n1, n2, n3⟩ := que_pl_ne hq hpl
  rw [hpn] at c2 hrow hcap
  obtain ⟨n, hn⟩ : ∃ n, n = L.length := ⟨_, rfl⟩
  rw [← hn] at c2 hrow hcap hl hpn hmn
  have HT := Lib.hid T
  have HQ := Lib.hid hq
  have HP := Lib.hid hpl
  have HMS := Lib.hid hms
  have HPS := Lib.hid hps
  have HPN := Lib.hid hpn
  have HMN := Lib.hid hmn
  have HN := Lib.hid hn
  have HR := Lib.hid hrow
  have HK := Lib.hid hk
  have HT6 := Lib.hid ht
  have HD := Lib.hid hd
  have HRI := Lib.hid hRi
  obtain ⟨lo1, lo2⟩ := hlo
  clear hRi T hpl hps hq hms hrow hmax hk ht hd hpn hmn hn
  go_enter Try.func44, Try.ntmps44
  go_upto_region 1 with fail
  obtain ⟨w1, hw1⟩ : ∃ w1, w1 = w.alloc (.cells #[.int .i64 d, .int .i64 k, .int .i64 t, .slice R.a R.xs.length R.c] 82) := ⟨_, rfl⟩
  obtain ⟨ga, hga⟩ : ∃ ga, ga = w.heap.size := ⟨_, rfl⟩
  rw [← hw1, ← hga]
  have hA : Blk w1 ga 82 #[.int .i64 d, .int .i64 k, .int .i64 t, .slice R.a R.xs.length R.c] := by rw [hw1, hga]; exact Blk.new _ _ _
  have hb1 : Below w.heap.size w w1 := by rw [hw1]; exact (Below.refl _ _).alloc (Nat.le_refl _) _
  have a0 := (hA.cell 0).trans (show _ = some (.int .i64 d) from rfl)
  have a1 := (hA.cell 1).trans (show _ = some (.int .i64 k) from rfl)
  have a2 := (hA.cell 2).trans (show _ = some (.int .i64 t) from rfl)
  have a3 := (hA.cell 3).trans (show _ = some (.slice R.a R.xs.length R.c) from rfl)
  have b0 := kept hb1 _ _ c0
  have b1 := kept hb1 _ _ c1
  have b2 := kept hb1 _ _ c2
  have B1 := Lib.hid hb1
  have HA := Lib.hid hA
  have hgp : ga ≠ p := by rw [hga]; omega
  have HGA := Lib.hid hga
  clear hw1 hb1 c0 c1 c2 hA hga
  go_cut [7] (fun v wx => v = .bool (decide (0 ≤ k ∧ k < n)) ∧ ∃ j, wx = w1.drewN j)
  case first =>
    rcases (show (0 ≤ k ∧ k < n) ∨ k < 0 ∨ (0 ≤ k ∧ ¬ k < n) by omega) with h1 | h1 | h1
    · have e0 : decide (0 ≤ k) = true := decide_eq_true h1.1
      have e1 : decide (k < (n : Int)) = true := decide_eq_true h1.2
      have e2 : decide (0 ≤ k ∧ k < n) = true := decide_eq_true h1
      go_quiet (fail)
      go_wp2_with fail
      go_meet
      exact ⟨by rw [e2], _, rfl⟩
    · have e0 : decide (0 ≤ k) = false := decide_eq_false (by omega)
      have e2 : decide (0 ≤ k ∧ k < n) = false := decide_eq_false (by omega)
      go_quiet (fail)
      go_wp2_with fail
      go_meet
      exact ⟨by rw [e2], _, rfl⟩
    · have e0 : decide (0 ≤ k) = true := decide_eq_true h1.1
      have e1 : decide (k < (n : Int)) = false := decide_eq_false h1.2
      have e2 : decide (0 ≤ k ∧ k < n) = false := decide_eq_false (by omega)
      go_quiet (fail)
      go_wp2_with fail
      go_meet
      exact ⟨by rw [e2], _, rfl⟩
  case rest =>
    obtain ⟨rfl, j, rfl⟩ := hcut
    obtain ⟨w2, hw2⟩ : ∃ w2, w2 = w1.drewN j := ⟨_, rfl⟩
    rw [← hw2]
    have a0' : w2.cell? ⟨ga, 0, none⟩ = some (.int .i64 d) := by rw [hw2]; exact a0
    have a1' : w2.cell? ⟨ga, 1, none⟩ = some (.int .i64 k) := by rw [hw2]; exact a1
    have a2' : w2.cell? ⟨ga, 2, none⟩ = some (.int .i64 t) := by rw [hw2]; exact a2
    have a3' : w2.cell? ⟨ga, 3, none⟩ = some (.slice R.a R.xs.length R.c) := by rw [hw2]; exact a3
    have b0' : w2.cell? ⟨p, 0, none⟩ = some (.int .i64 room) := by rw [hw2]; exact b0
    have b1' : w2.cell? ⟨p, 1, none⟩ = some (.int .i64 lost) := by rw [hw2]; exact b1
    have b2' : w2.cell? ⟨p, 2, none⟩ = some (.slice A n C) := by rw [hw2]; exact b2
    have B2 : Hid (Below w.heap.size w w2) := by rw [hw2]; exact Lib.hid (below_drewN B1.out j)
    have A2 : Hid (Blk w2 ga 82 #[.int .i64 d, .int .i64 k, .int .i64 t, .slice R.a R.xs.length R.c]) := by rw [hw2]; exact Lib.hid (HA.out.drewN j)
    clear hw2 a0 a1 a2 a3 b0 b1 b2 B1 HA
    obtain ⟨bs, hbs⟩ : ∃ bs, bs = R.xs.take 50 := ⟨_, rfl⟩
    have hb50 : bs.length ≤ 50 := by rw [hbs]; simp; omega
    have hblen : bs.length = min 50 R.xs.length := by rw [hbs]; simp
    have HBS := Lib.hid hbs
    have HBL := Lib.hid hblen
    have HVR : Hid (VRow w0 R.a bs.length 1 (brow bs)) := Lib.hid (by
      have := HRI.out.row.take (k := bs.length) (by rw [hblen]; exact Nat.min_le_right _ _)
      have e : (R.xs.map (Value.int .u8)).take (bs.length * 1) = brow bs := by
        rw [Nat.mul_one, ← List.map_take, brow]
        congr 1
        rw [hblen, HBS.out]
        rcases Nat.le_total 50 R.xs.length with h | h
        · rw [Nat.min_eq_left h]
        · rw [Nat.min_eq_right h, List.take_of_length_le (Nat.le_refl _), List.take_of_length_le h]
      rwa [e] at this)
    have hcapR := HRI.out.cap
    have hcapM := HRI.out.max
    have hs50 := to_any (P := Try.prog) 33 5 1 Try.underlying33 (by kernel_rfl) size_u8
    have HS50 := Lib.hid hs50
    clear hbs hs50 hblen
    go_wp2_with fail
    refine (within_q d 7 _ hx (by omega) (by omega)).mono ?_; rintro e w' ⟨x, rfl, hx5, _, _, rfl⟩
    obtain rfl : x = 2 := by rw [hx5.out, HD.out]
    clear hx5
    go_upto_if 110 with fail
    go_cut [] from 111 to 114 (fun wx => ∃ c', bs.length ≤ c' ∧ c' ≤ maxLen ∧ wx.cell? ⟨ga, 3, none⟩ = some (.slice R.a bs.length c') ∧ wx.cell? ⟨p, 0, none⟩ = some (.int .i64 room) ∧ wx.cell? ⟨p, 1, none⟩ = some (.int .i64 lost) ∧ wx.cell? ⟨p, 2, none⟩ = some (.slice A n C) ∧ Below w.heap.size w wx)
    case first =>
      by_cases h5 : 50 < R.xs.length
      · have bl : bs.length = 50 := by have hblen := HBL.out; omega
        have BL := Lib.hid bl
        clear bl
        have s50 : ∀ w : World, (Instr.slice 33 (.slice R.a R.xs.length R.c) none (some (.int .i64 50)) none).run Try.prog w = .ok (.slice R.a 50 R.c) w := fun w => HS50.out R.a R.xs.length R.c 50 (by omega) hcapR w
        have f3 := A2.out.frozen 3
        have i5 : (50 : Int) < R.xs.length := by omega
        have gw : w.heap.size ≤ ga := Nat.le_of_eq HGA.out.symm
        go_wp2_with fail
        go_meet
        refine ⟨R.c, by rw [BL.out]; omega, hcapM, ?_, far_cell b0' hgp.symm, far_cell b1' hgp.symm, far_cell b2' hgp.symm, ((Only.refl [ga] w2).setCell (.inl (by simp)) _).below B2.out B2.out.size (by simpa using gw)⟩
        rw [BL.out]
        exact (A2.out.set_ 3 _).cell 3
      · have bl : bs.length = R.xs.length := by have hblen := HBL.out; omega
        have BL := Lib.hid bl
        clear bl
        have i5 : ¬ (50 : Int) < R.xs.length := by omega
        go_wp2_with fail
        go_meet
        exact ⟨R.c, by rw [BL.out]; exact hcapR, hcapM, by rw [BL.out]; exact a3', b0', b1', b2', B2.out⟩
    case rest =>
      obtain ⟨c', hc1, hc2, a3, b0, b1, b2, hb3⟩ := hcut
      obtain ⟨w3, hw3⟩ : ∃ w3, w3 = wc := ⟨_, rfl⟩
      have B3 : Hid (Below w.heap.size w w3) := by rw [hw3]; exact Lib.hid hb3
      rw [← hw3] at a3 b0 b1 b2 ⊢
      clear hw3 hb3 a0' a1' a2' a3' b0' b1' b2' A2 B2
      have W03 := Lib.hid (HT.out.b.trans (B3.out.mono HT.out.b.size))
      go_wp2_with fail
      refine (copy_u8 R.a bs.length c' bs _ (HVR.out.below W03.out) (by omega)).mono ?_
      rintro e w4 ⟨a5, c5, rfl, h5, hb4⟩
      have B4 := Lib.hid hb4
      have OWN4 := Lib.hid h5
      have a4 := kept hb4 _ _ a3
      have d0 := kept hb4 _ _ b0
      have d1 := kept hb4 _ _ b1
      have d2 := kept hb4 _ _ b2
      clear a3 b0 b1 b2 hb4 h5
      by_cases hroom : (n : Int) < room
      · have e3 : decide ((n : Int) < room) = true := decide_eq_true hroom
        go_upto_region 16 with fail
        go_quiet (fail)
        obtain ⟨w5, hw5⟩ : ∃ w5, w5 = w4.drewN nq := ⟨_, rfl⟩
        rw [← hw5]
        have a6 : w5.cell? ⟨ga, 3, none⟩ = some (.slice R.a bs.length c') := by rw [hw5]; exact a4
        have b5 : w5.cell? ⟨p, 2, none⟩ = some (.slice A n C) := by rw [hw5]; exact d2
        have B5 : Hid (Below w.heap.size w w5) := by rw [hw5]; exact Lib.hid (below_drewN (B3.out.trans (B4.out.mono B3.out.size)) _)
        have OWN5 : Hid (w5.ownsRow w3.heap.size 5 1 (.slice a5 bs.length c5) bs.length (brow bs)) := by rw [hw5]; exact Lib.hid (own_only (S := []) OWN4.out ((Only.refl _ _).drewN _) (by simp))
        clear hw5 a4 d0 d1 d2 OWN4 B4
        have T5 := Lib.hid (HT.out.below B5.out)
        have Q5 := Lib.hid (HQ.out.below B5.out)
        have P5 := Lib.hid (HP.out.below B5.out)
        obtain ⟨aa, cc, hpx, hpo, hph⟩ := P5.out.ex
        have haa : aa = A ∧ cc = C := by
          have e := hpx.cell 2
          rw [b5] at e
          have e2 : (Value.slice A n C) = .slice aa ps.length cc := by simpa using e
          injection e2 with x1 x2 x3
          exact ⟨x1.symm, x3.symm⟩
        obtain ⟨rfl, rfl⟩ := haa
        rw [HPN.out] at hpx hpo
        have HX := Lib.hid hpx
        have V5 := Lib.hid (own_vrow hpo)
        have h1 : ∀ u ∈ ps.map Prod.fst, u.oneCell' = true := by
          intro u hu
          obtain ⟨m, hm, rfl⟩ := List.mem_map.1 hu
          exact (HP.out.old m hm).one
        have HO := Lib.hid h1
        have lp := hpx.lt
        clear hpx hpo hph h1
        have KS : ∀ w', Below w5.heap.size w5 w' → w'.cell? ⟨ga, 3, none⟩ = some (.slice R.a bs.length c') ∧ w'.cell? ⟨p, 2, none⟩ = some (.slice aa n cc) ∧ Below w5.heap.size w5 w' := fun w' o => ⟨kept o _ _ a6, kept o _ _ b5, o⟩
        have hold : Hid (Old w0 (.slice R.a bs.length c', bs)) := Lib.hid ⟨R.a, c', rfl, hc1, hc2, HVR.out, hb50⟩
        have fin : ∀ a6 c6 w6, Below w5.heap.size w5 w6 → w6.ownsRow w5.heap.size 33 1 (.slice a6 (n + 1) c6) (n + 1) (ps.map Prod.fst ++ [.slice R.a bs.length c']) → ∃ h', Pl w0 (w6.setCell ⟨p, 2, none⟩ (.slice a6 (n + 1) c6)) p h' room lost (ps ++ [(.slice R.a bs.length c', bs)]) ∧ Only [p] w5 (w6.setCell ⟨p, 2, none⟩ (.slice a6 (n + 1) c6)) ∧ (h' = p ∨ w5.heap.size ≤ h') := by
          intro a6 c6 w6 E6 h6
          exact P5.out.next (w2 := w6) (a' := a6) (c' := c6) (ps' := ps ++ [(.slice R.a bs.length c', bs)]) (n' := n + 1) (by have e := HPN.out; rw [List.length_append, List.length_cons, List.length_nil]; omega) (by rw [List.map_append]; exact h6) (fun x hx => by
            rcases List.mem_append.1 hx with hx | hx
            · exact HP.out.old x hx
            · simp only [List.mem_cons, List.not_mem_nil, or_false] at hx
              subst hx
              exact hold.out) E6 T5.out.b.size
        have FIN := Lib.hid fin
        clear fin
        go_upto_if 128 with fail
        go_cut [] from 129 to 147 (fun wx => ∃ h', Pl w0 wx p h' room lost (ps ++ [(.slice R.a bs.length c', bs)]) ∧ Only [p] w5 wx ∧ (h' = p ∨ w5.heap.size ≤ h'))
        case first =>
          go_upto_region 18 with fail
          refine wp_region_plan (fun w' => w'.cell? ⟨ga, 3, none⟩ = some (.slice R.a bs.length c') ∧ w'.cell? ⟨p, 2, none⟩ = some (.slice aa n cc) ∧ Below w5.heap.size w5 w') 12 (.take 0 (.take 1 (.take 2 (.take 3 (.take 4 (.take 6 (.take 7 (.two 5 (.one 8 (.one 9 (.one 10 (.take 11 (.one 12 .done))))) 8 (.one 5 (.one 9 (.one 10 (.take 11 (.one 12 .done))))))))))))) (by kernel_rfl) (by kernel_rfl) (by kernel_rfl) (KS _ ((Below.refl _ _).drew)) ?_
          intro hS0
          repeat (refine' wpPlan_take rfl (by rfl) (by assumption) ?_ ?_; rotate_left; (· (intro w hSw; (try dsimp only at hSw); go_simp; try with_reducible rfl)); try simp only [Act.put, List.setIfInBounds_toArray, List.set_cons_zero, List.set_cons_succ])
          refine wpPlan_two ?_ ?_
          · refine wpPlan_one rfl (fun K hK => ?_)
            go_simp
            refine (copy_b8 _ n cc (ps.map Prod.fst) _ V5.out.drew HO.out (by omega)).mono ?_
            rintro e w6 ⟨a8, c8, rfl, h6, hb6⟩
            have E6 : Below w5.heap.size w5 w6 := ((Below.refl w5.heap.size w5).drew).trans hb6
            refine hK.out _ _ (KS _ E6) (fun _ => ?_); clear hK K; try simp only [Act.put, List.setIfInBounds_toArray, List.set_cons_zero, List.set_cons_succ]
            refine wpPlan_one rfl (fun K hK => ?_)
            go_simp
            have E6' := E6.alloc E6.size (.cells #[.slice R.a bs.length c'] 33)
            have h6' := own_below h6 ((Below.refl w6.heap.size w6).alloc (Nat.le_refl _) (.cells #[.slice R.a bs.length c'] 33))
            refine hK.out _ _ (KS _ E6') (fun _ => ?_); clear hK K; try simp only [Act.put, List.setIfInBounds_toArray, List.set_cons_zero, List.set_cons_succ]
            refine wpPlan_one rfl (fun K hK => ?_)
            refine step_app (by rfl) _ _ _ (by rfl) w5.heap.size 33 ti _ 1 24 Try.underlying77 hi0 hz0 hz1 hz2 rfl (by omega) a8 n c8 (ps.map Prod.fst) (by rfl) h6' _ 1 1 [.slice R.a bs.length c'] (by rfl) (own_one _ _ _) (by simp [Value.oneCell']) (by unfold maxLen; omega) (by omega) E6'.size ?_
            intro a9 c9 w7 h7
            have E7 : Below w5.heap.size w5 w7 := h7.below h6' E6' (Nat.le_refl _) E6'.size
            refine hK.out _ _ (KS _ E7) (fun _ => ?_); clear hK K; try simp only [Act.put, List.setIfInBounds_toArray, List.set_cons_zero, List.set_cons_succ]
            refine wpPlan_one rfl (fun K hK => ?_)
            go_simp
            refine hK.out _ _ (KS _ E7) (fun _ => ?_); clear hK K; try simp only [Act.put, List.setIfInBounds_toArray, List.set_cons_zero, List.set_cons_succ]
            repeat (refine' wpPlan_take rfl (by rfl) (by assumption) ?_ ?_; rotate_left; (· (intro w hSw; (try dsimp only at hSw); go_simp; try with_reducible rfl)); try simp only [Act.put, List.setIfInBounds_toArray, List.set_cons_zero, List.set_cons_succ])
            refine wpPlan_last rfl (fun K hK => ?_)
            have f6 := (HX.out.below E7 lp).frozen 2
            have y6 := kept E7 _ _ b5
            go_simp
            refine hK.out _ _ ?_; clear hK K; try simp only [Act.put, List.setIfInBounds_toArray, List.set_cons_zero, List.set_cons_succ]
            refine wpPlan_done ?_
            go_wp2_with fail
            go_meet
            exact FIN.out a9 c9 w7 E7 h7.own
          · refine wpPlan_one rfl (fun K hK => ?_)
            go_simp
            refine hK.out _ _ (KS _ (((Below.refl w5.heap.size w5).drew).alloc (Nat.le_refl _) _)) (fun _ => ?_); clear hK K; try simp only [Act.put, List.setIfInBounds_toArray, List.set_cons_zero, List.set_cons_succ]
            refine wpPlan_one rfl (fun K hK => ?_)
            go_simp
            refine (copy_b8 _ n cc (ps.map Prod.fst) _ (V5.out.drew.below ((Below.refl _ _).alloc (Nat.le_refl _) _)) HO.out (by omega)).mono ?_
            rintro e w6 ⟨a8, c8, rfl, h6, hb6⟩
            have E6 : Below w5.heap.size w5 w6 := (((Below.refl w5.heap.size w5).drew).alloc (Nat.le_refl _) _).trans (hb6.mono (by simp))
            have h6' := own_base_le (base' := w5.heap.size) h6 (by simp)
            refine hK.out _ _ (KS _ E6) (fun _ => ?_); clear hK K; try simp only [Act.put, List.setIfInBounds_toArray, List.set_cons_zero, List.set_cons_succ]
            refine wpPlan_one rfl (fun K hK => ?_)
            refine step_app (by rfl) _ _ _ (by rfl) w5.heap.size 33 ti _ 1 24 Try.underlying77 hi0 hz0 hz1 hz2 rfl (by omega) a8 n c8 (ps.map Prod.fst) (by rfl) h6' _ 1 1 [.slice R.a bs.length c'] (by rfl) ((own_one w5.drew 33 _).below hb6) (by simp [Value.oneCell']) (by unfold maxLen; omega) (by omega) E6.size ?_
            intro a9 c9 w7 h7
            have E7 : Below w5.heap.size w5 w7 := h7.below h6' E6 (Nat.le_refl _) E6.size
            refine hK.out _ _ (KS _ E7) (fun _ => ?_); clear hK K; try simp only [Act.put, List.setIfInBounds_toArray, List.set_cons_zero, List.set_cons_succ]
            refine wpPlan_one rfl (fun K hK => ?_)
            go_simp
            refine hK.out _ _ (KS _ E7) (fun _ => ?_); clear hK K; try simp only [Act.put, List.setIfInBounds_toArray, List.set_cons_zero, List.set_cons_succ]
            repeat (refine' wpPlan_take rfl (by rfl) (by assumption) ?_ ?_; rotate_left; (· (intro w hSw; (try dsimp only at hSw); go_simp; try with_reducible rfl)); try simp only [Act.put, List.setIfInBounds_toArray, List.set_cons_zero, List.set_cons_succ])
            refine wpPlan_last rfl (fun K hK => ?_)
            have f6 := (HX.out.below E7 lp).frozen 2
            have y6 := kept E7 _ _ b5
            go_simp
            refine hK.out _ _ ?_; clear hK K; try simp only [Act.put, List.setIfInBounds_toArray, List.set_cons_zero, List.set_cons_succ]
            refine wpPlan_done ?_
            go_wp2_with fail
            go_meet
            exact FIN.out a9 c9 w7 E7 h7.own
        case rest =>
          obtain ⟨h6, hP6, hO6, hh6⟩ := hcut
          obtain ⟨w6, hw6⟩ : ∃ w6, w6 = wc := ⟨_, rfl⟩
          rw [← hw6] at hP6 hO6 ⊢
          have P6 := Lib.hid hP6
          have O6 := Lib.hid hO6
          have H6 := Lib.hid hh6
          have Q6 := Lib.hid (Q5.out.only hO6 (by simp; exact n1.symm) (by simp; exact n2.symm) (fun k hk cs hb => by
            simp only [List.mem_cons, List.not_mem_nil, or_false] at hk
            subst hk
            exact Blk.ne_ HX.out hb (by decide) rfl))
          have kp : ∀ b, a5.map (·.block) = some b → b ≠ p := fun b hb e => own_blk_ne OWN5.out HX.out (by decide) (by rw [own_block_eq, hb, e])
          have OWN6 := Lib.hid (own_only OWN5.out hO6 (fun b hb => by rw [own_block_eq] at hb; simpa using kp b hb))
          clear hw6 hP6 hO6 hh6 KS a6 b5 kp
          go_wp2_with fail
          refine (push_ok q g room lost ms a5 bs.length c5 bs _ Q6.out hr (own_vrow OWN6.out) (by omega) (by rw [HMN.out]; exact hroom)).mono ?_
          rintro e w7 ⟨g7, v7, rfl, hq7, ho7, hg7, htx7⟩
          have kq : ∀ b, a5.map (·.block) = some b → w3.heap.size ≤ b ∧ b < w5.heap.size := fun b hb => World.ownsRow.lt OWN5.out b (by rw [own_block_eq, hb])
          have h5 := HQ.out.lt
          have h6' := HQ.out.glt
          have h8 := B3.out.size
          have h9 := O6.out.size
          have OWN7 := Lib.hid (own_only OWN6.out ho7 (fun b hb => by
            rw [own_block_eq] at hb
            have := kq b hb
            simp
            omega))
          have P7 := Lib.hid (P6.out.only ho7 (by simp; exact ⟨n1, n2⟩) (by
            rcases H6.out with e | e
            · rw [e]; simp; exact ⟨n1, n2⟩
            · have := B5.out.size
              simp
              omega))
          have Q7 := Lib.hid hq7
          have O7 := Lib.hid ho7
          have G7 := Lib.hid hg7
          have TX7 := Lib.hid htx7
          have KQ := Lib.hid kq
          clear hq7 ho7 hg7 htx7 kq h5 h6' h8 h9
          go_wp2_with fail
          go_loopw [155] (fun i wr => ∃ j : Nat, j ≤ bs.length ∧ i = .int .i64 j ∧ Only (a5.map (·.block)).toList w7 wr ∧ ∃ us : List Int, wr.ownsRow w3.heap.size 5 1 (.slice a5 bs.length c5) bs.length (brow us)) (fun i _ => bs.length - (intOf i).toNat)
          case atStart => exact ⟨0, by omega, rfl, Only.refl _ _, bs, OWN7.out⟩
          case round =>
            obtain ⟨j, hj, rfl, hb, us, ho⟩ := hrel
            by_cases hlt : j < bs.length
            · have hul : us.length = bs.length := by have := ho.1; simpa [brow] using this
              obtain ⟨gb, rfl⟩ : ∃ gb, a5 = some ⟨gb, 0, none⟩ := by
                rcases own_addr ho with ⟨_, h0, _⟩ | h0
                · omega
                · exact h0
              have q1 : wr.cell? ⟨gb, j, none⟩ = some (.int .u8 (us[j]'(by omega))) := by
                rw [World.ownsRow.cellAt ho j (by omega)]
                simp [brow, hul, hlt]
              have q2 : wr.frozen? ⟨gb, j, none⟩ = false := World.ownsRow.frozenAt ho j
              obtain ⟨y, hy⟩ : ∃ y, y = us[j]'(by omega) := ⟨_, rfl⟩
              rw [← hy] at q1
              clear hy
              have i7 : (0 : Int) ≤ j := by omega
              have i8 : (j : Int) < bs.length := by omega
              have hgb : w3.heap.size ≤ gb := (World.ownsRow.lt ho gb rfl).1
              have OO := Lib.hid ho
              have HB := Lib.hid hb
              clear ho hb
              go_wp2_with fail
              go_roundw
              case rel => exact ⟨j + 1, by omega, by go_num, HB.out.setCell (.inl (by simp)) _, us.set j ((y + 1) % 256), by
                have := (World.ownsRow.stored OO.out j (.int .u8 ((y + 1) % 256))).1
                rw [brow, ← List.map_set] at this
                exact this⟩
              case measure => simp [intOf]; omega
            · clear OWN7
              have hpt : ∀ b, b ∈ (a5.map (·.block)).toList → w3.heap.size ≤ b ∧ b < w5.heap.size := fun b hb => KQ.out b (Option.mem_toList.1 hb)
              have Q9 := Q7.out.far8 hb (fun hm => by have := hpt _ hm; have := HQ.out.lt; have := B3.out.size; omega) (fun hm => by
                have h1 := hpt _ hm
                have h2 := HQ.out.glt
                have h3 := B3.out.size
                have h4 := O6.out.size
                rcases G7.out with e | e
                · omega
                · omega) (fun x hx b hb hm => by
                have h1 := hpt _ hm
                rcases List.mem_append.1 hx with hx | hx
                · have h2 := (HQ.out.tx x hx).1.lt b hb
                  have h3 := B3.out.size
                  omega
                · simp only [List.mem_cons, List.not_mem_nil, or_false] at hx
                  subst hx
                  have h2 := TX7.out.lt b hb
                  have h4 := O6.out.size
                  omega)
              have P9 := P7.out.only hb (fun hm => by have := hpt _ hm; have := HP.out.lt; have := B3.out.size; omega) (fun hm => by
                have h1 := hpt _ hm
                rcases H6.out with e | e
                · have := HP.out.lt; have := B3.out.size; omega
                · omega)
              have o9 : Only [q, g, p] w wr := ((Only.of_below (S := [q, g, p]) B5.out).trans ((O6.out.mono (by simp)).trans (O7.out.mono (by simp)))).then hb (fun b hm => .inr (Nat.le_trans B3.out.size (hpt b hm).1))
              have bsz := HT.out.b.size
              have g9 : g7 = g ∨ w.heap.size ≤ g7 := by
                rcases G7.out with e | e
                · exact .inl e
                · exact .inr (Nat.le_trans B5.out.size (Nat.le_trans O6.out.size e))
              have f9 : h6 = p ∨ w.heap.size ≤ h6 := by
                rcases H6.out with e | e
                · exact .inl e
                · exact .inr (Nat.le_trans B5.out.size e)
              have hne : g7 ≠ h6 := by
                have h1 := P6.out.hlt
                have h2 := HQ.out.glt
                have h3 := B5.out.size
                rcases H6.out with e | e
                · rw [e]
                  rcases G7.out with e2 | e2
                  · rw [e2]; exact n2.symm
                  · have := HP.out.lt; have := O6.out.size; omega
                · rcases G7.out with e2 | e2
                  · omega
                  · omega
              have g10 : w0.heap.size ≤ g7 := by
                rcases g9 with e | e
                · rw [e]; exact HT.out.hg
                · omega
              have f10 : w0.heap.size ≤ h6 := by
                rcases f9 with e | e
                · rw [e]; exact HT.out.hp
                · omega
              obtain ⟨L9, hL9⟩ : ∃ L9, L9 = L ++ [bs] := ⟨_, rfl⟩
              have HL9 := Lib.hid hL9
              have HH := Lib.hid (And.intro (show Two w0 wr q g7 p h6 room lost L9 from ⟨⟨_, Q9, by rw [List.map_append, HMS.out, hL9]; rfl⟩, ⟨_, P9, by rw [List.map_append, HPS.out, hL9]; rfl⟩, hne, o9.below HT.out.b HT.out.b.size (by simp; exact ⟨HT.out.hq, HT.out.hg, HT.out.hp⟩), HT.out.hq, g10, HT.out.hp, f10⟩) (And.intro o9 (And.intro g9 f9)))
              clear hL9 Q9 P9 o9 g9 f9 hne hb bsz hpt
              obtain ⟨ms9, a9, c9, HQ9, l9, t1, t2⟩ := HH.out.1.tail
              obtain ⟨x9, hx9⟩ : ∃ x9, x9 = L9.length := ⟨_, rfl⟩
              rw [← hx9] at l9 t2
              clear hx9
              go_wp2_with fail
              go_quiet (first
                | (go_at_call 34; exact Calls.quiet_of_same ((lq_len_c q g7 room _ ms9 _ (HQ9.out.drewN _) x9 l9).mono fun _ _ e => ⟨e.1, e.2.symm⟩))
                | (go_at_call 35; exact Calls.quiet_of_same ((lq_lost_c q g7 room _ ms9 _ (HQ9.out.drewN _)).mono fun _ _ e => ⟨e.1, e.2.symm⟩)))
              go_wp2_with fail
              go_ret
              exact ⟨lost, L9, by rw [HL9.out, List.length_append, ← HN.out, List.length_cons, List.length_nil]; omega, Int.le_refl _, by omega, rfl, _, h6, HH.out.1.drewN _, HH.out.2.1.drewN _, HH.out.2.2.1, .inr HH.out.2.2.2⟩
      · have e3 : decide ((n : Int) < room) = false := decide_eq_false hroom
        go_upto_region 16 with fail
        go_quiet (fail)
        obtain ⟨w5, hw5⟩ : ∃ w5, w5 = w4.drewN nq := ⟨_, rfl⟩
        rw [← hw5]
        have b5 : w5.cell? ⟨p, 1, none⟩ = some (.int .i64 lost) := by rw [hw5]; exact d1
        have B5 : Hid (Below w.heap.size w w5) := by rw [hw5]; exact Lib.hid (below_drewN (B3.out.trans (B4.out.mono B3.out.size)) _)
        have OWN5 : Hid (w5.ownsRow w3.heap.size 5 1 (.slice a5 bs.length c5) bs.length (brow bs)) := by rw [hw5]; exact Lib.hid (own_only (S := []) OWN4.out ((Only.refl _ _).drewN _) (by simp))
        clear hw5 a4 d0 d1 d2 OWN4 B4
        have Q5 := Lib.hid (HQ.out.below B5.out)
        have P5 := Lib.hid (HP.out.below B5.out)
        obtain ⟨aa, cc, hpx, hpo, hph⟩ := P5.out.ex
        have HX := Lib.hid hpx
        have f5 := hpx.frozen 1
        have Q6 : Hid (∀ x, Que (w5.setCell ⟨p, 1, none⟩ x) q g room lost ms) := Lib.hid fun x => Q5.out.only (S := [p]) ((Only.refl _ _).setCell (.inl (by simp)) _) (by simp; exact n1.symm) (by simp; exact n2.symm) (fun k hk cs hb => by
          simp only [List.mem_cons, List.not_mem_nil, or_false] at hk
          subst hk
          exact Blk.ne_ HX.out hb (by decide) rfl)
        have kp : ∀ b, a5.map (·.block) = some b → b ≠ p := fun b hb e => own_blk_ne OWN5.out HX.out (by decide) (by rw [own_block_eq, hb, e])
        have KP := Lib.hid kp
        clear hpx hpo hph kp
        go_wp2_with fail
        refine (push_no q g room lost ms a5 bs.length c5 _ (Q6.out _) hr ⟨lo1, by omega⟩ (by omega) (.inl (by rw [HMN.out]; omega))).mono ?_
        rintro e w7 ⟨rfl, hq7, ho7⟩
        have kq : ∀ b, a5.map (·.block) = some b → w3.heap.size ≤ b ∧ b < w5.heap.size := fun b hb => World.ownsRow.lt OWN5.out b (by rw [own_block_eq, hb])
        have o6 : Only [p] w5 (w5.setCell ⟨p, 1, none⟩ (.int .i64 (lost + 1))) := (Only.refl _ _).setCell (.inl (by simp)) _
        have OWN7 := Lib.hid (own_only (own_only OWN5.out o6 (fun b hb => by rw [own_block_eq] at hb; simpa using KP.out b hb)) ho7 (fun b hb => by
          rw [own_block_eq] at hb
          have := kq b hb
          have h5 := HQ.out.lt
          have h6' := HQ.out.glt
          have h8 := B3.out.size
          simp
          omega))
        have P7 := Lib.hid ((P5.out.lose (lost + 1)).only ho7 (by simp; exact ⟨n1, n2⟩) (by simp; exact ⟨n3, HT.out.gh.symm⟩))
        have Q7 := Lib.hid hq7
        have O7 : Hid (Only [q, g, p] w5 w7) := Lib.hid ((o6.mono (by simp)).trans (ho7.mono (by simp)))
        have KQ := Lib.hid kq
        clear hq7 ho7 kq b5 f5 o6 KP Q6
        go_wp2_with fail
        go_loopw [155] (fun i wr => ∃ j : Nat, j ≤ bs.length ∧ i = .int .i64 j ∧ Only (a5.map (·.block)).toList w7 wr ∧ ∃ us : List Int, wr.ownsRow w3.heap.size 5 1 (.slice a5 bs.length c5) bs.length (brow us)) (fun i _ => bs.length - (intOf i).toNat)
        case atStart => exact ⟨0, by omega, rfl, Only.refl _ _, bs, OWN7.out⟩
        case round =>
          obtain ⟨j, hj, rfl, hb, us, ho⟩ := hrel
          by_cases hlt : j < bs.length
          · have hul : us.length = bs.length := by have := ho.1; simpa [brow] using this
            obtain ⟨gb, rfl⟩ : ∃ gb, a5 = some ⟨gb, 0, none⟩ := by
              rcases own_addr ho with ⟨_, h0, _⟩ | h0
              · omega
              · exact h0
            have q1 : wr.cell? ⟨gb, j, none⟩ = some (.int .u8 (us[j]'(by omega))) := by
              rw [World.ownsRow.cellAt ho j (by omega)]
              simp [brow, hul, hlt]
            have q2 : wr.frozen? ⟨gb, j, none⟩ = false := World.ownsRow.frozenAt ho j
            obtain ⟨y, hy⟩ : ∃ y, y = us[j]'(by omega) := ⟨_, rfl⟩
            rw [← hy] at q1
            clear hy
            have i7 : (0 : Int) ≤ j := by omega
            have i8 : (j : Int) < bs.length := by omega
            have hgb : w3.heap.size ≤ gb := (World.ownsRow.lt ho gb rfl).1
            have OO := Lib.hid ho
            have HB := Lib.hid hb
            clear ho hb
            go_wp2_with fail
            go_roundw
            case rel => exact ⟨j + 1, by omega, by go_num, HB.out.setCell (.inl (by simp)) _, us.set j ((y + 1) % 256), by
              have := (World.ownsRow.stored OO.out j (.int .u8 ((y + 1) % 256))).1
              rw [brow, ← List.map_set] at this
              exact this⟩
            case measure => simp [intOf]; omega
          · clear OWN7
            have hpt : ∀ b, b ∈ (a5.map (·.block)).toList → w3.heap.size ≤ b ∧ b < w5.heap.size := fun b hb => KQ.out b (Option.mem_toList.1 hb)
            have Q9 := Q7.out.far8 hb (fun hm => by have := hpt _ hm; have := HQ.out.lt; have := B3.out.size; omega) (fun hm => by have := hpt _ hm; have := HQ.out.glt; have := B3.out.size; omega) (fun x hx b hb hm => by
              have h1 := hpt _ hm
              have h2 := (HQ.out.tx x hx).1.lt b hb
              have h3 := B3.out.size
              omega)
            have P9 := P7.out.only hb (fun hm => by have := hpt _ hm; have := HP.out.lt; have := B3.out.size; omega) (fun hm => by have := hpt _ hm; have := HP.out.hlt; have := B3.out.size; omega)
            have o9 : Only [q, g, p] w wr := ((Only.of_below (S := [q, g, p]) B5.out).trans O7.out).then hb (fun b hm => .inr (Nat.le_trans B3.out.size (hpt b hm).1))
            obtain ⟨L9, hL9⟩ : ∃ L9, L9 = L := ⟨_, rfl⟩
            have HL9 := Lib.hid hL9
            have HH := Lib.hid (And.intro (show Two w0 wr q g p h room (lost + 1) L9 from ⟨⟨_, Q9, by rw [HMS.out, hL9]⟩, ⟨_, P9, by rw [HPS.out, hL9]⟩, HT.out.gh, o9.below HT.out.b HT.out.b.size (by simp; exact ⟨HT.out.hq, HT.out.hg, HT.out.hp⟩), HT.out.hq, HT.out.hg, HT.out.hp, HT.out.hh⟩) o9)
            clear hL9 Q9 P9 o9 hb hpt
            obtain ⟨ms9, a9, c9, HQ9, l9, t1, t2⟩ := HH.out.1.tail
            obtain ⟨x9, hx9⟩ : ∃ x9, x9 = L9.length := ⟨_, rfl⟩
            rw [← hx9] at l9 t2
            clear hx9
            go_wp2_with fail
            go_quiet (first
              | (go_at_call 34; exact Calls.quiet_of_same ((lq_len_c q g room _ ms9 _ (HQ9.out.drewN _) x9 l9).mono fun _ _ e => ⟨e.1, e.2.symm⟩))
              | (go_at_call 35; exact Calls.quiet_of_same ((lq_lost_c q g room _ ms9 _ (HQ9.out.drewN _)).mono fun _ _ e => ⟨e.1, e.2.symm⟩)))
            go_wp2_with fail
            go_ret
            exact ⟨lost + 1, L9, by rw [HL9.out, ← HN.out]; exact hl, by omega, Int.le_refl _, rfl, g, h, HH.out.1.drewN _, HH.out.2.drewN _, .inl rfl, .inl rfl⟩
end Go.Proofs.Ytjdcjofogmplcaa
