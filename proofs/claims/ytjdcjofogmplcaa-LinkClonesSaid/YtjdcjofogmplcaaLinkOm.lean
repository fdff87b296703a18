/- The law's act: a message moved. -/
import Derived.Test.YtjdcjofogmplcaaLinkC
import Derived.Test.YtjdcjofogmplcaaPlan
import Derived.Deep.DeepCutAuto
import Derived.Deep.CutBlock
namespace Go.Proofs.Ytjdcjofogmplcaa
open Go.RowKit
set_option linter.unusedVariables false

set_option maxRecDepth 100000 in
set_option maxHeartbeats 6400000 in
theorem do_move (w0 w : World) (q g p h : Nat) (room lost : Int) (L : List (List Int)) (d k t : Int) (R : Byt) (T : Two w0 w q g p h room lost L) (hr : 1 ≤ room ∧ room ≤ 256) (hx : I64 d) (hk : I64 k) (ht : I64 t) (hl : L.length ≤ 256) (hd : d % 7 = 6) :
    Calls Try.prog 44 #[.pointer (some ⟨q, 0, none⟩), .pointer (some ⟨p, 0, none⟩), .agg #[.int .i64 d, .int .i64 k, .int .i64 t, .slice R.a R.xs.length R.c]] w (fun e w' => ∃ lost' L', L'.length ≤ 256 ∧ lost ≤ lost' ∧ lost' ≤ lost + 1 ∧ DoPost w0 w q g p h room lost' L' e w') := by
  obtain ⟨ti, hi0, hz0, hz1, hz2⟩ := info_parts info_b8
  obtain ⟨ms, hq, hms⟩ := T.que
  obtain ⟨ps, hpl, hps⟩ := T.pl
  have hpn : ps.length = L.length := by rw [← hps]; simp
  have hmn : ms.length = L.length := by rw [← hms]; simp
  obtain ⟨A, C, c0, c1, c2, hrow, hcap, hmax⟩ := hpl.row
  have n0 := hpl.lt
  obtain ⟨n1, n2, n3⟩ := que_pl_ne hq hpl
  rw [hpn] at c2 hrow hcap
  obtain ⟨n, hn⟩ : ∃ n, n = L.length := ⟨_, rfl⟩
  rw [← hn] at c2 hrow hcap hl hpn hmn
  have HT := Lib.hid T
  have HQ := Lib.hid hq
  have HP := Lib.hid hpl
  have HMS := Lib.hid hms
  have HPS := Lib.hid hps
  have HPN := Lib.hid hpn
  have HMN := Lib.hid hmn
  have HN := Lib.hid hn
  have HR := Lib.hid hrow
  have HK := Lib.hid hk
  have HT6 := Lib.hid ht
  have HD := Lib.hid hd
  clear T hpl hps hq hms hrow hmax hk ht hd hpn hmn hn
  go_enter Try.func44, Try.ntmps44
  go_upto_region 1 with fail
  obtain ⟨w1, hw1⟩ : ∃ w1, w1 = w.alloc (.cells #[.int .i64 d, .int .i64 k, .int .i64 t, .slice R.a R.xs.length R.c] 82) := ⟨_, rfl⟩
  obtain ⟨ga, hga⟩ : ∃ ga, ga = w.heap.size := ⟨_, rfl⟩
  rw [← hw1, ← hga]
  have hA : Blk w1 ga 82 #[.int .i64 d, .int .i64 k, .int .i64 t, .slice R.a R.xs.length R.c] := by rw [hw1, hga]; exact Blk.new _ _ _
  have hb1 : Below w.heap.size w w1 := by rw [hw1]; exact (Below.refl _ _).alloc (Nat.le_refl _) _
  have a0 := (hA.cell 0).trans (show _ = some (.int .i64 d) from rfl)
  have a1 := (hA.cell 1).trans (show _ = some (.int .i64 k) from rfl)
  have a2 := (hA.cell 2).trans (show _ = some (.int .i64 t) from rfl)
  have a3 := (hA.cell 3).trans (show _ = some (.slice R.a R.xs.length R.c) from rfl)
  have b0 := kept hb1 _ _ c0
  have b1 := kept hb1 _ _ c1
  have b2 := kept hb1 _ _ c2
  have B1 := Lib.hid hb1
  have HA := Lib.hid hA
  have hgp : ga ≠ p := by rw [hga]; omega
  have HGA := Lib.hid hga
  clear hw1 hb1 c0 c1 c2 hA hga
  go_cut [7] (fun v wx => v = .bool (decide (0 ≤ k ∧ k < n)) ∧ ∃ j, wx = w1.drewN j)
  case first =>
    rcases (show (0 ≤ k ∧ k < n) ∨ k < 0 ∨ (0 ≤ k ∧ ¬ k < n) by omega) with h1 | h1 | h1
    · have e0 : decide (0 ≤ k) = true := decide_eq_true h1.1
      have e1 : decide (k < (n : Int)) = true := decide_eq_true h1.2
      have e2 : decide (0 ≤ k ∧ k < n) = true := decide_eq_true h1
      go_quiet (fail)
      go_wp2_with fail
      go_meet
      exact ⟨by rw [e2], _, rfl⟩
    · have e0 : decide (0 ≤ k) = false := decide_eq_false (by omega)
      have e2 : decide (0 ≤ k ∧ k < n) = false := decide_eq_false (by omega)
      go_quiet (fail)
      go_wp2_with fail
      go_meet
      exact ⟨by rw [e2], _, rfl⟩
    · have e0 : decide (0 ≤ k) = true := decide_eq_true h1.1
      have e1 : decide (k < (n : Int)) = false := decide_eq_false h1.2
      have e2 : decide (0 ≤ k ∧ k < n) = false := decide_eq_false (by omega)
      go_quiet (fail)
      go_wp2_with fail
      go_meet
      exact ⟨by rw [e2], _, rfl⟩
  case rest =>
    obtain ⟨rfl, j, rfl⟩ := hcut
    obtain ⟨w2, hw2⟩ : ∃ w2, w2 = w1.drewN j := ⟨_, rfl⟩
    rw [← hw2]
    have a0' : w2.cell? ⟨ga, 0, none⟩ = some (.int .i64 d) := by rw [hw2]; exact a0
    have a1' : w2.cell? ⟨ga, 1, none⟩ = some (.int .i64 k) := by rw [hw2]; exact a1
    have a2' : w2.cell? ⟨ga, 2, none⟩ = some (.int .i64 t) := by rw [hw2]; exact a2
    have a3' : w2.cell? ⟨ga, 3, none⟩ = some (.slice R.a R.xs.length R.c) := by rw [hw2]; exact a3
    have b0' : w2.cell? ⟨p, 0, none⟩ = some (.int .i64 room) := by rw [hw2]; exact b0
    have b1' : w2.cell? ⟨p, 1, none⟩ = some (.int .i64 lost) := by rw [hw2]; exact b1
    have b2' : w2.cell? ⟨p, 2, none⟩ = some (.slice A n C) := by rw [hw2]; exact b2
    have B2 : Hid (Below w.heap.size w w2) := by rw [hw2]; exact Lib.hid (below_drewN B1.out j)
    have A2 : Hid (Blk w2 ga 82 #[.int .i64 d, .int .i64 k, .int .i64 t, .slice R.a R.xs.length R.c]) := by rw [hw2]; exact Lib.hid (HA.out.drewN j)
    clear hw2 a0 a1 a2 a3 b0 b1 b2 B1 HA
    by_cases hin : 0 ≤ k ∧ k < n
    · have e2 : decide (0 ≤ k ∧ k < n) = true := decide_eq_true hin
      rw [e2]
      obtain ⟨m, rfl⟩ := Int.eq_ofNat_of_zero_le hin.1
      have hmlt : m < n := by omega
      have i0 : (0 : Int) ≤ m := by omega
      have i1 : (m : Int) < n := by omega
      clear e2 hin
      go_wp2_with fail
      refine (within_q d 7 _ hx (by omega) (by omega)).mono ?_; rintro e w' ⟨x, rfl, hx5, _, _, rfl⟩
      obtain rfl : x = 6 := by rw [hx5.out, HD.out]
      clear hx5
      rcases (show (0 ≤ t ∧ t < n) ∨ t < 0 ∨ (0 ≤ t ∧ ¬ t < n) by omega) with ht | ht | ht
      · obtain ⟨u, rfl⟩ := Int.eq_ofNat_of_zero_le ht.1
        have hult : u < n := by omega
        have e3 : decide ((0 : Int) ≤ u) = true := decide_eq_true ht.1
        have e4 : decide ((u : Int) < n) = true := decide_eq_true ht.2
        have j0 : (0 : Int) ≤ u := by omega
        clear ht
        go_upto_region 4 with fail
        go_quiet (fail)
        obtain ⟨w3, hw9⟩ : ∃ w9, w9 = w2.drewN nq := ⟨_, rfl⟩
        rw [← hw9]
        have a1 : w3.cell? ⟨ga, 1, none⟩ = some (.int .i64 m) := by rw [hw9]; exact a1'
        have a2 : w3.cell? ⟨ga, 2, none⟩ = some (.int .i64 u) := by rw [hw9]; exact a2'
        have b2 : w3.cell? ⟨p, 2, none⟩ = some (.slice A n C) := by rw [hw9]; exact b2'
        have B3 : Hid (Below w.heap.size w w3) := by rw [hw9]; exact Lib.hid (below_drewN B2.out _)
        clear hw9 a1' a2' b2' B2
        have T3 := Lib.hid (HT.out.below B3.out)
        have Q3 := Lib.hid (HQ.out.below B3.out)
        have P3 := Lib.hid (HP.out.below B3.out)
        go_wp2_with fail
        refine (move_ok q g room lost ms m u _ Q3.out (by rw [HMN.out]; exact hmlt) (by rw [HMN.out]; exact hult)).mono ?_; rintro e w4 ⟨g4, rfl, hq4, ho4, hg4⟩
        have O4 := Lib.hid ho4
        have Q4 := Lib.hid hq4
        have R4 := Lib.hid (two_que T3.out Q3.out P3.out hq4 ho4 hg4)
        have hga3 : ga ≠ q ∧ ga ≠ g := by
          have h5 := HQ.out.lt
          have h6 := HQ.out.glt
          have h7 := HGA.out
          omega
        have a4 : w4.cell? ⟨ga, 1, none⟩ = some (.int .i64 m) := ho4.cell_ a1 (by simp; exact hga3)
        have a5 : w4.cell? ⟨ga, 2, none⟩ = some (.int .i64 u) := ho4.cell_ a2 (by simp; exact hga3)
        have b4 : w4.cell? ⟨p, 2, none⟩ = some (.slice A n C) := ho4.cell_ b2 (by simp; exact ⟨n1, n2⟩)
        have G4 := Lib.hid hg4
        clear a1 a2 b2 hq4 ho4 hg4 hga3
        obtain ⟨aa, cc, hpx, hpo, hph⟩ := R4.out.1.ex
        have haa : aa = A ∧ cc = C := by
          have e := hpx.cell 2
          rw [b4] at e
          have e2 : (Value.slice A n C) = .slice aa ps.length cc := by simpa using e
          injection e2 with x1 x2 x3
          exact ⟨x1.symm, x3.symm⟩
        obtain ⟨rfl, rfl⟩ := haa
        rw [HPN.out] at hpx hpo
        have HX := Lib.hid hpx
        have V4 := Lib.hid (own_vrow hpo)
        have HPO := Lib.hid hpo
        have hm' : m < ps.length := by rw [HPN.out]; exact hmlt
        have HM' := Lib.hid hm'
        have h1 : ∀ u ∈ ps.map Prod.fst, u.oneCell' = true := by
          intro u hu
          obtain ⟨m, hm, rfl⟩ := List.mem_map.1 hu
          exact (HP.out.old m hm).one
        have HO := Lib.hid h1
        have lp := hpx.lt
        have hold := HP.out.old _ (List.getElem_mem HM'.out)
        obtain ⟨a', c', e', -, -, hv', h50⟩ := hold
        have HV' := Lib.hid hv'
        obtain ⟨b', off, rfl, hlt', hcell⟩ := V4.out.2 (by omega)
        have hbp : b' ≠ p := own_sep HPO.out HX.out (by decide) _ rfl
        have r4 : w4.cell? ⟨b', off + m, none⟩ = some (.slice a' (ps[m]'HM'.out).2.length c') := by
          have := hcell m (ps[m]'HM'.out).1 (by simp [HM'.out])
          rw [e'] at this
          exact this
        obtain ⟨bs, hbs⟩ : ∃ bs, bs = (ps[m]'HM'.out).2 := ⟨_, rfl⟩
        rw [← hbs] at r4 e' h50
        have HV : Hid (VRow w0 a' bs.length 1 (brow bs)) := by rw [hbs]; exact HV'
        have E' := Lib.hid e'
        have HBS := Lib.hid hbs
        clear hv' HV' hcell hbs e'
        have la := lt_of_cell' a4
        clear hpx hpo hph h1 hm' a0' a3' b0' b1' A2
        go_upto_region 7 with fail
        go_quiet (fail)
        obtain ⟨w5, hw5⟩ : ∃ w5, w5 = w4.drewN nq := ⟨_, rfl⟩
        rw [← hw5]
        have a6 : w5.cell? ⟨ga, 1, none⟩ = some (.int .i64 m) := by rw [hw5]; exact a4
        have a7 : w5.cell? ⟨ga, 2, none⟩ = some (.int .i64 u) := by rw [hw5]; exact a5
        have b5 : w5.cell? ⟨p, 2, none⟩ = some (.slice (some ⟨b', off, none⟩) n cc) := by rw [hw5]; exact b4
        have B5 : Hid (Below w4.heap.size w4 w5) := by rw [hw5]; exact Lib.hid (below_drewN (Below.refl _ _) _)
        clear hw5 a4 a5 b4 r4
        have P5 := Lib.hid (R4.out.1.below B5.out)
        have PO5 := Lib.hid (own_below HPO.out B5.out)
        have V5 := Lib.hid (V4.out.below B5.out)
        have i2 : IntKind.i64.wrap ((m : Int) + 1) = (m : Int) + 1 := IntWalk.i64_in _ (by omega)
        have s1 := to_any (P := Try.prog) 77 33 1 Try.underlying77 (by kernel_rfl) size_b8 (some ⟨b', off, none⟩) n cc m (by omega) hcap
        obtain ⟨A5, s2, v5⟩ := from_v (P := Try.prog) (T := 77) PO5.out Try.underlying77 (by kernel_rfl) size_b8 (m + 1) (by omega) ((m : Int) + 1) (by omega)
        have V6 := Lib.hid v5
        have HO1 : Hid (∀ v ∈ (ps.map Prod.fst).take (m * 1), v.oneCell' = true) := Lib.hid fun v hv => HO.out v (List.mem_of_mem_take hv)
        have HO2 : Hid (∀ v ∈ (ps.map Prod.fst).drop ((m + 1) * 1), v.oneCell' = true) := Lib.hid fun v hv => HO.out v (List.mem_of_mem_drop hv)
        clear v5
        have KS : ∀ w', Below w5.heap.size w5 w' → w'.cell? ⟨ga, 1, none⟩ = some (.int .i64 m) ∧ w'.cell? ⟨p, 2, none⟩ = some (.slice (some ⟨b', off, none⟩) n cc) ∧ Below w5.heap.size w5 w' := fun w' o => ⟨kept o _ _ a6, kept o _ _ b5, o⟩
        go_upto_region 8 with fail
        refine wp_region_plan (fun w' => w'.cell? ⟨ga, 1, none⟩ = some (.int .i64 m) ∧ w'.cell? ⟨p, 2, none⟩ = some (.slice (some ⟨b', off, none⟩) n cc) ∧ Below w5.heap.size w5 w') 18 (.take 0 (.take 1 (.take 2 (.take 3 (.take 4 (.take 5 (.take 6 (.take 8 (.take 9 (.take 10 (.take 11 (.take 12 (.take 13 (.take 14 (.take 15 (.one 7 (.one 16 (.take 17 .done)))))))))))))))))) (by kernel_rfl) (by kernel_rfl) (by kernel_rfl) (KS _ ((Below.refl _ _).drew)) ?_
        intro hS0
        repeat (refine' wpPlan_take rfl (by rfl) (by assumption) ?_ ?_; rotate_left; (· (intro w hSw; (try dsimp only at hSw); go_simp; try with_reducible rfl)); try simp only [Act.put, List.setIfInBounds_toArray, List.set_cons_zero, List.set_cons_succ])
        refine wpPlan_one rfl (fun K hK => ?_)
        go_simp
        refine (copy_b8 _ m cc _ _ (V5.out.drew.take (by omega)) HO1.out (by omega)).mono ?_
        rintro e w6 ⟨a8, c8, rfl, h6, hb6⟩
        have E6 : Below w5.heap.size w5 w6 := ((Below.refl w5.heap.size w5).drew).trans hb6
        refine hK.out _ _ (KS _ E6) (fun _ => ?_); clear hK K; try simp only [Act.put, List.setIfInBounds_toArray, List.set_cons_zero, List.set_cons_succ]
        refine wpPlan_one rfl (fun K hK => ?_)
        refine step_app (by rfl) _ _ _ (by rfl) w5.heap.size 33 ti _ 1 24 Try.underlying77 hi0 hz0 hz1 hz2 rfl (by omega) a8 m c8 _ (by rfl) h6 A5 (n - (m + 1)) (cc - (m + 1)) _ (by rfl) (V6.out.below E6) HO2.out (by unfold maxLen; omega) (by omega) E6.size ?_
        intro a9 c9 w7 h7
        have E7 : Below w5.heap.size w5 w7 := h7.below h6 E6 (Nat.le_refl _) E6.size
        refine hK.out _ _ (KS _ E7) (fun _ => ?_); clear hK K; try simp only [Act.put, List.setIfInBounds_toArray, List.set_cons_zero, List.set_cons_succ]
        repeat (refine' wpPlan_take rfl (by rfl) (by assumption) ?_ ?_; rotate_left; (· (intro w hSw; (try dsimp only at hSw); go_simp; try with_reducible rfl)); try simp only [Act.put, List.setIfInBounds_toArray, List.set_cons_zero, List.set_cons_succ])
        refine wpPlan_done ?_
        have h8 := h7.own
        obtain ⟨k8, hk8⟩ : ∃ k8, k8 = m + (n - (m + 1)) := ⟨_, rfl⟩
        rw [← hk8] at h8 ⊢
        have hk8' : k8 + 1 = n := by omega
        have P7 := Lib.hid (P5.out.below E7)
        have b7 := kept E7 _ _ b5
        have a10 := kept E7 _ _ a7
        have f7 := HX.out.below (B5.out.trans (E7.mono B5.out.size)) lp
        have HX7 := Lib.hid f7
        have OWN7 := Lib.hid (own_base_le (base' := 0) h8 (Nat.zero_le _))
        obtain ⟨rs, hrs⟩ : ∃ rs, rs = (ps.map Prod.fst).take (m * 1) ++ (ps.map Prod.fst).drop ((m + 1) * 1) := ⟨_, rfl⟩
        have HRS := Lib.hid hrs
        have OWN8 : Hid (w7.ownsRow 0 33 1 (.slice a9 k8 c9) k8 rs) := by rw [hrs]; exact OWN7
        have HO3 : Hid (∀ v ∈ rs, v.oneCell' = true) := Lib.hid fun v hv => by
          rw [HRS.out] at hv
          rcases List.mem_append.1 hv with h | h
          · exact HO1.out v h
          · exact HO2.out v h
        have cap9 := own_cap OWN8.out
        have lp7 := f7.lt
        have B7 := Lib.hid (B5.out.trans (E7.mono B5.out.size))
        have HK8 := Lib.hid hk8
        clear hk8 hrs f7 h8 h7 h6 hb6 s1 s2 i2 a6 a7 b5 E6 OWN7 KS V6 hS0 E7 i1
        have hul : u ≤ k8 := by omega
        have hk256 : k8 ≤ 256 := by omega
        have s3 := to_any (P := Try.prog) 77 33 1 Try.underlying77 (by kernel_rfl) size_b8 a9 k8 c9 u hul cap9
        obtain ⟨A7, s4, v7⟩ := from_v (P := Try.prog) (T := 77) OWN8.out Try.underlying77 (by kernel_rfl) size_b8 u hul (u : Int) rfl
        have V7 := Lib.hid v7
        have U7 := Lib.hid ((own_vrow OWN8.out).take hul)
        have HO4 : Hid (∀ v ∈ rs.take (u * 1), v.oneCell' = true) := Lib.hid fun v hv => HO3.out v (List.mem_of_mem_take hv)
        have HO5 : Hid (∀ v ∈ rs.drop (u * 1), v.oneCell' = true) := Lib.hid fun v hv => HO3.out v (List.mem_of_mem_drop hv)
        clear v7
        have KS : ∀ w', Below w7.heap.size w7 w' → w'.cell? ⟨ga, 2, none⟩ = some (.int .i64 u) ∧ Below w7.heap.size w7 w' := fun w' o => ⟨kept o _ _ a10, o⟩
        have fin : ∀ a6 c6 k6 w8, Below w7.heap.size w7 w8 → k6 = n → w8.ownsRow w7.heap.size 33 1 (.slice a6 k6 c6) k6 (rs.take (u * 1) ++ [.slice a' bs.length c'] ++ rs.drop (u * 1)) → ∃ h' L', L'.length ≤ 256 ∧ Two w0 (w8.setCell ⟨p, 2, none⟩ (.slice a6 k6 c6)) q g4 p h' room lost L' ∧ Only [q, g, p] w (w8.setCell ⟨p, 2, none⟩ (.slice a6 k6 c6)) ∧ (g4 = g ∨ w.heap.size ≤ g4) ∧ (h' = h ∨ h' = p ∨ w.heap.size ≤ h') := by
          intro a6 c6 k6 w8 E8 hk6 h6
          subst hk6
          have hfst : (moved ps m u (ps[m]'HM'.out)).map Prod.fst = rs.take (u * 1) ++ [.slice a' bs.length c'] ++ rs.drop (u * 1) := by
            rw [moved_map, HRS.out, E'.out]
            simp [moved]
          obtain ⟨h7, k7, o7, f7⟩ := P7.out.next (w2 := w8) (a' := a6) (c' := c6) (ps' := moved ps m u (ps[m]'HM'.out)) (n' := k6) (by rw [moved_len ps m u _ HM'.out (by rw [HPN.out]; exact hult)]; exact HPN.out) (by rw [hfst]; exact h6) (fun x hx => by
            unfold moved at hx
            have hsub : ∀ y, y ∈ ps.take m ++ ps.drop (m + 1) → y ∈ ps := rem_sub ps m
            rcases List.mem_append.1 hx with hx | hx
            · exact HP.out.old x (hsub x (List.mem_of_mem_take hx))
            · rcases List.mem_cons.1 hx with rfl | hx
              · exact HP.out.old _ (List.getElem_mem _)
              · exact HP.out.old x (hsub x (List.mem_of_mem_drop hx))) E8 (Nat.le_trans R4.out.2.2.2.size B7.out.size)
          have Q7 := Q4.out.below B7.out
          have hmm : m < ms.length := by have := HM'.out; rw [HPN.out] at this; rw [HMN.out]; exact this
          refine ⟨h7, (moved ms m u (ms[m]'hmm)).map Prod.snd, ?_, two_pl Q7 rfl P7.out k7 (by rw [moved_map, moved_map, HMS.out, HPS.out, nth_same HMS.out HPS.out m hmm HM'.out]) o7 f7 (R4.out.2.2.2.trans (B7.out.mono R4.out.2.2.2.size)) T3.out.hq R4.out.2.2.1 T3.out.hp, (Only.of_below (S := [q, g, p]) B3.out).trans ((O4.out.mono (by simp)).trans ((Only.of_below B7.out).trans (o7.mono (by simp)))), ?_, ?_⟩
          · rw [List.length_map, moved_len ms m u _ hmm (by rw [HMN.out]; exact hult), HMN.out]
            exact hl
          · rcases G4.out with e | e
            · exact .inl e
            · exact .inr (Nat.le_trans B3.out.size e)
          · rcases f7 with e | e
            · exact .inr (.inl e)
            · exact .inr (.inr (Nat.le_trans B3.out.size (Nat.le_trans O4.out.size (Nat.le_trans B7.out.size e))))
        have FIN := Lib.hid fin
        have HKN := Lib.hid (show k8 + 1 = n from hk8')
        clear fin hk8'
        go_wp2_with fail
        refine wp_region_plan (fun w' => w'.cell? ⟨ga, 2, none⟩ = some (.int .i64 u) ∧ Below w7.heap.size w7 w') 16 (.take 0 (.take 1 (.take 2 (.take 3 (.take 4 (.take 6 (.take 9 (.take 10 (.take 11 (.take 12 (.two 5 (.one 7 (.one 8 (.one 13 (.one 14 (.take 15 (.one 16 .done)))))) 7 (.one 5 (.one 8 (.one 13 (.one 14 (.take 15 (.one 16 .done))))))))))))))))) (by kernel_rfl) (by kernel_rfl) (by kernel_rfl) (KS _ ((Below.refl _ _).drew)) ?_
        intro hS0
        repeat (refine' wpPlan_take rfl (by rfl) (by assumption) ?_ ?_; rotate_left; (· (intro w hSw; (try dsimp only at hSw); go_simp; try with_reducible rfl)); try simp only [Act.put, List.setIfInBounds_toArray, List.set_cons_zero, List.set_cons_succ])
        refine wpPlan_two ?_ ?_
        · refine wpPlan_one rfl (fun K hK => ?_)
          go_simp
          refine (copy_b8 _ u c9 _ _ U7.out.drew HO4.out (by omega)).mono ?_
          rintro e w8 ⟨a11, c11, rfl, h8, hb8⟩
          have E8 : Below w7.heap.size w7 w8 := ((Below.refl w7.heap.size w7).drew).trans hb8
          refine hK.out _ _ (KS _ E8) (fun _ => ?_); clear hK K; try simp only [Act.put, List.setIfInBounds_toArray, List.set_cons_zero, List.set_cons_succ]
          refine wpPlan_one rfl (fun K hK => ?_)
          go_simp
          have E8' := E8.alloc E8.size (.cells #[.slice a' bs.length c'] 33)
          have h8' := own_below h8 ((Below.refl w8.heap.size w8).alloc (Nat.le_refl _) (.cells #[.slice a' bs.length c'] 33))
          refine hK.out _ _ (KS _ E8') (fun _ => ?_); clear hK K; try simp only [Act.put, List.setIfInBounds_toArray, List.set_cons_zero, List.set_cons_succ]
          refine wpPlan_one rfl (fun K hK => ?_)
          refine step_app (by rfl) _ _ _ (by rfl) w7.heap.size 33 ti _ 1 24 Try.underlying77 hi0 hz0 hz1 hz2 rfl (by omega) a11 u c11 _ (by rfl) h8' _ 1 1 [.slice a' bs.length c'] (by rfl) (own_one _ _ _) (by simp [Value.oneCell']) (by unfold maxLen; omega) (by omega) E8'.size ?_
          intro a12 c12 w9 h9
          have E9 : Below w7.heap.size w7 w9 := h9.below h8' E8' (Nat.le_refl _) E8'.size
          refine hK.out _ _ (KS _ E9) (fun _ => ?_); clear hK K; try simp only [Act.put, List.setIfInBounds_toArray, List.set_cons_zero, List.set_cons_succ]
          refine wpPlan_one rfl (fun K hK => ?_)
          refine step_app (by rfl) _ _ _ (by rfl) w7.heap.size 33 ti _ 1 24 Try.underlying77 hi0 hz0 hz1 hz2 rfl (by omega) a12 (u + 1) c12 _ (by rfl) h9.own A7 (k8 - u) (c9 - u) _ (by rfl) (V7.out.below E9) HO5.out (by unfold maxLen; omega) (by omega) E9.size ?_
          intro a13 c13 w10 h10
          have E10 : Below w7.heap.size w7 w10 := h10.below h9.own E9 (Nat.le_refl _) E9.size
          refine hK.out _ _ (KS _ E10) (fun _ => ?_); clear hK K; try simp only [Act.put, List.setIfInBounds_toArray, List.set_cons_zero, List.set_cons_succ]
          refine wpPlan_one rfl (fun K hK => ?_)
          go_simp
          refine hK.out _ _ (KS _ E10) (fun _ => ?_); clear hK K; try simp only [Act.put, List.setIfInBounds_toArray, List.set_cons_zero, List.set_cons_succ]
          repeat (refine' wpPlan_take rfl (by rfl) (by assumption) ?_ ?_; rotate_left; (· (intro w hSw; (try dsimp only at hSw); go_simp; try with_reducible rfl)); try simp only [Act.put, List.setIfInBounds_toArray, List.set_cons_zero, List.set_cons_succ])
          refine wpPlan_last rfl (fun K hK => ?_)
          have f10 := (HX7.out.below E10 lp7).frozen 2
          have y10 := kept E10 _ _ b7
          go_simp
          refine hK.out _ _ ?_; clear hK K; try simp only [Act.put, List.setIfInBounds_toArray, List.set_cons_zero, List.set_cons_succ]
          refine wpPlan_done ?_
          obtain ⟨h19, L9, H9, T9, O9, G9, F9⟩ := FIN.out a13 c13 (u + 1 + (k8 - u)) w10 E10 (by have := HKN.out; omega) h10.own
          obtain ⟨w19, hw19⟩ : ∃ w19, w19 = w10.setCell ⟨p, 2, none⟩ (.slice a13 (u + 1 + (k8 - u)) c13) := ⟨_, rfl⟩
          rw [← hw19] at T9 O9 ⊢
          have HH := Lib.hid (And.intro T9 (And.intro O9 (And.intro G9 F9)))
          clear T9 O9 G9 F9 hw19 f10 y10 a10 b7
          obtain ⟨ms9, a9, c9, HQ9, l9, t1, t2⟩ := HH.out.1.tail
          obtain ⟨x9, hx9⟩ : ∃ x9, x9 = L9.length := ⟨_, rfl⟩
          rw [← hx9] at l9 t2
          clear hx9
          go_wp2_with fail
          go_quiet (first
            | (go_at_call 34; exact Calls.quiet_of_same ((lq_len_c q g4 room _ ms9 _ (HQ9.out.drewN _) x9 l9).mono fun _ _ e => ⟨e.1, e.2.symm⟩))
            | (go_at_call 35; exact Calls.quiet_of_same ((lq_lost_c q g4 room _ ms9 _ (HQ9.out.drewN _)).mono fun _ _ e => ⟨e.1, e.2.symm⟩)))
          go_wp2_with fail
          go_ret
          exact ⟨lost, L9, H9, Int.le_refl _, by omega, rfl, _, h19, HH.out.1.drewN _, HH.out.2.1.drewN _, HH.out.2.2.1, HH.out.2.2.2⟩
        · refine wpPlan_one rfl (fun K hK => ?_)
          go_simp
          refine hK.out _ _ (KS _ (((Below.refl w7.heap.size w7).drew).alloc (Nat.le_refl _) _)) (fun _ => ?_); clear hK K; try simp only [Act.put, List.setIfInBounds_toArray, List.set_cons_zero, List.set_cons_succ]
          refine wpPlan_one rfl (fun K hK => ?_)
          go_simp
          refine (copy_b8 _ u c9 _ _ (U7.out.drew.below ((Below.refl _ _).alloc (Nat.le_refl _) _)) HO4.out (by omega)).mono ?_
          rintro e w8 ⟨a11, c11, rfl, h8, hb8⟩
          have E8 : Below w7.heap.size w7 w8 := (((Below.refl w7.heap.size w7).drew).alloc (Nat.le_refl _) _).trans (hb8.mono (by simp))
          have h8' := own_base_le (base' := w7.heap.size) h8 (by simp)
          refine hK.out _ _ (KS _ E8) (fun _ => ?_); clear hK K; try simp only [Act.put, List.setIfInBounds_toArray, List.set_cons_zero, List.set_cons_succ]
          refine wpPlan_one rfl (fun K hK => ?_)
          refine step_app (by rfl) _ _ _ (by rfl) w7.heap.size 33 ti _ 1 24 Try.underlying77 hi0 hz0 hz1 hz2 rfl (by omega) a11 u c11 _ (by rfl) h8' _ 1 1 [.slice a' bs.length c'] (by rfl) ((own_one w7.drew 33 _).below hb8) (by simp [Value.oneCell']) (by unfold maxLen; omega) (by omega) E8.size ?_
          intro a12 c12 w9 h9
          have E9 : Below w7.heap.size w7 w9 := h9.below h8' E8 (Nat.le_refl _) E8.size
          refine hK.out _ _ (KS _ E9) (fun _ => ?_); clear hK K; try simp only [Act.put, List.setIfInBounds_toArray, List.set_cons_zero, List.set_cons_succ]
          refine wpPlan_one rfl (fun K hK => ?_)
          refine step_app (by rfl) _ _ _ (by rfl) w7.heap.size 33 ti _ 1 24 Try.underlying77 hi0 hz0 hz1 hz2 rfl (by omega) a12 (u + 1) c12 _ (by rfl) h9.own A7 (k8 - u) (c9 - u) _ (by rfl) (V7.out.below E9) HO5.out (by unfold maxLen; omega) (by omega) E9.size ?_
          intro a13 c13 w10 h10
          have E10 : Below w7.heap.size w7 w10 := h10.below h9.own E9 (Nat.le_refl _) E9.size
          refine hK.out _ _ (KS _ E10) (fun _ => ?_); clear hK K; try simp only [Act.put, List.setIfInBounds_toArray, List.set_cons_zero, List.set_cons_succ]
          refine wpPlan_one rfl (fun K hK => ?_)
          go_simp
          refine hK.out _ _ (KS _ E10) (fun _ => ?_); clear hK K; try simp only [Act.put, List.setIfInBounds_toArray, List.set_cons_zero, List.set_cons_succ]
          repeat (refine' wpPlan_take rfl (by rfl) (by assumption) ?_ ?_; rotate_left; (· (intro w hSw; (try dsimp only at hSw); go_simp; try with_reducible rfl)); try simp only [Act.put, List.setIfInBounds_toArray, List.set_cons_zero, List.set_cons_succ])
          refine wpPlan_last rfl (fun K hK => ?_)
          have f10 := (HX7.out.below E10 lp7).frozen 2
          have y10 := kept E10 _ _ b7
          go_simp
          refine hK.out _ _ ?_; clear hK K; try simp only [Act.put, List.setIfInBounds_toArray, List.set_cons_zero, List.set_cons_succ]
          refine wpPlan_done ?_
          obtain ⟨h19, L9, H9, T9, O9, G9, F9⟩ := FIN.out a13 c13 (u + 1 + (k8 - u)) w10 E10 (by have := HKN.out; omega) h10.own
          obtain ⟨w19, hw19⟩ : ∃ w19, w19 = w10.setCell ⟨p, 2, none⟩ (.slice a13 (u + 1 + (k8 - u)) c13) := ⟨_, rfl⟩
          rw [← hw19] at T9 O9 ⊢
          have HH := Lib.hid (And.intro T9 (And.intro O9 (And.intro G9 F9)))
          clear T9 O9 G9 F9 hw19 f10 y10 a10 b7
          obtain ⟨ms9, a9, c9, HQ9, l9, t1, t2⟩ := HH.out.1.tail
          obtain ⟨x9, hx9⟩ : ∃ x9, x9 = L9.length := ⟨_, rfl⟩
          rw [← hx9] at l9 t2
          clear hx9
          go_wp2_with fail
          go_quiet (first
            | (go_at_call 34; exact Calls.quiet_of_same ((lq_len_c q g4 room _ ms9 _ (HQ9.out.drewN _) x9 l9).mono fun _ _ e => ⟨e.1, e.2.symm⟩))
            | (go_at_call 35; exact Calls.quiet_of_same ((lq_lost_c q g4 room _ ms9 _ (HQ9.out.drewN _)).mono fun _ _ e => ⟨e.1, e.2.symm⟩)))
          go_wp2_with fail
          go_ret
          exact ⟨lost, L9, H9, Int.le_refl _, by omega, rfl, _, h19, HH.out.1.drewN _, HH.out.2.1.drewN _, HH.out.2.2.1, HH.out.2.2.2⟩
      · have e3 : decide (0 ≤ t) = false := decide_eq_false (by omega)
        have HNO := Lib.hid (show ¬ ((0 ≤ (m : Int) ∧ (m : Int) < n) ∧ 0 ≤ t ∧ t < n) by omega)
        clear ht
        go_upto_region 4 with fail
        go_quiet (fail)
        obtain ⟨w3, hw9⟩ : ∃ w9, w9 = w2.drewN nq := ⟨_, rfl⟩
        rw [← hw9]
        have a1 : w3.cell? ⟨ga, 1, none⟩ = some (.int .i64 m) := by rw [hw9]; exact a1'
        have a2 : w3.cell? ⟨ga, 2, none⟩ = some (.int .i64 t) := by rw [hw9]; exact a2'
        have b2 : w3.cell? ⟨p, 2, none⟩ = some (.slice A n C) := by rw [hw9]; exact b2'
        have B3 : Hid (Below w.heap.size w w3) := by rw [hw9]; exact Lib.hid (below_drewN B2.out _)
        clear hw9 a1' a2' b2' B2
        have Q3 := Lib.hid (HQ.out.below B3.out)
        go_wp2_with fail
        refine (move_no q g room lost ms m t _ Q3.out HK.out HT6.out (by rw [HMN.out]; exact HNO.out)).mono ?_; rintro e w4 ⟨rfl, rfl⟩
        clear a1 a2 b2
        have T4 := Lib.hid (HT.out.below B3.out)
        obtain ⟨L9, hL9⟩ : ∃ L9, L9 = L := ⟨_, rfl⟩
        have HL9 := Lib.hid hL9
        clear hL9
        have HH := Lib.hid (And.intro (show Two w0 w3 q g p h room lost L9 by rw [HL9.out]; exact T4.out) (Only.of_below (S := [q, g, p]) B3.out))
        obtain ⟨ms9, a9, c9, HQ9, l9, t1, t2⟩ := HH.out.1.tail
        obtain ⟨x9, hx9⟩ : ∃ x9, x9 = L9.length := ⟨_, rfl⟩
        rw [← hx9] at l9 t2
        clear hx9
        go_wp2_with fail
        go_quiet (first
          | (go_at_call 34; exact Calls.quiet_of_same ((lq_len_c q g room _ ms9 _ (HQ9.out.drewN _) x9 l9).mono fun _ _ e => ⟨e.1, e.2.symm⟩))
          | (go_at_call 35; exact Calls.quiet_of_same ((lq_lost_c q g room _ ms9 _ (HQ9.out.drewN _)).mono fun _ _ e => ⟨e.1, e.2.symm⟩)))
        go_wp2_with fail
        go_ret
        exact ⟨lost, L9, by rw [HL9.out, ← HN.out]; exact hl, Int.le_refl _, by omega, rfl, g, h, HH.out.1.drewN _, HH.out.2.drewN _, .inl rfl, .inl rfl⟩
      · have e3 : decide (0 ≤ t) = true := decide_eq_true ht.1
        have e4 : decide (t < (n : Int)) = false := decide_eq_false ht.2
        have HNO := Lib.hid (show ¬ ((0 ≤ (m : Int) ∧ (m : Int) < n) ∧ 0 ≤ t ∧ t < n) by omega)
        clear ht
        go_upto_region 4 with fail
        go_quiet (fail)
        obtain ⟨w3, hw9⟩ : ∃ w9, w9 = w2.drewN nq := ⟨_, rfl⟩
        rw [← hw9]
        have a1 : w3.cell? ⟨ga, 1, none⟩ = some (.int .i64 m) := by rw [hw9]; exact a1'
        have a2 : w3.cell? ⟨ga, 2, none⟩ = some (.int .i64 t) := by rw [hw9]; exact a2'
        have b2 : w3.cell? ⟨p, 2, none⟩ = some (.slice A n C) := by rw [hw9]; exact b2'
        have B3 : Hid (Below w.heap.size w w3) := by rw [hw9]; exact Lib.hid (below_drewN B2.out _)
        clear hw9 a1' a2' b2' B2
        have Q3 := Lib.hid (HQ.out.below B3.out)
        go_wp2_with fail
        refine (move_no q g room lost ms m t _ Q3.out HK.out HT6.out (by rw [HMN.out]; exact HNO.out)).mono ?_; rintro e w4 ⟨rfl, rfl⟩
        clear a1 a2 b2
        have T4 := Lib.hid (HT.out.below B3.out)
        obtain ⟨L9, hL9⟩ : ∃ L9, L9 = L := ⟨_, rfl⟩
        have HL9 := Lib.hid hL9
        clear hL9
        have HH := Lib.hid (And.intro (show Two w0 w3 q g p h room lost L9 by rw [HL9.out]; exact T4.out) (Only.of_below (S := [q, g, p]) B3.out))
        obtain ⟨ms9, a9, c9, HQ9, l9, t1, t2⟩ := HH.out.1.tail
        obtain ⟨x9, hx9⟩ : ∃ x9, x9 = L9.length := ⟨_, rfl⟩
        rw [← hx9] at l9 t2
        clear hx9
        go_wp2_with fail
        go_quiet (first
          | (go_at_call 34; exact Calls.quiet_of_same ((lq_len_c q g room _ ms9 _ (HQ9.out.drewN _) x9 l9).mono fun _ _ e => ⟨e.1, e.2.symm⟩))
          | (go_at_call 35; exact Calls.quiet_of_same ((lq_lost_c q g room _ ms9 _ (HQ9.out.drewN _)).mono fun _ _ e => ⟨e.1, e.2.symm⟩)))
        go_wp2_with fail
        go_ret
        exact ⟨lost, L9, by rw [HL9.out, ← HN.out]; exact hl, Int.le_refl _, by omega, rfl, g, h, HH.out.1.drewN _, HH.out.2.drewN _, .inl rfl, .inl rfl⟩
    · have e2 : decide (0 ≤ k ∧ k < n) = false := decide_eq_false hin
      rw [e2]
      have HNO := Lib.hid (show ¬ ((0 ≤ k ∧ k < n) ∧ 0 ≤ t ∧ t < n) by omega)
      clear e2 hin
      go_wp2_with fail
      refine (within_q d 7 _ hx (by omega) (by omega)).mono ?_; rintro e w' ⟨x, rfl, hx5, _, _, rfl⟩
      obtain rfl : x = 6 := by rw [hx5.out, HD.out]
      clear hx5
      go_upto_region 4 with fail
      go_quiet (fail)
      obtain ⟨w3, hw9⟩ : ∃ w9, w9 = w2.drewN nq := ⟨_, rfl⟩
      rw [← hw9]
      have a1 : w3.cell? ⟨ga, 1, none⟩ = some (.int .i64 k) := by rw [hw9]; exact a1'
      have a2 : w3.cell? ⟨ga, 2, none⟩ = some (.int .i64 t) := by rw [hw9]; exact a2'
      have b2 : w3.cell? ⟨p, 2, none⟩ = some (.slice A n C) := by rw [hw9]; exact b2'
      have B3 : Hid (Below w.heap.size w w3) := by rw [hw9]; exact Lib.hid (below_drewN B2.out _)
      clear hw9 a1' a2' b2' B2
      have Q3 := Lib.hid (HQ.out.below B3.out)
      go_wp2_with fail
      refine (move_no q g room lost ms k t _ Q3.out HK.out HT6.out (by rw [HMN.out]; exact HNO.out)).mono ?_; rintro e w4 ⟨rfl, rfl⟩
      clear a1 a2 b2
      have T4 := Lib.hid (HT.out.below B3.out)
      obtain ⟨L9, hL9⟩ : ∃ L9, L9 = L := ⟨_, rfl⟩
      have HL9 := Lib.hid hL9
      clear hL9
      have HH := Lib.hid (And.intro (show Two w0 w3 q g p h room lost L9 by rw [HL9.out]; exact T4.out) (Only.of_below (S := [q, g, p]) B3.out))
      obtain ⟨ms9, a9, c9, HQ9, l9, t1, t2⟩ := HH.out.1.tail
      obtain ⟨x9, hx9⟩ : ∃ x9, x9 = L9.length := ⟨_, rfl⟩
      rw [← hx9] at l9 t2
      clear hx9
      go_wp2_with fail
      go_quiet (first
        | (go_at_call 34; exact Calls.quiet_of_same ((lq_len_c q g room _ ms9 _ (HQ9.out.drewN _) x9 l9).mono fun _ _ e => ⟨e.1, e.2.symm⟩))
        | (go_at_call 35; exact Calls.quiet_of_same ((lq_lost_c q g room _ ms9 _ (HQ9.out.drewN _)).mono fun _ _ e => ⟨e.1, e.2.symm⟩)))
      go_wp2_with fail
      go_ret
      exact ⟨lost, L9, by rw [HL9.out, ← HN.out]; exact hl, Int.le_refl _, by omega, rfl, g, h, HH.out.1.drewN _, HH.out.2.drewN _, .inl rfl, .inl rfl⟩
end Go.Proofs.Ytjdcjofogmplcaa
