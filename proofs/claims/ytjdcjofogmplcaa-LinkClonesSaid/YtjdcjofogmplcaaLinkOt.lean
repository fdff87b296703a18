/- The law's act: a message taken. -/
import Derived.Test.YtjdcjofogmplcaaLinkC
import Derived.Test.YtjdcjofogmplcaaPlan
import Derived.Deep.DeepCutAuto
import Derived.Deep.CutBlock
namespace Go.Proofs.Ytjdcjofogmplcaa
open Go.RowKit
set_option linter.unusedVariables false

set_option maxRecDepth 100000 in
set_option maxHeartbeats 6400000 in
theorem do_take (w0 w : World) (q g p h : Nat) (room lost : Int) (L : List (List Int)) (d k t : Int) (R : Byt) (T : Two w0 w q g p h room lost L) (hr : 1 ≤ room ∧ room ≤ 256) (hx : I64 d) (hk : I64 k) (ht : I64 t) (hl : L.length ≤ 256) (hd : d % 7 = 3) :
    Calls Try.prog 44 #[.pointer (some ⟨q, 0, none⟩), .pointer (some ⟨p, 0, none⟩), .agg #[.int .i64 d, .int .i64 k, .int .i64 t, .slice R.a R.xs.length R.c]] w (fun e w' => ∃ lost' L', L'.length ≤ 256 ∧ lost ≤ lost' ∧ lost' ≤ lost + 1 ∧ DoPost w0 w q g p h room lost' L' e w') := by
  obtain ⟨ti, hi0, hz0, hz1, hz2⟩ := info_parts info_b8
  obtain ⟨ms, hq, hms⟩ := T.que
  obtain ⟨ps, hpl, hps⟩ := T.pl
  have hpn : ps.length = L.length := by rw [← hps]; simp
  have hmn : ms.length = L.length := by rw [← hms]; simp
  obtain ⟨A, C, c0, c1, c2, hrow, hcap, hmax⟩ := hpl.row
  have n0 := hpl.lt
  obtain ⟨n1, n2, n3⟩ := que_pl_ne hq hpl
  rw [hpn] at c2 hrow hcap
  obtain ⟨n, hn⟩ : ∃ n, n = L.length := ⟨_, rfl⟩
  rw [← hn] at c2 hrow hcap hl hpn hmn
  have HT := Lib.hid T
  have HQ := Lib.hid hq
  have HP := Lib.hid hpl
  have HMS := Lib.hid hms
  have HPS := Lib.hid hps
  have HPN := Lib.hid hpn
  have HMN := Lib.hid hmn
  have HN := Lib.hid hn
  have HR := Lib.hid hrow
  have HK := Lib.hid hk
  have HT6 := Lib.hid ht
  have HD := Lib.hid hd
  clear T hpl hps hq hms hrow hmax hk ht hd hpn hmn hn
  go_enter Try.func44, Try.ntmps44
  go_upto_region 1 with fail
  obtain ⟨w1, hw1⟩ : ∃ w1, w1 = w.alloc (.cells #[.int .i64 d, .int .i64 k, .int .i64 t, .slice R.a R.xs.length R.c] 82) := ⟨_, rfl⟩
  obtain ⟨ga, hga⟩ : ∃ ga, ga = w.heap.size := ⟨_, rfl⟩
  rw [← hw1, ← hga]
  have hA : Blk w1 ga 82 #[.int .i64 d, .int .i64 k, .int .i64 t, .slice R.a R.xs.length R.c] := by rw [hw1, hga]; exact Blk.new _ _ _
  have hb1 : Below w.heap.size w w1 := by rw [hw1]; exact (Below.refl _ _).alloc (Nat.le_refl _) _
  have a0 := (hA.cell 0).trans (show _ = some (.int .i64 d) from rfl)
  have a1 := (hA.cell 1).trans (show _ = some (.int .i64 k) from rfl)
  have a2 := (hA.cell 2).trans (show _ = some (.int .i64 t) from rfl)
  have a3 := (hA.cell 3).trans (show _ = some (.slice R.a R.xs.length R.c) from rfl)
  have b0 := kept hb1 _ _ c0
  have b1 := kept hb1 _ _ c1
  have b2 := kept hb1 _ _ c2
  have B1 := Lib.hid hb1
  have HA := Lib.hid hA
  have hgp : ga ≠ p := by rw [hga]; omega
  have HGA := Lib.hid hga
  clear hw1 hb1 c0 c1 c2 hA hga
  go_cut [7] (fun v wx => v = .bool (decide (0 ≤ k ∧ k < n)) ∧ ∃ j, wx = w1.drewN j)
  case first =>
    rcases (show (0 ≤ k ∧ k < n) ∨ k < 0 ∨ (0 ≤ k ∧ ¬ k < n) by omega) with h1 | h1 | h1
    · have e0 : decide (0 ≤ k) = true := decide_eq_true h1.1
      have e1 : decide (k < (n : Int)) = true := decide_eq_true h1.2
      have e2 : decide (0 ≤ k ∧ k < n) = true := decide_eq_true h1
      go_quiet (fail)
      go_wp2_with fail
      go_meet
      exact ⟨by rw [e2], _, rfl⟩
    · have e0 : decide (0 ≤ k) = false := decide_eq_false (by omega)
      have e2 : decide (0 ≤ k ∧ k < n) = false := decide_eq_false (by omega)
      go_quiet (fail)
      go_wp2_with fail
      go_meet
      exact ⟨by rw [e2], _, rfl⟩
    · have e0 : decide (0 ≤ k) = true := decide_eq_true h1.1
      have e1 : decide (k < (n : Int)) = false := decide_eq_false h1.2
      have e2 : decide (0 ≤ k ∧ k < n) = false := decide_eq_false (by omega)
      go_quiet (fail)
      go_wp2_with fail
      go_meet
      exact ⟨by rw [e2], _, rfl⟩
  case rest =>
    obtain ⟨rfl, j, rfl⟩ := hcut
    obtain ⟨w2, hw2⟩ : ∃ w2, w2 = w1.drewN j := ⟨_, rfl⟩
    rw [← hw2]
    have a0' : w2.cell? ⟨ga, 0, none⟩ = some (.int .i64 d) := by rw [hw2]; exact a0
    have a1' : w2.cell? ⟨ga, 1, none⟩ = some (.int .i64 k) := by rw [hw2]; exact a1
    have a2' : w2.cell? ⟨ga, 2, none⟩ = some (.int .i64 t) := by rw [hw2]; exact a2
    have a3' : w2.cell? ⟨ga, 3, none⟩ = some (.slice R.a R.xs.length R.c) := by rw [hw2]; exact a3
    have b0' : w2.cell? ⟨p, 0, none⟩ = some (.int .i64 room) := by rw [hw2]; exact b0
    have b1' : w2.cell? ⟨p, 1, none⟩ = some (.int .i64 lost) := by rw [hw2]; exact b1
    have b2' : w2.cell? ⟨p, 2, none⟩ = some (.slice A n C) := by rw [hw2]; exact b2
    have B2 : Hid (Below w.heap.size w w2) := by rw [hw2]; exact Lib.hid (below_drewN B1.out j)
    have A2 : Hid (Blk w2 ga 82 #[.int .i64 d, .int .i64 k, .int .i64 t, .slice R.a R.xs.length R.c]) := by rw [hw2]; exact Lib.hid (HA.out.drewN j)
    clear hw2 a0 a1 a2 a3 b0 b1 b2 B1 HA
    by_cases hin : 0 ≤ k ∧ k < n
    · have e2 : decide (0 ≤ k ∧ k < n) = true := decide_eq_true hin
      rw [e2]
      obtain ⟨m, rfl⟩ := Int.eq_ofNat_of_zero_le hin.1
      have hmlt : m < n := by omega
      have i0 : (0 : Int) ≤ m := by omega
      have i1 : (m : Int) < n := by omega
      clear e2 hin
      go_wp2_with fail
      refine (within_q d 7 _ hx (by omega) (by omega)).mono ?_; rintro e w' ⟨x, rfl, hx5, _, _, rfl⟩
      obtain rfl : x = 3 := by rw [hx5.out, HD.out]
      clear hx5
      have T2 := Lib.hid (HT.out.below B2.out)
      have Q2 := Lib.hid (HQ.out.below B2.out)
      have P2 := Lib.hid (HP.out.below B2.out)
      go_wp2_with fail
      refine (take_ok q g room lost ms m _ Q2.out (by rw [HMN.out]; exact hmlt) (m : Int) rfl).mono ?_; rintro e w4 ⟨g4, v4, rfl, htx, hq4, ho4, hg4, -⟩
      have O4 := Lib.hid ho4
      have Q4 := Lib.hid hq4
      have R4 := Lib.hid (two_que T2.out Q2.out P2.out hq4 ho4 hg4)
      have hga3 : ga ≠ q ∧ ga ≠ g := by
        have h5 := HQ.out.lt
        have h6 := HQ.out.glt
        have h7 := HGA.out
        omega
      have a4 : w4.cell? ⟨ga, 1, none⟩ = some (.int .i64 m) := ho4.cell_ a1' (by simp; exact hga3)
      have b4 : w4.cell? ⟨p, 2, none⟩ = some (.slice A n C) := ho4.cell_ b2' (by simp; exact ⟨n1, n2⟩)
      have G4 := Lib.hid hg4
      have TX := Lib.hid htx
      clear a0' a1' a2' a3' b0' b1' b2' A2 hq4 ho4 hg4 hga3 htx
      obtain ⟨aa, cc, hpx, hpo, hph⟩ := R4.out.1.ex
      have haa : aa = A ∧ cc = C := by
        have e := hpx.cell 2
        rw [b4] at e
        have e2 : (Value.slice A n C) = .slice aa ps.length cc := by simpa using e
        injection e2 with x1 x2 x3
        exact ⟨x1.symm, x3.symm⟩
      obtain ⟨rfl, rfl⟩ := haa
      rw [HPN.out] at hpx hpo
      have HX := Lib.hid hpx
      have V4 := Lib.hid (own_vrow hpo)
      have HPO := Lib.hid hpo
      have hm' : m < ps.length := by rw [HPN.out]; exact hmlt
      have HM' := Lib.hid hm'
      have h1 : ∀ u ∈ ps.map Prod.fst, u.oneCell' = true := by
        intro u hu
        obtain ⟨m, hm, rfl⟩ := List.mem_map.1 hu
        exact (HP.out.old m hm).one
      have HO := Lib.hid h1
      have lp := hpx.lt
      have hold := HP.out.old _ (List.getElem_mem HM'.out)
      obtain ⟨a', c', e', -, -, hv', h50⟩ := hold
      have HV' := Lib.hid hv'
      obtain ⟨b', off, rfl, hlt', hcell⟩ := V4.out.2 (by omega)
      have hbp : b' ≠ p := own_sep HPO.out HX.out (by decide) _ rfl
      have r4 : w4.cell? ⟨b', off + m, none⟩ = some (.slice a' (ps[m]'HM'.out).2.length c') := by
        have := hcell m (ps[m]'HM'.out).1 (by simp [HM'.out])
        rw [e'] at this
        exact this
      obtain ⟨bs, hbs⟩ : ∃ bs, bs = (ps[m]'HM'.out).2 := ⟨_, rfl⟩
      rw [← hbs] at r4 e' h50
      have HV : Hid (VRow w0 a' bs.length 1 (brow bs)) := by rw [hbs]; exact HV'
      have E' := Lib.hid e'
      have HBS := Lib.hid hbs
      clear hv' HV' hcell hbs e'
      clear hpx hpo hph h1 hm'
      have hbm : (ms[m]'(by rw [HMN.out]; exact hmlt)).2 = bs := by rw [HBS.out]; exact (nth_same HMS.out HPS.out m (by rw [HMN.out]; exact hmlt) HM'.out).symm
      have htx := TX.out
      rw [hbm] at htx
      obtain ⟨av, cv, rfl, hown⟩ := htx
      have VB := Lib.hid (own_vrow hown)
      have VA : Hid (VRow w4 a' bs.length 1 (brow bs)) := Lib.hid (HV.out.below R4.out.2.2.2)
      clear TX hown hbm
      have z1 := fun (x : Later w4) => x.cell a4
      have z2 := fun (x : Later w4) => x.cell b4
      have z3 := fun (x : Later w4) => x.cell r4
      go_upto_region 28 with fail
      refine wp_region_later (by kernel_rfl) (by kernel_rfl) ?_
      repeat (go_big_quiet_step (first
        | (go_at_call 33; exact Later.call (same_byte_c _ _ _ _ _ _ bs _ (VB.out.later _) (VA.out.later _) (by omega)))))
      refine wpQuiet_nil ?_
      rintro _ ⟨x, rfl⟩
      obtain ⟨w5, hw5⟩ : ∃ w5, w5 = x.w := ⟨_, rfl⟩
      have B5 : Hid (Below w4.heap.size w4 w5) := by rw [hw5]; exact Lib.hid x.b
      rw [← hw5]
      have a6 := kept B5.out _ _ a4
      have b5 := kept B5.out _ _ b4
      clear z1 z2 z3 hw5 x a4 b4 r4
      have P5 := Lib.hid (R4.out.1.below B5.out)
      have PO5 := Lib.hid (own_below HPO.out B5.out)
      have V5 := Lib.hid (V4.out.below B5.out)
      have lp5 := Nat.lt_of_lt_of_le lp B5.out.size
      have i2 : IntKind.i64.wrap ((m : Int) + 1) = (m : Int) + 1 := IntWalk.i64_in _ (by omega)
      have s1 := to_any (P := Try.prog) 77 33 1 Try.underlying77 (by kernel_rfl) size_b8 (some ⟨b', off, none⟩) n cc m (by omega) hcap
      obtain ⟨A5, s2, v5⟩ := from_v (P := Try.prog) (T := 77) PO5.out Try.underlying77 (by kernel_rfl) size_b8 (m + 1) (by omega) ((m : Int) + 1) (by omega)
      have V6 := Lib.hid v5
      have HO1 : Hid (∀ v ∈ (ps.map Prod.fst).take (m * 1), v.oneCell' = true) := Lib.hid fun v hv => HO.out v (List.mem_of_mem_take hv)
      have HO2 : Hid (∀ v ∈ (ps.map Prod.fst).drop ((m + 1) * 1), v.oneCell' = true) := Lib.hid fun v hv => HO.out v (List.mem_of_mem_drop hv)
      clear v5
      have KS : ∀ w', Below w5.heap.size w5 w' → w'.cell? ⟨ga, 1, none⟩ = some (.int .i64 m) ∧ w'.cell? ⟨p, 2, none⟩ = some (.slice (some ⟨b', off, none⟩) n cc) ∧ Below w5.heap.size w5 w' := fun w' o => ⟨kept o _ _ a6, kept o _ _ b5, o⟩
      have fin : ∀ a6 c6 k6 w8, Below w5.heap.size w5 w8 → k6 = m + (n - (m + 1)) → w8.ownsRow w5.heap.size 33 1 (.slice a6 k6 c6) k6 ((ps.map Prod.fst).take (m * 1) ++ (ps.map Prod.fst).drop ((m + 1) * 1)) → ∃ h' L', L'.length ≤ 256 ∧ Two w0 (w8.setCell ⟨p, 2, none⟩ (.slice a6 k6 c6)) q g4 p h' room lost L' ∧ Only [q, g, p] w (w8.setCell ⟨p, 2, none⟩ (.slice a6 k6 c6)) ∧ (g4 = g ∨ w.heap.size ≤ g4) ∧ (h' = h ∨ h' = p ∨ w.heap.size ≤ h') := by
        intro a6 c6 k6 w8 E8 hk6 h6
        obtain ⟨h7, k7, o7, f7⟩ := P5.out.next (w2 := w8) (a' := a6) (c' := c6) (ps' := ps.take m ++ ps.drop (m + 1)) (n' := k6) (by rw [rem_len ps m HM'.out, hk6, HPN.out]) (by rw [List.map_append, List.map_take, List.map_drop]; simpa using h6) (fun x hx => HP.out.old x (rem_sub ps m x hx)) E8 (Nat.le_trans R4.out.2.2.2.size B5.out.size)
        have Q7 := Q4.out.below B5.out
        have hmm : m < ms.length := by have := HM'.out; rw [HPN.out] at this; rw [HMN.out]; exact this
        refine ⟨h7, (ms.take m ++ ms.drop (m + 1)).map Prod.snd, ?_, two_pl Q7 rfl P5.out k7 (by rw [List.map_append, List.map_append, List.map_take, List.map_drop, List.map_take, List.map_drop, HMS.out, HPS.out]) o7 f7 (R4.out.2.2.2.trans (B5.out.mono R4.out.2.2.2.size)) T2.out.hq R4.out.2.2.1 T2.out.hp, (Only.of_below (S := [q, g, p]) B2.out).trans ((O4.out.mono (by simp)).trans ((Only.of_below B5.out).trans (o7.mono (by simp)))), ?_, ?_⟩
        · rw [List.length_map, rem_len ms m hmm, HMN.out]
          omega
        · rcases G4.out with e | e
          · exact .inl e
          · exact .inr (Nat.le_trans B2.out.size e)
        · rcases f7 with e | e
          · exact .inr (.inl e)
          · exact .inr (.inr (Nat.le_trans B2.out.size (Nat.le_trans O4.out.size (Nat.le_trans B5.out.size e))))
      have FIN := Lib.hid fin
      clear fin
      go_upto_region 30 with fail
      refine wp_region_plan (fun w' => w'.cell? ⟨ga, 1, none⟩ = some (.int .i64 m) ∧ w'.cell? ⟨p, 2, none⟩ = some (.slice (some ⟨b', off, none⟩) n cc) ∧ Below w5.heap.size w5 w') 20 (.take 0 (.take 1 (.take 2 (.take 3 (.take 4 (.take 5 (.take 6 (.take 7 (.take 9 (.take 10 (.take 11 (.take 12 (.take 13 (.take 14 (.take 15 (.take 16 (.one 8 (.one 17 (.one 18 (.take 19 (.one 20 .done))))))))))))))))))))) (by kernel_rfl) (by kernel_rfl) (by kernel_rfl) (KS _ ((Below.refl _ _).drew)) ?_
      intro hS0
      repeat (refine' wpPlan_take rfl (by rfl) (by assumption) ?_ ?_; rotate_left; (· (intro w hSw; (try dsimp only at hSw); go_simp; try with_reducible rfl)); try simp only [Act.put, List.setIfInBounds_toArray, List.set_cons_zero, List.set_cons_succ])
      refine wpPlan_one rfl (fun K hK => ?_)
      go_simp
      refine (copy_b8 _ m cc _ _ (V5.out.drew.take (by omega)) HO1.out (by omega)).mono ?_
      rintro e w6 ⟨a8, c8, rfl, h6, hb6⟩
      have E6 : Below w5.heap.size w5 w6 := ((Below.refl w5.heap.size w5).drew).trans hb6
      refine hK.out _ _ (KS _ E6) (fun _ => ?_); clear hK K; try simp only [Act.put, List.setIfInBounds_toArray, List.set_cons_zero, List.set_cons_succ]
      refine wpPlan_one rfl (fun K hK => ?_)
      refine step_app (by rfl) _ _ _ (by rfl) w5.heap.size 33 ti _ 1 24 Try.underlying77 hi0 hz0 hz1 hz2 rfl (by omega) a8 m c8 _ (by rfl) h6 A5 (n - (m + 1)) (cc - (m + 1)) _ (by rfl) (V6.out.below E6) HO2.out (by unfold maxLen; omega) (by omega) E6.size ?_
      intro a9 c9 w7 h7
      have E7 : Below w5.heap.size w5 w7 := h7.below h6 E6 (Nat.le_refl _) E6.size
      refine hK.out _ _ (KS _ E7) (fun _ => ?_); clear hK K; try simp only [Act.put, List.setIfInBounds_toArray, List.set_cons_zero, List.set_cons_succ]
      refine wpPlan_one rfl (fun K hK => ?_)
      go_simp
      refine hK.out _ _ (KS _ E7) (fun _ => ?_); clear hK K; try simp only [Act.put, List.setIfInBounds_toArray, List.set_cons_zero, List.set_cons_succ]
      repeat (refine' wpPlan_take rfl (by rfl) (by assumption) ?_ ?_; rotate_left; (· (intro w hSw; (try dsimp only at hSw); go_simp; try with_reducible rfl)); try simp only [Act.put, List.setIfInBounds_toArray, List.set_cons_zero, List.set_cons_succ])
      refine wpPlan_last rfl (fun K hK => ?_)
      have f7 := ((HX.out.below B5.out lp).below E7 lp5).frozen 2
      have y7 := kept E7 _ _ b5
      go_simp
      refine hK.out _ _ ?_; clear hK K; try simp only [Act.put, List.setIfInBounds_toArray, List.set_cons_zero, List.set_cons_succ]
      refine wpPlan_done ?_
      obtain ⟨h19, L9, H9, T9, O9, G9, F9⟩ := FIN.out a9 c9 (m + (n - (m + 1))) w7 E7 rfl h7.own
      obtain ⟨w19, hw19⟩ : ∃ w19, w19 = w7.setCell ⟨p, 2, none⟩ (.slice a9 (m + (n - (m + 1))) c9) := ⟨_, rfl⟩
      rw [← hw19] at T9 O9 ⊢
      have HH := Lib.hid (And.intro T9 (And.intro O9 (And.intro G9 F9)))
      clear T9 O9 G9 F9 hw19 f7 y7 a6 b5
      obtain ⟨ms9, a9, c9, HQ9, l9, t1, t2⟩ := HH.out.1.tail
      obtain ⟨x9, hx9⟩ : ∃ x9, x9 = L9.length := ⟨_, rfl⟩
      rw [← hx9] at l9 t2
      clear hx9
      go_wp2_with fail
      go_quiet (first
        | (go_at_call 34; exact Calls.quiet_of_same ((lq_len_c q g4 room _ ms9 _ (HQ9.out.drewN _) x9 l9).mono fun _ _ e => ⟨e.1, e.2.symm⟩))
        | (go_at_call 35; exact Calls.quiet_of_same ((lq_lost_c q g4 room _ ms9 _ (HQ9.out.drewN _)).mono fun _ _ e => ⟨e.1, e.2.symm⟩)))
      go_wp2_with fail
      go_ret
      exact ⟨lost, L9, H9, Int.le_refl _, by omega, rfl, _, h19, HH.out.1.drewN _, HH.out.2.1.drewN _, HH.out.2.2.1, HH.out.2.2.2⟩
    · have e2 : decide (0 ≤ k ∧ k < n) = false := decide_eq_false hin
      rw [e2]
      have HNO := Lib.hid hin
      clear e2 hin
      go_wp2_with fail
      refine (within_q d 7 _ hx (by omega) (by omega)).mono ?_; rintro e w' ⟨x, rfl, hx5, _, _, rfl⟩
      obtain rfl : x = 3 := by rw [hx5.out, HD.out]
      clear hx5
      have T2 := Lib.hid (HT.out.below B2.out)
      have Q2 := Lib.hid (HQ.out.below B2.out)
      have P2 := Lib.hid (HP.out.below B2.out)
      go_wp2_with fail
      refine (take_no q g room lost ms k _ Q2.out HK.out (by rw [HMN.out]; exact HNO.out)).mono ?_; rintro e w4 ⟨rfl, rfl⟩
      go_upto_region 28 with fail
      go_quiet (fail)
      obtain ⟨w3, hw9⟩ : ∃ w9, w9 = w2.drewN nq := ⟨_, rfl⟩
      rw [← hw9]
      have a1 : w3.cell? ⟨ga, 1, none⟩ = some (.int .i64 k) := by rw [hw9]; exact a1'
      have b2 : w3.cell? ⟨p, 2, none⟩ = some (.slice A n C) := by rw [hw9]; exact b2'
      have B3 : Hid (Below w.heap.size w w3) := by rw [hw9]; exact Lib.hid (below_drewN B2.out _)
      clear T2 Q2 P2 hw9 a1' b2' B2
      clear a1 b2
      have T4 := Lib.hid (HT.out.below B3.out)
      obtain ⟨L9, hL9⟩ : ∃ L9, L9 = L := ⟨_, rfl⟩
      have HL9 := Lib.hid hL9
      clear hL9
      have HH := Lib.hid (And.intro (show Two w0 w3 q g p h room lost L9 by rw [HL9.out]; exact T4.out) (Only.of_below (S := [q, g, p]) B3.out))
      obtain ⟨ms9, a9, c9, HQ9, l9, t1, t2⟩ := HH.out.1.tail
      obtain ⟨x9, hx9⟩ : ∃ x9, x9 = L9.length := ⟨_, rfl⟩
      rw [← hx9] at l9 t2
      clear hx9
      go_wp2_with fail
      go_quiet (first
        | (go_at_call 34; exact Calls.quiet_of_same ((lq_len_c q g room _ ms9 _ (HQ9.out.drewN _) x9 l9).mono fun _ _ e => ⟨e.1, e.2.symm⟩))
        | (go_at_call 35; exact Calls.quiet_of_same ((lq_lost_c q g room _ ms9 _ (HQ9.out.drewN _)).mono fun _ _ e => ⟨e.1, e.2.symm⟩)))
      go_wp2_with fail
      go_ret
      exact ⟨lost, L9, by rw [HL9.out, ← HN.out]; exact hl, Int.le_refl _, by omega, rfl, g, h, HH.out.1.drewN _, HH.out.2.drewN _, .inl rfl, .inl rfl⟩
end Go.Proofs.Ytjdcjofogmplcaa
