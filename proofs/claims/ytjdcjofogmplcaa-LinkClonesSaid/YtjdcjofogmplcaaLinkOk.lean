/- The law's act: a message looked at. -/
import Derived.Test.YtjdcjofogmplcaaLinkC
import Derived.Test.YtjdcjofogmplcaaPlan
import Derived.Deep.DeepCutAuto
import Derived.Deep.CutBlock
namespace Go.Proofs.Ytjdcjofogmplcaa
open Go.RowKit
set_option linter.unusedVariables false

set_option maxRecDepth 100000 in
set_option maxHeartbeats 6400000 in
theorem do_peek (w0 w : World) (q g p h : Nat) (room lost : Int) (L : List (List Int)) (d k t : Int) (R : Byt) (T : Two w0 w q g p h room lost L) (hr : 1 ≤ room ∧ room ≤ 256) (hx : I64 d) (hk : I64 k) (ht : I64 t) (hl : L.length ≤ 256) (hd : d % 7 = 4) :
    Calls Try.prog 44 #[.pointer (some ⟨q, 0, none⟩), .pointer (some ⟨p, 0, none⟩), .agg #[.int .i64 d, .int .i64 k, .int .i64 t, .slice R.a R.xs.length R.c]] w (fun e w' => ∃ lost' L', L'.length ≤ 256 ∧ lost ≤ lost' ∧ lost' ≤ lost + 1 ∧ DoPost w0 w q g p h room lost' L' e w') := by
  obtain ⟨ti, hi0, hz0, hz1, hz2⟩ := info_parts info_b8
  obtain ⟨ms, hq, hms⟩ := T.que
  obtain ⟨ps, hpl, hps⟩ := T.pl
  have hpn : ps.length = L.length := by rw [← hps]; simp
  have hmn : ms.length = L.length := by rw [← hms]; simp
  obtain ⟨A, C, c0, c1, c2, hrow, hcap, hmax⟩ := hpl.row
  have n0 := hpl.lt
  obtain ⟨n1, n2, n3⟩ := que_pl_ne hq hpl
  rw [hpn] at c2 hrow hcap
  obtain ⟨n, hn⟩ : ∃ n, n = L.length := ⟨_, rfl⟩
  rw [← hn] at c2 hrow hcap hl hpn hmn
  have HT := Lib.hid T
  have HQ := Lib.hid hq
  have HP := Lib.hid hpl
  have HMS := Lib.hid hms
  have HPS := Lib.hid hps
  have HPN := Lib.hid hpn
  have HMN := Lib.hid hmn
  have HN := Lib.hid hn
  have HR := Lib.hid hrow
  have HK := Lib.hid hk
  have HT6 := Lib.hid ht
  have HD := Lib.hid hd
  clear T hpl hps hq hms hrow hmax hk ht hd hpn hmn hn
  go_enter Try.func44, Try.ntmps44
  go_upto_region 1 with fail
  obtain ⟨w1, hw1⟩ : ∃ w1, w1 = w.alloc (.cells #[.int .i64 d, .int .i64 k, .int .i64 t, .slice R.a R.xs.length R.c] 82) := ⟨_, rfl⟩
  obtain ⟨ga, hga⟩ : ∃ ga, ga = w.heap.size := ⟨_, rfl⟩
  rw [← hw1, ← hga]
  have hA : Blk w1 ga 82 #[.int .i64 d, .int .i64 k, .int .i64 t, .slice R.a R.xs.length R.c] := by rw [hw1, hga]; exact Blk.new _ _ _
  have hb1 : Below w.heap.size w w1 := by rw [hw1]; exact (Below.refl _ _).alloc (Nat.le_refl _) _
  have a0 := (hA.cell 0).trans (show _ = some (.int .i64 d) from rfl)
  have a1 := (hA.cell 1).trans (show _ = some (.int .i64 k) from rfl)
  have a2 := (hA.cell 2).trans (show _ = some (.int .i64 t) from rfl)
  have a3 := (hA.cell 3).trans (show _ = some (.slice R.a R.xs.length R.c) from rfl)
  have b0 := kept hb1 _ _ c0
  have b1 := kept hb1 _ _ c1
  have b2 := kept hb1 _ _ c2
  have B1 := Lib.hid hb1
  have HA := Lib.hid hA
  have hgp : ga ≠ p := by rw [hga]; omega
  have HGA := Lib.hid hga
  clear hw1 hb1 c0 c1 c2 hA hga
  go_cut [7] (fun v wx => v = .bool (decide (0 ≤ k ∧ k < n)) ∧ ∃ j, wx = w1.drewN j)
  case first =>
    rcases (show (0 ≤ k ∧ k < n) ∨ k < 0 ∨ (0 ≤ k ∧ ¬ k < n) by omega) with h1 | h1 | h1
    · have e0 : decide (0 ≤ k) = true := decide_eq_true h1.1
      have e1 : decide (k < (n : Int)) = true := decide_eq_true h1.2
      have e2 : decide (0 ≤ k ∧ k < n) = true := decide_eq_true h1
      go_quiet (fail)
      go_wp2_with fail
      go_meet
      exact ⟨by rw [e2], _, rfl⟩
    · have e0 : decide (0 ≤ k) = false := decide_eq_false (by omega)
      have e2 : decide (0 ≤ k ∧ k < n) = false := decide_eq_false (by omega)
      go_quiet (fail)
      go_wp2_with fail
      go_meet
      exact ⟨by rw [e2], _, rfl⟩
    · have e0 : decide (0 ≤ k) = true := decide_eq_true h1.1
      have e1 : decide (k < (n : Int)) = false := decide_eq_false h1.2
      have e2 : decide (0 ≤ k ∧ k < n) = false := decide_eq_false (by omega)
      go_quiet (fail)
      go_wp2_with fail
      go_meet
      exact ⟨by rw [e2], _, rfl⟩
  case rest =>
    obtain ⟨rfl, j, rfl⟩ := hcut
    obtain ⟨w2, hw2⟩ : ∃ w2, w2 = w1.drewN j := ⟨_, rfl⟩
    rw [← hw2]
    have a0' : w2.cell? ⟨ga, 0, none⟩ = some (.int .i64 d) := by rw [hw2]; exact a0
    have a1' : w2.cell? ⟨ga, 1, none⟩ = some (.int .i64 k) := by rw [hw2]; exact a1
    have a2' : w2.cell? ⟨ga, 2, none⟩ = some (.int .i64 t) := by rw [hw2]; exact a2
    have a3' : w2.cell? ⟨ga, 3, none⟩ = some (.slice R.a R.xs.length R.c) := by rw [hw2]; exact a3
    have b0' : w2.cell? ⟨p, 0, none⟩ = some (.int .i64 room) := by rw [hw2]; exact b0
    have b1' : w2.cell? ⟨p, 1, none⟩ = some (.int .i64 lost) := by rw [hw2]; exact b1
    have b2' : w2.cell? ⟨p, 2, none⟩ = some (.slice A n C) := by rw [hw2]; exact b2
    have B2 : Hid (Below w.heap.size w w2) := by rw [hw2]; exact Lib.hid (below_drewN B1.out j)
    have A2 : Hid (Blk w2 ga 82 #[.int .i64 d, .int .i64 k, .int .i64 t, .slice R.a R.xs.length R.c]) := by rw [hw2]; exact Lib.hid (HA.out.drewN j)
    clear hw2 a0 a1 a2 a3 b0 b1 b2 B1 HA
    by_cases hin : 0 ≤ k ∧ k < n
    · have e2 : decide (0 ≤ k ∧ k < n) = true := decide_eq_true hin
      rw [e2]
      obtain ⟨m, rfl⟩ := Int.eq_ofNat_of_zero_le hin.1
      have hmlt : m < n := by omega
      have i0 : (0 : Int) ≤ m := by omega
      have i1 : (m : Int) < n := by omega
      clear e2 hin
      go_wp2_with fail
      refine (within_q d 7 _ hx (by omega) (by omega)).mono ?_; rintro e w' ⟨x, rfl, hx5, _, _, rfl⟩
      obtain rfl : x = 4 := by rw [hx5.out, HD.out]
      clear hx5
      have T2 := Lib.hid (HT.out.below B2.out)
      have Q2 := Lib.hid (HQ.out.below B2.out)
      have P2 := Lib.hid (HP.out.below B2.out)
      go_wp2_with fail
      refine (peek_ok q g room lost ms m _ Q2.out (by rw [HMN.out]; exact hmlt)).mono ?_; rintro e w4 ⟨v4, rfl, htx, hb4⟩
      have B24 := Lib.hid hb4
      have a4 := kept hb4 _ _ a1'
      have b4 := kept hb4 _ _ b2'
      have P4 := Lib.hid (P2.out.below hb4)
      have W04 := Lib.hid (T2.out.b.trans (hb4.mono T2.out.b.size))
      have TX := Lib.hid htx
      clear a0' a1' a2' a3' b0' b1' b2' A2 htx hb4
      obtain ⟨aa, cc, hpx, hpo, hph⟩ := P4.out.ex
      have haa : aa = A ∧ cc = C := by
        have e := hpx.cell 2
        rw [b4] at e
        have e2 : (Value.slice A n C) = .slice aa ps.length cc := by simpa using e
        injection e2 with x1 x2 x3
        exact ⟨x1.symm, x3.symm⟩
      obtain ⟨rfl, rfl⟩ := haa
      rw [HPN.out] at hpx hpo
      have HX := Lib.hid hpx
      have V4 := Lib.hid (own_vrow hpo)
      have HPO := Lib.hid hpo
      have hm' : m < ps.length := by rw [HPN.out]; exact hmlt
      have HM' := Lib.hid hm'
      have h1 : ∀ u ∈ ps.map Prod.fst, u.oneCell' = true := by
        intro u hu
        obtain ⟨m, hm, rfl⟩ := List.mem_map.1 hu
        exact (HP.out.old m hm).one
      have HO := Lib.hid h1
      have lp := hpx.lt
      have hold := HP.out.old _ (List.getElem_mem HM'.out)
      obtain ⟨a', c', e', -, -, hv', h50⟩ := hold
      have HV' := Lib.hid hv'
      obtain ⟨b', off, rfl, hlt', hcell⟩ := V4.out.2 (by omega)
      have hbp : b' ≠ p := own_sep HPO.out HX.out (by decide) _ rfl
      have r4 : w4.cell? ⟨b', off + m, none⟩ = some (.slice a' (ps[m]'HM'.out).2.length c') := by
        have := hcell m (ps[m]'HM'.out).1 (by simp [HM'.out])
        rw [e'] at this
        exact this
      obtain ⟨bs, hbs⟩ : ∃ bs, bs = (ps[m]'HM'.out).2 := ⟨_, rfl⟩
      rw [← hbs] at r4 e' h50
      have HV : Hid (VRow w0 a' bs.length 1 (brow bs)) := by rw [hbs]; exact HV'
      have E' := Lib.hid e'
      have HBS := Lib.hid hbs
      clear hv' HV' hcell hbs e'
      clear hpx hpo hph h1 hm'
      have hbm : (ms[m]'(by rw [HMN.out]; exact hmlt)).2 = bs := by rw [HBS.out]; exact (nth_same HMS.out HPS.out m (by rw [HMN.out]; exact hmlt) HM'.out).symm
      have htx := TX.out
      rw [hbm] at htx
      obtain ⟨av, cv, rfl, hown⟩ := htx
      have VB := Lib.hid (own_vrow hown)
      have VA : Hid (VRow w4 a' bs.length 1 (brow bs)) := Lib.hid (HV.out.below W04.out)
      have OWN4 := Lib.hid hown
      clear TX hown hbm
      have z1 := fun (x : Later w4) => x.cell a4
      have z2 := fun (x : Later w4) => x.cell b4
      have z3 := fun (x : Later w4) => x.cell r4
      go_upto_region 33 with fail
      refine wp_region_later (by kernel_rfl) (by kernel_rfl) ?_
      repeat (go_big_quiet_step (first
        | (go_at_call 33; exact Later.call (same_byte_c _ _ _ _ _ _ bs _ (VB.out.later _) (VA.out.later _) (by omega)))))
      refine wpQuiet_nil ?_
      rintro _ ⟨x, rfl⟩
      obtain ⟨w5, hw5⟩ : ∃ w5, w5 = x.w := ⟨_, rfl⟩
      have B5 : Hid (Below w4.heap.size w4 w5) := by rw [hw5]; exact Lib.hid x.b
      rw [← hw5]
      have OWN5 := Lib.hid (own_below OWN4.out B5.out)
      have B25 := Lib.hid (B24.out.trans (B5.out.mono B24.out.size))
      clear z1 z2 z3 hw5 x a4 b4 r4 VA VB OWN4 B24 B5 P4 W04
      go_wp2_with fail
      go_loopw [260] (fun i wr => ∃ j : Nat, j ≤ bs.length ∧ i = .int .i64 j ∧ Below w2.heap.size w2 wr ∧ ∃ us : List Int, wr.ownsRow w2.heap.size 5 1 (.slice av bs.length cv) bs.length (brow us)) (fun i _ => bs.length - (intOf i).toNat)
      case atStart => exact ⟨0, by omega, rfl, B25.out, bs, OWN5.out⟩
      case round =>
        obtain ⟨j, hj, rfl, hb, us, ho⟩ := hrel
        by_cases hlt : j < bs.length
        · have hul : us.length = bs.length := by have := ho.1; simpa [brow] using this
          obtain ⟨gb, rfl⟩ : ∃ gb, av = some ⟨gb, 0, none⟩ := by
            rcases own_addr ho with ⟨_, h0, _⟩ | h0
            · omega
            · exact h0
          have q1 : wr.cell? ⟨gb, j, none⟩ = some (.int .u8 (us[j]'(by omega))) := by
            rw [World.ownsRow.cellAt ho j (by omega)]
            simp [brow, hul, hlt]
          have q2 : wr.frozen? ⟨gb, j, none⟩ = false := World.ownsRow.frozenAt ho j
          obtain ⟨y, hy⟩ : ∃ y, y = us[j]'(by omega) := ⟨_, rfl⟩
          rw [← hy] at q1
          clear hy
          have i7 : (0 : Int) ≤ j := by omega
          have i8 : (j : Int) < bs.length := by omega
          have hgb : w2.heap.size ≤ gb := (World.ownsRow.lt ho gb rfl).1
          have OO := Lib.hid ho
          have HB := Lib.hid hb
          clear ho hb
          go_wp2_with fail
          go_roundw
          case rel => exact ⟨j + 1, by omega, by go_num, ((Only.refl [gb] wr).setCell (.inl (by simp)) _).below HB.out HB.out.size (by simpa using hgb), us.set j ((y + 1) % 256), by
            have := (World.ownsRow.stored OO.out j (.int .u8 ((y + 1) % 256))).1
            rw [brow, ← List.map_set] at this
            exact this⟩
          case measure => simp [intOf]; omega
        · have B3 := Lib.hid (B2.out.trans (hb.mono B2.out.size))
          clear T2 Q2 P2
          have T4 := Lib.hid (HT.out.below B3.out)
          obtain ⟨L9, hL9⟩ : ∃ L9, L9 = L := ⟨_, rfl⟩
          have HL9 := Lib.hid hL9
          clear hL9
          have HH := Lib.hid (And.intro (show Two w0 wr q g p h room lost L9 by rw [HL9.out]; exact T4.out) (Only.of_below (S := [q, g, p]) B3.out))
          obtain ⟨ms9, a9, c9, HQ9, l9, t1, t2⟩ := HH.out.1.tail
          obtain ⟨x9, hx9⟩ : ∃ x9, x9 = L9.length := ⟨_, rfl⟩
          rw [← hx9] at l9 t2
          clear hx9
          go_wp2_with fail
          go_quiet (first
            | (go_at_call 34; exact Calls.quiet_of_same ((lq_len_c q g room _ ms9 _ (HQ9.out.drewN _) x9 l9).mono fun _ _ e => ⟨e.1, e.2.symm⟩))
            | (go_at_call 35; exact Calls.quiet_of_same ((lq_lost_c q g room _ ms9 _ (HQ9.out.drewN _)).mono fun _ _ e => ⟨e.1, e.2.symm⟩)))
          go_wp2_with fail
          go_ret
          exact ⟨lost, L9, by rw [HL9.out, ← HN.out]; exact hl, Int.le_refl _, by omega, rfl, g, h, HH.out.1.drewN _, HH.out.2.drewN _, .inl rfl, .inl rfl⟩
    · have e2 : decide (0 ≤ k ∧ k < n) = false := decide_eq_false hin
      rw [e2]
      have HNO := Lib.hid hin
      clear e2 hin
      go_wp2_with fail
      refine (within_q d 7 _ hx (by omega) (by omega)).mono ?_; rintro e w' ⟨x, rfl, hx5, _, _, rfl⟩
      obtain rfl : x = 4 := by rw [hx5.out, HD.out]
      clear hx5
      have T2 := Lib.hid (HT.out.below B2.out)
      have Q2 := Lib.hid (HQ.out.below B2.out)
      have P2 := Lib.hid (HP.out.below B2.out)
      go_wp2_with fail
      refine (peek_no q g room lost ms k _ Q2.out HK.out (by rw [HMN.out]; exact HNO.out)).mono ?_; rintro e w4 ⟨rfl, rfl⟩
      go_upto_region 33 with fail
      go_quiet (fail)
      obtain ⟨w3, hw9⟩ : ∃ w9, w9 = w2.drewN nq := ⟨_, rfl⟩
      rw [← hw9]
      have a1 : w3.cell? ⟨ga, 1, none⟩ = some (.int .i64 k) := by rw [hw9]; exact a1'
      have b2 : w3.cell? ⟨p, 2, none⟩ = some (.slice A n C) := by rw [hw9]; exact b2'
      have B3 : Hid (Below w.heap.size w w3) := by rw [hw9]; exact Lib.hid (below_drewN B2.out _)
      clear T2 Q2 P2 hw9 a1' b2' B2
      clear a1 b2
      go_wp2_with fail
      go_loopw [260] (fun i wr => i = .int .i64 0 ∧ wr = w3) (fun _ _ => 0)
      case atStart => exact ⟨rfl, rfl⟩
      case round =>
        obtain ⟨rfl, rfl⟩ := hrel
        have T4 := Lib.hid (HT.out.below B3.out)
        obtain ⟨L9, hL9⟩ : ∃ L9, L9 = L := ⟨_, rfl⟩
        have HL9 := Lib.hid hL9
        clear hL9
        have HH := Lib.hid (And.intro (show Two w0 wr q g p h room lost L9 by rw [HL9.out]; exact T4.out) (Only.of_below (S := [q, g, p]) B3.out))
        obtain ⟨ms9, a9, c9, HQ9, l9, t1, t2⟩ := HH.out.1.tail
        obtain ⟨x9, hx9⟩ : ∃ x9, x9 = L9.length := ⟨_, rfl⟩
        rw [← hx9] at l9 t2
        clear hx9
        go_wp2_with fail
        go_quiet (first
          | (go_at_call 34; exact Calls.quiet_of_same ((lq_len_c q g room _ ms9 _ (HQ9.out.drewN _) x9 l9).mono fun _ _ e => ⟨e.1, e.2.symm⟩))
          | (go_at_call 35; exact Calls.quiet_of_same ((lq_lost_c q g room _ ms9 _ (HQ9.out.drewN _)).mono fun _ _ e => ⟨e.1, e.2.symm⟩)))
        go_wp2_with fail
        go_ret
        exact ⟨lost, L9, by rw [HL9.out, ← HN.out]; exact hl, Int.le_refl _, by omega, rfl, g, h, HH.out.1.drewN _, HH.out.2.drewN _, .inl rfl, .inl rfl⟩
end Go.Proofs.Ytjdcjofogmplcaa
