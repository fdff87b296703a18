/- NetPlays: for every room and all lists of acts the law returns true: whatever is pushed, taken, repeated, moved on whichever link, each call answers what the document says; a clone goes its own way. No condition. -/
import Derived.Test.YtfhlcjfgbhmecaaZPlQ
import Derived.Test.YtfhlcjfgbhmecaaZNetY
import Derived.Test.YtfhlcjfgbhmecaaZNetW
import Derived.Test.YtfhlcjfgbhmecaaZNdA
import Derived.Test.YtfhlcjfgbhmecaaRows
import Derived.Deep.CutRange
import Derived.Deep.DeepCutAuto
import Derived.Deep.CutBlock
namespace Go.Proofs.Ytfhlcjfgbhmecaa.NetPlays
open Go.RowKit Go.ChangeShapes Go.WideShapes Go.ChangeAt
set_option linter.unusedVariables false

abbrev no : Nat → Prop := fun _ => False
set_option maxRecDepth 100000 in
set_option maxHeartbeats 6400000 in
theorem walk (queue : Int) (a1 : Option Addr) (m1 c1 : Nat) (f1 : Nat → Nat → Int) (R1 : Nat → Byt) (a2 : Option Addr) (m2 c2 : Nat) (f2 : Nat → Nat → Int) (R2 : Nat → Byt) (w : World) (hq : I64 queue) (hr1 : ActsB w a1 m1 5 f1 R1) (hm1 : m1 ≤ maxLen) (hr2 : ActsB w a2 m2 5 f2 R2) (hm2 : m2 ≤ maxLen) :
    Calls Try.prog 14 #[.int .i64 queue, .slice a1 m1 c1, .slice a2 m2 c2] w fun e w' => e = .returned (.bool true) ∧ Below w.heap.size w w' := by
  unfold maxLen at hm1 hm2
  have H1 := Lib.hid hr1
  have H2 := Lib.hid hr2
  clear hr1 hr2
  go_enter Try.func14, Try.ntmps14
  go_wp2_with fail
  refine (cfg_c _).mono ?_; rintro e w1 ⟨rfl, hb1⟩
  have B1 := Lib.hid hb1
  clear hb1
  go_upto_region 2 with (first | (refine wpList_store_row rfl 64 (.tmp 7) (.tmp 16) rfl w1.heap.size (cfgA 64) rfl rfl 64 _ (Blk.new _ _ _) (by kernel_rfl) (by kernel_rfl) (by kernel_rfl) ?_; rw [World.setRow_alloc_new]; try simp only [Act.put]))
  obtain ⟨w2, hw2⟩ : ∃ w2, w2 = w1.alloc (.cells (cfgA 64) 64) := ⟨_, rfl⟩
  obtain ⟨gc, hgc⟩ : ∃ g, g = w1.heap.size := ⟨_, rfl⟩
  rw [← hw2, ← hgc]
  have k2 : Blk w2 gc 64 (cfgA 64) := by rw [hw2, hgc]; exact Blk.new _ _ _
  have hb2 : Below w.heap.size w w2 := by rw [hw2]; exact B1.out.alloc B1.out.size _
  have hb3 : Below w.heap.size w (w2.setCell ⟨gc, 4, none⟩ (.int .i64 queue)) := ((Only.refl [gc] w2).setCell (.inl (by simp)) _).below hb2 hb2.size (by rw [hgc]; simpa using B1.out.size)
  have K3 : Hid (Blk (w2.setCell ⟨gc, 4, none⟩ (.int .i64 queue)) gc 64 (cfgA queue)) := Lib.hid (k2.set_ 4 _)
  have B3 := Lib.hid hb3
  have c4 : w2.cell? ⟨gc, 4, none⟩ = some (.int .i64 64) := k2.cell 4
  have f4 := k2.frozen 4
  clear hw2 hgc k2 hb2 hb3 B1
  go_upto_region 3 with fail
  obtain ⟨w3, hw3⟩ : ∃ w3, w3 = w2.setCell ⟨gc, 4, none⟩ (.int .i64 queue) := ⟨_, rfl⟩
  rw [← hw3] at K3 B3 ⊢
  clear hw3 c4 f4
  have k3 := K3.out
  have q0 := k3.cell 0
  have q1 := k3.cell 1
  have q2 := k3.cell 2
  have q3 := k3.cell 3
  have q4 := k3.cell 4
  have q5 := k3.cell 5
  have q6 := k3.cell 6
  have q7 := k3.cell 7
  have q8 := k3.cell 8
  have q9 := k3.cell 9
  have q10 := k3.cell 10
  have q11 := k3.cell 11
  have q12 := k3.cell 12
  have q13 := k3.cell 13
  have q14 := k3.cell 14
  clear k3
  by_cases hqq : 1 ≤ queue ∧ queue ≤ 256
  rotate_left
  · have HQ := Lib.hid hqq
    go_wp2_with fail
    refine (nnew_bad queue HQ.out _).mono ?_; rintro e w4 ⟨rfl, hb4⟩
    have B4 := Lib.hid (B3.out.trans (hb4.mono B3.out.size))
    rcases (show queue < 1 ∨ (¬ queue < 1 ∧ (256 : Int) < queue) by omega) with h1 | ⟨h1, h2⟩
    all_goals
      clear hqq hb4 q0 q1 q2 q3 q4 q5 q6 q7 q8 q9 q10 q11 q12 q13 q14
      go_wp2_with fail
      refine (nwakes_c _).mono ?_; rintro e w5 ⟨rfl, hb5⟩
      have B5 := Lib.hid (B4.out.trans (hb5.mono B4.out.size))
      clear hb5
      go_wp2_with fail
      go_ret
      exact ⟨by first | rfl | trivial, B5.out⟩
  · have HQ := Lib.hid hqq
    have i1 : ¬ queue < 1 := by omega
    have i2 : ¬ (256 : Int) < queue := by omega
    clear hqq
    go_wp2_with fail
    refine (nnew_a queue HQ.out _).mono ?_; rintro e w4 ⟨gn, qq, g, rfl, hn4, hb4, -, hq4⟩
    have N4 := Lib.hid hn4
    have K4 := Lib.hid (K3.out.below hb4 K3.out.lt)
    have B4 := Lib.hid (B3.out.trans (hb4.mono B3.out.size))
    have Q4 := Lib.hid (fun k hk => (⟨Nat.le_trans B3.out.size (hq4 k hk).1, Nat.le_trans B3.out.size (hq4 k hk).2⟩ : w.heap.size ≤ qq k ∧ w.heap.size ≤ g k))
    clear hn4 hb4 hq4 K3 B3 q0 q1 q2 q3 q4 q5 q6 q7 q8 q9 q10 q11 q12 q13 q14
    have k4 := K4.out
    have q0 := k4.cell 0
    have q1 := k4.cell 1
    have q2 := k4.cell 2
    have q3 := k4.cell 3
    have q4 := k4.cell 4
    have q5 := k4.cell 5
    have q6 := k4.cell 6
    have q7 := k4.cell 7
    have q8 := k4.cell 8
    have q9 := k4.cell 9
    have q10 := k4.cell 10
    have q11 := k4.cell 11
    have q12 := k4.cell 12
    have q13 := k4.cell 13
    have q14 := k4.cell 14
    clear k4
    go_wp2_with fail
    refine (rcluster_c queue HQ.out _).mono ?_; rintro e w5 ⟨x, gc', nb, an, cn, ac, cc, ae, ce, aq, cq, pn, pc, rfl, hx5, hb5⟩
    have X5 := Lib.hid hx5
    have N5 := Lib.hid (N4.out.below hb5)
    have B5 := Lib.hid (B4.out.trans (hb5.mono B4.out.size))
    have sz4 := B4.out.size
    clear hx5 hb5 N4 K4 B4 q0 q1 q2 q3 q4 q5 q6 q7 q8 q9 q10 q11 q12 q13 q14
    have xk : ∀ o, Blk (w5.alloc o) x _ _ := fun o => X5.out.blk.below ((Below.refl _ _).alloc (Nat.le_refl _) o) X5.out.blk.lt
    have x15 : ∀ o, (w5.alloc o).cell? ⟨x, 15, none⟩ = some (.slice none 0 0) := fun o => (xk o).cell 15
    have z15 : ∀ o, (w5.alloc o).frozen? ⟨x, 15, none⟩ = false := fun o => (xk o).frozen 15
    go_upto_region 10 with fail
    clear xk x15 z15
    obtain ⟨w6, hw6⟩ : ∃ w6, w6 = w5.alloc (.cells #[.int .i64 0, .int .i64 1, .int .i64 2, .int .i64 3, .int .i64 4, .int .i64 100, .int .i64 101, .int .i64 102] 3) := ⟨_, rfl⟩
    obtain ⟨gf, hgf⟩ : ∃ g, g = w5.heap.size := ⟨_, rfl⟩
    rw [← hw6, ← hgf]
    have hf6 : Blk w6 gf 3 #[.int .i64 0, .int .i64 1, .int .i64 2, .int .i64 3, .int .i64 4, .int .i64 100, .int .i64 101, .int .i64 102] := by rw [hw6, hgf]; exact Blk.new _ _ _
    have hb6 : Below w5.heap.size w5 w6 := by rw [hw6]; exact (Below.refl _ _).alloc (Nat.le_refl _) _
    obtain ⟨ge, gq, rx⟩ := X5.out.rx (Nat.le_trans (Nat.le_refl _) sz4) B5.out hb6 hf6 (VRow.of_blk hf6 rfl)
    have hx6 := X5.out.below hb6
    have n6 := (N5.out.below hb6).ref (t := 99) (S := [x]) ((Only.refl _ w6).setCell (p := ⟨x, 15, none⟩) (.inl (by simp)) (.slice (some ⟨gf, 0, none⟩) 8 8)) (fun k hk => by
      have e : k = x := by simpa using hk
      rw [e]; exact ⟨_, hx6.blk⟩) (by decide)
    have J6 : Hid (J2 w (w6.setCell ⟨x, 15, none⟩ (.slice (some ⟨gf, 0, none⟩) 8 8)) gn x queue 0 0 (fun _ => []) (fun _ => []) True no) := Lib.hid ⟨⟨_, qq, g, fun _ => 0, fun _ => [], _, fun _ => [], gf, 8, nb, an, cn, ac, cc, ge, ce, gq, cq, _, _, pn, pc, n6, rx, Q4.out, fun k => rfl, fun a b _ _ _ => rfl, fun k => Int.le_refl 0, rfl, fun k j _ _ h => by simp at h, fun k _ m hm => absurd hm (by simp)⟩, fun a _ => rfl, rx.below⟩
    obtain ⟨w7, hw7⟩ : ∃ w7, w7 = w6.setCell ⟨x, 15, none⟩ (.slice (some ⟨gf, 0, none⟩) 8 8) := ⟨_, rfl⟩
    rw [← hw7] at J6 ⊢
    clear hw7 hw6 hgf hf6 hb6 rx hx6 n6 X5 N5 B5 Q4 sz4
    go_upto_block 0 with fail
    go_cut [12] from 54 to 71 (fun s wx => ∃ S Q, J2 w wx gn x queue S S Q Q True no ∧ 0 ≤ S ∧ S ≤ 80)
    case first =>
      go_wp2_with fail
      go_loopw [12] (fun i wr => ∃ k : Nat, k ≤ m1 ∧ k ≤ 80 ∧ i = .int .i64 k ∧ ∃ S Q, J2 w wr gn x queue S S Q Q True no ∧ 0 ≤ S ∧ S ≤ k) (fun i _ => m1 - (intOf i).toNat)
      case atStart => exact ⟨0, by omega, by omega, rfl, 0, _, J6.out, by omega, by omega⟩
      case round =>
        obtain ⟨k, hk, hk8, rfl, S, Q, hJ, hS, hSk⟩ := hrel
        have HJ := Lib.hid hJ
        clear hJ
        by_cases hlt : k < m1
        · have i3 : (k : Int) < m1 := by omega
          by_cases h80 : k < 80
          · have i4 : (k : Int) < 80 := by omega
            obtain ⟨b, off, rfl, d0, d1, d2, d3, d4, d5, hci⟩ := act_pl H1.out HJ.out.below hlt
            have i0 : (0 : Int) ≤ k := by omega
            have HCI := Lib.hid hci
            clear hci
            go_wp2_with fail
            refine (do_pl w _ gn x queue S Q True _ _ _ _ _ (R1 k) HJ.out HQ.out (H1.out.int _ _) (H1.out.int _ _) (H1.out.int _ _) (H1.out.int _ _) (H1.out.int _ _) HCI.out ⟨hS, by omega⟩).mono ?_
            rintro e w8 ⟨rfl, S', Q', s1, s2, hJ8⟩
            have J8 := Lib.hid hJ8
            clear hJ8 d0 d1 d2 d3 d4 d5
            go_wp2_with fail
            go_roundw
            case rel => exact ⟨k + 1, by omega, by omega, by go_num, S', Q', J8.out, by omega, by omega⟩
            case measure => simp [intOf]; omega
          · have i4 : ¬ (k : Int) < 80 := by omega
            go_wp2_with fail
            go_meet
            exact ⟨S, Q, HJ.out, hS, by omega⟩
        · have i3 : ¬ (k : Int) < m1 := by omega
          go_wp2_with fail
          go_meet
          exact ⟨S, Q, HJ.out, hS, by omega⟩
    case rest =>
      obtain ⟨wa, rfl⟩ : ∃ wa, wa = wc := ⟨_, rfl⟩
      obtain ⟨S, Q, hJ, hS, hS8⟩ := hcut
      have JA := Lib.hid hJ
      clear hJ J6
      go_wp2_with fail
      refine (j_nclone JA.out).mono ?_; rintro e w8 ⟨gn', rfl, hc8, hb8⟩
      have C8 := Lib.hid hc8
      have B8 := Lib.hid hb8
      clear hc8 hb8
      go_wp2_with fail
      refine (j_rclone JA.out trivial B8.out C8.out).mono ?_; rintro e w9 ⟨y, rfl, hJ9, hb9⟩
      have JB := Lib.hid hJ9
      have J9 := Lib.hid (JA.out.keep (JB.out.below))
      clear hJ9 hb9 B8 C8
      go_wp2_with fail
      refine (j_nlinks J9.out (LK Q) rfl).mono ?_; rintro e w10 ⟨A1, e1, rfl, hp1, hb10⟩
      have P1 := Lib.hid hp1
      have J10 := Lib.hid (J9.out.keep hb10)
      have JB10 := Lib.hid (JB.out.keep hb10)
      clear hp1 hb10
      go_wp2_with fail
      refine (j_rlinks J10.out (LK Q) rfl).mono ?_; rintro e w11 ⟨A2, e2, rfl, hp2, hb11⟩
      have P1' := Lib.hid (own_vrow (own_below P1.out hb11))
      have P2 := Lib.hid (own_vrow hp2)
      have JB11 := Lib.hid (JB10.out.keep hb11)
      clear hp2 hb11
      go_wp2_with fail
      refine (same2_c A1 A2 (LK Q).length (LK Q).length e1 e2 (LK Q) (LK Q) _ P1'.out P2.out rfl rfl (by have := LK_len Q; omega) (by have := LK_len Q; omega) true (by simp)).mono ?_; rintro e w12 ⟨rfl, hb12⟩
      have JB12 := Lib.hid (JB11.out.keep hb12)
      clear hb12 P1 P1' P2 J9 J10 JB JB10 JB11
      go_upto_block 2 with fail
      go_cut [15] from 86 to 103 (fun s wx => ∃ S' Q', J2 wa wx gn' y queue S' S' Q' Q' False no ∧ 0 ≤ S' ∧ S' ≤ 120)
      case first =>
        go_wp2_with fail
        go_loopw [15] (fun i wr => ∃ k : Nat, k ≤ m2 ∧ k ≤ 40 ∧ i = .int .i64 k ∧ ∃ S' Q', J2 wa wr gn' y queue S' S' Q' Q' False no ∧ 0 ≤ S' ∧ S' ≤ 80 + k) (fun i _ => m2 - (intOf i).toNat)
        case atStart => exact ⟨0, by omega, by omega, rfl, S, _, JB12.out, by omega, by omega⟩
        case round =>
          obtain ⟨k, hk, hk8, rfl, S', Q', hJ, hS', hSk⟩ := hrel
          have HJ := Lib.hid hJ
          clear hJ
          by_cases hlt : k < m2
          · have i3 : (k : Int) < m2 := by omega
            by_cases h80 : k < 40
            · have i4 : (k : Int) < 40 := by omega
              obtain ⟨b, off, rfl, d0, d1, d2, d3, d4, d5, hci⟩ := act_pl H2.out (JA.out.below.trans (HJ.out.below.mono JA.out.below.size)) hlt
              have i0 : (0 : Int) ≤ k := by omega
              have HCI := Lib.hid (hci.below JA.out.below)
              clear hci
              go_wp2_with fail
              refine (do_pl wa _ gn' y queue S' Q' False _ _ _ _ _ (R2 k) HJ.out HQ.out (H2.out.int _ _) (H2.out.int _ _) (H2.out.int _ _) (H2.out.int _ _) (H2.out.int _ _) HCI.out ⟨hS', by omega⟩).mono ?_
              rintro e w13 ⟨rfl, S2, Q2, s1, s2, hJ8⟩
              have J8 := Lib.hid hJ8
              clear hJ8 d0 d1 d2 d3 d4 d5
              go_wp2_with fail
              go_roundw
              case rel => exact ⟨k + 1, by omega, by omega, by go_num, S2, Q2, J8.out, by omega, by omega⟩
              case measure => simp [intOf]; omega
            · have i4 : ¬ (k : Int) < 40 := by omega
              go_wp2_with fail
              go_meet
              exact ⟨S', Q', HJ.out, hS', by omega⟩
          · have i3 : ¬ (k : Int) < m2 := by omega
            go_wp2_with fail
            go_meet
            exact ⟨S', Q', HJ.out, hS', by omega⟩
      case rest =>
        obtain ⟨S', Q', hJ, hS', hS12⟩ := hcut
        have JB2 := Lib.hid hJ
        have JA2 := Lib.hid (JA.out.keep hJ.below)
        have c21 := JA2.out.rlost
        have KS : ∀ w', Below wc.heap.size wc w' → w'.cell? ⟨x, 21, none⟩ = some (.int .i64 S) := fun w' o => kept o _ _ c21
        clear hJ JA JB12
        go_upto_region 24 with fail
        refine wp_region_plan (fun w' => w'.cell? ⟨x, 21, none⟩ = some (.int .i64 S)) 25 (.take 0 (.take 2 (.one 1 (.one 3 (.one 4 (.take 5 (.take 6 (.take 8 (.one 7 (.one 9 (.one 10 (.take 11 (.take 12 (.take 13 (.take 15 (.take 16 (.take 17 (.take 18 (.one 14 (.take 19 (.take 20 (.take 21 (.one 22 (.take 23 (.take 24 .done))))))))))))))))))))))))) (by kernel_rfl) (by kernel_rfl) (by kernel_rfl) (KS _ ((Below.refl _ _).drew)) ?_
        intro hS0
        have E0 : Below wc.heap.size wc wc.drew := (Below.refl _ _).drew
        repeat (refine' wpPlan_take rfl (by rfl) (by assumption) ?_ ?_; rotate_left; (· (intro w hSw; (try dsimp only at hSw); go_simp; try with_reducible rfl)); try simp only [Act.put, List.setIfInBounds_toArray, List.set_cons_zero, List.set_cons_succ])
        refine wpPlan_one rfl (fun KT hKT => ?_)
        go_simp
        refine (j_nlinks (JA2.out.keep E0) (LK Q) rfl).mono ?_; rintro e u1 ⟨A1, e1, rfl, hp1, hu1⟩
        have E1 := E0.trans (hu1.mono E0.size)
        refine hKT.out _ _ (KS _ E1) (fun _ => ?_); clear hKT KT; try simp only [Act.put, List.setIfInBounds_toArray, List.set_cons_zero, List.set_cons_succ]
        repeat (refine' wpPlan_take rfl (by rfl) (by assumption) ?_ ?_; rotate_left; (· (intro w hSw; (try dsimp only at hSw); go_simp; try with_reducible rfl)); try simp only [Act.put, List.setIfInBounds_toArray, List.set_cons_zero, List.set_cons_succ])
        refine wpPlan_one rfl (fun KT hKT => ?_)
        go_simp
        refine (j_rlinks (JA2.out.keep E1) (LK Q) rfl).mono ?_; rintro e u2 ⟨A2, e2, rfl, hp2, hu2⟩
        have E2 := E1.trans (hu2.mono E1.size)
        refine hKT.out _ _ (KS _ E2) (fun _ => ?_); clear hKT KT; try simp only [Act.put, List.setIfInBounds_toArray, List.set_cons_zero, List.set_cons_succ]
        repeat (refine' wpPlan_take rfl (by rfl) (by assumption) ?_ ?_; rotate_left; (· (intro w hSw; (try dsimp only at hSw); go_simp; try with_reducible rfl)); try simp only [Act.put, List.setIfInBounds_toArray, List.set_cons_zero, List.set_cons_succ])
        refine wpPlan_one rfl (fun KT hKT => ?_)
        go_simp
        refine (same2_c A1 A2 (LK Q).length (LK Q).length e1 e2 (LK Q) (LK Q) _ (own_vrow (own_below hp1 hu2)) (own_vrow hp2) rfl rfl (by have := LK_len Q; omega) (by have := LK_len Q; omega) true (by simp)).mono ?_; rintro e u3 ⟨rfl, hu3⟩
        have E3 := E2.trans (hu3.mono E2.size)
        clear hp1 hp2
        refine hKT.out _ _ (KS _ E3) (fun _ => ?_); clear hKT KT; try simp only [Act.put, List.setIfInBounds_toArray, List.set_cons_zero, List.set_cons_succ]
        repeat (refine' wpPlan_take rfl (by rfl) (by assumption) ?_ ?_; rotate_left; (· (intro w hSw; (try dsimp only at hSw); go_simp; try with_reducible rfl)); try simp only [Act.put, List.setIfInBounds_toArray, List.set_cons_zero, List.set_cons_succ])
        refine wpPlan_one rfl (fun KT hKT => ?_)
        go_simp
        refine (j_nlinks (JB2.out.keep E3) (LK Q') rfl).mono ?_; rintro e u4 ⟨A3, e3, rfl, hp3, hu4⟩
        have E4 := E3.trans (hu4.mono E3.size)
        refine hKT.out _ _ (KS _ E4) (fun _ => ?_); clear hKT KT; try simp only [Act.put, List.setIfInBounds_toArray, List.set_cons_zero, List.set_cons_succ]
        repeat (refine' wpPlan_take rfl (by rfl) (by assumption) ?_ ?_; rotate_left; (· (intro w hSw; (try dsimp only at hSw); go_simp; try with_reducible rfl)); try simp only [Act.put, List.setIfInBounds_toArray, List.set_cons_zero, List.set_cons_succ])
        refine wpPlan_one rfl (fun KT hKT => ?_)
        go_simp
        refine (j_rlinks (JB2.out.keep E4) (LK Q') rfl).mono ?_; rintro e u5 ⟨A4, e4, rfl, hp4, hu5⟩
        have E5 := E4.trans (hu5.mono E4.size)
        refine hKT.out _ _ (KS _ E5) (fun _ => ?_); clear hKT KT; try simp only [Act.put, List.setIfInBounds_toArray, List.set_cons_zero, List.set_cons_succ]
        repeat (refine' wpPlan_take rfl (by rfl) (by assumption) ?_ ?_; rotate_left; (· (intro w hSw; (try dsimp only at hSw); go_simp; try with_reducible rfl)); try simp only [Act.put, List.setIfInBounds_toArray, List.set_cons_zero, List.set_cons_succ])
        refine wpPlan_one rfl (fun KT hKT => ?_)
        go_simp
        refine (same2_c A3 A4 (LK Q').length (LK Q').length e3 e4 (LK Q') (LK Q') _ (own_vrow (own_below hp3 hu5)) (own_vrow hp4) rfl rfl (by have := LK_len Q'; omega) (by have := LK_len Q'; omega) true (by simp)).mono ?_; rintro e u6 ⟨rfl, hu6⟩
        have E6 := E5.trans (hu6.mono E5.size)
        clear hp3 hp4
        refine hKT.out _ _ (KS _ E6) (fun _ => ?_); clear hKT KT; try simp only [Act.put, List.setIfInBounds_toArray, List.set_cons_zero, List.set_cons_succ]
        repeat (refine' wpPlan_take rfl (by rfl) (by assumption) ?_ ?_; rotate_left; (· (intro w hSw; (try dsimp only at hSw); go_simp; try with_reducible rfl)); try simp only [Act.put, List.setIfInBounds_toArray, List.set_cons_zero, List.set_cons_succ])
        refine wpPlan_one rfl (fun KT hKT => ?_)
        go_simp
        refine (j_lost (JA2.out.keep E6) (by omega)).mono ?_; rintro e w' ⟨rfl, rfl⟩
        refine hKT.out _ _ (KS _ E6) (fun _ => ?_); clear hKT KT; try simp only [Act.put, List.setIfInBounds_toArray, List.set_cons_zero, List.set_cons_succ]
        repeat (refine' wpPlan_take rfl (by rfl) (by assumption) ?_ ?_; rotate_left; (· (intro w hSw; (try dsimp only at hSw); go_simp; try with_reducible rfl)); try simp only [Act.put, List.setIfInBounds_toArray, List.set_cons_zero, List.set_cons_succ])
        refine wpPlan_one rfl (fun KT hKT => ?_)
        go_simp
        refine (nwakes_c _).mono ?_; rintro e u7 ⟨rfl, hu7⟩
        have E7 := E6.trans (hu7.mono E6.size)
        refine hKT.out _ _ (KS _ E7) (fun _ => ?_); clear hKT KT; try simp only [Act.put, List.setIfInBounds_toArray, List.set_cons_zero, List.set_cons_succ]
        repeat (refine' wpPlan_take rfl (by rfl) (by assumption) ?_ ?_; rotate_left; (· (intro w hSw; (try dsimp only at hSw); go_simp; try with_reducible rfl)); try simp only [Act.put, List.setIfInBounds_toArray, List.set_cons_zero, List.set_cons_succ])
        refine wpPlan_done ?_
        go_wp2_with fail
        go_ret
        exact ⟨by first | rfl | trivial, JA2.out.below.trans (E7.mono JA2.out.below.size)⟩

set_option maxRecDepth 100000 in
theorem lawWalk : LawWalk Try.checked 14 Try.f14 := by
  intro H enc W base args ds p hval hA hsz
  rw [Try.params14] at hA hval
  obtain ⟨v0, vs0, d0, ds0, p0, q0, hargs, rfl, rfl, h0, r0⟩ := trodAll_cons hA
  obtain ⟨v1, vs1, d1, ds1, p1, q1, rfl, rfl, rfl, h1, r1⟩ := trodAll_cons r0
  obtain ⟨v2, vs2, d2, ds2, p2, q2, rfl, rfl, rfl, h2, r2⟩ := trodAll_cons r1
  obtain ⟨rfl, rfl, rfl⟩ := trodAll_nil r2
  obtain rfl : args = #[v0, v1, v2] := by cases args; simp_all
  obtain ⟨a0, rfl, rfl, rfl, w0⟩ := open_int Try.underlying3 (hval 0 3 v0 rfl rfl) h0
  obtain ⟨a1, n1, c1, g1, R1, rfl, hnc1, hcm1, hr1⟩ := open_acts (k := 5) (f := 59) (l := 5) Try.underlying90 Try.underlying102 (by kernel_rfl) (by kernel_rfl) (by rfl) (by kernel_rfl) (by kernel_rfl) Try.underlying59 Try.underlying5 (by kernel_rfl) (hval 1 90 v1 rfl rfl) h1
  obtain ⟨a2, n2, c2, g2, R2, rfl, hnc2, hcm2, hr2⟩ := open_acts (k := 5) (f := 59) (l := 5) Try.underlying90 Try.underlying102 (by kernel_rfl) (by kernel_rfl) (by rfl) (by kernel_rfl) (by kernel_rfl) Try.underlying59 Try.underlying5 (by kernel_rfl) (hval 2 90 v2 rfl rfl) h2
  exact walk a0 a1 n1 c1 g1 R1 a2 n2 c2 g2 R2 W (I64.of_wf w0) hr1 (Nat.le_trans hnc1 hcm1) hr2 (Nat.le_trans hnc2 hcm2)

theorem lifted (os : Os) (started : os.Started) (H : Type) (enc : TypeId × Value → H) :
    ReturnsInHanded {} Try.checked os 14 .any (Rows.netPlaysSpec.pre6 enc Try.prog Try.f14 Rows.netPlaysRow.domain false) (Rows.netPlaysSpec.post enc Try.prog Try.f14 false true false false) :=
  law_lift (C := Try.checked) (s := Rows.netPlaysSpec) (tb := 4) (by kernel_rfl) started (by kernel_rfl) Try.func14
    (ChangeSpec.witness6 (enc := enc) (C := Try.checked) false ⟨#[], #[.int .i64 0, .slice none 0 0, .slice none 0 0], []⟩ 8 (by kernel_rfl) (by kernel_rfl) (by kernel_rfl) (by kernel_rfl))
    rfl (fun H ds h => by
      match ds, h with
      | [d0, d1, d2], _ => rfl) (by kernel_rfl) (by kernel_rfl) (by kernel_rfl) Try.underlying4 lawWalk

theorem over : Rows.netPlaysRow.holds Try.pinned (OpenSpec.ofChange Rows.netPlaysSpec) :=
  OpenClaim.holds_of_wide 14 Try.f14 rfl rfl rfl rfl rfl rfl rfl ⟨rfl, rfl, rfl, rfl, rfl⟩ rfl rfl rfl rfl rfl (by kernel_rfl) Try.func14 (by kernel_rfl)
    (of_decide_eq_true (by kernel_rfl)) (by unfold Func.isWrapper; first | (rw [if_pos (by decide +kernel)]; kernel_rfl) | (rw [if_neg (by decide +kernel)]; exact ⟨rfl, rfl⟩))
    (fun os started H enc _ => lifted os started H enc)

/-- The statement. -/
theorem proved : Rows.NetPlaysSaid := over
#print axioms proved
