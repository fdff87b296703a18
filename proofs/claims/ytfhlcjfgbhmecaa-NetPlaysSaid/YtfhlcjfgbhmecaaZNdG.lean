/- NdG. -/
import Derived.Test.YtfhlcjfgbhmecaaZNdF
/- psephosref21.NewCluster where nobody is faulty. Printed by gencluster.py. -/
namespace Go.Proofs.Ytfhlcjfgbhmecaa
open Go.RowKit
set_option linter.unusedVariables false
set_option maxRecDepth 100000

def eidx (a b : Nat) : Nat := a * 5 + if a < b then b - 1 else b
theorem eidx_zero (a : Nat) : eidx a 0 = a * 5 := by simp [eidx]
theorem eidx_self (a : Nat) : eidx a (a + 1) = eidx a a := by unfold eidx; rw [if_pos (by omega), if_neg (by omega)]; rfl
theorem eidx_next (a b : Nat) (h : a ≠ b) : eidx a (b + 1) = eidx a b + 1 := by unfold eidx; split <;> split <;> omega
theorem eidx_end (a : Nat) (h : a < 6) : eidx a 6 = (a + 1) * 5 := by unfold eidx; rw [if_pos h]; omega
theorem eidx_le (a b : Nat) (h : a < 6) (h2 : b < 6) : eidx a b ≤ 30 := by unfold eidx; split <;> omega
theorem ends_succ : ∀ a, a < 6 → ∀ b, b < 6 → a ≠ b → ends (eidx a b + 1) = ends (eidx a b) ++ [(six.getD a 0, six.getD b 0)] := by decide
theorem info_qq : (Try.prog.info? 148).map (fun i => (i.zero, i.size, i.bytes)) = some (some (.slice none 0 0), 1, 24) := by kernel_rfl
theorem info_pnode : (Try.prog.info? 139).map (fun i => (i.zero, i.size, i.bytes)) = some (some (.pointer none), 1, 8) := by kernel_rfl
theorem info_pclient : (Try.prog.info? 142).map (fun i => (i.zero, i.size, i.bytes)) = some (some (.pointer none), 1, 8) := by kernel_rfl
theorem NodeB.base {B B' : Nat} {w : World} {p : Nat} (h : NodeB B w p) (hB : B' ≤ B) : NodeB B' w p := by
  obtain ⟨cs, ai, ci, am, cm, xs, ys, h⟩ := h
  exact ⟨cs, ai, ci, am, cm, xs, ys, h.blk, h.size, h.one, h.fi, h.fm, h.nil, own_base_le h.irow hB, h.ione, own_base_le h.mrow hB, h.mone, Nat.le_trans hB h.ge⟩
theorem ClientB.base {B B' : Nat} {w : World} {p : Nat} (h : ClientB B w p) (hB : B' ≤ B) : ClientB B' w p := ⟨Nat.le_trans hB h.1, h.2⟩
set_option maxHeartbeats 6400000 in
theorem rcluster_c (room : Int) (hr : 1 ≤ room ∧ room ≤ 256) (w : World) : Calls Try.prog 46 #[.agg (cfgA room), .slice none 0 0] w fun e w' => ∃ x gc nb an cn ac cc ae ce aq cq pn pc, e = .returned (.tuple #[.pointer (some ⟨x, 0, none⟩), .int .i64 0]) ∧ CX w.heap.size w' x gc nb room 4 2 30 30 an cn ac cc ae ce aq cq pn pc ∧ Below w.heap.size w w' := by
  obtain ⟨ti, hi0, hz0, hz1, hz2⟩ := info_parts info_intV
  obtain ⟨ni, ni0, nz0, nz1, nz2⟩ := info_parts info_pnode
  obtain ⟨ki, ki0, kz0, kz1, kz2⟩ := info_parts info_pclient
  obtain ⟨ei, ei0, ez0, ez1, ez2⟩ := info_parts info_two
  obtain ⟨qi, qi0, qz0, qz1, qz2⟩ := info_parts info_qq
  go_enter Try.func46, Try.ntmps46
  go_upto_region 1 with fail
  obtain ⟨w1, hw1⟩ : ∃ w1, w1 = w.alloc (.cells (cfgA room) 64) := ⟨_, rfl⟩
  obtain ⟨gc, hgc⟩ : ∃ g, g = w.heap.size := ⟨_, rfl⟩
  rw [← hw1, ← hgc]
  have K1 : Hid (Blk w1 gc 64 (cfgA room)) := Lib.hid (by rw [hw1, hgc]; exact Blk.new _ _ _)
  have B1 : Hid (Below w.heap.size w w1) := Lib.hid (by rw [hw1]; exact (Below.refl _ _).alloc (Nat.le_refl _) _)
  have GC : Hid (w.heap.size ≤ gc) := Lib.hid (by omega)
  clear hw1 hgc
  have c0 : w1.cell? ⟨gc, 0, none⟩ = some (.int .i64 1) := K1.out.cell 0
  have c1 : w1.cell? ⟨gc, 1, none⟩ = some (.int .i64 2) := K1.out.cell 1
  have c2 : w1.cell? ⟨gc, 2, none⟩ = some (.int .i64 2) := K1.out.cell 2
  have c3 : w1.cell? ⟨gc, 3, none⟩ = some (.int .i64 4) := K1.out.cell 3
  have c4 : w1.cell? ⟨gc, 4, none⟩ = some (.int .i64 room) := K1.out.cell 4
  have c5 : w1.cell? ⟨gc, 5, none⟩ = some (.int .i64 8) := K1.out.cell 5
  have c6 : w1.cell? ⟨gc, 6, none⟩ = some (.int .i64 8) := K1.out.cell 6
  have c7 : w1.cell? ⟨gc, 7, none⟩ = some (.int .i64 8) := K1.out.cell 7
  have c8 : w1.cell? ⟨gc, 8, none⟩ = some (.int .i64 1) := K1.out.cell 8
  have c9 : w1.cell? ⟨gc, 9, none⟩ = some (.int .i64 2) := K1.out.cell 9
  have c10 : w1.cell? ⟨gc, 10, none⟩ = some (.int .i64 12) := K1.out.cell 10
  have c11 : w1.cell? ⟨gc, 11, none⟩ = some (.int .i64 8) := K1.out.cell 11
  have c12 : w1.cell? ⟨gc, 12, none⟩ = some (.int .i64 6) := K1.out.cell 12
  have c13 : w1.cell? ⟨gc, 13, none⟩ = some (.int .i64 2) := K1.out.cell 13
  have c14 : w1.cell? ⟨gc, 14, none⟩ = some (.int .i64 6) := K1.out.cell 14
  go_wp2_with fail
  refine (Cfg.rvalid_c _ _ _ _ _ _ _ _ _ _ _ _ _ _ _ _).mono ?_; rintro e w2 ⟨rfl, hb2⟩
  rw [valid_usual room hr]
  have K2 := Lib.hid (K1.out.below hb2 K1.out.lt)
  have B2 := Lib.hid (B1.out.trans (hb2.mono B1.out.size))
  clear hb2 c0 c1 c2 c3 c4 c5 c6 c7 c8 c9 c10 c11 c12 c13 c14 K1 B1
  have d0 : w2.cell? ⟨gc, 0, none⟩ = some (.int .i64 1) := K2.out.cell 0
  go_wp2_with fail
  go_loopw [21, 6] (fun s t wr => s = .int .i64 0 ∧ t = .int .i64 0 ∧ wr = w2) (fun _ _ _ => 0)
  case atStart => exact ⟨rfl, rfl, rfl⟩
  case round =>
    obtain ⟨rfl, rfl, rfl⟩ := hrel
    go_upto_region 14 with fail
    clear d0
    go_cut [8] from 53 to 59 (fun s wx => ∃ x nb, s = .pointer (some ⟨x, 0, none⟩) ∧ CX w.heap.size wx x gc nb room 0 0 0 0 none 0 none 0 none 0 none 0 (fun _ => 0) (fun _ => 0) ∧ Below w.heap.size w wx)
    case first =>
      have d0 : wr.cell? ⟨gc, 0, none⟩ = some (.int .i64 1) := K2.out.cell 0
      have d1 : wr.cell? ⟨gc, 1, none⟩ = some (.int .i64 2) := K2.out.cell 1
      have d2 : wr.cell? ⟨gc, 2, none⟩ = some (.int .i64 2) := K2.out.cell 2
      have d3 : wr.cell? ⟨gc, 3, none⟩ = some (.int .i64 4) := K2.out.cell 3
      have d4 : wr.cell? ⟨gc, 4, none⟩ = some (.int .i64 room) := K2.out.cell 4
      have d5 : wr.cell? ⟨gc, 5, none⟩ = some (.int .i64 8) := K2.out.cell 5
      have d6 : wr.cell? ⟨gc, 6, none⟩ = some (.int .i64 8) := K2.out.cell 6
      have d7 : wr.cell? ⟨gc, 7, none⟩ = some (.int .i64 8) := K2.out.cell 7
      have d8 : wr.cell? ⟨gc, 8, none⟩ = some (.int .i64 1) := K2.out.cell 8
      have d9 : wr.cell? ⟨gc, 9, none⟩ = some (.int .i64 2) := K2.out.cell 9
      have d10 : wr.cell? ⟨gc, 10, none⟩ = some (.int .i64 12) := K2.out.cell 10
      have d11 : wr.cell? ⟨gc, 11, none⟩ = some (.int .i64 8) := K2.out.cell 11
      have d12 : wr.cell? ⟨gc, 12, none⟩ = some (.int .i64 6) := K2.out.cell 12
      have d13 : wr.cell? ⟨gc, 13, none⟩ = some (.int .i64 2) := K2.out.cell 13
      have d14 : wr.cell? ⟨gc, 14, none⟩ = some (.int .i64 6) := K2.out.cell 14
      have KS : ∀ w', Below wr.heap.size wr w' → w'.cell? ⟨gc, 0, none⟩ = some (.int .i64 1) ∧ w'.cell? ⟨gc, 1, none⟩ = some (.int .i64 2) ∧ w'.cell? ⟨gc, 2, none⟩ = some (.int .i64 2) ∧ w'.cell? ⟨gc, 3, none⟩ = some (.int .i64 4) ∧ w'.cell? ⟨gc, 4, none⟩ = some (.int .i64 room) ∧ w'.cell? ⟨gc, 5, none⟩ = some (.int .i64 8) ∧ w'.cell? ⟨gc, 6, none⟩ = some (.int .i64 8) ∧ w'.cell? ⟨gc, 7, none⟩ = some (.int .i64 8) ∧ w'.cell? ⟨gc, 8, none⟩ = some (.int .i64 1) ∧ w'.cell? ⟨gc, 9, none⟩ = some (.int .i64 2) ∧ w'.cell? ⟨gc, 10, none⟩ = some (.int .i64 12) ∧ w'.cell? ⟨gc, 11, none⟩ = some (.int .i64 8) ∧ w'.cell? ⟨gc, 12, none⟩ = some (.int .i64 6) ∧ w'.cell? ⟨gc, 13, none⟩ = some (.int .i64 2) ∧ w'.cell? ⟨gc, 14, none⟩ = some (.int .i64 6) := fun w' o => ⟨kept o _ _ d0, kept o _ _ d1, kept o _ _ d2, kept o _ _ d3, kept o _ _ d4, kept o _ _ d5, kept o _ _ d6, kept o _ _ d7, kept o _ _ d8, kept o _ _ d9, kept o _ _ d10, kept o _ _ d11, kept o _ _ d12, kept o _ _ d13, kept o _ _ d14⟩
      clear d0 d1 d2 d3 d4 d5 d6 d7 d8 d9 d10 d11 d12 d13 d14
      refine wp_region_plan (fun w' => w'.cell? ⟨gc, 0, none⟩ = some (.int .i64 1) ∧ w'.cell? ⟨gc, 1, none⟩ = some (.int .i64 2) ∧ w'.cell? ⟨gc, 2, none⟩ = some (.int .i64 2) ∧ w'.cell? ⟨gc, 3, none⟩ = some (.int .i64 4) ∧ w'.cell? ⟨gc, 4, none⟩ = some (.int .i64 room) ∧ w'.cell? ⟨gc, 5, none⟩ = some (.int .i64 8) ∧ w'.cell? ⟨gc, 6, none⟩ = some (.int .i64 8) ∧ w'.cell? ⟨gc, 7, none⟩ = some (.int .i64 8) ∧ w'.cell? ⟨gc, 8, none⟩ = some (.int .i64 1) ∧ w'.cell? ⟨gc, 9, none⟩ = some (.int .i64 2) ∧ w'.cell? ⟨gc, 10, none⟩ = some (.int .i64 12) ∧ w'.cell? ⟨gc, 11, none⟩ = some (.int .i64 8) ∧ w'.cell? ⟨gc, 12, none⟩ = some (.int .i64 6) ∧ w'.cell? ⟨gc, 13, none⟩ = some (.int .i64 2) ∧ w'.cell? ⟨gc, 14, none⟩ = some (.int .i64 6)) 8 (.take 0 (.take 1 (.take 3 (.two 2 (.one 4 (.take 5 (.one 6 (.take 7 .done)))) 4 (.one 2 (.take 5 (.one 6 (.take 7 .done)))))))) (by kernel_rfl) (by kernel_rfl) (by kernel_rfl) (KS _ (Below.refl _ _).drew) ?_
      intro hS0
      obtain ⟨v0, hv0⟩ : ∃ v, v = wr.drew := ⟨_, rfl⟩
      have B0 : Below wr.heap.size wr v0 := by rw [hv0]; exact (Below.refl _ _).drew
      rw [← hv0] at hS0 ⊢
      clear hv0
      repeat (refine' wpPlan_take rfl (by rfl) (by assumption) ?_ ?_; rotate_left; (· (intro w hSw; (try dsimp only at hSw); go_simp; try with_reducible rfl)); try simp only [Act.put, List.setIfInBounds_toArray, List.set_cons_zero, List.set_cons_succ])
      refine wpPlan_two ?_ ?_
      · skip
        refine wpPlan_one rfl (fun KT hKT => ?_)
        refine step_append_none (by rfl) _ _ _ (by rfl) 3 ti Try.underlying73 hi0 none none 0 0 0 (.inl ⟨rfl, rfl, rfl⟩) (Nat.le_refl _) (by rfl) (by rfl) ?_
        refine hKT.out _ _ (KS _ B0) (fun _ => ?_); clear hKT KT; try simp only [Act.put, List.setIfInBounds_toArray, List.set_cons_zero, List.set_cons_succ]
        repeat (refine' wpPlan_take rfl (by rfl) (by assumption) ?_ ?_; rotate_left; (· (intro w hSw; (try dsimp only at hSw); go_simp; try with_reducible rfl)); try simp only [Act.put, List.setIfInBounds_toArray, List.set_cons_zero, List.set_cons_succ])
        refine wpPlan_one rfl (fun KT hKT => ?_)
        go_simp
        refine hKT.out _ _ (KS _ (B0.alloc B0.size _)) (fun _ => ?_); clear hKT KT; try simp only [Act.put, List.setIfInBounds_toArray, List.set_cons_zero, List.set_cons_succ]
        repeat (refine' wpPlan_take rfl (by rfl) (by assumption) ?_ ?_; rotate_left; (· (intro w hSw; (try dsimp only at hSw); go_simp; try with_reducible rfl)); try simp only [Act.put, List.setIfInBounds_toArray, List.set_cons_zero, List.set_cons_succ])
        refine wpPlan_one rfl (fun KT hKT => ?_)
        go_simp
        refine hKT.out _ _ (KS _ ((B0.alloc B0.size _).alloc (by simp; have := B0.size; omega) _)) (fun _ => ?_); clear hKT KT; try simp only [Act.put, List.setIfInBounds_toArray, List.set_cons_zero, List.set_cons_succ]
        repeat (refine' wpPlan_take rfl (by rfl) (by assumption) ?_ ?_; rotate_left; (· (intro w hSw; (try dsimp only at hSw); go_simp; try with_reducible rfl)); try simp only [Act.put, List.setIfInBounds_toArray, List.set_cons_zero, List.set_cons_succ])
        refine wpPlan_done ?_
        go_wp2_with fail
        go_meet
        refine ⟨v0.heap.size + 1, v0.heap.size, rfl, ⟨heap_alloc2_new v0 _ _, (K2.out.below B0 K2.out.lt).alloc _ |>.alloc _, (Blk.new v0 _ _).alloc _, ⟨rfl, .inl ⟨rfl, rfl⟩⟩, fun k hk => absurd hk (by omega), ⟨rfl, .inl ⟨rfl, rfl⟩⟩, fun k hk => absurd hk (by omega), ⟨rfl, .inl ⟨rfl, rfl⟩⟩, ⟨rfl, .inl ⟨rfl, rfl⟩⟩, ?_⟩, ?_⟩
        · have e1 := B2.out.size
          have e2 := B0.size
          exact ⟨by omega, GC.out, by omega⟩
        · have e1 := B2.out.size
          have e2 := B0.size
          exact ((B2.out.trans (B0.mono B2.out.size)).alloc (by omega) _).alloc (by simp; omega) _
      · skip
        refine wpPlan_one rfl (fun KT hKT => ?_)
        go_simp
        refine hKT.out _ _ (KS _ (B0.alloc B0.size _)) (fun _ => ?_); clear hKT KT; try simp only [Act.put, List.setIfInBounds_toArray, List.set_cons_zero, List.set_cons_succ]
        repeat (refine' wpPlan_take rfl (by rfl) (by assumption) ?_ ?_; rotate_left; (· (intro w hSw; (try dsimp only at hSw); go_simp; try with_reducible rfl)); try simp only [Act.put, List.setIfInBounds_toArray, List.set_cons_zero, List.set_cons_succ])
        refine wpPlan_one rfl (fun KT hKT => ?_)
        refine step_append_none (by rfl) _ _ _ (by rfl) 3 ti Try.underlying73 hi0 none none 0 0 0 (.inl ⟨rfl, rfl, rfl⟩) (Nat.le_refl _) (by rfl) (by rfl) ?_
        refine hKT.out _ _ (KS _ (B0.alloc B0.size _)) (fun _ => ?_); clear hKT KT; try simp only [Act.put, List.setIfInBounds_toArray, List.set_cons_zero, List.set_cons_succ]
        repeat (refine' wpPlan_take rfl (by rfl) (by assumption) ?_ ?_; rotate_left; (· (intro w hSw; (try dsimp only at hSw); go_simp; try with_reducible rfl)); try simp only [Act.put, List.setIfInBounds_toArray, List.set_cons_zero, List.set_cons_succ])
        refine wpPlan_one rfl (fun KT hKT => ?_)
        go_simp
        refine hKT.out _ _ (KS _ ((B0.alloc B0.size _).alloc (by simp; have := B0.size; omega) _)) (fun _ => ?_); clear hKT KT; try simp only [Act.put, List.setIfInBounds_toArray, List.set_cons_zero, List.set_cons_succ]
        repeat (refine' wpPlan_take rfl (by rfl) (by assumption) ?_ ?_; rotate_left; (· (intro w hSw; (try dsimp only at hSw); go_simp; try with_reducible rfl)); try simp only [Act.put, List.setIfInBounds_toArray, List.set_cons_zero, List.set_cons_succ])
        refine wpPlan_done ?_
        go_wp2_with fail
        go_meet
        refine ⟨v0.heap.size + 1, v0.heap.size, rfl, ⟨heap_alloc2_new v0 _ _, (K2.out.below B0 K2.out.lt).alloc _ |>.alloc _, (Blk.new v0 _ _).alloc _, ⟨rfl, .inl ⟨rfl, rfl⟩⟩, fun k hk => absurd hk (by omega), ⟨rfl, .inl ⟨rfl, rfl⟩⟩, fun k hk => absurd hk (by omega), ⟨rfl, .inl ⟨rfl, rfl⟩⟩, ⟨rfl, .inl ⟨rfl, rfl⟩⟩, ?_⟩, ?_⟩
        · have e1 := B2.out.size
          have e2 := B0.size
          exact ⟨by omega, GC.out, by omega⟩
        · have e1 := B2.out.size
          have e2 := B0.size
          exact ((B2.out.trans (B0.mono B2.out.size)).alloc (by omega) _).alloc (by simp; omega) _
    case rest =>
      obtain ⟨x, nb, rfl, hcx, hb3⟩ := hcut
      have X3 := Lib.hid hcx
      have B3 := Lib.hid hb3
      clear hcx hb3 K2 B2
      go_upto_block 2 with fail
      go_cut [9] (fun s wx => ∃ an cn pn, CX w.heap.size wx x gc nb room 4 0 0 0 an cn none 0 none 0 none 0 pn (fun _ => 0) ∧ Below w.heap.size w wx)
      case first =>
        go_wp2_with fail
        go_loopw [9] (fun s wr => ∃ k : Nat, k ≤ 4 ∧ s = .int .i64 k ∧ ∃ an cn pn, CX w.heap.size wr x gc nb room k 0 0 0 an cn none 0 none 0 none 0 pn (fun _ => 0) ∧ Below w.heap.size w wr) (fun s _ => 4 - (intOf s).toNat)
        case atStart => exact ⟨0, by omega, rfl, none, 0, _, X3.out, B3.out⟩
        case round =>
          obtain ⟨k, hk, rfl, an, cn, pn, hx, hb⟩ := hrel
          have HX := Lib.hid hx
          have HB := Lib.hid hb
          have d0 : wr.cell? ⟨gc, 0, none⟩ = some (.int .i64 1) := hx.cfg.cell 0
          clear hx hb
          go_wp2_with fail
          refine (rnodes_c 1 _ (by omega) (by omega)).mono ?_; rintro e w' ⟨rfl, rfl⟩
          by_cases hlt : k < 4
          · have i1 : (k : Int) < 4 := by omega
            clear d0
            go_wp2_with fail
            refine (in_nil k _).mono ?_; rintro e w' ⟨rfl, rfl⟩
            have KS : ∀ w', Below wr.heap.size wr w' → w'.cell? ⟨gc, 0, none⟩ = some (.int .i64 1) ∧ w'.cell? ⟨gc, 1, none⟩ = some (.int .i64 2) ∧ w'.cell? ⟨gc, 2, none⟩ = some (.int .i64 2) ∧ w'.cell? ⟨gc, 3, none⟩ = some (.int .i64 4) ∧ w'.cell? ⟨gc, 4, none⟩ = some (.int .i64 room) ∧ w'.cell? ⟨gc, 5, none⟩ = some (.int .i64 8) ∧ w'.cell? ⟨gc, 6, none⟩ = some (.int .i64 8) ∧ w'.cell? ⟨gc, 7, none⟩ = some (.int .i64 8) ∧ w'.cell? ⟨gc, 8, none⟩ = some (.int .i64 1) ∧ w'.cell? ⟨gc, 9, none⟩ = some (.int .i64 2) ∧ w'.cell? ⟨gc, 10, none⟩ = some (.int .i64 12) ∧ w'.cell? ⟨gc, 11, none⟩ = some (.int .i64 8) ∧ w'.cell? ⟨gc, 12, none⟩ = some (.int .i64 6) ∧ w'.cell? ⟨gc, 13, none⟩ = some (.int .i64 2) ∧ w'.cell? ⟨gc, 14, none⟩ = some (.int .i64 6) ∧ w'.cell? ⟨x, 16, none⟩ = some (.pointer (some ⟨nb, 0, none⟩)) := fun w' o => ⟨((HX.out.below o).cfg.cell 0), ((HX.out.below o).cfg.cell 1), ((HX.out.below o).cfg.cell 2), ((HX.out.below o).cfg.cell 3), ((HX.out.below o).cfg.cell 4), ((HX.out.below o).cfg.cell 5), ((HX.out.below o).cfg.cell 6), ((HX.out.below o).cfg.cell 7), ((HX.out.below o).cfg.cell 8), ((HX.out.below o).cfg.cell 9), ((HX.out.below o).cfg.cell 10), ((HX.out.below o).cfg.cell 11), ((HX.out.below o).cfg.cell 12), ((HX.out.below o).cfg.cell 13), ((HX.out.below o).cfg.cell 14), ((HX.out.below o).blk.cell 16)⟩
            go_upto_region 20 with fail
            refine wp_region_plan (fun w' => w'.cell? ⟨gc, 0, none⟩ = some (.int .i64 1) ∧ w'.cell? ⟨gc, 1, none⟩ = some (.int .i64 2) ∧ w'.cell? ⟨gc, 2, none⟩ = some (.int .i64 2) ∧ w'.cell? ⟨gc, 3, none⟩ = some (.int .i64 4) ∧ w'.cell? ⟨gc, 4, none⟩ = some (.int .i64 room) ∧ w'.cell? ⟨gc, 5, none⟩ = some (.int .i64 8) ∧ w'.cell? ⟨gc, 6, none⟩ = some (.int .i64 8) ∧ w'.cell? ⟨gc, 7, none⟩ = some (.int .i64 8) ∧ w'.cell? ⟨gc, 8, none⟩ = some (.int .i64 1) ∧ w'.cell? ⟨gc, 9, none⟩ = some (.int .i64 2) ∧ w'.cell? ⟨gc, 10, none⟩ = some (.int .i64 12) ∧ w'.cell? ⟨gc, 11, none⟩ = some (.int .i64 8) ∧ w'.cell? ⟨gc, 12, none⟩ = some (.int .i64 6) ∧ w'.cell? ⟨gc, 13, none⟩ = some (.int .i64 2) ∧ w'.cell? ⟨gc, 14, none⟩ = some (.int .i64 6) ∧ w'.cell? ⟨x, 16, none⟩ = some (.pointer (some ⟨nb, 0, none⟩))) 11 (.take 0 (.take 1 (.take 2 (.take 3 (.take 4 (.take 5 (.one 6 (.take 7 (.take 8 (.take 9 (.take 10 .done))))))))))) (by kernel_rfl) (by kernel_rfl) (by kernel_rfl) (KS _ (Below.refl _ _).drew) ?_
            intro hS0
            obtain ⟨v0, hv0⟩ : ∃ v, v = wr.drew := ⟨_, rfl⟩
            have B0 : Below wr.heap.size wr v0 := by rw [hv0]; exact (Below.refl _ _).drew
            rw [← hv0] at hS0 ⊢
            clear hv0
            repeat (refine' wpPlan_take rfl (by rfl) (by assumption) ?_ ?_; rotate_left; (· (intro w hSw; (try dsimp only at hSw); go_simp; try with_reducible rfl)); try simp only [Act.put, List.setIfInBounds_toArray, List.set_cons_zero, List.set_cons_succ])
            refine wpPlan_one rfl (fun KT hKT => ?_)
            go_simp
            refine (rnode_c room hr k hlt nb _).mono ?_; rintro e w5 ⟨p, rfl, hp5, hb5⟩
            have B5 : Below wr.heap.size wr w5 := B0.trans (hb5.mono B0.size)
            have X5 := Lib.hid (HX.out.below B5)
            have P5 := Lib.hid (hp5.base (Nat.le_trans HB.out.size B0.size))
            have BB5 := Lib.hid (HB.out.trans (B5.mono HB.out.size))
            refine hKT.out _ _ (KS _ B5) (fun _ => ?_); clear hKT KT; try simp only [Act.put, List.setIfInBounds_toArray, List.set_cons_zero, List.set_cons_succ]
            repeat (refine' wpPlan_take rfl (by rfl) (by assumption) ?_ ?_; rotate_left; (· (intro w hSw; (try dsimp only at hSw); go_simp; try with_reducible rfl)); try simp only [Act.put, List.setIfInBounds_toArray, List.set_cons_zero, List.set_cons_succ])
            refine wpPlan_done ?_
            clear hS0 KS hp5 hb5 B5 B0
            have n17 : w5.cell? ⟨x, 17, none⟩ = some (.slice an k cn) := X5.out.blk.cell 17
            go_wp2_with (at_builtin; refine wpList_app rfl (.tmp 85) (.tmp 87) _ rfl w.heap.size 139 ni _ 1 8 Try.underlying95 ni0 nz0 nz1 nz2 rfl (by omega) an k cn (ptrl pn k) rfl (World.ownsRow.alloc X5.out.nrow _) (some ⟨w5.heap.size, 0, none⟩) 1 1 [.pointer (some ⟨p, 0, none⟩)] rfl (own_one _ _ _) (by simp [Value.oneCell']) (by unfold maxLen; omega) (by omega) (by have := BB5.out.size; simp; omega) ?_; intro a8 c8 w8 h8; have b6 := (Below.refl w5.heap.size w5).alloc (Nat.le_refl _) (.cells #[.pointer (some ⟨p, 0, none⟩)] 139); obtain ⟨⟨cs8, k8, k17⟩, x9⟩ := X5.out.node b6 P5.out h8; have X9 := Lib.hid x9; have BB9 : Hid (Below w.heap.size w (w8.setCell ⟨x, 17, none⟩ (.slice a8 (k + 1) c8))) := Lib.hid ((h8.below (own_below X5.out.nrow b6) (BB5.out.trans (b6.mono BB5.out.size)) (Nat.le_refl _) (Nat.le_trans BB5.out.size b6.size)).setCell (p := ⟨x, 17, none⟩) X5.out.ge.1 _); have d8 : w8.cell? ⟨x, 17, none⟩ = some (.slice an k cn) := (k8.cell 17).trans k17; have f8 := k8.frozen 17; clear k8 k17 x9 h8 b6)
            go_roundw
            case rel => exact ⟨k + 1, by omega, by go_num, a8, c8, _, X9.out, BB9.out⟩
            case measure => simp [intOf]; omega
          · have hk4 : k = 4 := by omega
            subst hk4
            clear d0
            go_wp2_with fail
            go_meet
            exact ⟨an, cn, pn, HX.out, HB.out⟩
      case rest =>
        obtain ⟨an, cn, pn, hx4, hb4⟩ := hcut
        have X4 := Lib.hid hx4
        have B4 := Lib.hid hb4
        clear hx4 hb4 X3 B3
        go_upto_block 4 with fail
        go_cut [11] (fun s wx => ∃ ac cc pc, CX w.heap.size wx x gc nb room 4 2 0 0 an cn ac cc none 0 none 0 pn pc ∧ Below w.heap.size w wx)
        case first =>
          go_wp2_with fail
          go_loopw [11] (fun s wr => ∃ k : Nat, k ≤ 2 ∧ s = .int .i64 k ∧ ∃ ac cc pc, CX w.heap.size wr x gc nb room 4 k 0 0 an cn ac cc none 0 none 0 pn pc ∧ Below w.heap.size w wr) (fun s _ => 2 - (intOf s).toNat)
          case atStart => exact ⟨0, by omega, rfl, none, 0, _, X4.out, B4.out⟩
          case round =>
            obtain ⟨k, hk, rfl, ac, cc, pc, hx, hb⟩ := hrel
            have HX := Lib.hid hx
            have HB := Lib.hid hb
            have d0 : wr.cell? ⟨gc, 1, none⟩ = some (.int .i64 2) := hx.cfg.cell 1
            clear hx hb
            by_cases hlt : k < 2
            · have i1 : (k : Int) < 2 := by omega
              have e1 : IntKind.i64.wrap (100 + (k : Int)) = 100 + k := IntWalk.i64_in _ (by omega)
              go_wp2_with fail
              refine (in_nil (100 + k) _).mono ?_; rintro e w' ⟨rfl, rfl⟩
              clear d0 e1
              have KS : ∀ w', Below wr.heap.size wr w' → w'.cell? ⟨gc, 0, none⟩ = some (.int .i64 1) ∧ w'.cell? ⟨gc, 1, none⟩ = some (.int .i64 2) ∧ w'.cell? ⟨gc, 2, none⟩ = some (.int .i64 2) ∧ w'.cell? ⟨gc, 3, none⟩ = some (.int .i64 4) ∧ w'.cell? ⟨gc, 4, none⟩ = some (.int .i64 room) ∧ w'.cell? ⟨gc, 5, none⟩ = some (.int .i64 8) ∧ w'.cell? ⟨gc, 6, none⟩ = some (.int .i64 8) ∧ w'.cell? ⟨gc, 7, none⟩ = some (.int .i64 8) ∧ w'.cell? ⟨gc, 8, none⟩ = some (.int .i64 1) ∧ w'.cell? ⟨gc, 9, none⟩ = some (.int .i64 2) ∧ w'.cell? ⟨gc, 10, none⟩ = some (.int .i64 12) ∧ w'.cell? ⟨gc, 11, none⟩ = some (.int .i64 8) ∧ w'.cell? ⟨gc, 12, none⟩ = some (.int .i64 6) ∧ w'.cell? ⟨gc, 13, none⟩ = some (.int .i64 2) ∧ w'.cell? ⟨gc, 14, none⟩ = some (.int .i64 6) ∧ w'.cell? ⟨x, 16, none⟩ = some (.pointer (some ⟨nb, 0, none⟩)) := fun w' o => ⟨((HX.out.below o).cfg.cell 0), ((HX.out.below o).cfg.cell 1), ((HX.out.below o).cfg.cell 2), ((HX.out.below o).cfg.cell 3), ((HX.out.below o).cfg.cell 4), ((HX.out.below o).cfg.cell 5), ((HX.out.below o).cfg.cell 6), ((HX.out.below o).cfg.cell 7), ((HX.out.below o).cfg.cell 8), ((HX.out.below o).cfg.cell 9), ((HX.out.below o).cfg.cell 10), ((HX.out.below o).cfg.cell 11), ((HX.out.below o).cfg.cell 12), ((HX.out.below o).cfg.cell 13), ((HX.out.below o).cfg.cell 14), ((HX.out.below o).blk.cell 16)⟩
              go_upto_region 27 with fail
              refine wp_region_plan (fun w' => w'.cell? ⟨gc, 0, none⟩ = some (.int .i64 1) ∧ w'.cell? ⟨gc, 1, none⟩ = some (.int .i64 2) ∧ w'.cell? ⟨gc, 2, none⟩ = some (.int .i64 2) ∧ w'.cell? ⟨gc, 3, none⟩ = some (.int .i64 4) ∧ w'.cell? ⟨gc, 4, none⟩ = some (.int .i64 room) ∧ w'.cell? ⟨gc, 5, none⟩ = some (.int .i64 8) ∧ w'.cell? ⟨gc, 6, none⟩ = some (.int .i64 8) ∧ w'.cell? ⟨gc, 7, none⟩ = some (.int .i64 8) ∧ w'.cell? ⟨gc, 8, none⟩ = some (.int .i64 1) ∧ w'.cell? ⟨gc, 9, none⟩ = some (.int .i64 2) ∧ w'.cell? ⟨gc, 10, none⟩ = some (.int .i64 12) ∧ w'.cell? ⟨gc, 11, none⟩ = some (.int .i64 8) ∧ w'.cell? ⟨gc, 12, none⟩ = some (.int .i64 6) ∧ w'.cell? ⟨gc, 13, none⟩ = some (.int .i64 2) ∧ w'.cell? ⟨gc, 14, none⟩ = some (.int .i64 6) ∧ w'.cell? ⟨x, 16, none⟩ = some (.pointer (some ⟨nb, 0, none⟩))) 11 (.take 0 (.take 1 (.take 2 (.take 3 (.take 4 (.take 5 (.one 6 (.take 7 (.take 8 (.take 9 (.take 10 .done))))))))))) (by kernel_rfl) (by kernel_rfl) (by kernel_rfl) (KS _ (Below.refl _ _).drew) ?_
              intro hS0
              obtain ⟨v0, hv0⟩ : ∃ v, v = wr.drew := ⟨_, rfl⟩
              have B0 : Below wr.heap.size wr v0 := by rw [hv0]; exact (Below.refl _ _).drew
              rw [← hv0] at hS0 ⊢
              clear hv0
              repeat (refine' wpPlan_take rfl (by rfl) (by assumption) ?_ ?_; rotate_left; (· (intro w hSw; (try dsimp only at hSw); go_simp; try with_reducible rfl)); try simp only [Act.put, List.setIfInBounds_toArray, List.set_cons_zero, List.set_cons_succ])
              refine wpPlan_one rfl (fun KT hKT => ?_)
              go_simp
              refine (rclient_c room hr k hlt nb _).mono ?_; rintro e w5 ⟨p, rfl, hp5, hb5⟩
              have B5 : Below wr.heap.size wr w5 := B0.trans (hb5.mono B0.size)
              have X5 := Lib.hid (HX.out.below B5)
              have P5 := Lib.hid (hp5.base (Nat.le_trans HB.out.size B0.size))
              have BB5 := Lib.hid (HB.out.trans (B5.mono HB.out.size))
              refine hKT.out _ _ (KS _ B5) (fun _ => ?_); clear hKT KT; try simp only [Act.put, List.setIfInBounds_toArray, List.set_cons_zero, List.set_cons_succ]
              repeat (refine' wpPlan_take rfl (by rfl) (by assumption) ?_ ?_; rotate_left; (· (intro w hSw; (try dsimp only at hSw); go_simp; try with_reducible rfl)); try simp only [Act.put, List.setIfInBounds_toArray, List.set_cons_zero, List.set_cons_succ])
              refine wpPlan_done ?_
              clear hS0 KS hp5 hb5 B5 B0
              have n18 : w5.cell? ⟨x, 18, none⟩ = some (.slice ac k cc) := X5.out.blk.cell 18
              go_wp2_with (at_builtin; refine wpList_app rfl (.tmp 116) (.tmp 118) _ rfl w.heap.size 142 ki _ 1 8 Try.underlying96 ki0 kz0 kz1 kz2 rfl (by omega) ac k cc (ptrl pc k) rfl (World.ownsRow.alloc X5.out.crow _) (some ⟨w5.heap.size, 0, none⟩) 1 1 [.pointer (some ⟨p, 0, none⟩)] rfl (own_one _ _ _) (by simp [Value.oneCell']) (by unfold maxLen; omega) (by omega) (by have := BB5.out.size; simp; omega) ?_; intro a8 c8 w8 h8; have b6 := (Below.refl w5.heap.size w5).alloc (Nat.le_refl _) (.cells #[.pointer (some ⟨p, 0, none⟩)] 142); obtain ⟨⟨cs8, k8, k18⟩, x9⟩ := X5.out.client b6 P5.out h8; have X9 := Lib.hid x9; have BB9 : Hid (Below w.heap.size w (w8.setCell ⟨x, 18, none⟩ (.slice a8 (k + 1) c8))) := Lib.hid ((h8.below (own_below X5.out.crow b6) (BB5.out.trans (b6.mono BB5.out.size)) (Nat.le_refl _) (Nat.le_trans BB5.out.size b6.size)).setCell (p := ⟨x, 18, none⟩) X5.out.ge.1 _); have d8 : w8.cell? ⟨x, 18, none⟩ = some (.slice ac k cc) := (k8.cell 18).trans k18; have f8 := k8.frozen 18; clear k8 k18 x9 h8 b6)
              go_roundw
              case rel => exact ⟨k + 1, by omega, by go_num, a8, c8, _, X9.out, BB9.out⟩
              case measure => simp [intOf]; omega
            · have hk4 : k = 2 := by omega
              subst hk4
              go_wp2_with fail
              go_meet
              exact ⟨ac, cc, pc, HX.out, HB.out⟩
        case rest =>
          obtain ⟨ac, cc, pc, hx5, hb5⟩ := hcut
          have X5 := Lib.hid hx5
          have B5 := Lib.hid hb5
          clear hx5 hb5 X4 B4
          have d0 : wc.cell? ⟨gc, 0, none⟩ = some (.int .i64 1) := X5.out.cfg.cell 0
          have d1 : wc.cell? ⟨gc, 1, none⟩ = some (.int .i64 2) := X5.out.cfg.cell 1
          have d2 : wc.cell? ⟨gc, 2, none⟩ = some (.int .i64 2) := X5.out.cfg.cell 2
          have d3 : wc.cell? ⟨gc, 3, none⟩ = some (.int .i64 4) := X5.out.cfg.cell 3
          have d4 : wc.cell? ⟨gc, 4, none⟩ = some (.int .i64 room) := X5.out.cfg.cell 4
          have d5 : wc.cell? ⟨gc, 5, none⟩ = some (.int .i64 8) := X5.out.cfg.cell 5
          have d6 : wc.cell? ⟨gc, 6, none⟩ = some (.int .i64 8) := X5.out.cfg.cell 6
          have d7 : wc.cell? ⟨gc, 7, none⟩ = some (.int .i64 8) := X5.out.cfg.cell 7
          have d8 : wc.cell? ⟨gc, 8, none⟩ = some (.int .i64 1) := X5.out.cfg.cell 8
          have d9 : wc.cell? ⟨gc, 9, none⟩ = some (.int .i64 2) := X5.out.cfg.cell 9
          have d10 : wc.cell? ⟨gc, 10, none⟩ = some (.int .i64 12) := X5.out.cfg.cell 10
          have d11 : wc.cell? ⟨gc, 11, none⟩ = some (.int .i64 8) := X5.out.cfg.cell 11
          have d12 : wc.cell? ⟨gc, 12, none⟩ = some (.int .i64 6) := X5.out.cfg.cell 12
          have d13 : wc.cell? ⟨gc, 13, none⟩ = some (.int .i64 2) := X5.out.cfg.cell 13
          have d14 : wc.cell? ⟨gc, 14, none⟩ = some (.int .i64 6) := X5.out.cfg.cell 14
          go_wp2_with fail
          refine (rparties_c room _).mono ?_; rintro e w6 ⟨pa, pcc, rfl, hpr, hb6⟩
          have X6 := Lib.hid (X5.out.below hb6)
          have B6 := Lib.hid (B5.out.trans (hb6.mono B5.out.size))
          obtain ⟨pb, hpb⟩ : ∃ pb, pb = wc.heap.size := ⟨_, rfl⟩
          rw [← hpb] at hpr
          have R6 := Lib.hid hpr
          clear hpr hb6 hpb d0 d1 d2 d3 d4 d5 d6 d7 d8 d9 d10 d11 d12 d13 d14 X5 B5
          go_wp2_with fail
          go_loopw [126] (fun s wr => ∃ a : Nat, a ≤ 6 ∧ s = .int .i64 a ∧ ∃ ae ce aq cq, CX w.heap.size wr x gc nb room 4 2 (a * 5) (a * 5) an cn ac cc ae ce aq cq pn pc ∧ wr.ownsRow pb 3 1 (.slice pa 6 pcc) 6 (pints six) ∧ Below w.heap.size w wr) (fun s _ => 6 - (intOf s).toNat)
          case atStart => exact ⟨0, by omega, rfl, none, 0, none, 0, X6.out, R6.out, B6.out⟩
          case round =>
            obtain ⟨a, ha, rfl, ae, ce, aq, cq, hx, hp, hb⟩ := hrel
            have HX := Lib.hid hx
            have HP := Lib.hid hp
            have HB := Lib.hid hb
            clear hx hp hb
            by_cases hlt : a < 6
            · have i1 : (a : Int) < 6 := by omega
              go_wp2_with fail
              go_loopw [131] (fun s wr => ∃ b : Nat, b ≤ 6 ∧ s = .int .i64 b ∧ ∃ ae ce aq cq, CX w.heap.size wr x gc nb room 4 2 (eidx a b) (eidx a b) an cn ac cc ae ce aq cq pn pc ∧ wr.ownsRow pb 3 1 (.slice pa 6 pcc) 6 (pints six) ∧ Below w.heap.size w wr) (fun s _ => 6 - (intOf s).toNat)
              case atStart => exact ⟨0, by omega, rfl, ae, ce, aq, cq, by rw [eidx_zero]; exact HX.out, HP.out, HB.out⟩
              case round =>
                obtain ⟨b, hb6, rfl, ae, ce, aq, cq, hx, hp, hb⟩ := hrel
                have HX2 := Lib.hid hx
                have HP2 := Lib.hid hp
                have HB2 := Lib.hid hb
                clear hx hp hb
                by_cases hblt : b < 6
                · have i2 : (b : Int) < 6 := by omega
                  by_cases hab : a = b
                  · subst hab
                    go_wp2_with fail
                    go_roundw
                    case rel => exact ⟨a + 1, by omega, by go_num, ae, ce, aq, cq, by rw [eidx_self]; exact HX2.out, HP2.out, HB2.out⟩
                    case measure => simp [intOf]; omega
                  · have n1 : ¬ (a : Int) = b := by omega
                    have n2 : ((a : Int) == b) = false := beq_eq_false_iff_ne.2 n1
                    have n3 : ((a : Int) != b) = true := by rw [bne, n2]; rfl
                    have hes := ends_succ a hlt b hblt hab
                    obtain ⟨gp, hgp, pa1⟩ := own_at HP2.out hlt (v := .int .i64 (six.getD a 0)) (by match a, hlt with | 0, _ | 1, _ | 2, _ | 3, _ | 4, _ | 5, _ => rfl)
                    subst hgp
                    obtain ⟨_, hgp2, pb1⟩ := own_at HP2.out hblt (v := .int .i64 (six.getD b 0)) (by match b, hblt with | 0, _ | 1, _ | 2, _ | 3, _ | 4, _ | 5, _ => rfl)
                    injection hgp2 with hgp2
                    injection hgp2 with hgp2
                    subst hgp2
                    obtain ⟨e, he⟩ : ∃ e, e = eidx a b := ⟨_, rfl⟩
                    have he30 : e ≤ 30 := by rw [he]; exact eidx_le a b hlt hblt
                    have hen : eidx a (b + 1) = e + 1 := by rw [he]; exact eidx_next a b hab
                    obtain ⟨y, hy⟩ : ∃ y, y = six.getD a 0 := ⟨_, rfl⟩
                    obtain ⟨z, hz⟩ : ∃ z, z = six.getD b 0 := ⟨_, rfl⟩
                    rw [← he] at HX2 hes
                    rw [← hy] at pa1 hes
                    rw [← hz] at pb1 hes
                    have HEN := Lib.hid hen
                    have HES := Lib.hid hes
                    have KS : ∀ w', Below wr.heap.size wr w' → w'.cell? ⟨x, 19, none⟩ = some (.slice ae e ce) ∧ w'.cell? ⟨gp, a, none⟩ = some (.int .i64 y) ∧ w'.cell? ⟨gp, b, none⟩ = some (.int .i64 z) := fun w' o => ⟨(HX2.out.below o).blk.cell 19, kept o _ _ pa1, kept o _ _ pb1⟩
                    clear he hen hes hy hz pa1 pb1
                    go_upto_region 37 with fail
                    refine wp_region_plan (fun w' => w'.cell? ⟨x, 19, none⟩ = some (.slice ae e ce) ∧ w'.cell? ⟨gp, a, none⟩ = some (.int .i64 y) ∧ w'.cell? ⟨gp, b, none⟩ = some (.int .i64 z)) 18 (.take 0 (.take 1 (.take 2 (.take 3 (.take 4 (.take 5 (.take 6 (.take 7 (.take 8 (.take 9 (.take 10 (.take 11 (.take 12 (.take 13 (.one 14 (.one 15 (.one 16 (.take 17 (.one 18 .done))))))))))))))))))) (by kernel_rfl) (by kernel_rfl) (by kernel_rfl) (KS _ (Below.refl _ _).drew) ?_
                    intro hS0
                    obtain ⟨v0, hv0⟩ : ∃ v, v = wr.drew := ⟨_, rfl⟩
                    have B0 : Below wr.heap.size wr v0 := by rw [hv0]; exact (Below.refl _ _).drew
                    rw [← hv0] at hS0 ⊢
                    clear hv0
                    repeat (refine' wpPlan_take rfl (by rfl) (by assumption) ?_ ?_; rotate_left; (· (intro w hSw; (try dsimp only at hSw); go_simp; try with_reducible rfl)); try simp only [Act.put, List.setIfInBounds_toArray, List.set_cons_zero, List.set_cons_succ])
                    refine wpPlan_one rfl (fun KT hKT => ?_)
                    go_simp
                    have B1 := B0.alloc B0.size (.cells #[.int .i64 y, .int .i64 z] 75)
                    refine hKT.out _ _ (KS _ B1) (fun _ => ?_); clear hKT KT; try simp only [Act.put, List.setIfInBounds_toArray, List.set_cons_zero, List.set_cons_succ]
                    refine wpPlan_one rfl (fun KT hKT => ?_)
                    refine step_app (by rfl) _ _ _ (by rfl) w.heap.size 75 ei _ 2 16 Try.underlying76 ei0 ez0 ez1 ez2 rfl (by omega) ae e ce ((ends e).flatMap acell) (by rfl) (own_below HX2.out.erow B1) (some ⟨v0.heap.size, 0, none⟩) 1 1 (acell (y, z)) (by rfl) (VRow.of_blk (n := 1) (s := 2) (Blk.new v0 75 #[.int .i64 y, .int .i64 z]) rfl) (by simp [acell, Value.oneCell']) (by unfold maxLen; omega) (by omega) (Nat.le_trans HB2.out.size B1.size) ?_
                    intro a8 c8 w8 h8
                    obtain ⟨⟨cs8, k8, k19⟩, x9⟩ := HX2.out.end_ B1 HES.out h8
                    have X9 := Lib.hid x9
                    have b8 : Below w.heap.size w w8 := h8.below (own_below HX2.out.erow B1) (HB2.out.trans (B1.mono HB2.out.size)) (Nat.le_refl _) (Nat.le_trans HB2.out.size B1.size)
                    have BB9 : Hid (Below w.heap.size w (w8.setCell ⟨x, 19, none⟩ (.slice a8 (e + 1) c8))) := Lib.hid (b8.setCell (p := ⟨x, 19, none⟩) HX2.out.ge.1 _)
                    have T9 := Turn2.of (o := 19) (v := .slice a8 (e + 1) c8) B1 HX2.out.erow h8 k8
                    have HP9 := Lib.hid (T9.row HP2.out (by decide) (by decide))
                    have o8 : ∀ j v, wr.cell? ⟨gp, j, none⟩ = some v → (pints six)[j]? = some v → w8.cell? ⟨gp, j, none⟩ = some v := fun j v _ hj => (Row.of_own (own_kinds (own_below HP2.out B1) h8.only (kinds_of fun k hk => (own_blks (own_below HX2.out.erow B1) k hk).2) (by decide) (by decide))).cell hj
                    have S8 : w8.cell? ⟨x, 19, none⟩ = some (.slice ae e ce) ∧ w8.cell? ⟨gp, a, none⟩ = some (.int .i64 y) ∧ w8.cell? ⟨gp, b, none⟩ = some (.int .i64 z) := by
                      obtain ⟨_, q1, q2⟩ := KS wr (Below.refl _ _)
                      have p1 : (pints six)[a]? = some (.int .i64 y) := by
                        have hh := (Row.of_own HP2.out)
                        obtain ⟨v, hv⟩ : ∃ v, (pints six)[a]? = some v := ⟨_, List.getElem?_eq_getElem (by simp; omega)⟩
                        have := hh.cell hv
                        rw [q1] at this
                        rw [hv]; exact this.symm
                      have p2 : (pints six)[b]? = some (.int .i64 z) := by
                        have hh := (Row.of_own HP2.out)
                        obtain ⟨v, hv⟩ : ∃ v, (pints six)[b]? = some v := ⟨_, List.getElem?_eq_getElem (by simp; omega)⟩
                        have := hh.cell hv
                        rw [q2] at this
                        rw [hv]; exact this.symm
                      exact ⟨(k8.cell 19).trans k19, o8 a _ q1 p1, o8 b _ q2 p2⟩
                    refine hKT.out _ _ (S8) (fun _ => ?_); clear hKT KT; try simp only [Act.put, List.setIfInBounds_toArray, List.set_cons_zero, List.set_cons_succ]
                    refine wpPlan_one rfl (fun KT hKT => ?_)
                    go_simp
                    refine hKT.out _ _ (S8) (fun _ => ?_); clear hKT KT; try simp only [Act.put, List.setIfInBounds_toArray, List.set_cons_zero, List.set_cons_succ]
                    repeat (refine' wpPlan_take rfl (by rfl) (by assumption) ?_ ?_; rotate_left; (· (intro w hSw; (try dsimp only at hSw); go_simp; try with_reducible rfl)); try simp only [Act.put, List.setIfInBounds_toArray, List.set_cons_zero, List.set_cons_succ])
                    have d8 := S8.1
                    have f8 := k8.frozen 19
                    clear S8 o8 T9 b8 x9 k8 k19 h8 KS hS0 B0 B1
                    refine wpPlan_last rfl (fun KT hKT => ?_)
                    go_simp
                    refine hKT.out _ _ ?_; clear hKT KT; try simp only [Act.put, List.setIfInBounds_toArray, List.set_cons_zero, List.set_cons_succ]
                    refine wpPlan_done ?_
                    obtain ⟨w9, hw9⟩ : ∃ w9, w9 = w8.setCell ⟨x, 19, none⟩ (.slice a8 (e + 1) c8) := ⟨_, rfl⟩
                    rw [← hw9] at X9 BB9 HP9 ⊢
                    clear hw9 d8 f8
                    have n20 : w9.cell? ⟨x, 20, none⟩ = some (.slice aq e cq) := X9.out.blk.cell 20
                    go_wp2_with (at_builtin; refine wpList_app rfl (.tmp 159) (.tmp 160) _ rfl w.heap.size 148 qi _ 1 24 Try.underlying97 qi0 qz0 qz1 qz2 rfl (by omega) aq e cq (List.replicate e (.slice none 0 0)) rfl (World.ownsRow.alloc X9.out.qrow _) (some ⟨w9.heap.size, 0, none⟩) 1 1 [.slice none 0 0] rfl (own_one _ _ _) (by simp [Value.oneCell']) (by unfold maxLen; omega) (by omega) (by have := BB9.out.size; simp; omega) ?_; intro a10 c10 w10 h10; have b10 := (Below.refl w9.heap.size w9).alloc (Nat.le_refl _) (.cells #[.slice none 0 0] 148); obtain ⟨⟨cs10, k10, k20⟩, x11⟩ := X9.out.queue b10 h10; have X11 := Lib.hid x11; have T11 := Turn2.of (o := 20) (v := .slice a10 (e + 1) c10) b10 X9.out.qrow h10 k10; have HP11 := Lib.hid (T11.row HP9.out (by decide) (by decide)); have BB11 : Hid (Below w.heap.size w (w10.setCell ⟨x, 20, none⟩ (.slice a10 (e + 1) c10))) := Lib.hid ((h10.below (own_below X9.out.qrow b10) (BB9.out.trans (b10.mono BB9.out.size)) (Nat.le_refl _) (Nat.le_trans BB9.out.size b10.size)).setCell (p := ⟨x, 20, none⟩) X9.out.ge.1 _); have d10 : w10.cell? ⟨x, 20, none⟩ = some (.slice aq e cq) := (k10.cell 20).trans k20; have f10 := k10.frozen 20; clear k10 k20 x11 h10 b10 T11)
                    go_roundw
                    case rel => exact ⟨b + 1, by omega, by go_num, a8, c8, a10, c10, by rw [HEN.out]; exact X11.out, HP11.out, BB11.out⟩
                    case measure => simp [intOf]; omega
                · have hb6' : b = 6 := by omega
                  subst hb6'
                  have i2 : ¬ ((6 : Nat) : Int) < 6 := by omega
                  go_wp2_with fail
                  go_roundw
                  case rel => exact ⟨a + 1, by omega, by go_num, ae, ce, aq, cq, by have e6 := eidx_end a hlt; rw [e6] at HX2; exact HX2.out, HP2.out, HB2.out⟩
                  case measure => simp [intOf]; omega
            · have ha6 : a = 6 := by omega
              subst ha6
              go_wp2_with fail
              go_ret2
              exact ⟨x, gc, nb, an, cn, ac, cc, ae, ce, aq, cq, pn, pc, rfl, HX.out, HB.out⟩
end Go.Proofs.Ytfhlcjfgbhmecaa
