/- NdC. -/
import Derived.Test.YtfhlcjfgbhmecaaZNdB
/- psephosref21.NewClient; the clones of nodes, clients, notaries. -/
namespace Go.Proofs.Ytfhlcjfgbhmecaa
open Go.RowKit
set_option linter.unusedVariables false
set_option maxRecDepth 100000

/-- A client of the reference that is there. -/
def ClientB (B : Nat) (w : World) (p : Nat) : Prop := B ≤ p ∧ ∃ cs, Blk w p 204 cs ∧ cs.size = 56 ∧ cs.all (·.oneCell') = true ∧ ∀ j ∈ [53, 54, 55], cs[j]? = some (.slice none 0 0)
theorem ClientB.below {B : Nat} {w w' : World} {p : Nat} (h : ClientB B w p) (hb : Below w.heap.size w w') : ClientB B w' p := by
  obtain ⟨h0, cs, h1, h2⟩ := h
  exact ⟨h0, cs, h1.below hb h1.lt, h2⟩
set_option maxHeartbeats 3200000 in
theorem rclient_c (room : Int) (hr : 1 ≤ room ∧ room ≤ 256) (id : Nat) (hid : id < 2) (nb : Nat) (w : World) :
    Calls Try.prog 80 #[.agg (cfgA room), .int .i64 id, .pointer (some ⟨nb, 0, none⟩)] w fun e w' => ∃ p, e = .returned (.tuple #[.pointer (some ⟨p, 0, none⟩), .int .i64 0]) ∧ ClientB w.heap.size w' p ∧ Below w.heap.size w w' := by
  go_enter Try.func80, Try.ntmps80
  go_upto_region 1 with fail
  obtain ⟨w1, hw1⟩ : ∃ w1, w1 = w.alloc (.cells (cfgA room) 64) := ⟨_, rfl⟩
  obtain ⟨gc, hgc⟩ : ∃ g, g = w.heap.size := ⟨_, rfl⟩
  rw [← hw1, ← hgc]
  have K1 : Hid (Blk w1 gc 64 (cfgA room)) := Lib.hid (by rw [hw1, hgc]; exact Blk.new _ _ _)
  have B1 : Hid (Below w.heap.size w w1) := Lib.hid (by rw [hw1]; exact (Below.refl _ _).alloc (Nat.le_refl _) _)
  clear hw1 hgc
  have c0 : w1.cell? ⟨gc, 0, none⟩ = some (.int .i64 1) := K1.out.cell 0
  have c1 : w1.cell? ⟨gc, 1, none⟩ = some (.int .i64 2) := K1.out.cell 1
  have c2 : w1.cell? ⟨gc, 2, none⟩ = some (.int .i64 2) := K1.out.cell 2
  have c3 : w1.cell? ⟨gc, 3, none⟩ = some (.int .i64 4) := K1.out.cell 3
  have c4 : w1.cell? ⟨gc, 4, none⟩ = some (.int .i64 room) := K1.out.cell 4
  have c5 : w1.cell? ⟨gc, 5, none⟩ = some (.int .i64 8) := K1.out.cell 5
  have c6 : w1.cell? ⟨gc, 6, none⟩ = some (.int .i64 8) := K1.out.cell 6
  have c7 : w1.cell? ⟨gc, 7, none⟩ = some (.int .i64 8) := K1.out.cell 7
  have c8 : w1.cell? ⟨gc, 8, none⟩ = some (.int .i64 1) := K1.out.cell 8
  have c9 : w1.cell? ⟨gc, 9, none⟩ = some (.int .i64 2) := K1.out.cell 9
  have c10 : w1.cell? ⟨gc, 10, none⟩ = some (.int .i64 12) := K1.out.cell 10
  have c11 : w1.cell? ⟨gc, 11, none⟩ = some (.int .i64 8) := K1.out.cell 11
  have c12 : w1.cell? ⟨gc, 12, none⟩ = some (.int .i64 6) := K1.out.cell 12
  have c13 : w1.cell? ⟨gc, 13, none⟩ = some (.int .i64 2) := K1.out.cell 13
  have c14 : w1.cell? ⟨gc, 14, none⟩ = some (.int .i64 6) := K1.out.cell 14
  go_wp2_with fail
  refine (Cfg.rvalid_c _ _ _ _ _ _ _ _ _ _ _ _ _ _ _ _).mono ?_; rintro e w2 ⟨rfl, hb2⟩
  rw [valid_usual room hr]
  have K2 := Lib.hid (K1.out.below hb2 K1.out.lt)
  have B2 := Lib.hid (B1.out.trans (hb2.mono B1.out.size))
  clear hb2 c0 c1 c2 c3 c4 c5 c6 c7 c8 c9 c10 c11 c12 c13 c14 K1 B1
  have d0 : w2.cell? ⟨gc, 0, none⟩ = some (.int .i64 1) := K2.out.cell 0
  have d1 : w2.cell? ⟨gc, 1, none⟩ = some (.int .i64 2) := K2.out.cell 1
  have d2 : w2.cell? ⟨gc, 2, none⟩ = some (.int .i64 2) := K2.out.cell 2
  have d3 : w2.cell? ⟨gc, 3, none⟩ = some (.int .i64 4) := K2.out.cell 3
  have d4 : w2.cell? ⟨gc, 4, none⟩ = some (.int .i64 room) := K2.out.cell 4
  have d5 : w2.cell? ⟨gc, 5, none⟩ = some (.int .i64 8) := K2.out.cell 5
  have d6 : w2.cell? ⟨gc, 6, none⟩ = some (.int .i64 8) := K2.out.cell 6
  have d7 : w2.cell? ⟨gc, 7, none⟩ = some (.int .i64 8) := K2.out.cell 7
  have d8 : w2.cell? ⟨gc, 8, none⟩ = some (.int .i64 1) := K2.out.cell 8
  have d9 : w2.cell? ⟨gc, 9, none⟩ = some (.int .i64 2) := K2.out.cell 9
  have d10 : w2.cell? ⟨gc, 10, none⟩ = some (.int .i64 12) := K2.out.cell 10
  have d11 : w2.cell? ⟨gc, 11, none⟩ = some (.int .i64 8) := K2.out.cell 11
  have d12 : w2.cell? ⟨gc, 12, none⟩ = some (.int .i64 6) := K2.out.cell 12
  have d13 : w2.cell? ⟨gc, 13, none⟩ = some (.int .i64 2) := K2.out.cell 13
  have d14 : w2.cell? ⟨gc, 14, none⟩ = some (.int .i64 6) := K2.out.cell 14
  have i0 : ¬ (id : Int) < 0 := by omega
  have i1 : ¬ (2 : Int) ≤ id := by omega
  go_wp2_with fail
  go_ret2
  refine ⟨w2.heap.size, by first | rfl | trivial, ⟨B2.out.size, _, Blk.new _ _ _, by kernel_rfl, by kernel_rfl, fun j hj => ?_⟩, B2.out.alloc B2.out.size _⟩
  simp only [List.mem_cons, List.not_mem_nil, or_false] at hj
  rcases hj with rfl | rfl | rfl <;> rfl
/-- A notary that has sealed nothing. -/
def NotE (w : World) (r : Nat) : Prop := Blk w r 138 #[.slice none 0 0, .slice none 0 0]
theorem rcopy_e (r : Nat) (w : World) (h : NotE w r) : Calls Try.prog 93 #[.pointer (some ⟨r, 0, none⟩)] w fun e w' => ∃ r', e = .returned (.pointer (some ⟨r', 0, none⟩)) ∧ NotE w' r' ∧ w.heap.size ≤ r' ∧ Below w.heap.size w w' := by
  obtain ⟨i1, hi1⟩ : ∃ i, Try.prog.info? 3 = some i := Option.isSome_iff_exists.1 (by kernel_rfl)
  obtain ⟨i2, hi2⟩ : ∃ i, Try.prog.info? 9 = some i := Option.isSome_iff_exists.1 (by kernel_rfl)
  have c0 : w.cell? ⟨r, 0, none⟩ = some (.slice none 0 0) := Blk.cell h 0
  have c1 : w.cell? ⟨r, 1, none⟩ = some (.slice none 0 0) := Blk.cell h 1
  clear h
  go_enter Try.func93, Try.ntmps93
  go_upto_region 1 with fail
  refine wp_region_plan (fun w' => w'.cell? ⟨r, 0, none⟩ = some (.slice none 0 0) ∧ w'.cell? ⟨r, 1, none⟩ = some (.slice none 0 0)) 13 (.take 0 (.take 1 (.take 2 (.take 3 (.take 5 (.take 6 (.take 7 (.take 8 (.one 4 (.one 9 (.take 10 (.one 11 (.take 12 .done))))))))))))) (by kernel_rfl) (by kernel_rfl) (by kernel_rfl) ⟨c0, c1⟩ ?_
  intro hS0
  obtain ⟨v0, hv0⟩ : ∃ v, v = w.drew := ⟨_, rfl⟩
  have B0 : Below w.heap.size w v0 := by rw [hv0]; exact (Below.refl _ _).drew
  rw [← hv0] at hS0 ⊢
  clear hv0 c0 c1
  repeat (refine' wpPlan_take rfl (by rfl) (by assumption) ?_ ?_; rotate_left; (· (intro w hSw; (try dsimp only at hSw); go_simp; try with_reducible rfl)); try simp only [Act.put, List.setIfInBounds_toArray, List.set_cons_zero, List.set_cons_succ])
  refine wpPlan_one rfl (fun KT hKT => ?_)
  refine step_append_none (by rfl) _ _ _ (by rfl) 3 i1 Try.underlying73 hi1 none none 0 0 0 (.inl ⟨rfl, rfl, rfl⟩) (Nat.le_refl _) (by rfl) (by rfl) ?_
  refine hKT.out _ _ (hS0) (fun _ => ?_); clear hKT KT; try simp only [Act.put, List.setIfInBounds_toArray, List.set_cons_zero, List.set_cons_succ]
  repeat (refine' wpPlan_take rfl (by rfl) (by assumption) ?_ ?_; rotate_left; (· (intro w hSw; (try dsimp only at hSw); go_simp; try with_reducible rfl)); try simp only [Act.put, List.setIfInBounds_toArray, List.set_cons_zero, List.set_cons_succ])
  refine wpPlan_one rfl (fun KT hKT => ?_)
  refine step_append_none (by rfl) _ _ _ (by rfl) 9 i2 Try.underlying136 hi2 none none 0 0 0 (.inl ⟨rfl, rfl, rfl⟩) (Nat.le_refl _) (by rfl) (by rfl) ?_
  refine hKT.out _ _ (hS0) (fun _ => ?_); clear hKT KT; try simp only [Act.put, List.setIfInBounds_toArray, List.set_cons_zero, List.set_cons_succ]
  repeat (refine' wpPlan_take rfl (by rfl) (by assumption) ?_ ?_; rotate_left; (· (intro w hSw; (try dsimp only at hSw); go_simp; try with_reducible rfl)); try simp only [Act.put, List.setIfInBounds_toArray, List.set_cons_zero, List.set_cons_succ])
  refine wpPlan_one rfl (fun KT hKT => ?_)
  go_simp
  refine hKT.out _ _ (⟨alloc_kept _ hS0.1, alloc_kept _ hS0.2⟩) (fun _ => ?_); clear hKT KT; try simp only [Act.put, List.setIfInBounds_toArray, List.set_cons_zero, List.set_cons_succ]
  repeat (refine' wpPlan_take rfl (by rfl) (by assumption) ?_ ?_; rotate_left; (· (intro w hSw; (try dsimp only at hSw); go_simp; try with_reducible rfl)); try simp only [Act.put, List.setIfInBounds_toArray, List.set_cons_zero, List.set_cons_succ])
  refine wpPlan_done ?_
  clear hS0
  go_wp2_with fail
  go_ret
  refine ⟨v0.heap.size, by first | rfl | trivial, Blk.new _ _ _, B0.size, B0.alloc B0.size _⟩
set_option maxHeartbeats 3200000 in
theorem rclclone_c (B p nb : Nat) (w : World) (h : ClientB B w p) : Calls Try.prog 95 #[.pointer (some ⟨p, 0, none⟩), .pointer (some ⟨nb, 0, none⟩)] w fun e w' => ∃ q, e = .returned (.pointer (some ⟨q, 0, none⟩)) ∧ Below w.heap.size w w' := by
  obtain ⟨_, cs, hk, hs, h1, hat⟩ := h
  obtain ⟨i53, hi53⟩ : ∃ i, Try.prog.info? 33 = some i := Option.isSome_iff_exists.1 (by kernel_rfl)
  obtain ⟨i54, hi54⟩ : ∃ i, Try.prog.info? 38 = some i := Option.isSome_iff_exists.1 (by kernel_rfl)
  obtain ⟨i55, hi55⟩ : ∃ i, Try.prog.info? 68 = some i := Option.isSome_iff_exists.1 (by kernel_rfl)
  have P53 : Hid (w.cell? ⟨p, 53, none⟩ = some (.slice none 0 0)) := Lib.hid ((hk.cell 53).trans (hat 53 (by simp)))
  have P54 : Hid (w.cell? ⟨p, 54, none⟩ = some (.slice none 0 0)) := Lib.hid ((hk.cell 54).trans (hat 54 (by simp)))
  have P55 : Hid (w.cell? ⟨p, 55, none⟩ = some (.slice none 0 0)) := Lib.hid ((hk.cell 55).trans (hat 55 (by simp)))
  have HK := Lib.hid hk
  have HS := Lib.hid hs
  have H1 := Lib.hid h1
  clear hk hs h1 hat
  go_enter Try.func95, Try.ntmps95
  go_upto_region 2 with (first
    | (refine wpList_load_row rfl 204 (.tmp 7) rfl p rfl 204 cs (0, 0) _ HK.out Try.underlying204 rfl (by rw [HS.out]; kernel_rfl) ?_; try simp only [Act.put])
    | (refine wpList_store_row rfl 204 (.tmp 5) (.tmp 8) rfl w.heap.size cs rfl rfl 204 _ (Blk.new _ _ _) (by rw [HS.out]; kernel_rfl) (by rw [HS.out]; kernel_rfl) H1.out ?_; rw [World.setRow_alloc_new]; try simp only [Act.put]))
  obtain ⟨w1, hw1⟩ : ∃ w1, w1 = w.alloc (.cells cs 204) := ⟨_, rfl⟩
  obtain ⟨q, hq⟩ : ∃ q, q = w.heap.size := ⟨_, rfl⟩
  rw [← hw1, ← hq]
  have hk1 : Blk w1 q 204 cs := by rw [hw1, hq]; exact Blk.new _ _ _
  have BX : Hid (Below w.heap.size w w1) := Lib.hid (by rw [hw1]; exact (Below.refl _ _).alloc (Nat.le_refl _) _)
  have QE := Lib.hid hq
  clear hw1 hq
  have f2 := hk1.frozen 16
  obtain ⟨u2, g2⟩ : ∃ u, w1.cell? ⟨q, 16, none⟩ = some u := ⟨_, (hk1.cell 16).trans (Array.getElem?_eq_getElem (by rw [HS.out]; omega))⟩
  go_upto_region 3 with fail
  have KX := Lib.hid (hk1.set_ 16 (.pointer (some ⟨nb, 0, none⟩)))
  have BY := Lib.hid (BX.out.setCell (p := ⟨q, 16, none⟩) (by rw [QE.out]; exact Nat.le_refl _) (.pointer (some ⟨nb, 0, none⟩)))
  obtain ⟨w2, hw2⟩ : ∃ w2, w2 = w1.setCell ⟨q, 16, none⟩ (.pointer (some ⟨nb, 0, none⟩)) := ⟨_, rfl⟩
  obtain ⟨c2, hc2⟩ : ∃ c, c = cs.setIfInBounds 16 (.pointer (some ⟨nb, 0, none⟩)) := ⟨_, rfl⟩
  have Z2 : Hid (c2.size = 56) := Lib.hid (by rw [hc2]; simpa using HS.out)
  rw [← hw2] at KX BY ⊢
  rw [← hc2] at KX
  clear hw2 hc2 f2 g2 hk1 BX
  have p53 : w2.cell? ⟨p, 53, none⟩ = some (.slice none 0 0) := kept BY.out _ _ P53.out
  have f53 := KX.out.frozen 53
  obtain ⟨u53, g53⟩ : ∃ u, w2.cell? ⟨q, 53, none⟩ = some u := ⟨_, (KX.out.cell 53).trans (Array.getElem?_eq_getElem (by rw [Z2.out]; omega))⟩
  go_upto_region 4 with (at_builtin; refine wpList_append_no rfl _ _ _ rfl 33 i53 Try.underlying29 hi53 none none 0 0 0 (.inl ⟨rfl, rfl, rfl⟩) (Nat.le_refl _) rfl rfl ?_; try simp only [Act.put])
  have KX := Lib.hid (KX.out.set_ 53 (.slice none 0 0))
  have BY := Lib.hid (BY.out.setCell (p := ⟨q, 53, none⟩) (by rw [QE.out]; exact Nat.le_refl _) (.slice none 0 0))
  obtain ⟨w3, hw2⟩ : ∃ w', w' = w2.setCell ⟨q, 53, none⟩ (.slice none 0 0) := ⟨_, rfl⟩
  obtain ⟨c3, hc2⟩ : ∃ c, c = c2.setIfInBounds 53 (.slice none 0 0) := ⟨_, rfl⟩
  have Z3 : Hid (c3.size = 56) := Lib.hid (by rw [hc2]; simpa using Z2.out)
  rw [← hw2] at KX BY ⊢
  rw [← hc2] at KX
  clear hw2 hc2 f53 g53 p53
  have p54 : w3.cell? ⟨p, 54, none⟩ = some (.slice none 0 0) := kept BY.out _ _ P54.out
  have f54 := KX.out.frozen 54
  obtain ⟨u54, g54⟩ : ∃ u, w3.cell? ⟨q, 54, none⟩ = some u := ⟨_, (KX.out.cell 54).trans (Array.getElem?_eq_getElem (by rw [Z3.out]; omega))⟩
  go_upto_region 5 with (at_builtin; refine wpList_append_no rfl _ _ _ rfl 38 i54 Try.underlying34 hi54 none none 0 0 0 (.inl ⟨rfl, rfl, rfl⟩) (Nat.le_refl _) rfl rfl ?_; try simp only [Act.put])
  have KX := Lib.hid (KX.out.set_ 54 (.slice none 0 0))
  have BY := Lib.hid (BY.out.setCell (p := ⟨q, 54, none⟩) (by rw [QE.out]; exact Nat.le_refl _) (.slice none 0 0))
  obtain ⟨w4, hw2⟩ : ∃ w', w' = w3.setCell ⟨q, 54, none⟩ (.slice none 0 0) := ⟨_, rfl⟩
  obtain ⟨c4, hc2⟩ : ∃ c, c = c3.setIfInBounds 54 (.slice none 0 0) := ⟨_, rfl⟩
  have Z4 : Hid (c4.size = 56) := Lib.hid (by rw [hc2]; simpa using Z3.out)
  rw [← hw2] at KX BY ⊢
  rw [← hc2] at KX
  clear hw2 hc2 f54 g54 p54
  have p55 : w4.cell? ⟨p, 55, none⟩ = some (.slice none 0 0) := kept BY.out _ _ P55.out
  have f55 := KX.out.frozen 55
  obtain ⟨u55, g55⟩ : ∃ u, w4.cell? ⟨q, 55, none⟩ = some u := ⟨_, (KX.out.cell 55).trans (Array.getElem?_eq_getElem (by rw [Z4.out]; omega))⟩
  go_upto_region 6 with (at_builtin; refine wpList_append_no rfl _ _ _ rfl 68 i55 Try.underlying178 hi55 none none 0 0 0 (.inl ⟨rfl, rfl, rfl⟩) (Nat.le_refl _) rfl rfl ?_; try simp only [Act.put])
  have KX := Lib.hid (KX.out.set_ 55 (.slice none 0 0))
  have BY := Lib.hid (BY.out.setCell (p := ⟨q, 55, none⟩) (by rw [QE.out]; exact Nat.le_refl _) (.slice none 0 0))
  obtain ⟨w5, hw2⟩ : ∃ w', w' = w4.setCell ⟨q, 55, none⟩ (.slice none 0 0) := ⟨_, rfl⟩
  obtain ⟨c5, hc2⟩ : ∃ c, c = c4.setIfInBounds 55 (.slice none 0 0) := ⟨_, rfl⟩
  have Z5 : Hid (c5.size = 56) := Lib.hid (by rw [hc2]; simpa using Z4.out)
  rw [← hw2] at KX BY ⊢
  rw [← hc2] at KX
  clear hw2 hc2 f55 g55 p55
  go_wp2_with fail
  go_ret
  exact ⟨q, by first | rfl | trivial, BY.out⟩
end Go.Proofs.Ytfhlcjfgbhmecaa
