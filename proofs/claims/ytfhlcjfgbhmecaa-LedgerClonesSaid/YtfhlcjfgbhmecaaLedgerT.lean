/- Package ledger: Same of equal ledgers, Store, Clone. -/
import Derived.Test.YtfhlcjfgbhmecaaLedgerS
import Derived.Test.YtfhlcjfgbhmecaaPlan
import Derived.Test.YtfhlcjfgbhmecaaApp
import Derived.Deep.DeepCutAuto
namespace Go.Proofs.Ytfhlcjfgbhmecaa
open Go.RowKit
set_option linter.unusedVariables false

set_option maxRecDepth 100000 in
set_option maxHeartbeats 3200000 in
theorem lsame_c (S : List Nat) (gd C : Nat) (T : List Nat) (gm C' : Nat) (es : List Ent) (st : List (Bool × Int)) (ct : List (Int × Int)) (w : World) (h : Led w S gd C es st ct) (h' : Led w T gm C' es st ct) (hm : es.length ≤ 4096) :
    Calls Try.prog 40 #[.pointer (some ⟨gd, 0, none⟩), .pointer (some ⟨gm, 0, none⟩)] w fun e w' => e = .returned (.bool true) ∧ Below w.heap.size w w' := by
  obtain ⟨gs, gc, gl, al, cl, hS, k1, k2, k3, k4⟩ := h.ex
  obtain ⟨ms, mc, ml, am, cm, hT, m1, m2, m3, m4⟩ := h'.ex
  have C4 := Lib.hid (show ct.length ≤ 4 by rw [h.len]; exact h.c.2)
  have a1 : w.cell? ⟨gd, 1, none⟩ = some (.slice al es.length cl) := k1.cell 1
  have a2 : w.cell? ⟨gd, 2, none⟩ = some (.pointer (some ⟨gs, 0, none⟩)) := k1.cell 2
  have a3 : w.cell? ⟨gd, 3, none⟩ = some (.pointer (some ⟨gc, 0, none⟩)) := k1.cell 3
  have b1 : w.cell? ⟨gm, 1, none⟩ = some (.slice am es.length cm) := m1.cell 1
  have b2 : w.cell? ⟨gm, 2, none⟩ = some (.pointer (some ⟨ms, 0, none⟩)) := m1.cell 2
  have b3 : w.cell? ⟨gm, 3, none⟩ = some (.pointer (some ⟨mc, 0, none⟩)) := m1.cell 3
  obtain ⟨n, hn⟩ : ∃ n, n = es.length := ⟨_, rfl⟩
  rw [← hn] at a1 b1 hm
  have N := Lib.hid hn
  have K2 := Lib.hid (own_vrow k2)
  have M2 := Lib.hid (own_vrow m2)
  rw [← hn] at K2 M2
  have K3 := Lib.hid k3
  have M3 := Lib.hid m3
  have K4 := Lib.hid k4
  have M4 := Lib.hid m4
  clear h h' k1 k2 k3 k4 m1 m2 m3 m4 hS hT hn
  go_enter Try.func40, Try.ntmps40
  go_upto_region 1 with fail
  have KS : ∀ w', Below w.heap.size w w' → w'.cell? ⟨gd, 1, none⟩ = some (.slice al n cl) ∧ w'.cell? ⟨gd, 2, none⟩ = some (.pointer (some ⟨gs, 0, none⟩)) ∧ w'.cell? ⟨gd, 3, none⟩ = some (.pointer (some ⟨gc, 0, none⟩)) ∧ w'.cell? ⟨gm, 1, none⟩ = some (.slice am n cm) ∧ w'.cell? ⟨gm, 2, none⟩ = some (.pointer (some ⟨ms, 0, none⟩)) ∧ w'.cell? ⟨gm, 3, none⟩ = some (.pointer (some ⟨mc, 0, none⟩)) ∧ Below w.heap.size w w' :=
    fun w' o => ⟨kept o _ _ a1, kept o _ _ a2, kept o _ _ a3, kept o _ _ b1, kept o _ _ b2, kept o _ _ b3, o⟩
  refine wp_region_plan (fun w' => w'.cell? ⟨gd, 1, none⟩ = some (.slice al n cl) ∧ w'.cell? ⟨gd, 2, none⟩ = some (.pointer (some ⟨gs, 0, none⟩)) ∧ w'.cell? ⟨gd, 3, none⟩ = some (.pointer (some ⟨gc, 0, none⟩)) ∧ w'.cell? ⟨gm, 1, none⟩ = some (.slice am n cm) ∧ w'.cell? ⟨gm, 2, none⟩ = some (.pointer (some ⟨ms, 0, none⟩)) ∧ w'.cell? ⟨gm, 3, none⟩ = some (.pointer (some ⟨mc, 0, none⟩)) ∧ Below w.heap.size w w') 45 (.take 0 (.take 1 (.take 2 (.take 3 (.take 4 (.take 5 (.take 6 (.take 7 (.take 8 (.take 9 (.take 10 (.take 11 (.take 12 (.take 13 (.take 14 (.take 15 (.take 16 (.take 17 (.take 18 (.take 19 (.one 20 (.take 21 (.take 22 (.take 23 (.take 24 (.take 25 (.take 26 (.take 27 (.take 28 (.take 29 (.take 30 (.one 31 (.take 32 (.take 33 (.take 34 (.take 35 (.take 36 (.take 37 (.take 38 (.take 39 (.take 40 (.take 41 (.one 42 (.take 43 (.take 44 .done))))))))))))))))))))))))))))))))))))))))))))) (by kernel_rfl) (by kernel_rfl) (by kernel_rfl) (KS _ (Below.refl _ _).drew) ?_
  intro hS0
  have E1 : Below w.heap.size w w.drew := (Below.refl _ _).drew
  repeat (refine' wpPlan_take rfl (by rfl) (by assumption) ?_ ?_; rotate_left; (· (intro w hSw; (try dsimp only at hSw); go_simp; try with_reducible rfl)); try simp only [Act.put, List.setIfInBounds_toArray, List.set_cons_zero, List.set_cons_succ])
  refine wpPlan_one rfl (fun KT hKT => ?_)
  go_simp
  refine (prefix_c al n cl am n cm es es _ (K2.out.below E1) (M2.out.below E1) N.out.symm N.out.symm hm hm true (by simp)).mono ?_; rintro e w2 ⟨rfl, hb2⟩
  have E2 : Below w.heap.size w w2 := E1.trans (hb2.mono E1.size)
  refine hKT.out _ _ (KS _ E2) (fun _ => ?_); clear hKT KT; try simp only [Act.put, List.setIfInBounds_toArray, List.set_cons_zero, List.set_cons_succ]
  repeat (refine' wpPlan_take rfl (by rfl) (by assumption) ?_ ?_; rotate_left; (· (intro w hSw; (try dsimp only at hSw); go_simp; try with_reducible rfl)); try simp only [Act.put, List.setIfInBounds_toArray, List.set_cons_zero, List.set_cons_succ])
  refine wpPlan_one rfl (fun KT hKT => ?_)
  go_simp
  refine (ssame_c gs ms st st _ (K3.out.below E2) (M3.out.below E2) true (by simp)).mono ?_; rintro e w3 ⟨rfl, hb3⟩
  have E3 : Below w.heap.size w w3 := E2.trans (hb3.mono E2.size)
  refine hKT.out _ _ (KS _ E3) (fun _ => ?_); clear hKT KT; try simp only [Act.put, List.setIfInBounds_toArray, List.set_cons_zero, List.set_cons_succ]
  repeat (refine' wpPlan_take rfl (by rfl) (by assumption) ?_ ?_; rotate_left; (· (intro w hSw; (try dsimp only at hSw); go_simp; try with_reducible rfl)); try simp only [Act.put, List.setIfInBounds_toArray, List.set_cons_zero, List.set_cons_succ])
  refine wpPlan_one rfl (fun KT hKT => ?_)
  go_simp
  refine (csame_c gc gl mc ml ct ct _ (K4.out.below E3) (M4.out.below E3) rfl C4.out true (by simp)).mono ?_; rintro e w4 ⟨rfl, hb4⟩
  have E4 : Below w.heap.size w w4 := E3.trans (hb4.mono E3.size)
  refine hKT.out _ _ (KS _ E4) (fun _ => ?_); clear hKT KT; try simp only [Act.put, List.setIfInBounds_toArray, List.set_cons_zero, List.set_cons_succ]
  repeat (refine' wpPlan_take rfl (by rfl) (by assumption) ?_ ?_; rotate_left; (· (intro w hSw; (try dsimp only at hSw); go_simp; try with_reducible rfl)); try simp only [Act.put, List.setIfInBounds_toArray, List.set_cons_zero, List.set_cons_succ])
  refine wpPlan_done ?_
  go_wp2_with fail
  go_ret
  exact ⟨rfl, E4⟩

theorem lstore_c (S : List Nat) (gd C : Nat) (es : List Ent) (st : List (Bool × Int)) (ct : List (Int × Int)) (w : World) (h : Led w S gd C es st ct) :
    Calls Try.prog 42 #[.pointer (some ⟨gd, 0, none⟩)] w fun e w' => ∃ gt, e = .returned (.pointer (some ⟨gt, 0, none⟩)) ∧ Store w' gt st ∧ w.heap.size ≤ gt ∧ Below w.heap.size w w' := by
  obtain ⟨gs, gc, gl, al, cl, hS, k1, k2, k3, k4⟩ := h.ex
  have g0 : w.cell? ⟨gd, 2, none⟩ = some (.pointer (some ⟨gs, 0, none⟩)) := k1.cell 2
  have K3 := Lib.hid k3
  clear k1 k3 k4 h hS k2
  go_enter Try.func42, Try.ntmps42
  go_wp2_with fail
  refine (sclone_c gs st _ K3.out).mono ?_; rintro e w' ⟨gt, rfl, h1, h2, h3⟩
  have H := Lib.hid (And.intro h1 (And.intro h2 h3))
  clear h1 h2 h3
  go_wp2_with fail
  go_ret
  exact ⟨gt, rfl, H.out⟩

set_option maxRecDepth 100000 in
set_option maxHeartbeats 3200000 in
theorem lclone_c (S : List Nat) (gd C : Nat) (es : List Ent) (st : List (Bool × Int)) (ct : List (Int × Int)) (w : World) (h : Led w S gd C es st ct) (hm : es.length ≤ 4096) :
    Calls Try.prog 44 #[.pointer (some ⟨gd, 0, none⟩)] w fun e w' => ∃ S' gd', e = .returned (.pointer (some ⟨gd', 0, none⟩)) ∧ Led w' S' gd' C es st ct ∧ (∀ k ∈ S', w.heap.size ≤ k) ∧ Below w.heap.size w w' := by
  obtain ⟨gs, gc, gl, al, cl, hS, k1, k2, k3, k4⟩ := h.ex
  have L := Lib.hid h
  have C4 := Lib.hid (show 1 ≤ ct.length ∧ ct.length ≤ 4 by rw [h.len]; exact h.c)
  have a0 : w.cell? ⟨gd, 0, none⟩ = some (.int .i64 C) := k1.cell 0
  have a2 : w.cell? ⟨gd, 2, none⟩ = some (.pointer (some ⟨gs, 0, none⟩)) := k1.cell 2
  have a3 : w.cell? ⟨gd, 3, none⟩ = some (.pointer (some ⟨gc, 0, none⟩)) := k1.cell 3
  have K3 := Lib.hid k3
  have K4 := Lib.hid k4
  obtain ⟨n, hn⟩ : ∃ n, n = es.length := ⟨_, rfl⟩
  rw [← hn] at hm
  have N := Lib.hid hn
  clear h k1 k2 k3 k4 hS hn
  go_enter Try.func44, Try.ntmps44
  go_upto_region 1 with fail
  have KS : ∀ w', Below w.heap.size w w' → w'.cell? ⟨gd, 0, none⟩ = some (.int .i64 C) ∧ w'.cell? ⟨gd, 2, none⟩ = some (.pointer (some ⟨gs, 0, none⟩)) ∧ w'.cell? ⟨gd, 3, none⟩ = some (.pointer (some ⟨gc, 0, none⟩)) ∧ Below w.heap.size w w' :=
    fun w' o => ⟨kept o _ _ a0, kept o _ _ a2, kept o _ _ a3, o⟩
  refine wp_region_plan (fun w' => w'.cell? ⟨gd, 0, none⟩ = some (.int .i64 C) ∧ w'.cell? ⟨gd, 2, none⟩ = some (.pointer (some ⟨gs, 0, none⟩)) ∧ w'.cell? ⟨gd, 3, none⟩ = some (.pointer (some ⟨gc, 0, none⟩)) ∧ Below w.heap.size w w') 19 (.take 0 (.take 1 (.take 2 (.take 3 (.take 4 (.take 6 (.take 7 (.take 8 (.take 9 (.take 11 (.take 12 (.take 13 (.take 14 (.one 5 (.one 10 (.one 15 (.take 16 (.one 17 (.take 18 .done))))))))))))))))))) (by kernel_rfl) (by kernel_rfl) (by kernel_rfl) (KS _ (Below.refl _ _).drew) ?_
  intro hS0
  have E1 : Below w.heap.size w w.drew := (Below.refl _ _).drew
  repeat (refine' wpPlan_take rfl (by rfl) (by assumption) ?_ ?_; rotate_left; (· (intro w hSw; (try dsimp only at hSw); go_simp; try with_reducible rfl)); try simp only [Act.put, List.setIfInBounds_toArray, List.set_cons_zero, List.set_cons_succ])
  refine wpPlan_one rfl (fun KT hKT => ?_)
  go_simp
  refine (lall_c S gd C es st ct _ (L.out.below E1) n N.out.symm hm).mono ?_; rintro e w2 ⟨a5, c5, rfl, h5, hb2⟩
  have E2 : Below w.heap.size w w2 := E1.trans (hb2.mono E1.size)
  refine hKT.out _ _ (KS _ E2) (fun _ => ?_); clear hKT KT; try simp only [Act.put, List.setIfInBounds_toArray, List.set_cons_zero, List.set_cons_succ]
  repeat (refine' wpPlan_take rfl (by rfl) (by assumption) ?_ ?_; rotate_left; (· (intro w hSw; (try dsimp only at hSw); go_simp; try with_reducible rfl)); try simp only [Act.put, List.setIfInBounds_toArray, List.set_cons_zero, List.set_cons_succ])
  refine wpPlan_one rfl (fun KT hKT => ?_)
  go_simp
  refine (sclone_c gs st _ (K3.out.below E2)).mono ?_; rintro e w3 ⟨gt, rfl, h6, hgt, hb3⟩
  have E3 : Below w.heap.size w w3 := E2.trans (hb3.mono E2.size)
  refine hKT.out _ _ (KS _ E3) (fun _ => ?_); clear hKT KT; try simp only [Act.put, List.setIfInBounds_toArray, List.set_cons_zero, List.set_cons_succ]
  repeat (refine' wpPlan_take rfl (by rfl) (by assumption) ?_ ?_; rotate_left; (· (intro w hSw; (try dsimp only at hSw); go_simp; try with_reducible rfl)); try simp only [Act.put, List.setIfInBounds_toArray, List.set_cons_zero, List.set_cons_succ])
  refine wpPlan_one rfl (fun KT hKT => ?_)
  go_simp
  refine (cclone_c gc gl ct _ (K4.out.below E3) C4.out.1 C4.out.2).mono ?_; rintro e w4 ⟨gd4, gk4, rfl, h7, hd4, hk4, hb4⟩
  have E4 : Below w.heap.size w w4 := E3.trans (hb4.mono E3.size)
  refine hKT.out _ _ (KS _ E4) (fun _ => ?_); clear hKT KT; try simp only [Act.put, List.setIfInBounds_toArray, List.set_cons_zero, List.set_cons_succ]
  repeat (refine' wpPlan_take rfl (by rfl) (by assumption) ?_ ?_; rotate_left; (· (intro w hSw; (try dsimp only at hSw); go_simp; try with_reducible rfl)); try simp only [Act.put, List.setIfInBounds_toArray, List.set_cons_zero, List.set_cons_succ])
  refine wpPlan_one rfl (fun KT hKT => ?_)
  go_simp
  have E5 := E4.alloc E4.size (.cells #[.int .i64 C, .slice a5 n c5, .pointer (some ⟨gt, 0, none⟩), .pointer (some ⟨gd4, 0, none⟩)] 111)
  refine hKT.out _ _ (KS _ E5) (fun _ => ?_); clear hKT KT; try simp only [Act.put, List.setIfInBounds_toArray, List.set_cons_zero, List.set_cons_succ]
  repeat (refine' wpPlan_take rfl (by rfl) (by assumption) ?_ ?_; rotate_left; (· (intro w hSw; (try dsimp only at hSw); go_simp; try with_reducible rfl)); try simp only [Act.put, List.setIfInBounds_toArray, List.set_cons_zero, List.set_cons_succ])
  refine wpPlan_done ?_
  have b5 : Below w4.heap.size w4 (w4.alloc (.cells #[.int .i64 C, .slice a5 n c5, .pointer (some ⟨gt, 0, none⟩), .pointer (some ⟨gd4, 0, none⟩)] 111)) := (Below.refl _ _).alloc (Nat.le_refl _) _
  have o5 := own_below (own_below (own_below h5 hb3) hb4) b5
  have FIN : Hid (∃ S', Led (w4.alloc (.cells #[.int .i64 C, .slice a5 n c5, .pointer (some ⟨gt, 0, none⟩), .pointer (some ⟨gd4, 0, none⟩)] 111)) S' w4.heap.size C es st ct ∧ (∀ k ∈ S', w.heap.size ≤ k)) := by
    refine Lib.hid ⟨_, ⟨⟨gt, gd4, gk4, a5, c5, rfl, by rw [← N.out]; exact Blk.new _ _ _, by rw [← N.out]; exact own_base_le o5 (Nat.zero_le _), (h6.below hb4).below b5, h7.below b5⟩, L.out.c, L.out.len, L.out.sm⟩, fun k hk => ?_⟩
    simp only [List.mem_cons] at hk
    rcases hk with rfl | rfl | rfl | rfl | hk
    · exact E4.size
    · exact Nat.le_trans E2.size hgt
    · exact Nat.le_trans E3.size hd4
    · exact Nat.le_trans E3.size hk4
    · cases a5 with
      | none => cases hk
      | some p =>
        simp only [blks, List.mem_singleton] at hk
        subst hk
        exact own_ge h5 p rfl
  clear o5 b5 h5 h6 h7
  go_wp2_with fail
  go_ret
  obtain ⟨S', h8, h9⟩ := FIN.out
  exact ⟨S', _, rfl, h8, h9, E5⟩
end Go.Proofs.Ytfhlcjfgbhmecaa
