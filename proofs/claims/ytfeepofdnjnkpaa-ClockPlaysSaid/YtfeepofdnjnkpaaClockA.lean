/- Package clock: Drop of any one, Set that may not be, Clone. -/
import Derived.Test.YtfeepofdnjnkpaaClockP
import Derived.Test.YtfeepofdnjnkpaaClockS
import Derived.Test.YtfeepofdnjnkpaaClockD
import Derived.Test.YtfeepofdnjnkpaaPlanL
import Derived.Test.YtfeepofdnjnkpaaApp
import Derived.Deep.DeepCutAuto
namespace Go.Proofs.Ytfeepofdnjnkpaa
open Go.RowKit
set_option linter.unusedVariables false

theorem Ticked.only {B : Nat} {w w' : World} {S : List Nat} (ho : Only S w w') (hB : B ≤ w.heap.size) (hS : ∀ k ∈ S, B ≤ k ∧ ∀ cs t, Blk w k t cs → t = 79 ∨ t = 81) : Ticked B w w' :=
  ⟨ho.below (Below.refl _ _) hB fun k hk => (hS k hk).1, fun k cs t hb h1 h2 => hb.only ho fun hm => by
    rcases (hS k hm).2 cs t hb with h | h
    · exact h1 h
    · exact h2 h⟩
theorem Clk.only {B : Nat} {w w' : World} {gc : Nat} {now : Int} {L : List (Int × Int)} {S : List Nat} (h : Clk w B gc now L) (ho : Only S w w') (hS : ∀ k ∈ S, ∀ cs t, Blk w k t cs → t ≠ 79 ∧ t ≠ 81) : Clk w' B gc now L := by
  obtain ⟨a, c, h1, h2, h3⟩ := h.ex
  refine ⟨⟨a, c, h1.only ho fun hm => (hS _ hm _ _ h1).1 rfl, own_only h2 ho fun g hg hm => ?_, h3⟩, h.ge⟩
  rcases h2.2 with ⟨hv, _⟩ | ⟨k', cp, cur, hv, _, hb, _⟩
  · rw [hv] at hg; simp [Value.ownBlock] at hg
  · rw [hv] at hg
    simp only [Value.ownBlock, Option.some.injEq] at hg
    subst hg
    exact (hS _ hm _ _ hb).2 rfl

theorem drop_out (B gc : Nat) (now : Int) (L : List (Int × Int)) (id : Int) (w : World) (h : Clk w B gc now L) (hL : ∀ p ∈ L, I64 p.1 ∧ I64 p.2) (hn : L.length ≤ 1000) (hi : I64 id) (k : Nat) (hp : Place L id k false) :
    Calls Try.prog 37 #[.pointer (some ⟨gc, 0, none⟩), .int .i64 id] w fun e w' => e = .returned (.bool false) ∧ Below w.heap.size w w' := by
  have H := Lib.hid h
  have HP := Lib.hid hp
  clear h hp
  go_enter Try.func37, Try.ntmps37
  go_wp2_with fail
  refine (place_c B gc now L id _ H.out hL hn hi k false HP.out).mono ?_; rintro e w1 ⟨rfl, hb1⟩
  go_wp2
  go_ret
  exact ⟨rfl, hb1⟩
theorem set_bad (B gc : Nat) (now : Int) (L : List (Int × Int)) (id t : Int) (w : World) (ht : t < 1 ∨ 1048576 < t) :
    Calls Try.prog 31 #[.pointer (some ⟨gc, 0, none⟩), .int .i64 id, .int .i64 t] w fun e w' => e = .returned (.bool false) ∧ w = w' := by
  rcases (show t < 1 ∨ (¬ t < 1 ∧ 1048576 < t) by omega) with h1 | ⟨h1, h2⟩
  all_goals
    clear ht
    go_enter Try.func31, Try.ntmps31
    go_wp2_with fail
    go_ret
    exact ⟨rfl, rfl⟩

set_option maxRecDepth 100000 in
set_option maxHeartbeats 3200000 in
theorem drop_in (B gc : Nat) (now : Int) (L : List (Int × Int)) (id : Int) (w : World) (h : Clk w B gc now L) (hL : ∀ p ∈ L, I64 p.1 ∧ I64 p.2) (hn : L.length ≤ 1000) (hi : I64 id) (k : Nat) (hp : Place L id k true) :
    Calls Try.prog 37 #[.pointer (some ⟨gc, 0, none⟩), .int .i64 id] w fun e w' => e = .returned (.bool true) ∧ Clk w' B gc now (L.take k ++ L.drop (k + 1)) ∧ Ticked B w w' := by
  obtain ⟨j0, hj0, hy0, hy1, hy2⟩ := info_parts info_timer
  have H := Lib.hid h
  have HP := Lib.hid hp
  have hkl := place_get hp
  have hBw : B ≤ w.heap.size := Nat.le_trans h.ge (Nat.le_of_lt h.lt)
  clear h hp
  go_enter Try.func37, Try.ntmps37
  go_wp2_with fail
  refine (place_c B gc now L id _ H.out hL hn hi k true HP.out).mono ?_; rintro e w1 ⟨rfl, hb1⟩
  have H1 := H.out.below hb1
  have HB := Lib.hid hb1
  have HG := Lib.hid H1.ge
  have hB1 : B ≤ w1.heap.size := Nat.le_trans hBw hb1.size
  obtain ⟨a, c, k1, k2, k3⟩ := H1.ex
  obtain ⟨n, hnn⟩ : ∃ n, n = L.length := ⟨_, rfl⟩
  rw [← hnn] at k1 k2 k3 hn hkl
  have N := Lib.hid hnn
  obtain ⟨b, rfl⟩ : ∃ b, a = some ⟨b, 0, none⟩ := by
    rcases k2.2 with ⟨_, h0⟩ | ⟨g, cap, cur, hv, _⟩
    · omega
    · injection hv with hv
      exact ⟨g, hv⟩
  have r := Row.of_own k2
  have hcm := r.cap_max
  have hbB : B ≤ b := (k2.lt b rfl).1
  have nbg : gc ≠ b := fun e => own_blk_ne k2 k1 (by decide) (by rw [e]; rfl)
  have c1 : w1.cell? ⟨gc, 1, none⟩ = some (.slice (some ⟨b, 0, none⟩) n c) := k1.cell 1
  have sl1 : ∀ w : World, (Instr.slice 77 (.slice (some ⟨b, 0, none⟩) n c) none (some (.int .i64 k)) none).run Try.prog w = .ok (.slice (some ⟨b, 0, none⟩) k c) w := to_k (P := Try.prog) 77 81 2 Try.underlying77 (by kernel_rfl) size_timer b n c k (by omega) (by omega)
  obtain ⟨A, sl2, v2⟩ := from_v k2 Try.underlying77 (by kernel_rfl) size_timer (k + 1) (by omega) ((k : Int) + 1) (by omega)
  rw [flat_drop tcell 2 tcell_len L (k + 1) (by omega)] at v2
  have e9 : IntKind.i64.wrap ((k : Int) + 1) = (k : Int) + 1 := IntWalk.i64_in _ (by omega)
  have K1 := Lib.hid k1
  have V2 := Lib.hid v2
  have RC := Lib.hid (show w1.ownsRow B 81 2 (.slice (some ⟨b, 0, none⟩) k c) k ((L.take k).flatMap tcell) by
    have e := (r.cut k (by omega)).own hbB
    rwa [flat_take tcell 2 tcell_len] at e)
  have BT := Lib.hid (show ∀ cs t, Blk w1 b t cs → t = 79 ∨ t = 81 from fun cs t hb => by
    rcases k2.2 with ⟨hv, _⟩ | ⟨k', cp, cur, hv, _, hb', _⟩
    · cases hv
    · injection hv with h1
      have h2 : b = k' := by simpa using h1
      subst h2
      unfold Blk at hb
      rw [hb'] at hb
      injection hb with hb
      injection hb with _ hb
      exact .inr hb.symm)
  unfold maxLen at hcm
  clear k1 k2 r H1 hb1 v2 hnn
  go_upto_region 4 with fail
  refine wp_region_plan (fun w' => w'.cell? ⟨gc, 1, none⟩ = some (.slice (some ⟨b, 0, none⟩) n c)) 17 (.take 0 (.take 1 (.take 2 (.take 3 (.take 4 (.take 5 (.take 6 (.take 7 (.take 8 (.take 9 (.take 10 (.take 11 (.take 12 (.take 13 (.one 14 (.one 15 (.take 16 (.one 17 .done)))))))))))))))))) (by kernel_rfl) (by kernel_rfl) (by kernel_rfl) c1 ?_
  intro hS0
  repeat (refine' wpPlan_take rfl (by rfl) (by assumption) ?_ ?_; rotate_left; (· (intro w hSw; (try dsimp only at hSw); go_simp; try with_reducible rfl)); try simp only [Act.put, List.setIfInBounds_toArray, List.set_cons_zero, List.set_cons_succ])
  refine wpPlan_one rfl (fun KT hKT => ?_)
  refine step_app (by rfl) _ _ _ (by rfl) B 81 j0 _ 2 16 Try.underlying77 hj0 hy0 hy1 hy2 rfl (by omega) (some ⟨b, 0, none⟩) k c ((L.take k).flatMap tcell) (by rfl) (RC.out.drew) A (n - (k + 1)) (c - (k + 1)) ((L.drop (k + 1)).flatMap tcell) (by rfl) V2.out.drew (tcell_one _) (by unfold maxLen; omega) (by omega) hB1 ?_
  intro a5 c5 w5 h5
  have k5 := (K1.out.drew).only h5.only (fun hm => nbg (by simpa using hm))
  have c5' : w5.cell? ⟨gc, 1, none⟩ = some (.slice (some ⟨b, 0, none⟩) n c) := k5.cell 1
  refine hKT.out _ _ (c5') (fun _ => ?_); clear hKT KT; try simp only [Act.put, List.setIfInBounds_toArray, List.set_cons_zero, List.set_cons_succ]
  refine wpPlan_one rfl (fun KT hKT => ?_)
  go_simp
  refine hKT.out _ _ (c5') (fun _ => ?_); clear hKT KT; try simp only [Act.put, List.setIfInBounds_toArray, List.set_cons_zero, List.set_cons_succ]
  repeat (refine' wpPlan_take rfl (by rfl) (by assumption) ?_ ?_; rotate_left; (· (intro w hSw; (try dsimp only at hSw); go_simp; try with_reducible rfl)); try simp only [Act.put, List.setIfInBounds_toArray, List.set_cons_zero, List.set_cons_succ])
  refine wpPlan_last rfl (fun KT hKT => ?_)
  have f5 := k5.frozen 1
  go_simp
  refine hKT.out _ _ ?_; clear hKT KT; try simp only [Act.put, List.setIfInBounds_toArray, List.set_cons_zero, List.set_cons_succ]
  refine wpPlan_done ?_
  have ow := h5.own
  rw [← List.flatMap_append] at ow
  have hlen : k + (n - (k + 1)) = (L.take k ++ L.drop (k + 1)).length := by rw [List.length_append, List.length_take, List.length_drop, ← N.out]; omega
  rw [hlen] at ow ⊢
  have hcap := own_cap ow
  obtain ⟨w6, hw6⟩ : ∃ w6, w6 = w5.setCell ⟨gc, 1, none⟩ (.slice a5 (L.take k ++ L.drop (k + 1)).length c5) := ⟨_, rfl⟩
  rw [← hw6]
  have FIN : Hid (Clk w6 B gc now (L.take k ++ L.drop (k + 1)) ∧ Ticked B w w6) := Lib.hid (by
    have t1 : Ticked B w w1 := Ticked.of_below hBw HB.out
    have t2 : Ticked B w1 w5 := Ticked.only (S := [b]) (((Only.refl _ _).drew).trans (h5.only.mono (by simp))) hB1 (fun q hq => by simp only [List.mem_singleton] at hq; subst hq; exact ⟨hbB, BT.out⟩)
    have t3 := Ticked.set (i := 1) k5 (.inl rfl) HG.out (.slice a5 (L.take k ++ L.drop (k + 1)).length c5)
    rw [hw6]
    exact ⟨⟨⟨a5, c5, k5.set_ 1 _, ownsRow_setCell_other ow (own_blk_ne ow k5 (by decide)) _, hcap⟩, HG.out⟩, (t1.trans t2).trans t3⟩)
  clear hw6 k5 f5 c5' ow hcap h5 hS0 c1
  go_wp2_with fail
  go_ret
  exact ⟨rfl, FIN.out⟩

set_option maxRecDepth 100000 in
set_option maxHeartbeats 1600000 in
theorem clock_clone_c (B gc : Nat) (now : Int) (L : List (Int × Int)) (w : World) (h : Clk w B gc now L) (hn : L.length ≤ 1000) :
    Calls Try.prog 39 #[.pointer (some ⟨gc, 0, none⟩)] w fun e w' => ∃ gd, e = .returned (.pointer (some ⟨gd, 0, none⟩)) ∧ Clk w' w.heap.size gd now L ∧ Below w.heap.size w w' := by
  obtain ⟨j0, hj0, hy0, hy1, hy2⟩ := info_parts info_timer
  obtain ⟨a, c, k1, k2, k3⟩ := h.ex
  obtain ⟨n, hnn⟩ : ∃ n, n = L.length := ⟨_, rfl⟩
  rw [← hnn] at k1 k2 k3 hn
  have N := Lib.hid hnn
  have c0 : w.cell? ⟨gc, 0, none⟩ = some (.int .i64 now) := k1.cell 0
  have c1 : w.cell? ⟨gc, 1, none⟩ = some (.slice a n c) := k1.cell 1
  have V := Lib.hid (own_vrow k2)
  clear k1 k2 h hnn
  go_enter Try.func39, Try.ntmps39
  go_upto_region 1 with fail
  have KS : ∀ w', Below w.heap.size w w' → w'.cell? ⟨gc, 0, none⟩ = some (.int .i64 now) ∧ w'.cell? ⟨gc, 1, none⟩ = some (.slice a n c) := fun w' o => ⟨kept o _ _ c0, kept o _ _ c1⟩
  have E1 : Below w.heap.size w w.drew := (Below.refl _ _).drew
  refine wp_region_plan (fun w' => w'.cell? ⟨gc, 0, none⟩ = some (.int .i64 now) ∧ w'.cell? ⟨gc, 1, none⟩ = some (.slice a n c)) 12 (.take 0 (.take 1 (.take 2 (.take 3 (.take 4 (.take 5 (.take 6 (.take 7 (.one 8 (.take 9 (.one 10 (.take 11 .done)))))))))))) (by kernel_rfl) (by kernel_rfl) (by kernel_rfl) (KS _ E1) ?_
  intro hS0
  repeat (refine' wpPlan_take rfl (by rfl) (by assumption) ?_ ?_; rotate_left; (· (intro w hSw; (try dsimp only at hSw); go_simp; try with_reducible rfl)); try simp only [Act.put, List.setIfInBounds_toArray, List.set_cons_zero, List.set_cons_succ])
  refine wpPlan_one rfl (fun KT hKT => ?_)
  refine step_app (by rfl) _ _ _ (by rfl) w.heap.size 81 j0 _ 2 16 Try.underlying77 hj0 hy0 hy1 hy2 rfl (by omega) none 0 0 [] (by rfl) ⟨rfl, .inl ⟨rfl, rfl⟩⟩ a n c (L.flatMap tcell) (by rfl) (V.out.below E1) (tcell_one _) (by unfold maxLen; omega) (by omega) E1.size ?_
  intro a5 c5 w5 h5
  have E5 : Below w.heap.size w w5 := E1.trans h5.only.to_below
  have o5 := h5.own
  simp only [Nat.zero_add, List.nil_append] at o5
  refine hKT.out _ _ (KS _ E5) (fun _ => ?_); clear hKT KT; try simp only [Act.put, List.setIfInBounds_toArray, List.set_cons_zero, List.set_cons_succ]
  repeat (refine' wpPlan_take rfl (by rfl) (by assumption) ?_ ?_; rotate_left; (· (intro w hSw; (try dsimp only at hSw); go_simp; try with_reducible rfl)); try simp only [Act.put, List.setIfInBounds_toArray, List.set_cons_zero, List.set_cons_succ])
  refine wpPlan_one rfl (fun KT hKT => ?_)
  go_simp
  refine hKT.out _ _ (KS _ (E5.alloc E5.size _)) (fun _ => ?_); clear hKT KT; try simp only [Act.put, List.setIfInBounds_toArray, List.set_cons_zero, List.set_cons_succ]
  repeat (refine' wpPlan_take rfl (by rfl) (by assumption) ?_ ?_; rotate_left; (· (intro w hSw; (try dsimp only at hSw); go_simp; try with_reducible rfl)); try simp only [Act.put, List.setIfInBounds_toArray, List.set_cons_zero, List.set_cons_succ])
  refine wpPlan_done ?_
  have FIN : Hid (Clk (w5.alloc (.cells #[.int .i64 now, .slice a5 n c5] 79)) w.heap.size w5.heap.size now L ∧ Below w.heap.size w (w5.alloc (.cells #[.int .i64 now, .slice a5 n c5] 79))) := Lib.hid
    ⟨⟨⟨a5, c5, by rw [← N.out]; exact Blk.new _ _ _, by rw [← N.out]; exact own_below o5 ((Below.refl _ _).alloc (Nat.le_refl _) _), by rw [← N.out]; exact own_cap o5⟩, E5.size⟩, E5.alloc E5.size _⟩
  clear h5 o5 KS hS0
  go_wp2_with fail
  go_ret
  exact ⟨_, rfl, FIN.out⟩
end Go.Proofs.Ytfeepofdnjnkpaa
