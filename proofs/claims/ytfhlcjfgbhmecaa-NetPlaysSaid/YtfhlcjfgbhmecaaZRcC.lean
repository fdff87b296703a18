/- RcC. -/
import Derived.Test.YtfhlcjfgbhmecaaZRcB
import Derived.BigQuiet
/- psephosref21.Cluster.push. Printed by genrpush.py. -/
namespace Go.Proofs.Ytfhlcjfgbhmecaa
open Go.RowKit
set_option linter.unusedVariables false
set_option maxRecDepth 100000

theorem info_q1 : (Try.prog.info? 59).map (fun i => (i.zero, i.size, i.bytes)) = some (some (.slice none 0 0), 1, 24) := by kernel_rfl
section
variable {w0 w w' : World} {B x : Nat} {room lost : Int} {M : Nat → List (Value × List Int)} {gf cf nb : Nat} {an : Option Addr} {cn : Nat} {ac : Option Addr} {cc ge ce gq cq : Nat} {ra : Nat → Option Addr} {rc : Nat → Nat} {pn pc : Nat → Nat} {nk : Prop}
theorem Msg.one {m : Value × List Int} (h : Msg w0 m) : m.1.oneCell' = true := by
  obtain ⟨a, c, e, _⟩ := h
  rw [e]; rfl
set_option maxHeartbeats 3200000 in
theorem rpush_at (s d : Int) (v : Option Addr) (m c : Nat) (bs : List Int) (h : RX w0 w B x room lost M gf cf nb an cn ac cc ge ce gq cq ra rc pn pc nk) (k : Nat) (hk : k < 30) (hr : EIdx s d k) (hm : bs.length = m) (hm2 : m ≤ 65536) (hv : Msg w0 (.slice v m c, bs)) (hlt : (M k).length < room) (hrm : room ≤ 256) :
    Calls Try.prog 105 #[.pointer (some ⟨x, 0, none⟩), .int .i64 s, .agg #[.int .i64 d, .slice v m c]] w fun e w' => ∃ a' c', e = .returned (.bool true) ∧ RX w0 w' B x room lost (upq M k (M k ++ [(.slice v m c, bs)])) gf cf nb an cn ac cc ge ce gq cq (upq ra k a') (upq rc k c') pn pc nk ∧ Only [gq] w w' ∧ ∀ p, a'.map (·.block) = some p → w.heap.size ≤ p := by
  obtain ⟨ui, ui0, uz0, uz1, uz2⟩ := info_parts info_q1
  obtain ⟨w1, hw1⟩ : ∃ w1, w1 = w.alloc (.cells #[.int .i64 d, .slice v m c] 68) := ⟨_, rfl⟩
  obtain ⟨gs, hgs⟩ : ∃ g, g = w.heap.size := ⟨_, rfl⟩
  have b1 : Below w.heap.size w w1 := by rw [hw1]; exact (Below.refl _ _).alloc (Nat.le_refl _) _
  have s0 : w1.cell? ⟨gs, 0, none⟩ = some (.int .i64 d) := by rw [hw1, hgs]; exact (Blk.new w _ _).cell 0
  have s1 : w1.cell? ⟨gs, 1, none⟩ = some (.slice v m c) := by rw [hw1, hgs]; exact (Blk.new w _ _).cell 1
  have H := Lib.hid (h.keep b1)
  have HR := Lib.hid hr
  have HV := Lib.hid hv
  have HB := Lib.hid b1
  have HW := Lib.hid hw1
  have HG := Lib.hid hgs
  obtain ⟨L, hL⟩ : ∃ L, L = (M k).length := ⟨_, rfl⟩
  have L256 : L ≤ 256 := by rw [hL]; exact h.len k hk
  rw [← hL] at hlt
  obtain ⟨ak, hak⟩ : ∃ a, a = ra k := ⟨_, rfl⟩
  obtain ⟨ck, hck⟩ : ∃ a, a = rc k := ⟨_, rfl⟩
  have KS : ∀ w', Below w1.heap.size w1 w' → w'.cell? ⟨x, 20, none⟩ = some (.slice (some ⟨gq, 0, none⟩) 30 cq) ∧ w'.cell? ⟨gq, k, none⟩ = some (.slice ak L ck) ∧ w'.cell? ⟨gs, 1, none⟩ = some (.slice v m c) ∧ w'.cell? ⟨x, 4, none⟩ = some (.int .i64 room) := fun w' o => ⟨(H.out.keep o).blk.cell 20, by rw [hak, hck, hL]; exact (H.out.keep o).queue_at hk, kept o _ _ s1, (H.out.keep o).blk.cell 4⟩
  have VK : Hid (VRow w1 ak L 1 ((M k).map Prod.fst)) := Lib.hid (by rw [hak, hL]; exact own_vrow (H.out.rows k hk))
  have ONE : Hid (∀ u ∈ (M k).map Prod.fst, u.oneCell' = true) := Lib.hid (fun u hu => by
    obtain ⟨mm, h1, rfl⟩ := List.mem_map.1 hu
    exact Msg.one (h.msgs k hk mm h1))
  have HL := Lib.hid hL
  clear h hr hv b1 hw1 hgs hL hak hck
  have i0 : ¬ (k : Int) < 0 := by omega
  have i1 : (k : Int) < 30 := by omega
  have i2 : (0 : Int) ≤ k := by omega
  go_enter Try.func105, Try.ntmps105
  go_upto_region 1 with fail
  rw [← HW.out, ← HG.out]
  go_wp2_with fail
  refine (rlink_c s d k H.out HR.out).mono ?_; rintro e w' ⟨rfl, rfl⟩
  have e0 : decide (room ≤ (L : Int)) = false := decide_eq_false (by omega)
  have e1 : decide ((L : Int) ≥ room) = false := decide_eq_false (by omega)
  have e2 : decide ((65536 : Int) < m) = false := decide_eq_false (by omega)
  have e3 : decide ((m : Int) > 65536) = false := decide_eq_false (by omega)
  have e4 : decide (65536 < m) = false := decide_eq_false (by omega)
  go_upto_region 4 with fail
  obtain ⟨q20, qk, qs, q4⟩ := KS w1 (Below.refl _ _)
  go_quiet (fail)
  clear q20 qk qs q4 s0 s1 e0 e1 e2 e3 e4
  obtain ⟨w2, hw2⟩ : ∃ w2, w2 = w1.drewN nq := ⟨_, rfl⟩
  have b2 : Below w1.heap.size w1 w2 := by rw [hw2]; exact below_drewN (Below.refl _ _) _
  rw [← hw2]
  clear hw2
  go_upto_region 7 with fail
  refine wp_region_plan (fun w' => w'.cell? ⟨x, 20, none⟩ = some (.slice (some ⟨gq, 0, none⟩) 30 cq) ∧ w'.cell? ⟨gq, k, none⟩ = some (.slice ak L ck) ∧ w'.cell? ⟨gs, 1, none⟩ = some (.slice v m c) ∧ w'.cell? ⟨x, 4, none⟩ = some (.int .i64 room)) 18 (.take 0 (.take 1 (.take 2 (.take 3 (.take 4 (.take 5 (.take 6 (.take 7 (.take 8 (.take 9 (.take 10 (.take 11 (.take 13 (.take 14 (.two 12 (.one 15 (.one 16 (.take 17 (.one 18 .done)))) 15 (.one 12 (.one 16 (.take 17 (.one 18 .done))))))))))))))))))) (by kernel_rfl) (by kernel_rfl) (by kernel_rfl) (KS _ b2.drew) ?_
  intro hS0
  obtain ⟨v0, hv0⟩ : ∃ v, v = w2.drew := ⟨_, rfl⟩
  have B0 : Below w1.heap.size w1 v0 := by rw [hv0]; exact b2.drew
  rw [← hv0] at hS0 ⊢
  clear hv0 b2
  repeat (refine' wpPlan_take rfl (by rfl) (by assumption) ?_ ?_; rotate_left; (· (intro w hSw; (try dsimp only at hSw); go_simp; try with_reducible rfl)); try simp only [Act.put, List.setIfInBounds_toArray, List.set_cons_zero, List.set_cons_succ])
  refine wpPlan_two ?_ ?_
  · skip
    refine wpPlan_one rfl (fun KT hKT => ?_)
    refine step_app (by rfl) _ _ _ (by rfl) w1.heap.size 59 ui _ 1 24 Try.underlying148 ui0 uz0 uz1 uz2 rfl (by omega) none 0 0 [] (by rfl) ⟨rfl, .inl ⟨rfl, rfl⟩⟩ ak L ck ((M k).map Prod.fst) (by rfl) (VK.out.below B0) ONE.out (by unfold maxLen; omega) (by omega) B0.size ?_
    intro a5 c5 w5 h5
    have B5 : Below w1.heap.size w1 w5 := B0.trans (h5.only.to_below.mono B0.size)
    have O5 := h5.own
    rw [Nat.zero_add, List.nil_append] at O5
    rw [Nat.zero_add]
    refine hKT.out _ _ (KS _ B5) (fun _ => ?_); clear hKT KT; try simp only [Act.put, List.setIfInBounds_toArray, List.set_cons_zero, List.set_cons_succ]
    repeat (refine' wpPlan_take rfl (by rfl) (by assumption) ?_ ?_; rotate_left; (· (intro w hSw; (try dsimp only at hSw); go_simp; try with_reducible rfl)); try simp only [Act.put, List.setIfInBounds_toArray, List.set_cons_zero, List.set_cons_succ])
    refine wpPlan_one rfl (fun KT hKT => ?_)
    go_simp
    have B6 := B5.alloc B5.size (.cells #[.slice v m c] 59)
    have O6 := World.ownsRow.alloc O5 (.cells #[.slice v m c] 59)
    have V6 := own_one w5 59 (.slice v m c)
    refine hKT.out _ _ (KS _ B6) (fun _ => ?_); clear hKT KT; try simp only [Act.put, List.setIfInBounds_toArray, List.set_cons_zero, List.set_cons_succ]
    repeat (refine' wpPlan_take rfl (by rfl) (by assumption) ?_ ?_; rotate_left; (· (intro w hSw; (try dsimp only at hSw); go_simp; try with_reducible rfl)); try simp only [Act.put, List.setIfInBounds_toArray, List.set_cons_zero, List.set_cons_succ])
    refine wpPlan_one rfl (fun KT hKT => ?_)
    refine step_app (by rfl) _ _ _ (by rfl) w1.heap.size 59 ui _ 1 24 Try.underlying148 ui0 uz0 uz1 uz2 rfl (by omega) a5 L c5 ((M k).map Prod.fst) (by rfl) O6 (some ⟨w5.heap.size, 0, none⟩) 1 1 [.slice v m c] (by rfl) V6 (by simp [Value.oneCell']) (by unfold maxLen; omega) (by omega) B6.size ?_
    intro a8 c8 w8 h8
    have B8 : Below w1.heap.size w1 w8 := h8.below O6 B6 (Nat.le_refl _) B6.size
    have O8 : w8.ownsRow w1.heap.size 59 1 (.slice a8 (M k ++ [(Value.slice v m c, bs)]).length c8) (M k ++ [(Value.slice v m c, bs)]).length ((M k ++ [(Value.slice v m c, bs)]).map Prod.fst) := by
      rw [List.length_append, ← HL.out, List.map_append]
      exact h8.own
    obtain ⟨hrx, hon⟩ := H.out.put B8 hk O8 (fun mm hmm => by
      rcases List.mem_append.1 hmm with hmm | hmm
      · exact H.out.msgs k hk mm hmm
      · simp only [List.mem_singleton] at hmm
        rw [hmm]; exact HV.out) (by rw [List.length_append, ← HL.out]; simp; omega)
    rw [List.length_append, ← HL.out] at hrx hon
    have RX9 := Lib.hid hrx
    have ON9 := Lib.hid ((Only.of_below (S := [gq]) HB.out).trans hon)
    have NW9 : Hid (∀ p, a8.map (·.block) = some p → w.heap.size ≤ p) := Lib.hid (fun p hp => Nat.le_trans HB.out.size (World.ownsRow.lt O8 p (by rw [own_block_eq]; exact hp)).1)
    have S8 := KS _ B8
    refine hKT.out _ _ (S8) (fun _ => ?_); clear hKT KT; try simp only [Act.put, List.setIfInBounds_toArray, List.set_cons_zero, List.set_cons_succ]
    repeat (refine' wpPlan_take rfl (by rfl) (by assumption) ?_ ?_; rotate_left; (· (intro w hSw; (try dsimp only at hSw); go_simp; try with_reducible rfl)); try simp only [Act.put, List.setIfInBounds_toArray, List.set_cons_zero, List.set_cons_succ])
    refine wpPlan_last rfl (fun KT hKT => ?_)
    have q8 := S8.2.1
    have f8 := (Row.of_own (H.out.keep B8).qrow).frozen k
    clear hS0 KS B0 B5 O5 B6 h5 h8 B8 O8 hrx hon S8 O6 V6
    go_simp
    refine hKT.out _ _ ?_; clear hKT KT; try simp only [Act.put, List.setIfInBounds_toArray, List.set_cons_zero, List.set_cons_succ]
    refine wpPlan_done ?_
    go_wp2_with fail
    go_ret
    exact ⟨a8, c8, by first | rfl | trivial, RX9.out, ON9.out, NW9.out⟩
  · skip
    refine wpPlan_one rfl (fun KT hKT => ?_)
    go_simp
    have B6 := B0.alloc B0.size (.cells #[.slice v m c] 59)
    have V6 := own_one v0 59 (.slice v m c)
    refine hKT.out _ _ (KS _ B6) (fun _ => ?_); clear hKT KT; try simp only [Act.put, List.setIfInBounds_toArray, List.set_cons_zero, List.set_cons_succ]
    repeat (refine' wpPlan_take rfl (by rfl) (by assumption) ?_ ?_; rotate_left; (· (intro w hSw; (try dsimp only at hSw); go_simp; try with_reducible rfl)); try simp only [Act.put, List.setIfInBounds_toArray, List.set_cons_zero, List.set_cons_succ])
    refine wpPlan_one rfl (fun KT hKT => ?_)
    refine step_app (by rfl) _ _ _ (by rfl) w1.heap.size 59 ui _ 1 24 Try.underlying148 ui0 uz0 uz1 uz2 rfl (by omega) none 0 0 [] (by rfl) ⟨rfl, .inl ⟨rfl, rfl⟩⟩ ak L ck ((M k).map Prod.fst) (by rfl) (VK.out.below B6) ONE.out (by unfold maxLen; omega) (by omega) B6.size ?_
    intro a5 c5 w5 h5
    have B5 : Below w1.heap.size w1 w5 := B6.trans (h5.only.to_below.mono B6.size)
    have O5 := h5.own
    rw [Nat.zero_add, List.nil_append] at O5
    rw [Nat.zero_add]
    refine hKT.out _ _ (KS _ B5) (fun _ => ?_); clear hKT KT; try simp only [Act.put, List.setIfInBounds_toArray, List.set_cons_zero, List.set_cons_succ]
    repeat (refine' wpPlan_take rfl (by rfl) (by assumption) ?_ ?_; rotate_left; (· (intro w hSw; (try dsimp only at hSw); go_simp; try with_reducible rfl)); try simp only [Act.put, List.setIfInBounds_toArray, List.set_cons_zero, List.set_cons_succ])
    have V7 := V6.below (h5.only.to_below)
    refine wpPlan_one rfl (fun KT hKT => ?_)
    refine step_app (by rfl) _ _ _ (by rfl) w1.heap.size 59 ui _ 1 24 Try.underlying148 ui0 uz0 uz1 uz2 rfl (by omega) a5 L c5 ((M k).map Prod.fst) (by rfl) O5 (some ⟨v0.heap.size, 0, none⟩) 1 1 [.slice v m c] (by rfl) V7 (by simp [Value.oneCell']) (by unfold maxLen; omega) (by omega) B5.size ?_
    intro a8 c8 w8 h8
    have B8 : Below w1.heap.size w1 w8 := h8.below O5 B5 (Nat.le_refl _) B5.size
    have O8 : w8.ownsRow w1.heap.size 59 1 (.slice a8 (M k ++ [(Value.slice v m c, bs)]).length c8) (M k ++ [(Value.slice v m c, bs)]).length ((M k ++ [(Value.slice v m c, bs)]).map Prod.fst) := by
      rw [List.length_append, ← HL.out, List.map_append]
      exact h8.own
    obtain ⟨hrx, hon⟩ := H.out.put B8 hk O8 (fun mm hmm => by
      rcases List.mem_append.1 hmm with hmm | hmm
      · exact H.out.msgs k hk mm hmm
      · simp only [List.mem_singleton] at hmm
        rw [hmm]; exact HV.out) (by rw [List.length_append, ← HL.out]; simp; omega)
    rw [List.length_append, ← HL.out] at hrx hon
    have RX9 := Lib.hid hrx
    have ON9 := Lib.hid ((Only.of_below (S := [gq]) HB.out).trans hon)
    have NW9 : Hid (∀ p, a8.map (·.block) = some p → w.heap.size ≤ p) := Lib.hid (fun p hp => Nat.le_trans HB.out.size (World.ownsRow.lt O8 p (by rw [own_block_eq]; exact hp)).1)
    have S8 := KS _ B8
    refine hKT.out _ _ (S8) (fun _ => ?_); clear hKT KT; try simp only [Act.put, List.setIfInBounds_toArray, List.set_cons_zero, List.set_cons_succ]
    repeat (refine' wpPlan_take rfl (by rfl) (by assumption) ?_ ?_; rotate_left; (· (intro w hSw; (try dsimp only at hSw); go_simp; try with_reducible rfl)); try simp only [Act.put, List.setIfInBounds_toArray, List.set_cons_zero, List.set_cons_succ])
    refine wpPlan_last rfl (fun KT hKT => ?_)
    have q8 := S8.2.1
    have f8 := (Row.of_own (H.out.keep B8).qrow).frozen k
    clear hS0 KS B0 B5 O5 B6 h5 h8 B8 O8 hrx hon S8 V6 V7
    go_simp
    refine hKT.out _ _ ?_; clear hKT KT; try simp only [Act.put, List.setIfInBounds_toArray, List.set_cons_zero, List.set_cons_succ]
    refine wpPlan_done ?_
    go_wp2_with fail
    go_ret
    exact ⟨a8, c8, by first | rfl | trivial, RX9.out, ON9.out, NW9.out⟩
end
end Go.Proofs.Ytfhlcjfgbhmecaa
