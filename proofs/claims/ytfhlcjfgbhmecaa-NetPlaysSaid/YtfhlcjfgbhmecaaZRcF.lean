/- RcF. -/
import Derived.Test.YtfhlcjfgbhmecaaZRcE
/- psephosref21.Cluster.Dup. Printed by genrdup.py. -/
namespace Go.Proofs.Ytfhlcjfgbhmecaa
open Go.RowKit
set_option linter.unusedVariables false
set_option maxRecDepth 100000

/-- A slice of one value of one cell. -/
theorem built_val {P : Program} (T E : TypeId) (ie : TypeInfo) (z : Value) (hu : P.underlying T = some (.slice E)) (hie : P.info? E = some ie) (hz : ie.zero = some z) (hs : ie.size = 1) (u : Value) (hc : u.cells = #[u]) (w : World) :
    (Instr.buildSlice T 1 #[(0, u)]).run P w = .ok (.slice (some ⟨w.heap.size, 0, none⟩) 1 1) (w.alloc (.cells #[u] E)) := by
  refine run_buildSlice w T E 1 _ #[u] ie z hu hie hz (by rw [hs]; omega) (by rw [hs]; omega) ?_
  rw [hs]
  have := Great.fill_whole (s := 1) (by omega) [u] ((Array.range (1 * 1)).map (z.cells[· % z.cells.size]!)) (fun v hv => by
    simp only [List.mem_singleton] at hv
    subst hv
    rw [hc]; rfl) (by simp)
  simpa [hc] using this
section
variable {w0 w w' : World} {B x : Nat} {room lost : Int} {M : Nat → List (Value × List Int)} {gf cf nb : Nat} {an : Option Addr} {cn : Nat} {ac : Option Addr} {cc ge ce gq cq : Nat} {ra : Nat → Option Addr} {rc : Nat → Nat} {pn pc : Nat → Nat} {nk : Prop}
theorem rdup_none (s d i : Int) (h : RX w0 w B x room lost M gf cf nb an cn ac cc ge ce gq cq ra rc pn pc nk) (hr : EIdx s d (-1)) :
    Calls Try.prog 88 #[.pointer (some ⟨x, 0, none⟩), .int .i64 s, .int .i64 d, .int .i64 i] w fun e w' => e = .returned (.bool false) ∧ ∃ j, w' = w.drewN j := by
  have H := Lib.hid h
  have HR := Lib.hid hr
  clear h hr
  go_enter Try.func88, Try.ntmps88
  go_wp2_with fail
  refine (rlink_c s d (-1) H.out HR.out).mono ?_; rintro e w' ⟨rfl, rfl⟩
  go_upto_region 2 with fail
  go_quiet (fail)
  go_wp2_with fail
  go_ret
  exact ⟨by first | rfl | trivial, _, by first | rfl | trivial⟩
set_option maxHeartbeats 1600000 in
theorem rdup_no (s d i : Int) (h : RX w0 w B x room lost M gf cf nb an cn ac cc ge ce gq cq ra rc pn pc nk) (k : Nat) (hk : k < 30) (hr : EIdx s d k) (hno : ¬ (0 ≤ i ∧ i < (M k).length) ∨ room ≤ (M k).length) :
    Calls Try.prog 88 #[.pointer (some ⟨x, 0, none⟩), .int .i64 s, .int .i64 d, .int .i64 i] w fun e w' => e = .returned (.bool false) ∧ ∃ j, w' = w.drewN j := by
  have H := Lib.hid h
  have HR := Lib.hid hr
  have c20 : w.cell? ⟨x, 20, none⟩ = some (.slice (some ⟨gq, 0, none⟩) 30 cq) := h.blk.cell 20
  have c4 : w.cell? ⟨x, 4, none⟩ = some (.int .i64 room) := h.blk.cell 4
  have q0 := h.queue_at hk
  obtain ⟨L, hL⟩ : ∃ L, L = (M k).length := ⟨_, rfl⟩
  rw [← hL] at q0 hno
  obtain ⟨ak, hak⟩ : ∃ a, a = ra k := ⟨_, rfl⟩
  obtain ⟨ck, hck⟩ : ∃ a, a = rc k := ⟨_, rfl⟩
  rw [← hak, ← hck] at q0
  have d0 : decide ((k : Int) < 0) = false := decide_eq_false (by omega)
  have i1 : (k : Int) < 30 := by omega
  have i2 : (0 : Int) ≤ k := by omega
  clear h hr hL hak hck
  rcases (show i < 0 ∨ (¬ i < 0 ∧ (L : Int) ≤ i) ∨ (¬ i < 0 ∧ ¬ (L : Int) ≤ i ∧ room ≤ L) by omega) with h1 | ⟨h1, h2⟩ | ⟨h1, h2, h3⟩
  · have d1 : decide (i < 0) = true := decide_eq_true h1
    clear hno h1
    go_enter Try.func88, Try.ntmps88
    go_wp2_with fail
    refine (rlink_c s d k H.out HR.out).mono ?_; rintro e w' ⟨rfl, rfl⟩
    go_upto_region 2 with fail
    go_quiet (fail)
    go_wp2_with fail
    go_ret
    exact ⟨by first | rfl | trivial, _, by first | rfl | trivial⟩
  · have d1 : decide (i < 0) = false := decide_eq_false h1
    have d2 : decide ((L : Int) ≤ i) = true := decide_eq_true h2
    have d3 : decide (i ≥ (L : Int)) = true := decide_eq_true h2
    clear hno h1 h2
    go_enter Try.func88, Try.ntmps88
    go_wp2_with fail
    refine (rlink_c s d k H.out HR.out).mono ?_; rintro e w' ⟨rfl, rfl⟩
    go_upto_region 2 with fail
    go_quiet (fail)
    go_wp2_with fail
    go_ret
    exact ⟨by first | rfl | trivial, _, by first | rfl | trivial⟩
  · have d1 : decide (i < 0) = false := decide_eq_false h1
    have d2 : decide ((L : Int) ≤ i) = false := decide_eq_false h2
    have d3 : decide (i ≥ (L : Int)) = false := decide_eq_false h2
    have d4 : decide (room ≤ (L : Int)) = true := decide_eq_true h3
    have d5 : decide ((L : Int) ≥ room) = true := decide_eq_true h3
    clear hno h1 h2 h3
    go_enter Try.func88, Try.ntmps88
    go_wp2_with fail
    refine (rlink_c s d k H.out HR.out).mono ?_; rintro e w' ⟨rfl, rfl⟩
    go_upto_region 2 with fail
    go_quiet (fail)
    go_wp2_with fail
    go_ret
    exact ⟨by first | rfl | trivial, _, by first | rfl | trivial⟩
set_option maxHeartbeats 3200000 in
theorem rdup_ok (s d z : Int) (h : RX w0 w B x room lost M gf cf nb an cn ac cc ge ce gq cq ra rc pn pc nk) (k : Nat) (hk : k < 30) (hr : EIdx s d k) (i : Nat) (hz : z = i) (hi : i < (M k).length) (hlt : (M k).length < room) (hrm : room ≤ 256) :
    Calls Try.prog 88 #[.pointer (some ⟨x, 0, none⟩), .int .i64 s, .int .i64 d, .int .i64 z] w fun e w' => ∃ a' c', e = .returned (.bool true) ∧ RX w0 w' B x room lost (upq M k (M k ++ [(M k)[i]])) gf cf nb an cn ac cc ge ce gq cq (upq ra k a') (upq rc k c') pn pc nk ∧ Only [gq] w w' ∧ ∀ p, a'.map (·.block) = some p → w.heap.size ≤ p := by
  subst hz
  obtain ⟨ui, ui0, uz0, uz1, uz2⟩ := info_parts info_q1
  have H := Lib.hid h
  have HR := Lib.hid hr
  obtain ⟨L, hL⟩ : ∃ L, L = (M k).length := ⟨_, rfl⟩
  have L256 : L ≤ 256 := by rw [hL]; exact h.len k hk
  have hiL : i < L := by rw [hL]; exact hi
  rw [← hL] at hlt
  obtain ⟨ak, hak⟩ : ∃ a, a = ra k := ⟨_, rfl⟩
  obtain ⟨ck, hck⟩ : ∃ a, a = rc k := ⟨_, rfl⟩
  have OW := h.rows k hk
  rw [← hL, ← hak, ← hck] at OW
  obtain ⟨mm, hmm⟩ : ∃ mm, mm = (M k)[i] := ⟨_, rfl⟩
  have hmem : mm ∈ M k := by rw [hmm]; exact List.getElem_mem hi
  obtain ⟨u, hu⟩ : ∃ u, u = mm.1 := ⟨_, rfl⟩
  obtain ⟨gr, rfl, u0⟩ := own_at OW hiL (v := u) (by rw [List.getElem?_map, List.getElem?_eq_getElem hi, hu, hmm]; rfl)
  rw [← hmm]
  have HU := Lib.hid hu
  have HMM := Lib.hid hmem
  have uone : Hid (u.oneCell' = true) := Lib.hid (by rw [hu]; exact Msg.one (h.msgs k hk mm hmem))
  have ucell : Hid (u.cells = #[u]) := Lib.hid (by
    obtain ⟨a, c, e, _⟩ := h.msgs k hk mm hmem
    rw [hu, e]; rfl)
  have VK := Lib.hid (own_vrow OW)
  have KS : ∀ w', Below w.heap.size w w' → w'.cell? ⟨x, 20, none⟩ = some (.slice (some ⟨gq, 0, none⟩) 30 cq) ∧ w'.cell? ⟨gq, k, none⟩ = some (.slice (some ⟨gr, 0, none⟩) L ck) ∧ w'.cell? ⟨gr, i, none⟩ = some u ∧ w'.cell? ⟨x, 4, none⟩ = some (.int .i64 room) := fun w' o => ⟨(H.out.keep o).blk.cell 20, by rw [hak, hck, hL]; exact (H.out.keep o).queue_at hk, kept o _ _ u0, (H.out.keep o).blk.cell 4⟩
  have ONE : Hid (∀ u ∈ (M k).map Prod.fst, u.oneCell' = true) := Lib.hid (fun u hu => by
    obtain ⟨mm, h1, rfl⟩ := List.mem_map.1 hu
    exact Msg.one (h.msgs k hk mm h1))
  have HL := Lib.hid hL
  clear h hr hL hak hck hi hu OW hmm hmem u0
  have d0 : decide ((k : Int) < 0) = false := decide_eq_false (by omega)
  have i1 : (k : Int) < 30 := by omega
  have i2 : (0 : Int) ≤ k := by omega
  have d1 : decide ((i : Int) < 0) = false := decide_eq_false (by omega)
  have d2 : decide ((L : Int) ≤ i) = false := decide_eq_false (by omega)
  have d3 : decide ((i : Int) ≥ (L : Int)) = false := decide_eq_false (by omega)
  have d2n : decide (L ≤ i) = false := decide_eq_false (by omega)
  have d4 : decide (room ≤ (L : Int)) = false := decide_eq_false (by omega)
  have d5 : decide ((L : Int) ≥ room) = false := decide_eq_false (by omega)
  have i5 : (0 : Int) ≤ i := by omega
  have i6 : (i : Int) < L := by omega
  obtain ⟨c20, qk, _, c4⟩ := KS w (Below.refl _ _)
  go_enter Try.func88, Try.ntmps88
  go_wp2_with fail
  refine (rlink_c s d k H.out HR.out).mono ?_; rintro e w' ⟨rfl, rfl⟩
  go_upto_region 2 with fail
  go_quiet (fail)
  clear c20 qk c4 d0 d1 d2 d3 d2n d4 d5
  obtain ⟨w2, hw2⟩ : ∃ w2, w2 = w.drewN nq := ⟨_, rfl⟩
  have b2 : Below w.heap.size w w2 := by rw [hw2]; exact below_drewN (Below.refl _ _) _
  rw [← hw2]
  clear hw2
  go_upto_region 4 with fail
  refine wp_region_plan (fun w' => w'.cell? ⟨x, 20, none⟩ = some (.slice (some ⟨gq, 0, none⟩) 30 cq) ∧ w'.cell? ⟨gq, k, none⟩ = some (.slice (some ⟨gr, 0, none⟩) L ck) ∧ w'.cell? ⟨gr, i, none⟩ = some u ∧ w'.cell? ⟨x, 4, none⟩ = some (.int .i64 room)) 26 (.take 0 (.take 1 (.take 2 (.take 3 (.take 4 (.take 5 (.take 6 (.take 7 (.take 8 (.take 9 (.take 10 (.take 11 (.take 13 (.take 14 (.take 15 (.take 16 (.take 17 (.take 18 (.take 19 (.take 20 (.take 21 (.take 22 (.two 12 (.one 23 (.one 24 (.take 25 (.one 26 .done)))) 23 (.one 12 (.one 24 (.take 25 (.one 26 .done))))))))))))))))))))))))))) (by kernel_rfl) (by kernel_rfl) (by kernel_rfl) (KS _ b2.drew) ?_
  intro hS0
  obtain ⟨v0, hv0⟩ : ∃ v, v = w2.drew := ⟨_, rfl⟩
  have B0 : Below w.heap.size w v0 := by rw [hv0]; exact b2.drew
  rw [← hv0] at hS0 ⊢
  clear hv0 b2
  repeat (refine' wpPlan_take rfl (by rfl) (by assumption) ?_ ?_; rotate_left; (· (intro w hSw; (try dsimp only at hSw); go_simp; try with_reducible rfl)); try simp only [Act.put, List.setIfInBounds_toArray, List.set_cons_zero, List.set_cons_succ])
  refine wpPlan_two ?_ ?_
  · skip
    refine wpPlan_one rfl (fun KT hKT => ?_)
    refine step_app (by rfl) _ _ _ (by rfl) w.heap.size 59 ui _ 1 24 Try.underlying148 ui0 uz0 uz1 uz2 rfl (by omega) none 0 0 [] (by rfl) ⟨rfl, .inl ⟨rfl, rfl⟩⟩ (some ⟨gr, 0, none⟩) L ck ((M k).map Prod.fst) (by rfl) (VK.out.below B0) ONE.out (by unfold maxLen; omega) (by omega) B0.size ?_
    intro a5 c5 w5 h5
    have B5 : Below w.heap.size w w5 := B0.trans (h5.only.to_below.mono B0.size)
    have O5 := h5.own
    rw [Nat.zero_add, List.nil_append] at O5
    rw [Nat.zero_add]
    refine hKT.out _ _ (KS _ B5) (fun _ => ?_); clear hKT KT; try simp only [Act.put, List.setIfInBounds_toArray, List.set_cons_zero, List.set_cons_succ]
    repeat (refine' wpPlan_take rfl (by rfl) (by assumption) ?_ ?_; rotate_left; (· (intro w hSw; (try dsimp only at hSw); go_simp; try with_reducible rfl)); try simp only [Act.put, List.setIfInBounds_toArray, List.set_cons_zero, List.set_cons_succ])
    refine wpPlan_one rfl (fun KT hKT => ?_)
    refine step_built (by rfl) 148 1 _ (by rfl) #[(0, u)] (by go_simp) _ (built_val 148 59 ui _ Try.underlying148 ui0 uz0 uz1 u ucell.out _) ?_
    have B6 := B5.alloc B5.size (.cells #[u] 59)
    have O6 := World.ownsRow.alloc O5 (.cells #[u] 59)
    have V6 := own_one w5 59 u
    refine hKT.out _ _ (KS _ B6) (fun _ => ?_); clear hKT KT; try simp only [Act.put, List.setIfInBounds_toArray, List.set_cons_zero, List.set_cons_succ]
    repeat (refine' wpPlan_take rfl (by rfl) (by assumption) ?_ ?_; rotate_left; (· (intro w hSw; (try dsimp only at hSw); go_simp; try with_reducible rfl)); try simp only [Act.put, List.setIfInBounds_toArray, List.set_cons_zero, List.set_cons_succ])
    refine wpPlan_one rfl (fun KT hKT => ?_)
    refine step_app (by rfl) _ _ _ (by rfl) w.heap.size 59 ui _ 1 24 Try.underlying148 ui0 uz0 uz1 uz2 rfl (by omega) a5 L c5 ((M k).map Prod.fst) (by rfl) O6 (some ⟨w5.heap.size, 0, none⟩) 1 1 [u] (by rfl) V6 (by intro q hq; simp only [List.mem_singleton] at hq; rw [hq]; exact uone.out) (by unfold maxLen; omega) (by omega) B6.size ?_
    intro a8 c8 w8 h8
    have B8 : Below w.heap.size w w8 := h8.below O6 B6 (Nat.le_refl _) B6.size
    have O8 : w8.ownsRow w.heap.size 59 1 (.slice a8 (M k ++ [mm]).length c8) (M k ++ [mm]).length ((M k ++ [mm]).map Prod.fst) := by
      rw [List.length_append, ← HL.out, List.map_append]
      have e := h8.own
      rw [HU.out] at e
      exact e
    obtain ⟨hrx, hon⟩ := H.out.put B8 hk O8 (fun m2 hm2 => by
      rcases List.mem_append.1 hm2 with hm2 | hm2
      · exact H.out.msgs k hk m2 hm2
      · simp only [List.mem_singleton] at hm2
        rw [hm2]; exact H.out.msgs k hk mm HMM.out) (by rw [List.length_append, ← HL.out]; simp; omega)
    rw [List.length_append, ← HL.out] at hrx hon
    have RX9 := Lib.hid hrx
    have ON9 := Lib.hid hon
    have NW9 : Hid (∀ p, a8.map (·.block) = some p → w.heap.size ≤ p) := Lib.hid (fun p hp => (World.ownsRow.lt O8 p (by rw [own_block_eq]; exact hp)).1)
    have S8 := KS _ B8
    refine hKT.out _ _ (S8) (fun _ => ?_); clear hKT KT; try simp only [Act.put, List.setIfInBounds_toArray, List.set_cons_zero, List.set_cons_succ]
    repeat (refine' wpPlan_take rfl (by rfl) (by assumption) ?_ ?_; rotate_left; (· (intro w hSw; (try dsimp only at hSw); go_simp; try with_reducible rfl)); try simp only [Act.put, List.setIfInBounds_toArray, List.set_cons_zero, List.set_cons_succ])
    refine wpPlan_last rfl (fun KT hKT => ?_)
    have q8 := S8.2.1
    have f8 := (Row.of_own (H.out.keep B8).qrow).frozen k
    clear hS0 KS B0 B5 O5 B6 h5 h8 B8 O8 hrx hon S8 O6 V6
    go_simp
    refine hKT.out _ _ ?_; clear hKT KT; try simp only [Act.put, List.setIfInBounds_toArray, List.set_cons_zero, List.set_cons_succ]
    refine wpPlan_done ?_
    go_wp2_with fail
    go_ret
    exact ⟨a8, c8, by first | rfl | trivial, RX9.out, ON9.out, NW9.out⟩
  · skip
    refine wpPlan_one rfl (fun KT hKT => ?_)
    refine step_built (by rfl) 148 1 _ (by rfl) #[(0, u)] (by go_simp) _ (built_val 148 59 ui _ Try.underlying148 ui0 uz0 uz1 u ucell.out _) ?_
    have B6 := B0.alloc B0.size (.cells #[u] 59)
    have V6 := own_one v0 59 u
    refine hKT.out _ _ (KS _ B6) (fun _ => ?_); clear hKT KT; try simp only [Act.put, List.setIfInBounds_toArray, List.set_cons_zero, List.set_cons_succ]
    repeat (refine' wpPlan_take rfl (by rfl) (by assumption) ?_ ?_; rotate_left; (· (intro w hSw; (try dsimp only at hSw); go_simp; try with_reducible rfl)); try simp only [Act.put, List.setIfInBounds_toArray, List.set_cons_zero, List.set_cons_succ])
    refine wpPlan_one rfl (fun KT hKT => ?_)
    refine step_app (by rfl) _ _ _ (by rfl) w.heap.size 59 ui _ 1 24 Try.underlying148 ui0 uz0 uz1 uz2 rfl (by omega) none 0 0 [] (by rfl) ⟨rfl, .inl ⟨rfl, rfl⟩⟩ (some ⟨gr, 0, none⟩) L ck ((M k).map Prod.fst) (by rfl) (VK.out.below B6) ONE.out (by unfold maxLen; omega) (by omega) B6.size ?_
    intro a5 c5 w5 h5
    have B5 : Below w.heap.size w w5 := B6.trans (h5.only.to_below.mono B6.size)
    have O5 := h5.own
    rw [Nat.zero_add, List.nil_append] at O5
    rw [Nat.zero_add]
    refine hKT.out _ _ (KS _ B5) (fun _ => ?_); clear hKT KT; try simp only [Act.put, List.setIfInBounds_toArray, List.set_cons_zero, List.set_cons_succ]
    repeat (refine' wpPlan_take rfl (by rfl) (by assumption) ?_ ?_; rotate_left; (· (intro w hSw; (try dsimp only at hSw); go_simp; try with_reducible rfl)); try simp only [Act.put, List.setIfInBounds_toArray, List.set_cons_zero, List.set_cons_succ])
    have V7 := V6.below (h5.only.to_below)
    refine wpPlan_one rfl (fun KT hKT => ?_)
    refine step_app (by rfl) _ _ _ (by rfl) w.heap.size 59 ui _ 1 24 Try.underlying148 ui0 uz0 uz1 uz2 rfl (by omega) a5 L c5 ((M k).map Prod.fst) (by rfl) O5 (some ⟨v0.heap.size, 0, none⟩) 1 1 [u] (by rfl) V7 (by intro q hq; simp only [List.mem_singleton] at hq; rw [hq]; exact uone.out) (by unfold maxLen; omega) (by omega) B5.size ?_
    intro a8 c8 w8 h8
    have B8 : Below w.heap.size w w8 := h8.below O5 B5 (Nat.le_refl _) B5.size
    have O8 : w8.ownsRow w.heap.size 59 1 (.slice a8 (M k ++ [mm]).length c8) (M k ++ [mm]).length ((M k ++ [mm]).map Prod.fst) := by
      rw [List.length_append, ← HL.out, List.map_append]
      have e := h8.own
      rw [HU.out] at e
      exact e
    obtain ⟨hrx, hon⟩ := H.out.put B8 hk O8 (fun m2 hm2 => by
      rcases List.mem_append.1 hm2 with hm2 | hm2
      · exact H.out.msgs k hk m2 hm2
      · simp only [List.mem_singleton] at hm2
        rw [hm2]; exact H.out.msgs k hk mm HMM.out) (by rw [List.length_append, ← HL.out]; simp; omega)
    rw [List.length_append, ← HL.out] at hrx hon
    have RX9 := Lib.hid hrx
    have ON9 := Lib.hid hon
    have NW9 : Hid (∀ p, a8.map (·.block) = some p → w.heap.size ≤ p) := Lib.hid (fun p hp => (World.ownsRow.lt O8 p (by rw [own_block_eq]; exact hp)).1)
    have S8 := KS _ B8
    refine hKT.out _ _ (S8) (fun _ => ?_); clear hKT KT; try simp only [Act.put, List.setIfInBounds_toArray, List.set_cons_zero, List.set_cons_succ]
    repeat (refine' wpPlan_take rfl (by rfl) (by assumption) ?_ ?_; rotate_left; (· (intro w hSw; (try dsimp only at hSw); go_simp; try with_reducible rfl)); try simp only [Act.put, List.setIfInBounds_toArray, List.set_cons_zero, List.set_cons_succ])
    refine wpPlan_last rfl (fun KT hKT => ?_)
    have q8 := S8.2.1
    have f8 := (Row.of_own (H.out.keep B8).qrow).frozen k
    clear hS0 KS B0 B5 O5 B6 h5 h8 B8 O8 hrx hon S8 V6 V7
    go_simp
    refine hKT.out _ _ ?_; clear hKT KT; try simp only [Act.put, List.setIfInBounds_toArray, List.set_cons_zero, List.set_cons_succ]
    refine wpPlan_done ?_
    go_wp2_with fail
    go_ret
    exact ⟨a8, c8, by first | rfl | trivial, RX9.out, ON9.out, NW9.out⟩
end
end Go.Proofs.Ytfhlcjfgbhmecaa
