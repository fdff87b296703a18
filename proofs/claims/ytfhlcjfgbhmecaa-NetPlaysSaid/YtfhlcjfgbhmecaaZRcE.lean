/- RcE. -/
import Derived.Test.YtfhlcjfgbhmecaaZRcD
/- psephosref21.Cluster.Drop. -/
namespace Go.Proofs.Ytfhlcjfgbhmecaa
open Go.RowKit
set_option linter.unusedVariables false
set_option maxRecDepth 100000

section
variable {w0 w w' : World} {B x : Nat} {room lost : Int} {M : Nat → List (Value × List Int)} {gf cf nb : Nat} {an : Option Addr} {cn : Nat} {ac : Option Addr} {cc ge ce gq cq : Nat} {ra : Nat → Option Addr} {rc : Nat → Nat} {pn pc : Nat → Nat} {nk : Prop}
theorem rdrop_none (s d i : Int) (h : RX w0 w B x room lost M gf cf nb an cn ac cc ge ce gq cq ra rc pn pc nk) (hr : EIdx s d (-1)) :
    Calls Try.prog 85 #[.pointer (some ⟨x, 0, none⟩), .int .i64 s, .int .i64 d, .int .i64 i] w fun e w' => e = .returned (.tuple #[.slice none 0 0, .bool false]) ∧ w = w' := by
  have H := Lib.hid h
  have HR := Lib.hid hr
  clear h hr
  go_enter Try.func85, Try.ntmps85
  go_wp2_with fail
  refine (rlink_c s d (-1) H.out HR.out).mono ?_; rintro e w' ⟨rfl, rfl⟩
  go_wp2_with fail
  go_ret2
  exact ⟨by first | rfl | trivial, by first | rfl | trivial⟩
theorem rdrop_no (s d i : Int) (h : RX w0 w B x room lost M gf cf nb an cn ac cc ge ce gq cq ra rc pn pc nk) (k : Nat) (hk : k < 30) (hr : EIdx s d k) (hno : ¬ (0 ≤ i ∧ i < (M k).length)) :
    Calls Try.prog 85 #[.pointer (some ⟨x, 0, none⟩), .int .i64 s, .int .i64 d, .int .i64 i] w fun e w' => e = .returned (.tuple #[.slice none 0 0, .bool false]) ∧ w = w' := by
  have H := Lib.hid h
  have HR := Lib.hid hr
  have c20 : w.cell? ⟨x, 20, none⟩ = some (.slice (some ⟨gq, 0, none⟩) 30 cq) := h.blk.cell 20
  have q0 := h.queue_at hk
  obtain ⟨L, hL⟩ : ∃ L, L = (M k).length := ⟨_, rfl⟩
  rw [← hL] at q0 hno
  obtain ⟨ak, hak⟩ : ∃ a, a = ra k := ⟨_, rfl⟩
  obtain ⟨ck, hck⟩ : ∃ a, a = rc k := ⟨_, rfl⟩
  rw [← hak, ← hck] at q0
  have i0 : ¬ (k : Int) < 0 := by omega
  have i1 : (k : Int) < 30 := by omega
  have i2 : (0 : Int) ≤ k := by omega
  clear h hr hL hak hck
  by_cases hneg : i < 0
  · clear hno
    go_enter Try.func85, Try.ntmps85
    go_wp2_with fail
    refine (rlink_c s d k H.out HR.out).mono ?_; rintro e w' ⟨rfl, rfl⟩
    go_wp2_with fail
    go_ret2
    exact ⟨by first | rfl | trivial, by first | rfl | trivial⟩
  · have hge : (L : Int) ≤ i := by omega
    clear hno
    go_enter Try.func85, Try.ntmps85
    go_wp2_with fail
    refine (rlink_c s d k H.out HR.out).mono ?_; rintro e w' ⟨rfl, rfl⟩
    go_wp2_with fail
    go_ret2
    exact ⟨by first | rfl | trivial, by first | rfl | trivial⟩
theorem outAt_map {α β : Type} (f : α → β) (l : List α) (i : Nat) : (outAt l i).map f = (l.map f).take i ++ (l.map f).drop (i + 1) := by simp [outAt, List.map_take, List.map_drop]
theorem outAt_len {α : Type} (l : List α) (i : Nat) (h : i < l.length) : (outAt l i).length = i + (l.length - (i + 1)) := by simp [outAt]; omega
theorem outAt_mem {α : Type} {l : List α} {i : Nat} {m : α} (h : m ∈ outAt l i) : m ∈ l := by
  rcases List.mem_append.1 h with h | h
  · exact List.mem_of_mem_take h
  · exact List.mem_of_mem_drop h
set_option maxHeartbeats 3200000 in
theorem rdrop_ok (s d z : Int) (h : RX w0 w B x room lost M gf cf nb an cn ac cc ge ce gq cq ra rc pn pc nk) (k : Nat) (hk : k < 30) (hr : EIdx s d k) (i : Nat) (hz : z = i) (hi : i < (M k).length) :
    Calls Try.prog 85 #[.pointer (some ⟨x, 0, none⟩), .int .i64 s, .int .i64 d, .int .i64 z] w fun e w' => ∃ a' c', e = .returned (.tuple #[((M k)[i]).1, .bool true]) ∧ RX w0 w' B x room lost (upq M k (outAt (M k) i)) gf cf nb an cn ac cc ge ce gq cq (upq ra k a') (upq rc k c') pn pc nk ∧ Only [gq] w w' ∧ ∀ p, a'.map (·.block) = some p → w.heap.size ≤ p := by
  subst hz
  obtain ⟨ui, ui0, uz0, uz1, uz2⟩ := info_parts info_q1
  have H := Lib.hid h
  have HR := Lib.hid hr
  obtain ⟨L, hL⟩ : ∃ L, L = (M k).length := ⟨_, rfl⟩
  have L256 : L ≤ 256 := by rw [hL]; exact h.len k hk
  have hiL : i < L := by rw [hL]; exact hi
  obtain ⟨ak, hak⟩ : ∃ a, a = ra k := ⟨_, rfl⟩
  obtain ⟨ck, hck⟩ : ∃ a, a = rc k := ⟨_, rfl⟩
  have OW := h.rows k hk
  rw [← hL, ← hak, ← hck] at OW
  obtain ⟨u, hu⟩ : ∃ u, u = ((M k)[i]).1 := ⟨_, rfl⟩
  obtain ⟨gr, rfl, u0⟩ := own_at OW hiL (v := u) (by rw [List.getElem?_map, List.getElem?_eq_getElem hi, hu]; rfl)
  rw [← hu]
  have hcap := own_cap OW
  have sl1 := to_any (P := Try.prog) 148 59 1 Try.underlying148 (by kernel_rfl) size_b8 (some ⟨gr, 0, none⟩) L ck i (by omega) hcap
  obtain ⟨A2, sl2, V2⟩ := from_v (P := Try.prog) (T := 148) OW Try.underlying148 (by kernel_rfl) size_b8 (i + 1) (by omega) ((i : Int) + 1) (by omega)
  have VK := Lib.hid ((own_vrow OW).take (k := i) (by omega))
  have VD := Lib.hid V2
  have KS : ∀ w', Below w.heap.size w w' → w'.cell? ⟨x, 20, none⟩ = some (.slice (some ⟨gq, 0, none⟩) 30 cq) ∧ w'.cell? ⟨gq, k, none⟩ = some (.slice (some ⟨gr, 0, none⟩) L ck) := fun w' o => ⟨(H.out.keep o).blk.cell 20, by rw [hak, hck, hL]; exact (H.out.keep o).queue_at hk⟩
  have ONE : Hid (∀ u ∈ (M k).map Prod.fst, u.oneCell' = true) := Lib.hid (fun u hu => by
    obtain ⟨mm, h1, rfl⟩ := List.mem_map.1 hu
    exact Msg.one (h.msgs k hk mm h1))
  have HL := Lib.hid hL
  have HI := Lib.hid hi
  clear h hr hL hak hck hi hu OW V2
  have i0 : ¬ (k : Int) < 0 := by omega
  have i1 : (k : Int) < 30 := by omega
  have i2 : (0 : Int) ≤ k := by omega
  have i3 : ¬ (i : Int) < 0 := by omega
  have i4 : ¬ (L : Int) ≤ i := by omega
  have i5 : (0 : Int) ≤ i := by omega
  have i6 : (i : Int) < L := by omega
  have ew : IntKind.i64.wrap ((i : Int) + 1) = (i : Int) + 1 := IntWalk.i64_in _ (by omega)
  obtain ⟨c20, qk⟩ := KS w (Below.refl _ _)
  go_enter Try.func85, Try.ntmps85
  go_wp2_with fail
  refine (rlink_c s d k H.out HR.out).mono ?_; rintro e w' ⟨rfl, rfl⟩
  go_upto_region 6 with fail
  clear c20 qk u0
  refine wp_region_plan (fun w' => w'.cell? ⟨x, 20, none⟩ = some (.slice (some ⟨gq, 0, none⟩) 30 cq) ∧ w'.cell? ⟨gq, k, none⟩ = some (.slice (some ⟨gr, 0, none⟩) L ck)) 15 (.take 0 (.take 1 (.take 2 (.take 3 (.take 4 (.take 5 (.take 6 (.take 7 (.take 9 (.take 10 (.take 11 (.take 12 (.one 8 (.one 13 (.take 14 (.one 15 .done)))))))))))))))) (by kernel_rfl) (by kernel_rfl) (by kernel_rfl) (KS _ (Below.refl _ _).drew) ?_
  intro hS0
  obtain ⟨v0, hv0⟩ : ∃ v, v = w.drew := ⟨_, rfl⟩
  have B0 : Below w.heap.size w v0 := by rw [hv0]; exact (Below.refl _ _).drew
  rw [← hv0] at hS0 ⊢
  clear hv0
  repeat (refine' wpPlan_take rfl (by rfl) (by assumption) ?_ ?_; rotate_left; (· (intro w hSw; (try dsimp only at hSw); go_simp; try with_reducible rfl)); try simp only [Act.put, List.setIfInBounds_toArray, List.set_cons_zero, List.set_cons_succ])
  refine wpPlan_one rfl (fun KT hKT => ?_)
  refine step_app (by rfl) _ _ _ (by rfl) w.heap.size 59 ui _ 1 24 Try.underlying148 ui0 uz0 uz1 uz2 rfl (by omega) none 0 0 [] (by rfl) ⟨rfl, .inl ⟨rfl, rfl⟩⟩ (some ⟨gr, 0, none⟩) i ck (((M k).map Prod.fst).take (i * 1)) (by rfl) (VK.out.below B0) (fun v hv => ONE.out v (List.mem_of_mem_take hv)) (by unfold maxLen; omega) (by omega) B0.size ?_
  intro a5 c5 w5 h5
  have B5 : Below w.heap.size w w5 := B0.trans (h5.only.to_below.mono B0.size)
  have O5 := h5.own
  rw [Nat.zero_add, List.nil_append] at O5
  rw [Nat.zero_add]
  refine hKT.out _ _ (KS _ B5) (fun _ => ?_); clear hKT KT; try simp only [Act.put, List.setIfInBounds_toArray, List.set_cons_zero, List.set_cons_succ]
  repeat (refine' wpPlan_take rfl (by rfl) (by assumption) ?_ ?_; rotate_left; (· (intro w hSw; (try dsimp only at hSw); go_simp; try with_reducible rfl)); try simp only [Act.put, List.setIfInBounds_toArray, List.set_cons_zero, List.set_cons_succ])
  refine wpPlan_one rfl (fun KT hKT => ?_)
  refine step_app (by rfl) _ _ _ (by rfl) w.heap.size 59 ui _ 1 24 Try.underlying148 ui0 uz0 uz1 uz2 rfl (by omega) a5 i c5 (((M k).map Prod.fst).take (i * 1)) (by rfl) O5 A2 (L - (i + 1)) (ck - (i + 1)) (((M k).map Prod.fst).drop ((i + 1) * 1)) (by rfl) (VD.out.below B5) (fun v hv => ONE.out v (List.mem_of_mem_drop hv)) (by unfold maxLen; omega) (by omega) B5.size ?_
  intro a8 c8 w8 h8
  have B8 : Below w.heap.size w w8 := h8.below O5 B5 (Nat.le_refl _) B5.size
  have O8 : w8.ownsRow w.heap.size 59 1 (.slice a8 (outAt (M k) i).length c8) (outAt (M k) i).length ((outAt (M k) i).map Prod.fst) := by
    rw [outAt_len _ _ HI.out, ← HL.out, outAt_map]
    have e := h8.own
    rw [Nat.mul_one, Nat.mul_one] at e
    exact e
  obtain ⟨hrx, hon⟩ := H.out.put B8 hk O8 (fun mm hmm => H.out.msgs k hk mm (outAt_mem hmm)) (by rw [outAt_len _ _ HI.out, ← HL.out]; omega)
  rw [outAt_len _ _ HI.out, ← HL.out] at hrx hon
  have RX9 := Lib.hid hrx
  have ON9 := Lib.hid hon
  have NW9 : Hid (∀ p, a8.map (·.block) = some p → w.heap.size ≤ p) := Lib.hid (fun p hp => (World.ownsRow.lt O8 p (by rw [own_block_eq]; exact hp)).1)
  have S8 := KS _ B8
  refine hKT.out _ _ (S8) (fun _ => ?_); clear hKT KT; try simp only [Act.put, List.setIfInBounds_toArray, List.set_cons_zero, List.set_cons_succ]
  repeat (refine' wpPlan_take rfl (by rfl) (by assumption) ?_ ?_; rotate_left; (· (intro w hSw; (try dsimp only at hSw); go_simp; try with_reducible rfl)); try simp only [Act.put, List.setIfInBounds_toArray, List.set_cons_zero, List.set_cons_succ])
  refine wpPlan_last rfl (fun KT hKT => ?_)
  have q8 := S8.2
  have f8 := (Row.of_own (H.out.keep B8).qrow).frozen k
  clear hS0 KS B0 B5 O5 h5 h8 B8 O8 hrx hon S8 sl1 sl2
  go_simp
  refine hKT.out _ _ ?_; clear hKT KT; try simp only [Act.put, List.setIfInBounds_toArray, List.set_cons_zero, List.set_cons_succ]
  refine wpPlan_done ?_
  go_wp2_with fail
  go_ret2
  exact ⟨a8, c8, by first | rfl | trivial, RX9.out, ON9.out, NW9.out⟩
end
end Go.Proofs.Ytfhlcjfgbhmecaa
