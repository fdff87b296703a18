/- RcG, RcH. -/
import Derived.Test.YtfhlcjfgbhmecaaZRcF
/- psephosref21.Cluster.Links. -/
namespace Go.Proofs.Ytfhlcjfgbhmecaa
open Go.RowKit
set_option linter.unusedVariables false
set_option maxRecDepth 100000

/-- The ends of those of the first N links that have messages. -/
def rlksTo (M : Nat → List (Value × List Int)) : Nat → List (Int × Int)
  | 0 => []
  | N + 1 => if 0 < (M N).length then rlksTo M N ++ [(ends 30).getD N (0, 0)] else rlksTo M N
theorem rlksTo_succ (M : Nat → List (Value × List Int)) (N : Nat) : rlksTo M (N + 1) = if 0 < (M N).length then rlksTo M N ++ [(ends 30).getD N (0, 0)] else rlksTo M N := rfl
theorem rlksTo_len (M : Nat → List (Value × List Int)) : ∀ k, (rlksTo M k).length ≤ k
  | 0 => Nat.le_refl _
  | k + 1 => by
    have := rlksTo_len M k
    rw [rlksTo_succ]
    split
    · rw [List.length_append]; simp; omega
    · omega
section
variable {w0 w w' : World} {B x : Nat} {room lost : Int} {M : Nat → List (Value × List Int)} {gf cf nb : Nat} {an : Option Addr} {cn : Nat} {ac : Option Addr} {cc ge ce gq cq : Nat} {ra : Nat → Option Addr} {rc : Nat → Nat} {pn pc : Nat → Nat} {nk : Prop}
set_option maxHeartbeats 1600000 in
theorem rlinks_c (h : RX w0 w B x room lost M gf cf nb an cn ac cc ge ce gq cq ra rc pn pc nk) (L : List (Int × Int)) (hL : rlksTo M 30 = L) :
    Calls Try.prog 51 #[.pointer (some ⟨x, 0, none⟩)] w fun e w' => ∃ A c, e = .returned (.slice A L.length c) ∧ PRow w' w.heap.size (.slice A L.length c) L ∧ Below w.heap.size w w' := by
  obtain ⟨t0, hi0, hz0, hz1, hz2⟩ := info_parts info_two
  have H := Lib.hid h
  have HLL := Lib.hid hL
  have c20 : w.cell? ⟨x, 20, none⟩ = some (.slice (some ⟨gq, 0, none⟩) 30 cq) := h.blk.cell 20
  clear h hL
  go_enter Try.func51, Try.ntmps51
  go_wp2_with fail
  clear c20
  go_loopw [3, 10] (fun v i wr => ∃ k : Nat, k ≤ 30 ∧ i = .int .i64 k ∧ (∃ A c, v = .slice A (rlksTo M k).length c ∧ PRow wr w.heap.size (.slice A (rlksTo M k).length c) (rlksTo M k)) ∧ Below w.heap.size w wr) (fun _ i _ => 30 - (intOf i).toNat)
  case atStart => exact ⟨0, by omega, rfl, ⟨none, 0, rfl, World.ownsRow_nil _ _ _ _⟩, Below.refl _ _⟩
  case round =>
    obtain ⟨k, hk, rfl, ⟨A, c, rfl, hown⟩, hb⟩ := hrel
    have HB := Lib.hid hb
    have HO := Lib.hid hown
    have hsz := hb.size
    have S0 := rlksTo_succ M k
    have hlen := rlksTo_len M k
    clear hb hown
    by_cases hlt : k < 30
    · have H2 := H.out.keep HB.out
      have c20 : wr.cell? ⟨x, 20, none⟩ = some (.slice (some ⟨gq, 0, none⟩) 30 cq) := H2.blk.cell 20
      have c19 : wr.cell? ⟨x, 19, none⟩ = some (.slice (some ⟨ge, 0, none⟩) 30 ce) := H2.blk.cell 19
      have q0 := H2.queue_at hlt
      obtain ⟨y0, y1⟩ := H2.end_at hlt
      obtain ⟨p, hp⟩ : ∃ p, p = (ends 30).getD k (0, 0) := ⟨_, rfl⟩
      rw [← hp] at y0 y1 S0
      obtain ⟨u, v⟩ := p
      obtain ⟨m, hm⟩ : ∃ m, m = (M k).length := ⟨_, rfl⟩
      rw [← hm] at q0 S0
      obtain ⟨ak, hak⟩ : ∃ a, a = ra k := ⟨_, rfl⟩
      obtain ⟨ck, hck⟩ : ∃ a, a = rc k := ⟨_, rfl⟩
      rw [← hak, ← hck] at q0
      obtain ⟨l1, hl1⟩ : ∃ l, l = rlksTo M k := ⟨_, rfl⟩
      rw [← hl1] at S0 hlen HO ⊢
      have HS := Lib.hid S0
      have i0 : (0 : Int) ≤ k := by omega
      have i1 : (k : Int) < 30 := by omega
      clear H2 hp hm hak hck hl1 S0
      by_cases hm0 : 0 < m
      · have i4 : (0 : Int) < m := by omega
        rw [if_pos hm0] at HS
        go_wp2_with (at_builtin; refine wpList_app rfl (.tmp 22) (.tmp 30) _ rfl w.heap.size 75 t0 _ 2 16 Try.underlying76 hi0 hz0 hz1 hz2 rfl (by omega) A l1.length c (l1.flatMap acell) rfl (World.ownsRow.alloc HO.out _) (some ⟨wr.heap.size, 0, none⟩) 1 1 (acell (u, v)) rfl (VRow.of_blk (n := 1) (s := 2) (Blk.new wr 75 #[.int .i64 u, .int .i64 v]) rfl) (by simp [acell, Value.oneCell']) (by unfold maxLen; omega) (by omega) (by simp; omega) ?_; intro A8 c8 w8 h8; have e1 := HB.out.alloc hsz (.cells #[.int .i64 u, .int .i64 v] 75); have B8 := Lib.hid (h8.below (World.ownsRow.alloc HO.out _) e1 (Nat.le_refl _) e1.size); have O8 := Lib.hid h8.own; clear e1 h8)
        go_roundw
        case rel =>
          refine ⟨k + 1, by omega, by go_num, ⟨A8, c8, ?_, ?_⟩, B8.out⟩
          · rw [HS.out, List.length_append]; rfl
          · rw [HS.out]
            have e := O8.out
            unfold PRow
            rw [List.length_append, List.flatMap_append]
            simpa using e
        case measure => simp [intOf]; omega
      · have i4 : ¬ (0 : Int) < m := by omega
        rw [if_neg hm0] at HS
        go_wp2_with fail
        go_roundw
        case rel => exact ⟨k + 1, by omega, by go_num, ⟨A, c, by rw [HS.out], by rw [HS.out]; exact HO.out⟩, HB.out⟩
        case measure => simp [intOf]; omega
    · have hk30 : k = 30 := by omega
      subst hk30
      rw [HLL.out] at HO ⊢
      clear S0
      go_wp2_with fail
      go_ret
      exact ⟨A, c, by first | rfl | trivial, HO.out, HB.out⟩
end
end Go.Proofs.Ytfhlcjfgbhmecaa
/- psephosref21.Cluster.Move. -/
namespace Go.Proofs.Ytfhlcjfgbhmecaa
open Go.RowKit
set_option linter.unusedVariables false
set_option maxRecDepth 100000

section
variable {w0 w w' : World} {B x : Nat} {room lost : Int} {M : Nat → List (Value × List Int)} {gf cf nb : Nat} {an : Option Addr} {cn : Nat} {ac : Option Addr} {cc ge ce gq cq : Nat} {ra : Nat → Option Addr} {rc : Nat → Nat} {pn pc : Nat → Nat} {nk : Prop}
theorem rmove_none (s d i t : Int) (h : RX w0 w B x room lost M gf cf nb an cn ac cc ge ce gq cq ra rc pn pc nk) (hr : EIdx s d (-1)) :
    Calls Try.prog 90 #[.pointer (some ⟨x, 0, none⟩), .int .i64 s, .int .i64 d, .int .i64 i, .int .i64 t] w fun e w' => e = .returned (.bool false) ∧ w = w' := by
  have H := Lib.hid h
  have HR := Lib.hid hr
  clear h hr
  go_enter Try.func90, Try.ntmps90
  go_wp2_with fail
  refine (rlink_c s d (-1) H.out HR.out).mono ?_; rintro e w' ⟨rfl, rfl⟩
  go_wp2_with fail
  go_ret
  exact ⟨by first | rfl | trivial, by first | rfl | trivial⟩
theorem rmove_no (s d i t : Int) (h : RX w0 w B x room lost M gf cf nb an cn ac cc ge ce gq cq ra rc pn pc nk) (k : Nat) (hk : k < 30) (hr : EIdx s d k) (hno : ¬ ((0 ≤ i ∧ i < (M k).length) ∧ (0 ≤ t ∧ t < (M k).length))) :
    Calls Try.prog 90 #[.pointer (some ⟨x, 0, none⟩), .int .i64 s, .int .i64 d, .int .i64 i, .int .i64 t] w fun e w' => e = .returned (.bool false) ∧ w = w' := by
  have H := Lib.hid h
  have HR := Lib.hid hr
  have c20 : w.cell? ⟨x, 20, none⟩ = some (.slice (some ⟨gq, 0, none⟩) 30 cq) := h.blk.cell 20
  have q0 := h.queue_at hk
  obtain ⟨L, hL⟩ : ∃ L, L = (M k).length := ⟨_, rfl⟩
  rw [← hL] at q0 hno
  obtain ⟨ak, hak⟩ : ∃ a, a = ra k := ⟨_, rfl⟩
  obtain ⟨ck, hck⟩ : ∃ a, a = rc k := ⟨_, rfl⟩
  rw [← hak, ← hck] at q0
  have i0 : ¬ (k : Int) < 0 := by omega
  have i1 : (k : Int) < 30 := by omega
  have i2 : (0 : Int) ≤ k := by omega
  clear h hr hL hak hck
  rcases (show i < 0 ∨ (¬ i < 0 ∧ (L : Int) ≤ i) ∨ (¬ i < 0 ∧ ¬ (L : Int) ≤ i ∧ t < 0) ∨ (¬ i < 0 ∧ ¬ (L : Int) ≤ i ∧ ¬ t < 0 ∧ (L : Int) ≤ t) by omega) with h1 | ⟨h1, h2⟩ | ⟨h1, h2, h3⟩ | ⟨h1, h2, h3, h4⟩
  all_goals
    clear hno
    go_enter Try.func90, Try.ntmps90
    go_wp2_with fail
    refine (rlink_c s d k H.out HR.out).mono ?_; rintro e w' ⟨rfl, rfl⟩
    go_wp2_with fail
    go_ret
    exact ⟨by first | rfl | trivial, by first | rfl | trivial⟩
theorem upq_twice {α : Type} (f : Nat → α) (k : Nat) (x y : α) : upq (upq f k x) k y = upq f k y := by
  funext j
  unfold upq
  split <;> rfl
set_option maxHeartbeats 3200000 in
theorem rmove_ok (s d z1 z2 : Int) (h : RX w0 w B x room lost M gf cf nb an cn ac cc ge ce gq cq ra rc pn pc nk) (k : Nat) (hk : k < 30) (hr : EIdx s d k) (i t : Nat) (hz1 : z1 = i) (hz2 : z2 = t) (hi : i < (M k).length) (ht : t < (M k).length) :
    Calls Try.prog 90 #[.pointer (some ⟨x, 0, none⟩), .int .i64 s, .int .i64 d, .int .i64 z1, .int .i64 z2] w fun e w' => ∃ a' c', e = .returned (.bool true) ∧ RX w0 w' B x room lost (upq M k (moved (M k) i t (M k)[i])) gf cf nb an cn ac cc ge ce gq cq (upq ra k a') (upq rc k c') pn pc nk ∧ Only [gq] w w' ∧ ∀ p, a'.map (·.block) = some p → w.heap.size ≤ p := by
  subst hz1
  subst hz2
  obtain ⟨ui, ui0, uz0, uz1, uz2⟩ := info_parts info_q1
  have H := Lib.hid h
  have HR := Lib.hid hr
  have c20 : w.cell? ⟨x, 20, none⟩ = some (.slice (some ⟨gq, 0, none⟩) 30 cq) := h.blk.cell 20
  have q0 := h.queue_at hk
  obtain ⟨L, hL⟩ : ∃ L, L = (M k).length := ⟨_, rfl⟩
  have L256 : L ≤ 256 := by rw [hL]; exact h.len k hk
  have hiL : i < L := by rw [hL]; exact hi
  have htL : t < L := by rw [hL]; exact ht
  rw [← hL] at q0
  obtain ⟨ak, hak⟩ : ∃ a, a = ra k := ⟨_, rfl⟩
  obtain ⟨ck, hck⟩ : ∃ a, a = rc k := ⟨_, rfl⟩
  rw [← hak, ← hck] at q0
  obtain ⟨mm, hmm⟩ : ∃ mm, mm = (M k)[i] := ⟨_, rfl⟩
  have hmem : mm ∈ M k := by rw [hmm]; exact List.getElem_mem hi
  have hdrop := rdrop_ok s d i h k hk hr i rfl hi
  rw [← hmm] at hdrop ⊢
  obtain ⟨av, cv, hmsg, hmrest⟩ := h.msgs k hk mm hmem
  obtain ⟨um, hum⟩ : ∃ um, um = mm.2.length := ⟨_, rfl⟩
  rw [← hum] at hmsg
  rw [hmsg] at hdrop
  have HD := Lib.hid hdrop
  have HMSG := Lib.hid hmsg
  have HMM := Lib.hid hmem
  have HL := Lib.hid hL
  have HI := Lib.hid hi
  have ONE : Hid (∀ u ∈ (outAt (M k) i).map Prod.fst, u.oneCell' = true) := Lib.hid (fun u hu => by
    obtain ⟨m2, h1, rfl⟩ := List.mem_map.1 hu
    exact Msg.one (h.msgs k hk m2 (outAt_mem h1)))
  have OL : (outAt (M k) i).length = L - 1 := by rw [outAt_len _ _ hi, ← hL]; omega
  have HOL := Lib.hid OL
  clear h hr hL hak hck hi ht hmm hmem hdrop hmsg hmrest hum OL
  have i0 : ¬ (k : Int) < 0 := by omega
  have i1 : (k : Int) < 30 := by omega
  have i2 : (0 : Int) ≤ k := by omega
  have i3 : ¬ (i : Int) < 0 := by omega
  have i4 : ¬ (L : Int) ≤ i := by omega
  have i7 : ¬ (t : Int) < 0 := by omega
  have i8 : ¬ (L : Int) ≤ t := by omega
  have i4n : ¬ L ≤ i := by omega
  have i8n : ¬ L ≤ t := by omega
  go_enter Try.func90, Try.ntmps90
  go_wp2_with fail
  refine (rlink_c s d k H.out HR.out).mono ?_; rintro e w' ⟨rfl, rfl⟩
  go_wp2_with fail
  refine HD.out.mono ?_; rintro e w1 ⟨a1, c1, rfl, hx1, ho1, -⟩
  have H1 := Lib.hid hx1
  have O1 := Lib.hid ho1
  clear hx1 ho1 c20 q0 i3 i4 i7 i8 i4n i8n
  obtain ⟨L1, hL1⟩ : ∃ L1, L1 = L - 1 := ⟨_, rfl⟩
  have c20 : w1.cell? ⟨x, 20, none⟩ = some (.slice (some ⟨gq, 0, none⟩) 30 cq) := H1.out.blk.cell 20
  have q1 := H1.out.queue_at hk
  rw [upq_same, upq_same, upq_same, HOL.out, ← hL1] at q1
  have OW := H1.out.rows k hk
  rw [upq_same, upq_same, upq_same, HOL.out, ← hL1] at OW
  have hcap := own_cap OW
  have sl1 := to_any (P := Try.prog) 148 59 1 Try.underlying148 (by kernel_rfl) size_b8 a1 L1 c1 t (by omega) hcap
  obtain ⟨A2, sl2, V2⟩ := from_v (P := Try.prog) (T := 148) OW Try.underlying148 (by kernel_rfl) size_b8 t (by omega) (t : Int) rfl
  have VK := Lib.hid ((own_vrow OW).take (k := t) (by omega))
  have VD := Lib.hid V2
  have KS : ∀ w', Below w1.heap.size w1 w' → w'.cell? ⟨x, 20, none⟩ = some (.slice (some ⟨gq, 0, none⟩) 30 cq) ∧ w'.cell? ⟨gq, k, none⟩ = some (.slice a1 L1 c1) := fun w' o => ⟨(H1.out.keep o).blk.cell 20, kept o _ _ q1⟩
  have HL1 := Lib.hid hL1
  have L1256 : L1 ≤ 256 := by omega
  clear OW V2 hL1
  go_upto_region 6 with fail
  clear c20 q1
  go_upto_region 7 with (at_builtin; refine wpList_app rfl _ (.tmp 71) _ rfl w1.heap.size 59 ui _ 1 24 Try.underlying148 ui0 uz0 uz1 uz2 rfl (by omega) none 0 0 [] rfl ⟨rfl, .inl ⟨rfl, rfl⟩⟩ a1 t c1 (((outAt (M k) i).map Prod.fst).take (t * 1)) rfl VK.out (fun v hv => ONE.out v (List.mem_of_mem_take hv)) (by unfold maxLen; omega) (by omega) (Nat.le_refl _) ?_; intro a5 c5 w5 h5; have b5 : Below w1.heap.size w1 w5 := h5.only.to_below; have O5 : Hid (w5.ownsRow w1.heap.size 59 1 (.slice a5 t c5) t (((outAt (M k) i).map Prod.fst).take (t * 1))) := Lib.hid (by have e := h5.own; rw [Nat.zero_add, List.nil_append] at e; exact e); have B5 := Lib.hid b5; clear h5 b5; try simp only [Nat.zero_add])
  go_upto_region 8 with (at_builtin; refine wpList_app rfl (.tmp 73) (.tmp 75) _ rfl w1.heap.size 59 ui _ 1 24 Try.underlying148 ui0 uz0 uz1 uz2 rfl (by omega) a5 t c5 (((outAt (M k) i).map Prod.fst).take (t * 1)) rfl (World.ownsRow.alloc O5.out _) (some ⟨w5.heap.size, 0, none⟩) 1 1 [.slice av um cv] rfl (own_one _ _ _) (by simp [Value.oneCell']) (by unfold maxLen; omega) (by omega) (by have := B5.out.size; simp; omega) ?_; intro a7 c7 w7 h7; have b7 := h7.below (World.ownsRow.alloc O5.out _) (B5.out.alloc B5.out.size (.cells #[.slice av um cv] 59)) (Nat.le_refl _) (by have := B5.out.size; simp; omega); have B7 := Lib.hid b7; have O7 := Lib.hid h7.own; clear h7 b7)
  refine wp_region_plan (fun w' => w'.cell? ⟨x, 20, none⟩ = some (.slice (some ⟨gq, 0, none⟩) 30 cq) ∧ w'.cell? ⟨gq, k, none⟩ = some (.slice a1 L1 c1)) 11 (.take 0 (.take 1 (.take 2 (.take 3 (.take 4 (.take 5 (.take 6 (.take 7 (.take 8 (.one 9 (.take 10 (.one 11 .done)))))))))))) (by kernel_rfl) (by kernel_rfl) (by kernel_rfl) (KS _ B7.out.drew) ?_
  intro hS0
  obtain ⟨v0, hv0⟩ : ∃ v, v = w7.drew := ⟨_, rfl⟩
  have B0 : Below w1.heap.size w1 v0 := by rw [hv0]; exact B7.out.drew
  have O0 : v0.ownsRow w1.heap.size 59 1 (.slice a7 (t + 1) c7) (t + 1) (((outAt (M k) i).map Prod.fst).take (t * 1) ++ [.slice av um cv]) := by rw [hv0]; exact own_below O7.out (Below.refl _ _).drew
  rw [← hv0] at hS0 ⊢
  clear hv0
  repeat (refine' wpPlan_take rfl (by rfl) (by assumption) ?_ ?_; rotate_left; (· (intro w hSw; (try dsimp only at hSw); go_simp; try with_reducible rfl)); try simp only [Act.put, List.setIfInBounds_toArray, List.set_cons_zero, List.set_cons_succ])
  refine wpPlan_one rfl (fun KT hKT => ?_)
  refine step_app (by rfl) _ _ _ (by rfl) w1.heap.size 59 ui _ 1 24 Try.underlying148 ui0 uz0 uz1 uz2 rfl (by omega) a7 (t + 1) c7 (((outAt (M k) i).map Prod.fst).take (t * 1) ++ [.slice av um cv]) (by rfl) O0 A2 (L1 - t) (c1 - t) (((outAt (M k) i).map Prod.fst).drop (t * 1)) (by rfl) (VD.out.below B0) (fun v hv => ONE.out v (List.mem_of_mem_drop hv)) (by unfold maxLen; omega) (by omega) B0.size ?_
  intro a8 c8 w8 h8
  have B8 : Below w1.heap.size w1 w8 := h8.below O0 B0 (Nat.le_refl _) B0.size
  have ML : (moved (M k) i t mm).length = L := by rw [moved_len _ _ _ _ HI.out (by rw [← HL.out]; exact htL), HL.out]
  have O8 : w8.ownsRow w1.heap.size 59 1 (.slice a8 (moved (M k) i t mm).length c8) (moved (M k) i t mm).length ((moved (M k) i t mm).map Prod.fst) := by
    have e := h8.own
    have e2 : t + 1 + (L1 - t) = L := by have := HL1.out; omega
    rw [e2, Nat.mul_one] at e
    have e3 : (moved (M k) i t mm).map Prod.fst = ((outAt (M k) i).map Prod.fst).take t ++ [.slice av um cv] ++ ((outAt (M k) i).map Prod.fst).drop t := by
      unfold moved outAt
      rw [List.map_append, List.map_cons, HMSG.out, List.map_take, List.map_drop, List.append_assoc]
      rfl
    rw [ML, e3]
    exact e
  obtain ⟨hrx, hon⟩ := H1.out.put B8 hk O8 (fun m2 hm2 => by
    rcases List.mem_append.1 hm2 with hm2 | hm2
    · exact H.out.msgs k hk m2 (outAt_mem (List.mem_of_mem_take hm2))
    · rcases List.mem_cons.1 hm2 with rfl | hm2
      · exact H.out.msgs k hk _ HMM.out
      · exact H.out.msgs k hk m2 (outAt_mem (List.mem_of_mem_drop hm2))) (by rw [ML]; exact L256)
  rw [ML] at hrx hon
  rw [upq_twice, upq_twice, upq_twice] at hrx
  have RX9 := Lib.hid hrx
  have ON9 := Lib.hid (O1.out.trans hon)
  have NW9 : Hid (∀ p, a8.map (·.block) = some p → w.heap.size ≤ p) := Lib.hid (fun p hp => Nat.le_trans O1.out.size (World.ownsRow.lt O8 p (by rw [own_block_eq]; exact hp)).1)
  have S8 := KS _ B8
  have e2 : t + 1 + (L1 - t) = L := by have := HL1.out; omega
  rw [e2]
  refine hKT.out _ _ (S8) (fun _ => ?_); clear hKT KT; try simp only [Act.put, List.setIfInBounds_toArray, List.set_cons_zero, List.set_cons_succ]
  repeat (refine' wpPlan_take rfl (by rfl) (by assumption) ?_ ?_; rotate_left; (· (intro w hSw; (try dsimp only at hSw); go_simp; try with_reducible rfl)); try simp only [Act.put, List.setIfInBounds_toArray, List.set_cons_zero, List.set_cons_succ])
  refine wpPlan_last rfl (fun KT hKT => ?_)
  have q8 := S8.2
  have f8 := (Row.of_own (H1.out.keep B8).qrow).frozen k
  clear hS0 KS B0 O0 h8 B8 O8 hrx hon S8 sl1 sl2 ML e2
  go_simp
  refine hKT.out _ _ ?_; clear hKT KT; try simp only [Act.put, List.setIfInBounds_toArray, List.set_cons_zero, List.set_cons_succ]
  refine wpPlan_done ?_
  go_wp2_with fail
  go_ret
  exact ⟨a8, c8, by first | rfl | trivial, RX9.out, ON9.out, NW9.out⟩
end
end Go.Proofs.Ytfhlcjfgbhmecaa
