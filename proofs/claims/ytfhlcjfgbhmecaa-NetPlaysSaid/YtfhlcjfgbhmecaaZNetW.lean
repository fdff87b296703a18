/- Pairs, NetW. -/
import Derived.Test.YtfhlcjfgbhmecaaZArrEq
import Derived.Test.YtfhlcjfgbhmecaaZNetR
import Derived.Test.YtfhlcjfgbhmecaaZPlan
import Derived.Test.YtfhlcjfgbhmecaaZApp
/- psephoskeep.Same on slices of pairs. -/
namespace Go.Proofs.Ytfhlcjfgbhmecaa
open Go.RowKit
set_option linter.unusedVariables false

theorem info_int : (Try.prog.info? 3).map (fun i => (i.zero, i.size, i.bytes)) = some (some (.int .i64 0), 1, 8) := by kernel_rfl
theorem arr_two (x0 x1 y0 y1 : Int) (b : Bool) (hb : b = true ↔ x0 = y0 ∧ x1 = y1) (w : World) :
    (Op.equalIn 10000 75 (.agg #[.int .i64 x0, .int .i64 x1]) (.agg #[.int .i64 y0, .int .i64 y1])).run Try.prog w = .ok b w := by
  obtain ⟨i, h1, _, h2, _⟩ := info_parts info_int
  refine run_equalIn_array w 9999 75 3 2 i _ _ Try.underlying75 h1 h2 (by kernel_rfl) ?_ b ?_
  · intro j hj
    have key : ∀ x y : Int, ∃ r : Bool, (Op.equalIn (9998 + 1) 3 (.int .i64 x) (.int .i64 y)).run Try.prog w = .ok r w ∧ (r = true ↔ Value.int .i64 x = .int .i64 y) := fun x y =>
      ⟨x == y, run_equalIn_int w 9998 3 .i64 .i64 x y Try.underlying3, by simp⟩
    match j, hj with
    | 0, _ => obtain ⟨r, h1, h2⟩ := key x0 y0; exact ⟨_, _, r, rfl, rfl, h1, h2⟩
    | 1, _ => obtain ⟨r, h1, h2⟩ := key x1 y1; exact ⟨_, _, r, rfl, rfl, h1, h2⟩
  · rw [hb]
    constructor
    · rintro ⟨rfl, rfl⟩ j _
      rfl
    · intro h
      have h0 := h 0 (by omega)
      have h1 := h 1 (by omega)
      simp at h0 h1
      exact ⟨h0, h1⟩

set_option maxHeartbeats 1600000 in
theorem same2_c (a b : Option Addr) (n m c d : Nat) (l l' : List (Int × Int)) (w : World) (h : VRow w a n 2 (l.flatMap acell)) (h' : VRow w b m 2 (l'.flatMap acell)) (hl : l.length = n) (hl' : l'.length = m) (hn : n ≤ 4096) (hm : m ≤ 4096) (bb : Bool) (hb : decide (l = l') = bb) :
    Calls Try.prog 50 #[.slice a n c, .slice b m d] w fun e w' => e = .returned (.bool bb) ∧ Below w.heap.size w w' := by
  have H := Lib.hid h
  have H' := Lib.hid h'
  have HL := Lib.hid hl
  have HL' := Lib.hid hl'
  have HBB := Lib.hid hb
  by_cases hnm : n = m
  · subst hnm
    clear h h' hl hl' hb
    go_enter Try.func50, Try.ntmps50
    go_wp2_with fail
    go_loopw [5] (fun i wr => ∃ k : Nat, k ≤ n ∧ i = .int .i64 k ∧ (∀ j, j < k → l[j]? = l'[j]?) ∧ Below w.heap.size w wr) (fun i _ => n - (intOf i).toNat)
    case atStart => exact ⟨0, by omega, rfl, fun j hj => absurd hj (by omega), Below.refl _ _⟩
    case round =>
      obtain ⟨k, hkn, rfl, hs, hb⟩ := hrel
      have HB := Lib.hid hb
      have HS := Lib.hid hs
      clear hs hb
      by_cases hlt : k < n
      · have hk1 : k < l.length := by rw [HL.out]; exact hlt
        have hk2 : k < l'.length := by rw [HL'.out]; exact hlt
        obtain ⟨b1, o1, rfl, hb1, hc1⟩ := H.out.2 (by omega)
        obtain ⟨b2, o2, rfl, hb2, hc2⟩ := H'.out.2 (by omega)
        obtain ⟨x, hx⟩ : ∃ x, x = l[k] := ⟨_, rfl⟩
        obtain ⟨y, hy⟩ : ∃ y, y = l'[k] := ⟨_, rfl⟩
        have a0 : wr.cell? ⟨b1, o1 + k * 2, none⟩ = some (.int .i64 x.1) := (HB.out.cell (p := ⟨b1, o1 + k * 2, none⟩) hb1).trans (hc1 _ _ (flat_get' acell 2 acell_len l k 0 (by omega) hk1 _ (by rw [hx]; rfl)))
        have a1 : wr.cell? ⟨b1, o1 + k * 2 + 1, none⟩ = some (.int .i64 x.2) := (HB.out.cell (p := ⟨b1, o1 + k * 2 + 1, none⟩) hb1).trans (by rw [Nat.add_assoc]; exact hc1 _ _ (flat_get' acell 2 acell_len l k 1 (by omega) hk1 _ (by rw [hx]; rfl)))
        have d0 : wr.cell? ⟨b2, o2 + k * 2, none⟩ = some (.int .i64 y.1) := (HB.out.cell (p := ⟨b2, o2 + k * 2, none⟩) hb2).trans (hc2 _ _ (flat_get' acell 2 acell_len l' k 0 (by omega) hk2 _ (by rw [hy]; rfl)))
        have d1 : wr.cell? ⟨b2, o2 + k * 2 + 1, none⟩ = some (.int .i64 y.2) := (HB.out.cell (p := ⟨b2, o2 + k * 2 + 1, none⟩) hb2).trans (by rw [Nat.add_assoc]; exact hc2 _ _ (flat_get' acell 2 acell_len l' k 1 (by omega) hk2 _ (by rw [hy]; rfl)))
        obtain ⟨x0, x1⟩ := x
        obtain ⟨y0, y1⟩ := y
        have HX := Lib.hid hx
        have HY := Lib.hid hy
        have i0 : (0 : Int) ≤ k := by omega
        have i1 : (k : Int) < n := by omega
        have hbad : ¬ (x0 = y0 ∧ x1 = y1) → bb = false := fun hne => by
          rw [← HBB.out]
          refine decide_eq_false fun he => hne ?_
          have e : (x0, x1) = (y0, y1) := by
            rw [HX.out, HY.out]
            subst he
            rfl
          exact ⟨congrArg Prod.fst e, congrArg Prod.snd e⟩
        have HBAD := Lib.hid hbad
        clear hx hy hc1 hc2 hbad
        by_cases he : x0 = y0 ∧ x1 = y1
        · have E := arr_two x0 x1 y0 y1 true ⟨fun _ => he, fun _ => rfl⟩
          have HE := Lib.hid he
          clear he
          go_wp2_with fail
          go_quiet (fail)
          go_wp2
          go_roundw
          case rel =>
            refine ⟨k + 1, by omega, by go_num, fun j hj => ?_, below_drewN HB.out nq⟩
            by_cases hjk : j < k
            · exact HS.out j hjk
            · obtain rfl : j = k := by omega
              rw [List.getElem?_eq_getElem hk1, List.getElem?_eq_getElem hk2, ← HX.out, ← HY.out, HE.out.1, HE.out.2]
          case measure => simp [intOf]; omega
        · have E := arr_two x0 x1 y0 y1 false ⟨(fun h => by cases h), fun h => absurd h he⟩
          obtain rfl : bb = false := HBAD.out he
          clear he HBAD
          go_wp2_with fail
          go_quiet (fail)
          go_wp2
          go_ret
          exact ⟨rfl, below_drewN HB.out nq⟩
      · have hkk : k = n := by omega
        obtain rfl : bb = true := by
          rw [← HBB.out]
          refine decide_eq_true (List.ext_getElem? fun j => ?_)
          by_cases hj : j < k
          · exact HS.out j hj
          · rw [List.getElem?_eq_none (by rw [HL.out]; omega), List.getElem?_eq_none (by rw [HL'.out]; omega)]
        clear hkk
        go_wp2
        go_ret
        exact ⟨rfl, HB.out⟩
  · obtain rfl : bb = false := by
      rw [← hb]
      refine decide_eq_false fun he => hnm ?_
      rw [← hl, ← hl', he]
    have e1 : ((n : Int) != (m : Int)) = true := bne_iff_ne.2 (by omega)
    clear h h' hl hl' hb hnm
    go_enter Try.func50, Try.ntmps50
    go_wp2
    go_ret
    exact ⟨rfl, Below.refl _ _⟩

end Go.Proofs.Ytfhlcjfgbhmecaa
/- net.Links: those that are not empty. -/
namespace Go.Proofs.Ytfhlcjfgbhmecaa
open Go.RowKit
set_option linter.unusedVariables false
set_option maxRecDepth 100000

/-- The ends of those of the first N links that have messages. -/
def lksTo (n : Nat) (ps : List Int) (ms : Nat → List (Value × List Int)) : Nat → List (Int × Int)
  | 0 => []
  | N + 1 => if 0 < (ms N).length then lksTo n ps ms N ++ [(ps.getD (N / n) 0, ps.getD (N % n) 0)] else lksTo n ps ms N
theorem lksTo_succ (n : Nat) (ps : List Int) (ms : Nat → List (Value × List Int)) (N : Nat) : lksTo n ps ms (N + 1) = if 0 < (ms N).length then lksTo n ps ms N ++ [(ps.getD (N / n) 0, ps.getD (N % n) 0)] else lksTo n ps ms N := rfl
theorem lksTo_len (n : Nat) (ps : List Int) (ms : Nat → List (Value × List Int)) : ∀ k, (lksTo n ps ms k).length ≤ k
  | 0 => Nat.le_refl _
  | k + 1 => by
    have := lksTo_len n ps ms k
    rw [lksTo_succ]
    split
    · rw [List.length_append]; simp; omega
    · omega
set_option maxHeartbeats 1600000 in
theorem nlinks_c {B gn n : Nat} {ps : List Int} {q g : Nat → Nat} {room : Int} {lost : Nat → Int} {ms : Nat → List (Value × List Int)} (w : World) (h : Nt B w gn n ps q g room lost ms) (hn : n ≤ 64) (L : List (Int × Int)) (hL : lksTo n ps ms (n * n) = L) :
    Calls Try.prog 37 #[.pointer (some ⟨gn, 0, none⟩)] w fun e w' => ∃ A c, e = .returned (.slice A L.length c) ∧ PRow w' w.heap.size (.slice A L.length c) L ∧ Below w.heap.size w w' := by
  obtain ⟨t0, hi0, hz0, hz1, hz2⟩ := info_parts info_two
  obtain ⟨ap, cp, al, cl, ra, rc, h1, h2, h3, h4⟩ := h.ex
  have c1 : w.cell? ⟨gn, 1, none⟩ = some (.slice al n cl) := h1.cell 1
  have hlen : ps.length = n := by have := h2.1; simpa using this
  have H1 := Lib.hid h1
  have H2 := Lib.hid h2
  have H3 := Lib.hid h3
  have H4 := Lib.hid h4
  have QS := Lib.hid h.qs
  have HLL := Lib.hid hL
  have PL := Lib.hid hlen
  clear h h1 h2 h3 h4 hL hlen
  go_enter Try.func37, Try.ntmps37
  go_wp2_with fail
  go_loopw [3, 13] (fun v i wr => ∃ a : Nat, a ≤ n ∧ i = .int .i64 a ∧ (∃ A c, v = .slice A (lksTo n ps ms (a * n)).length c ∧ PRow wr w.heap.size (.slice A (lksTo n ps ms (a * n)).length c) (lksTo n ps ms (a * n))) ∧ Below w.heap.size w wr) (fun _ i _ => n - (intOf i).toNat)
  case atStart => exact ⟨0, by omega, rfl, ⟨none, 0, by simp [lksTo], by simp only [Nat.zero_mul, lksTo]; exact World.ownsRow_nil _ _ _ _⟩, Below.refl _ _⟩
  case round =>
    obtain ⟨a, ha, rfl, ⟨A, c, rfl, hown⟩, hb⟩ := hrel
    have HB := Lib.hid hb
    have HO := Lib.hid hown
    clear hb hown
    by_cases hlt : a < n
    · obtain ⟨gl, hgl, r0⟩ := own_at (own_below H3.out HB.out) hlt (v := .slice (ra a) n (rc a)) (by simp [hlt])
      subst hgl
      have R4 := Lib.hid (H4.out a hlt)
      obtain ⟨xa, hxa⟩ : ∃ z, z = ra a := ⟨_, rfl⟩
      obtain ⟨xc, hxc⟩ : ∃ z, z = rc a := ⟨_, rfl⟩
      rw [← hxa, ← hxc] at r0 R4
      have i0 : (0 : Int) ≤ a := by omega
      have i1 : (a : Int) < n := by omega
      clear hxa hxc
      obtain ⟨wo, rfl⟩ : ∃ wo, wo = wr := ⟨_, rfl⟩
      obtain ⟨l0, hl0⟩ : ∃ l, l = lksTo n ps ms (a * n) := ⟨_, rfl⟩
      rw [← hl0] at HO ⊢
      have HL0 := Lib.hid hl0
      clear hl0
      go_wp2_with fail
      clear r0
      go_loopw [3, 20] (fun v i wr => ∃ b : Nat, b ≤ n ∧ i = .int .i64 b ∧ (∃ A c, v = .slice A (lksTo n ps ms (a * n + b)).length c ∧ PRow wr w.heap.size (.slice A (lksTo n ps ms (a * n + b)).length c) (lksTo n ps ms (a * n + b))) ∧ Below w.heap.size w wr) (fun _ i _ => n - (intOf i).toNat)
      case atStart => exact ⟨0, by omega, rfl, ⟨A, c, by rw [Nat.add_zero, ← HL0.out], by rw [Nat.add_zero, ← HL0.out]; exact HO.out⟩, HB.out⟩
      case round =>
        obtain ⟨b, hb, rfl, ⟨A, c, rfl, hown⟩, hb2⟩ := hrel
        have HB2 := Lib.hid hb2
        have HO2 := Lib.hid hown
        have hsz := hb2.size
        clear hb2 hown
        by_cases hlt2 : b < n
        · obtain ⟨gr, hgr, r1⟩ := own_at (own_below R4.out HB2.out) hlt2 (v := .pointer (some ⟨q (a * n + b), 0, none⟩)) (by simp [hlt2])
          subst hgr
          have hk1 := lksTo_len n ps ms (a * n + b)
          have hk2 := at_lt hlt hlt2
          have hk3 : n * n ≤ 64 * 64 := Nat.mul_le_mul hn hn
          have hnn : 0 < n := by omega
          have S0 := lksTo_succ n ps ms (a * n + b)
          rw [show (a * n + b) / n = a by rw [Nat.mul_comm, Nat.mul_add_div hnn, Nat.div_eq_of_lt hlt2, Nat.add_zero], show (a * n + b) % n = b by rw [Nat.mul_comm, Nat.mul_add_mod, Nat.mod_eq_of_lt hlt2]] at S0
          have Q := Lib.hid ((QS.out.below HB2.out).que _ hk2)
          obtain ⟨k, hk⟩ : ∃ k, k = a * n + b := ⟨_, rfl⟩
          rw [← hk] at Q r1 hk1 hk2 S0 HO2 ⊢
          obtain ⟨l1, hl1⟩ : ∃ l, l = lksTo n ps ms k := ⟨_, rfl⟩
          rw [← hl1] at hk1 HO2 S0 ⊢
          obtain ⟨qk, hqk⟩ : ∃ z, z = q k := ⟨_, rfl⟩
          rw [← hqk] at Q r1
          obtain ⟨m, hm⟩ : ∃ m, m = (ms k).length := ⟨_, rfl⟩
          rw [← hm] at S0
          have HM := Lib.hid hm.symm
          have HS := Lib.hid S0
          have i2 : (0 : Int) ≤ b := by omega
          have i3 : (b : Int) < n := by omega
          have hn1 : l1.length ≤ 4096 := by omega
          have hka : k + 1 = a * n + (b + 1) := by omega
          have HKA := Lib.hid hka
          clear hk hqk hm S0 hl1 hk1 hk2 hk3 hka
          go_wp2_with fail
          refine (lq_len_c qk (g k) room (lost k) (ms k) _ Q.out m HM.out).mono ?_; rintro e w' ⟨rfl, rfl⟩
          by_cases hm0 : 0 < m
          · have i4 : (0 : Int) < m := by omega
            rw [if_pos hm0] at HS
            obtain ⟨gp, hgp, pa⟩ := own_at H2.out hlt (v := .int .i64 (ps.getD a 0)) (by simp [PL.out, hlt, List.getD])
            subst hgp
            obtain ⟨_, hgp2, pb⟩ := own_at H2.out hlt2 (v := .int .i64 (ps.getD b 0)) (by simp [PL.out, hlt2, List.getD])
            injection hgp2 with hgp2
            injection hgp2 with hgp2
            subst hgp2
            obtain ⟨x, hx⟩ : ∃ x, x = ps.getD a 0 := ⟨_, rfl⟩
            obtain ⟨y, hy⟩ : ∃ y, y = ps.getD b 0 := ⟨_, rfl⟩
            rw [← hx] at HS pa
            rw [← hy] at HS pb
            have c0 : w.cell? ⟨gn, 0, none⟩ = some (.slice (some ⟨gp, 0, none⟩) n cp) := H1.out.cell 0
            have KS : ∀ w', Below w.heap.size w w' → w'.cell? ⟨gn, 0, none⟩ = some (.slice (some ⟨gp, 0, none⟩) n cp) ∧ w'.cell? ⟨gp, a, none⟩ = some (.int .i64 x) ∧ w'.cell? ⟨gp, b, none⟩ = some (.int .i64 y) := fun w' o => ⟨kept o _ _ c0, kept o _ _ pa, kept o _ _ pb⟩
            clear hx hy
            go_upto_region 9 with fail
            refine wp_region_plan (fun w' => w'.cell? ⟨gn, 0, none⟩ = some (.slice (some ⟨gp, 0, none⟩) n cp) ∧ w'.cell? ⟨gp, a, none⟩ = some (.int .i64 x) ∧ w'.cell? ⟨gp, b, none⟩ = some (.int .i64 y)) 19 (.take 0 (.take 1 (.take 2 (.take 3 (.take 4 (.take 5 (.take 6 (.take 7 (.take 8 (.take 9 (.take 10 (.take 11 (.take 12 (.take 13 (.take 14 (.take 15 (.one 16 (.one 17 (.take 18 .done))))))))))))))))))) (by kernel_rfl) (by kernel_rfl) (by kernel_rfl) (KS _ HB2.out.drew) ?_
            intro hS0
            clear c0 pa pb
            repeat (refine' wpPlan_take rfl (by rfl) (by assumption) ?_ ?_; rotate_left; (· (intro w hSw; (try dsimp only at hSw); go_simp; try with_reducible rfl)); try simp only [Act.put, List.setIfInBounds_toArray, List.set_cons_zero, List.set_cons_succ])
            refine wpPlan_one rfl (fun KT hKT => ?_)
            go_simp
            refine hKT.out _ _ (KS _ (HB2.out.alloc hsz _).drew) (fun _ => ?_); clear hKT KT; try simp only [Act.put, List.setIfInBounds_toArray, List.set_cons_zero, List.set_cons_succ]
            refine wpPlan_one rfl (fun KT hKT => ?_)
            refine step_app (by rfl) _ _ _ (by rfl) w.heap.size 75 t0 _ 2 16 Try.underlying76 hi0 hz0 hz1 hz2 rfl (by omega) A l1.length c (l1.flatMap acell) (by rfl) (World.ownsRow.alloc HO2.out _) (some ⟨wr.heap.size, 0, none⟩) 1 1 (acell (x, y)) (by rfl) (VRow.of_blk (n := 1) (s := 2) ((Blk.new wr 75 #[.int .i64 x, .int .i64 y]).drew) rfl) (by simp [acell, Value.oneCell']) (by unfold maxLen; omega) (by omega) (by simp; omega) ?_
            intro A8 c8 w8 h8
            have e1 : Below w.heap.size w (wr.alloc (.cells #[.int .i64 x, .int .i64 y] 75)).drew := (HB2.out.alloc hsz _).drew
            have B8 := h8.below (World.ownsRow.alloc HO2.out _) e1 (Nat.le_refl _) e1.size
            have O8 := Lib.hid h8.own
            have BB8 := Lib.hid B8
            refine hKT.out _ _ (KS _ B8) (fun _ => ?_); clear hKT KT; try simp only [Act.put, List.setIfInBounds_toArray, List.set_cons_zero, List.set_cons_succ]
            repeat (refine' wpPlan_take rfl (by rfl) (by assumption) ?_ ?_; rotate_left; (· (intro w hSw; (try dsimp only at hSw); go_simp; try with_reducible rfl)); try simp only [Act.put, List.setIfInBounds_toArray, List.set_cons_zero, List.set_cons_succ])
            refine wpPlan_done ?_
            clear KS B8 e1 h8
            go_wp2_with fail
            go_roundw
            case rel =>
              refine ⟨b + 1, by omega, by go_num, ⟨A8, c8, ?_, ?_⟩, BB8.out⟩
              · rw [← HKA.out, HS.out, List.length_append]; rfl
              · rw [← HKA.out, HS.out]
                have e := O8.out
                unfold PRow
                rw [List.length_append, List.flatMap_append]
                simpa using e
            case measure => simp [intOf]; omega
          · have i4 : ¬ (0 : Int) < m := by omega
            rw [if_neg hm0] at HS
            go_wp2_with fail
            go_roundw
            case rel => exact ⟨b + 1, by omega, by go_num, ⟨A, c, by rw [← HKA.out, HS.out], by rw [← HKA.out, HS.out]; exact HO2.out⟩, HB2.out⟩
            case measure => simp [intOf]; omega
        · have hbn : b = n := by omega
          subst hbn
          have i3 : ¬ (b : Int) < b := by omega
          go_wp2_with fail
          go_roundw
          case rel => exact ⟨a + 1, by omega, by go_num, ⟨A, c, by rw [Nat.succ_mul], by rw [Nat.succ_mul]; exact HO2.out⟩, HB2.out⟩
          case measure => simp [intOf]; omega
    · have han : a = n := by omega
      subst han
      rw [HLL.out] at HO ⊢
      have i1 : ¬ (a : Int) < a := by omega
      go_wp2_with fail
      go_ret
      exact ⟨A, c, rfl, HO.out, HB.out⟩
end Go.Proofs.Ytfhlcjfgbhmecaa
