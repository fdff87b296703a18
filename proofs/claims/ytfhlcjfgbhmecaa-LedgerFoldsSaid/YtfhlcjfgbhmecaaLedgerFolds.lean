/- LedgerFolds: for all numbers and batches the law returns true: run one by one, all at once, or in other pieces: the same. No condition. -/
import Derived.Test.YtfhlcjfgbhmecaaLedgerJ
import Derived.Test.YtfhlcjfgbhmecaaLedgerV
import Derived.Test.YtfhlcjfgbhmecaaKeep
import Derived.Test.YtfhlcjfgbhmecaaRows
import Derived.BigQuiet
namespace Go.Proofs.Ytfhlcjfgbhmecaa.LedgerFolds
open Go.RowKit Go.ChangeShapes Go.WideShapes Go.ChangeAt
set_option linter.unusedVariables false

theorem info_req : (Try.prog.info? 33).map (fun i => (i.zero, i.size, i.bytes)) = some (some (.agg #[.int .i64 0, .int .i64 0, .int .i64 0, .int .i64 0, .int .i64 0, .int .i64 0]), 6, 48) := by kernel_rfl
theorem rqc_one (rs : List Rq) : ∀ v ∈ rs.flatMap rqc, v.oneCell' = true := by
  intro v hv
  obtain ⟨p, _, hp⟩ := List.mem_flatMap.1 hv
  simp only [rqc, List.mem_cons, List.not_mem_nil, or_false] at hp
  rcases hp with rfl | rfl | rfl | rfl | rfl | rfl <;> rfl
theorem flat_drop {α β : Type} (f : α → List β) (s : Nat) (hs : ∀ x, (f x).length = s) : ∀ (st : List α) (k : Nat), (st.flatMap f).drop (k * s) = (st.drop k).flatMap f
  | [], k => by simp
  | x :: xs, 0 => by simp
  | x :: xs, k + 1 => by
    rw [List.flatMap_cons, List.drop_succ_cons, ← flat_drop f s hs xs k, Nat.add_mul, Nat.one_mul, Nat.add_comm (k * s) s, List.drop_append, hs, List.drop_of_length_le (by rw [hs]; omega), Nat.add_sub_cancel_left]
    rfl
theorem foldB_of (C : Nat) (bs cs : List Bt) (h : allRq bs = allRq cs) : foldB C bs = foldB C cs := by unfold foldB; rw [h]

set_option maxRecDepth 100000 in
set_option maxHeartbeats 6400000 in
theorem walk (cl : Int) (a1 : Option Addr) (n1 c1 : Nat) (R1 : Nat → Inner) (at_ : Int) (w : World) (hcl : I64 cl) (hr1 : Rows2 w a1 n1 6 R1) (hm1 : n1 ≤ maxLen) (hc1 : n1 ≤ c1) (hat : I64 at_) :
    Calls Try.prog 11 #[.int .i64 cl, .slice a1 n1 c1, .int .i64 at_] w fun e w' => e = .returned (.bool true) ∧ Below w.heap.size w w' := by
  obtain ⟨i0, hi0, hz0, hz1, hz2⟩ := info_parts info_req
  have HR1 := Lib.hid hr1
  have M1 := Lib.hid hm1
  have AT := Lib.hid hat
  clear hr1 hm1 hat
  go_enter Try.func11, Try.ntmps11
  go_wp2_with fail
  refine (within_q cl 4 _ hcl (by omega) (by omega)).mono ?_; rintro e w' ⟨q, rfl, _, q0, q4, rfl⟩
  obtain ⟨C, hC⟩ : ∃ C : Nat, 1 + q = C := ⟨(1 + q).toNat, by omega⟩
  have C1 : 1 ≤ C := by omega
  have C4 : C ≤ 4 := by omega
  go_wp2_with fail
  refine (cut_c w a1 n1 c1 R1 _ HR1.out (Below.refl _ _) M1.out).mono ?_; rintro e w1 ⟨b1, m1, d1, bsA, rfl, ho1, hbA, hlA, hmA, hb1⟩
  have BA := Lib.hid (show BRow w1 b1 m1 bsA from ⟨own_vrow ho1, fun x hx => (hbA x hx).below hb1, hmA⟩)
  have B1 := Lib.hid hb1
  clear ho1 hbA hlA hb1
  go_wp2_with fail
  clear hC q0 q4
  refine (fold_c C C1 C4 b1 m1 d1 bsA _ BA.out).mono ?_; rintro e w2 ⟨S, gd, rfl, hL2, hS2, hb2⟩
  obtain ⟨all, hall⟩ : ∃ all, all = allRq bsA := ⟨_, rfl⟩
  have hAL : all.length ≤ 160 := by
    have h2 := allRq_len BA.out.b
    rw [BA.out.len] at h2
    rw [hall]
    omega
  have AL160 := Lib.hid hAL
  have AI : Hid (∀ r ∈ all, RqI r) := Lib.hid (by
    rw [hall]
    intro r hr
    obtain ⟨x, hx, h⟩ := List.mem_flatMap.1 hr
    exact (BA.out.b x hx).i r h)
  have hs0 : foldB C bsA = runL ([], st0, List.replicate C (0, 0)) all := by rw [hall]; rfl
  obtain ⟨⟨E, st1, ct1⟩, hE⟩ : ∃ s, runL ([], st0, List.replicate C (0, 0)) all = s := ⟨_, rfl⟩
  rw [hs0, hE] at hL2
  have HE := Lib.hid hE
  have AGAIN : Hid (runL ([], st0, List.replicate C (0, 0)) (E.map Prod.fst ++ all) = (E, st1, ct1)) := Lib.hid (by
    have := again_all st0 (List.replicate C (0, 0)) all
    rwa [hE] at this)
  have EI : Hid (∀ e ∈ E, RqI e.1) := Lib.hid (by
    intro e he
    rcases run_mem ([], st0, List.replicate C (0, 0)) all e (by rw [hE]; exact he) with h | h
    · cases h
    · exact AI.out _ h)
  have hE160 : E.length ≤ 160 := by
    have := (runL_inv (s := ([], st0, List.replicate C (0, 0))) Smalls.zero all).2.2
    rw [hE] at this
    simp only [List.length_nil] at this
    omega
  have L2 : Hid (Led w2 S gd C E st1 ct1) := Lib.hid hL2
  have BA2 := Lib.hid (BA.out.below hb2)
  have B2 := Lib.hid (B1.out.trans (hb2.mono B1.out.size))
  have ALL := Lib.hid hall
  clear hL2 hS2 hb2 hs0 hE hall BA B1
  obtain ⟨nw, hnw⟩ : ∃ nw, E.length = nw := ⟨_, rfl⟩
  have NW := Lib.hid hnw
  have nw160 : nw ≤ 160 := by omega
  clear hnw hE160
  go_wp2_with fail
  go_loopw [9, 32] (fun v i wr => ∃ (k nA : Nat) (aA : Option Addr) (cA : Nat), k ≤ m1 ∧ i = .int .i64 k ∧ v = .slice aA nA cA ∧ nA = (allRq (bsA.take k)).length ∧ wr.ownsRow w2.heap.size 33 6 (.slice aA nA cA) nA ((allRq (bsA.take k)).flatMap rqc) ∧ Below w2.heap.size w2 wr) (fun _ i _ => m1 - (intOf i).toNat)
  case atStart => exact ⟨0, 0, none, 0, by omega, rfl, rfl, rfl, ⟨rfl, .inl ⟨rfl, rfl⟩⟩, Below.refl _ _⟩
  case round =>
    obtain ⟨k, nA, aA, cA, hk, rfl, rfl, hnA, hoA, hb⟩ := hrel
    have OA := Lib.hid hoA
    have B := Lib.hid hb
    have NA := Lib.hid hnA
    have hle : nA ≤ 160 := by
      rw [hnA]
      have h1 := AL160.out
      have h2 : (allRq (bsA.take k)).length ≤ (allRq bsA).length := by
        unfold allRq
        conv => rhs; rw [← List.take_append_drop k bsA, List.flatMap_append, List.length_append]
        omega
      rw [← ALL.out] at h2
      omega
    clear hoA hb hnA
    by_cases hlt : k < m1
    · obtain ⟨b, off, rfl, hbl, hcell⟩ := (BA2.out.v.below B.out).2 (by omega)
      have kb : k < bsA.length := by rw [BA2.out.len]; exact hlt
      have c0 : wr.cell? ⟨b, off + k, none⟩ = some (bval bsA[k]) := hcell k _ (by rw [List.getElem?_map, List.getElem?_eq_getElem kb]; rfl)
      have hx := BA2.out.b _ (List.getElem_mem kb)
      have TK : Hid ((allRq (bsA.take (k + 1))) = allRq (bsA.take k) ++ bsA[k].rs) := Lib.hid (by
        unfold allRq
        rw [List.take_add_one, List.getElem?_eq_getElem kb, Option.toList_some, List.flatMap_append]
        simp)
      obtain ⟨x, hx'⟩ : ∃ x, x = bsA[k] := ⟨_, rfl⟩
      rw [← hx'] at c0 hx TK
      obtain ⟨xa, xn, xc, xr⟩ := x
      have HX := Lib.hid hx
      have hx8 : xn ≤ 8 := hx.m
      have XL : Hid (xr.length = xn) := Lib.hid hx.l
      unfold bval at c0
      simp only at c0
      have j0 : (0 : Int) ≤ k := by omega
      have j1 : (k : Int) < m1 := by omega
      have v1 : VRow wr xa xn 6 (xr.flatMap rqc) := hx.v.below B.out
      have z1 := B.out.size
      clear hcell hx hx'
      go_wp2_with (at_builtin; refine wpList_app rfl _ _ _ rfl w2.heap.size 33 i0 _ 6 48 Try.underlying29 hi0 hz0 hz1 hz2 rfl (by omega) aA nA cA ((allRq (bsA.take k)).flatMap rqc) rfl OA.out xa xn xc (xr.flatMap rqc) rfl v1 (rqc_one _) (by unfold maxLen; omega) (by omega) z1 ?_; intro a5 c5 w5 h5)
      have o5 := h5.own
      have b5 := h5.below OA.out B.out (Nat.le_refl _) z1
      rw [← List.flatMap_append, ← TK.out] at o5
      have O5 := Lib.hid o5
      have B5 := Lib.hid b5
      clear o5 b5 h5 c0 v1
      go_wp2_with fail
      go_roundw
      case rel => exact ⟨k + 1, nA + xn, a5, c5, by omega, by go_num, rfl, by rw [TK.out, List.length_append, ← NA.out, XL.out], O5.out, B5.out⟩
      case measure => simp [intOf]; omega
    · have hkm : bsA.take k = bsA := List.take_of_length_le (by rw [BA2.out.len]; omega)
      rw [hkm, ← ALL.out] at OA NA
      have B0 := Lib.hid (B2.out.trans (B.out.mono B2.out.size))
      have L3 := Lib.hid (L2.out.below B.out)
      obtain ⟨w3, rfl⟩ : ∃ w3, w3 = wr := ⟨_, rfl⟩
      have wr1 : IntKind.i64.wrap ((nA : Int) + 1) = (nA : Int) + 1 := IntWalk.i64_in _ (by omega)
      clear hkm
      go_wp2_with fail
      refine (within_q at_ ((nA : Int) + 1) _ AT.out (by omega) (by omega)).mono ?_; rintro e w' ⟨qk, rfl, _, qk0, qk1, rfl⟩
      obtain ⟨kk, rfl⟩ := Int.eq_ofNat_of_zero_le qk0
      have hkk : kk ≤ nA := by omega
      have VA := Lib.hid (own_vrow OA.out)
      have LA := Lib.hid (own_lt OA.out)
      have hcap := own_cap OA.out
      have sl1 : ∀ w : World, (Instr.slice 29 (.slice aA nA cA) none (some (.int .i64 kk)) none).run Try.prog w = .ok (.slice aA kk cA) w := to_any (P := Try.prog) 29 33 6 Try.underlying29 (by kernel_rfl) size_req aA nA cA kk hkk hcap
      obtain ⟨A2, sl2, v2⟩ := from_v OA.out Try.underlying29 (by kernel_rfl) size_req kk hkk (kk : Int) rfl
      rw [flat_drop rqc 6 rqc_len] at v2
      have V2 := Lib.hid v2
      have V1 : Hid (VRow w3 aA kk 6 ((all.take kk).flatMap rqc)) := Lib.hid (by
        have := VA.out.take hkk
        rwa [flat_take rqc 6 rqc_len] at this)
      clear v2 qk0 qk1
      have FB : Hid (∀ (A : Option Addr) (c0 c2 : Nat), foldB C [⟨aA, kk, c0, all.take kk⟩, ⟨none, 0, 0, []⟩, ⟨A, nA - kk, c2, all.drop kk⟩] = (E, st1, ct1)) := Lib.hid (fun A c0 c2 => by
        rw [← HE.out]
        unfold foldB allRq
        simp [List.take_append_drop])
      have BR : Hid (∀ w4, Below w3.heap.size w3 w4 → ∀ g, VRow w4 (some ⟨g, 0, none⟩) 3 1 [.slice aA kk cA, .slice none 0 0, .slice A2 (nA - kk) (cA - kk)] → BRowV w4 (some ⟨g, 0, none⟩) 3 [⟨aA, kk, cA, all.take kk⟩, ⟨none, 0, 0, []⟩, ⟨A2, nA - kk, cA - kk, all.drop kk⟩]) := Lib.hid (by
        intro w4 b4 g hv
        have e1 := V1.out.below b4
        have e2 := V2.out.below b4
        have hnA := NA.out
        have h160 := AL160.out
        refine ⟨hv, fun x hx => ?_, by omega, ?_⟩
        · simp only [List.mem_cons, List.not_mem_nil, or_false] at hx
          rcases hx with rfl | rfl | rfl
          · refine ⟨e1, by simp only [List.length_take]; omega, by simp only; omega, fun r hr => AI.out r (List.mem_of_mem_take hr), fun h0 p hp => ?_⟩
            obtain ⟨b, off, e, hlt, _⟩ := e1.2 h0
            rw [show aA = some p from hp] at e
            cases e
            exact hlt
          · exact ⟨⟨rfl, fun h => absurd h (by simp)⟩, rfl, Nat.le_refl _, by simp, fun h => absurd h (by simp)⟩
          · refine ⟨e2, by simp only [List.length_drop]; omega, by simp only; omega, fun r hr => AI.out r (List.mem_of_mem_drop hr), fun h0 p hp => ?_⟩
            obtain ⟨b, off, e, hlt, _⟩ := e2.2 h0
            rw [show A2 = some p from hp] at e
            cases e
            exact hlt
        · unfold allRq
          simp
          omega)
      go_upto_region 11 with fail
      refine wp_region_plan (fun w' => True) 14 (.take 0 (.take 1 (.take 2 (.take 3 (.take 4 (.take 5 (.take 6 (.one 7 (.one 8 (.take 9 (.take 10 (.take 11 (.take 12 (.take 13 .done)))))))))))))) (by kernel_rfl) (by kernel_rfl) (by kernel_rfl) trivial ?_
      intro hS0
      repeat (refine' wpPlan_take rfl (by rfl) (by assumption) ?_ ?_; rotate_left; (· (intro w hSw; (try dsimp only at hSw); go_simp; try with_reducible rfl)); try simp only [Act.put, List.setIfInBounds_toArray, List.set_cons_zero, List.set_cons_succ])
      refine wpPlan_one rfl (fun KT hKT => ?_)
      go_simp
      refine hKT.out _ _ (trivial) (fun _ => ?_); clear hKT KT; try simp only [Act.put, List.setIfInBounds_toArray, List.set_cons_zero, List.set_cons_succ]
      repeat (refine' wpPlan_take rfl (by rfl) (by assumption) ?_ ?_; rotate_left; (· (intro w hSw; (try dsimp only at hSw); go_simp; try with_reducible rfl)); try simp only [Act.put, List.setIfInBounds_toArray, List.set_cons_zero, List.set_cons_succ])
      refine wpPlan_one rfl (fun KT hKT => ?_)
      go_simp
      have b4 : Below w3.heap.size w3 (w3.drew.alloc (.cells #[.slice aA kk cA, .slice none 0 0, .slice A2 (nA - kk) (cA - kk)] 29)) := (Below.refl _ _).drew.alloc (Nat.le_refl _) _
      have v4 : VRow (w3.drew.alloc (.cells #[.slice aA kk cA, .slice none 0 0, .slice A2 (nA - kk) (cA - kk)] 29)) (some ⟨w3.heap.size, 0, none⟩) 3 1 [.slice aA kk cA, .slice none 0 0, .slice A2 (nA - kk) (cA - kk)] := VRow.of_blk (Blk.new w3.drew _ _) rfl
      refine (foldv_c C C1 C4 (some ⟨w3.heap.size, 0, none⟩) 3 3 [⟨aA, kk, cA, all.take kk⟩, ⟨none, 0, 0, []⟩, ⟨A2, nA - kk, cA - kk, all.drop kk⟩] _ (BR.out _ b4 _ v4)).mono ?_
      rintro e w5 ⟨Sy, gy, rfl, hL5, hS5, hb5⟩
      rw [FB.out] at hL5
      have B5 := Lib.hid (b4.trans (hb5.mono b4.size))
      have Y5 : Hid (Led w5 Sy gy C E st1 ct1) := Lib.hid hL5
      clear b4 v4 hL5 hS5 hb5 BR FB
      refine hKT.out _ _ (trivial) (fun _ => ?_); clear hKT KT; try simp only [Act.put, List.setIfInBounds_toArray, List.set_cons_zero, List.set_cons_succ]
      repeat (refine' wpPlan_take rfl (by rfl) (by assumption) ?_ ?_; rotate_left; (· (intro w hSw; (try dsimp only at hSw); go_simp; try with_reducible rfl)); try simp only [Act.put, List.setIfInBounds_toArray, List.set_cons_zero, List.set_cons_succ])
      refine wpPlan_done ?_
      clear sl1 sl2 hS0
      have X5 := Lib.hid (L3.out.below B5.out)
      have VA5 := Lib.hid (VA.out.below B5.out)
      go_wp2_with fail
      refine (lsame_c S gd C Sy gy C E st1 ct1 _ X5.out Y5.out (by rw [NW.out]; omega)).mono ?_; rintro e w6 ⟨rfl, hb6⟩
      have X6 := Lib.hid (X5.out.below hb6)
      have VA6 := Lib.hid (VA5.out.below hb6)
      have B6 := Lib.hid ((B0.out.trans (B5.out.mono B0.out.size)).trans (hb6.mono (B0.out.trans (B5.out.mono B0.out.size)).size))
      clear hb6 Y5 X5 VA5
      go_wp2_with fail
      refine (lall_c S gd C E st1 ct1 _ X6.out nw NW.out (by omega)).mono ?_; rintro e w7 ⟨aw, cw, rfl, ho7, hb7⟩
      have R7 := Lib.hid (own_vrow ho7)
      have X7 := Lib.hid (X6.out.below hb7)
      have VA7 := Lib.hid (VA6.out.below hb7)
      have B7 := Lib.hid (B6.out.trans (hb7.mono B6.out.size))
      clear ho7 hb7 X6 VA6 B6
      go_wp2_with fail
      go_loopw [14, 83] (fun v i wx => ∃ (k : Nat) (aG : Option Addr) (cG : Nat), k ≤ nw ∧ i = .int .i64 k ∧ v = .slice aG k cG ∧ wx.ownsRow w7.heap.size 33 6 (.slice aG k cG) k (((E.take k).map Prod.fst).flatMap rqc) ∧ Below w7.heap.size w7 wx) (fun _ i _ => nw - (intOf i).toNat)
      case atStart => exact ⟨0, none, 0, by omega, rfl, rfl, ⟨rfl, .inl ⟨rfl, rfl⟩⟩, Below.refl _ _⟩
      case round =>
        obtain ⟨k, aG, cG, hk, rfl, rfl, hoG, hb⟩ := hrel
        have OG := Lib.hid hoG
        have B := Lib.hid hb
        clear hoG hb
        by_cases hlt : k < nw
        · obtain ⟨b, off, ha, hbl, ⟨⟨x0, x1, x2, x3, x4, x5⟩, x6⟩, he1, p0, p1, p2, p3, p4, p5, p6⟩ := ent_cells (R7.out.below B.out) NW.out k hlt
          simp only at p0 p1 p2 p3 p4 p5
          have i2 : (0 : Int) ≤ k := by omega
          have i3 : (k : Int) < nw := by omega
          have EK : Hid (((E.take (k + 1)).map Prod.fst).flatMap rqc = ((E.take k).map Prod.fst).flatMap rqc ++ [.int .i64 x0, .int .i64 x1, .int .i64 x2, .int .i64 x3, .int .i64 x4, .int .i64 x5]) := Lib.hid (by
            rw [List.take_add_one, he1, Option.toList_some, List.map_append, List.flatMap_append]
            rfl)
          have z1 := B.out.size
          clear he1 hbl p6
          subst ha
          go_upto_region 20 with (at_builtin; refine wpList_app rfl _ _ _ rfl w7.heap.size 33 i0 _ 6 48 Try.underlying29 hi0 hz0 hz1 hz2 rfl (by omega) aG k cG (((E.take k).map Prod.fst).flatMap rqc) rfl (own_below OG.out ((Below.refl _ _).alloc (Nat.le_refl _) (.cells #[.int .i64 x0, .int .i64 x1, .int .i64 x2, .int .i64 x3, .int .i64 x4, .int .i64 x5] 33))) _ 1 _ [.int .i64 x0, .int .i64 x1, .int .i64 x2, .int .i64 x3, .int .i64 x4, .int .i64 x5] rfl (VRow.of_blk (Blk.new wr 33 #[.int .i64 x0, .int .i64 x1, .int .i64 x2, .int .i64 x3, .int .i64 x4, .int .i64 x5]) rfl) (rqc_one [(x0, x1, x2, x3, x4, x5)]) (by unfold maxLen; omega) (by omega) (Nat.le_trans z1 (by simp)) ?_; intro a8 c8 w8 h8)
          have o8 := h8.own
          have b8 := h8.below (own_below OG.out ((Below.refl _ _).alloc (Nat.le_refl _) (.cells #[.int .i64 x0, .int .i64 x1, .int .i64 x2, .int .i64 x3, .int .i64 x4, .int .i64 x5] 33))) (B.out.alloc z1 (.cells #[.int .i64 x0, .int .i64 x1, .int .i64 x2, .int .i64 x3, .int .i64 x4, .int .i64 x5] 33)) (Nat.le_refl _) (Nat.le_trans z1 (by simp))
          rw [← EK.out] at o8
          have O8 := Lib.hid o8
          have B8 := Lib.hid b8
          clear o8 b8 h8 p0 p1 p2 p3 p4 p5
          go_wp2_with fail
          go_roundw
          case rel => exact ⟨k + 1, a8, c8, by omega, by go_num, rfl, O8.out, B8.out⟩
          case measure => simp [intOf]; omega
        · obtain rfl : k = nw := by omega
          have hkE : E.take k = E := List.take_of_length_le (by rw [NW.out]; omega)
          rw [hkE] at OG
          have XX := Lib.hid (X7.out.below B.out)
          have VAX := Lib.hid (VA7.out.below B.out)
          have RX := Lib.hid (R7.out.below B.out)
          have VG := Lib.hid (own_vrow OG.out)
          have gcap := own_cap OG.out
          have BX := Lib.hid (B7.out.trans (B.out.mono B7.out.size))
          have FB : Hid (foldB C [⟨aG, k, cG, E.map Prod.fst⟩, ⟨aA, nA, cA, all⟩] = (E, st1, ct1)) := Lib.hid (by
            rw [← AGAIN.out]
            unfold foldB allRq
            simp)
          have BR : Hid (∀ w4, Below wr.heap.size wr w4 → ∀ g, VRow w4 (some ⟨g, 0, none⟩) 2 1 [.slice aG k cG, .slice aA nA cA] → BRowV w4 (some ⟨g, 0, none⟩) 2 [⟨aG, k, cG, E.map Prod.fst⟩, ⟨aA, nA, cA, all⟩]) := Lib.hid (by
            intro w4 b4 g hv
            have e1 := VG.out.below b4
            have e2 := VAX.out.below b4
            have hnA := NA.out
            have h160 := AL160.out
            have hnw := NW.out
            refine ⟨hv, fun x hx => ?_, by omega, ?_⟩
            · simp only [List.mem_cons, List.not_mem_nil, or_false] at hx
              rcases hx with rfl | rfl
              · refine ⟨e1, by simp only [List.length_map]; omega, by simp only; omega, fun r hr => ?_, fun h0 p hp => ?_⟩
                · obtain ⟨x, hx, rfl⟩ := List.mem_map.1 hr
                  exact EI.out x hx
                · obtain ⟨b, off, e, hlt, _⟩ := e1.2 h0
                  rw [show aG = some p from hp] at e
                  cases e
                  exact hlt
              · refine ⟨e2, by simp only; omega, by simp only; omega, AI.out, fun h0 p hp => ?_⟩
                obtain ⟨b, off, e, hlt, _⟩ := e2.2 h0
                rw [show aA = some p from hp] at e
                cases e
                exact hlt
            · unfold allRq
              simp
              omega)
          clear hkE
          go_wp2_with fail
          have b4 : Below wr.heap.size wr (wr.alloc (.cells #[.slice aG k cG, .slice aA nA cA] 29)) := (Below.refl _ _).alloc (Nat.le_refl _) _
          have v4 : VRow (wr.alloc (.cells #[.slice aG k cG, .slice aA nA cA] 29)) (some ⟨wr.heap.size, 0, none⟩) 2 1 [.slice aG k cG, .slice aA nA cA] := VRow.of_blk (Blk.new wr _ _) rfl
          refine (foldv_c C C1 C4 (some ⟨wr.heap.size, 0, none⟩) 2 2 [⟨aG, k, cG, E.map Prod.fst⟩, ⟨aA, nA, cA, all⟩] _ (BR.out _ b4 _ v4)).mono ?_
          rintro e w9 ⟨Sz, gz, rfl, hL9, hS9, hb9⟩
          rw [FB.out] at hL9
          have b9 := b4.trans (hb9.mono b4.size)
          have Z9 : Hid (Led w9 Sz gz C E st1 ct1) := Lib.hid hL9
          have X9 := Lib.hid (XX.out.below b9)
          have R9 := Lib.hid (RX.out.below b9)
          have B9 := Lib.hid (BX.out.trans (b9.mono BX.out.size))
          clear b4 v4 hL9 hS9 hb9 b9 BR FB
          go_wp2_with fail
          refine (lsame_c Sz gz C S gd C E st1 ct1 _ Z9.out X9.out (by rw [NW.out]; omega)).mono ?_; rintro e wa ⟨rfl, hba⟩
          have Za := Lib.hid (Z9.out.below hba)
          have Ra := Lib.hid (R9.out.below hba)
          have Ba := Lib.hid (B9.out.trans (hba.mono B9.out.size))
          clear hba
          go_wp2_with fail
          refine (lall_c Sz gz C E st1 ct1 _ Za.out k NW.out (by omega)).mono ?_; rintro e wb ⟨ab, cb, rfl, hob, hbb⟩
          have Vb := Lib.hid (own_vrow hob)
          have Rb := Lib.hid (Ra.out.below hbb)
          have Bb := Lib.hid (Ba.out.trans (hbb.mono Ba.out.size))
          clear hob hbb
          go_wp2_with fail
          refine (same_ent_c ab k cb aw k cw E _ Vb.out Rb.out NW.out NW.out (by omega)).mono ?_; rintro e wc ⟨rfl, hbc⟩
          have Bc := Lib.hid (Bb.out.trans (hbc.mono Bb.out.size))
          clear hbc
          go_wp2_with fail
          refine (lwakes_c _).mono ?_; rintro e wd ⟨rfl, hbd⟩
          go_wp2_with fail
          go_ret
          exact ⟨rfl, Bc.out.trans (hbd.mono Bc.out.size)⟩

set_option maxRecDepth 100000 in
theorem lawWalk : LawWalk Try.checked 11 Try.f11 := by
  intro H enc W base args ds p hval hA hsz
  rw [Try.params11] at hA hval
  obtain ⟨v0, vs0, d0, ds0, p0, q0, hargs, rfl, rfl, h0, r0⟩ := trodAll_cons hA
  obtain ⟨v1, vs1, d1, ds1, p1, q1, rfl, rfl, rfl, h1, r1⟩ := trodAll_cons r0
  obtain ⟨v2, vs2, d2, ds2, p2, q2, rfl, rfl, rfl, h2, r2⟩ := trodAll_cons r1
  obtain ⟨rfl, rfl, rfl⟩ := trodAll_nil r2
  obtain rfl : args = #[v0, v1, v2] := by cases args; simp_all
  obtain ⟨a0, rfl, rfl, rfl, w0⟩ := open_int Try.underlying3 (hval 0 3 v0 rfl rfl) h0
  obtain ⟨a1, n1, c1, R1, rfl, hnc1, hcm1, hr1⟩ := open_rows2 (k := 6) Try.underlying22 Try.underlying29 (by kernel_rfl) (by kernel_rfl) (by decide) (by kernel_rfl) (hval 1 22 v1 rfl rfl) h1
  obtain ⟨a2, rfl, rfl, rfl, w2⟩ := open_int Try.underlying3 (hval 2 3 v2 rfl rfl) h2
  exact walk a0 a1 n1 c1 R1 a2 W (I64.of_wf w0) hr1 (Nat.le_trans hnc1 hcm1) hnc1 (I64.of_wf w2)

theorem lifted (os : Os) (started : os.Started) (H : Type) (enc : TypeId × Value → H) :
    ReturnsInHanded {} Try.checked os 11 .any (Rows.ledgerFoldsSpec.pre6 enc Try.prog Try.f11 Rows.ledgerFoldsRow.domain false) (Rows.ledgerFoldsSpec.post enc Try.prog Try.f11 false true false false) :=
  law_lift (C := Try.checked) (s := Rows.ledgerFoldsSpec) (tb := 4) (by kernel_rfl) started (by kernel_rfl) Try.func11
    (ChangeSpec.witness6 (enc := enc) (C := Try.checked) false ⟨#[], #[.int .i64 0, .slice none 0 0, .int .i64 0], []⟩ 8 (by kernel_rfl) (by kernel_rfl) (by kernel_rfl) (by kernel_rfl))
    rfl (fun H ds h => by
      match ds, h with
      | [d0, d1, d2], _ => rfl) (by kernel_rfl) (by kernel_rfl) (by kernel_rfl) Try.underlying4 lawWalk

theorem over : Rows.ledgerFoldsRow.holds Try.pinned (OpenSpec.ofChange Rows.ledgerFoldsSpec) :=
  OpenClaim.holds_of_wide 11 Try.f11 rfl rfl rfl rfl rfl rfl rfl ⟨rfl, rfl, rfl, rfl, rfl⟩ rfl rfl rfl rfl rfl (by kernel_rfl) Try.func11 (by kernel_rfl)
    (of_decide_eq_true (by kernel_rfl)) (by unfold Func.isWrapper; first | (rw [if_pos (by decide +kernel)]; kernel_rfl) | (rw [if_neg (by decide +kernel)]; exact ⟨rfl, rfl⟩))
    (fun os started H enc _ => lifted os started H enc)

/-- The statement. -/
theorem proved : Rows.LedgerFoldsSaid := over
#print axioms proved

end Go.Proofs.Ytfhlcjfgbhmecaa.LedgerFolds
