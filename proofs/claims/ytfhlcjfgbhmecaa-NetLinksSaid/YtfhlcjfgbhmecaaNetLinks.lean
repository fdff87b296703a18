/- NetLinks: for every list of ends the law returns true: those links that have messages are told, by rising ends; each has its own order. No condition. -/
import Derived.Test.YtfhlcjfgbhmecaaNetLinksA
import Derived.Test.YtfhlcjfgbhmecaaPlan
import Derived.Test.YtfhlcjfgbhmecaaSameB
import Derived.Test.YtfhlcjfgbhmecaaRows
import Derived.Deep.CutRange
import Derived.Deep.DeepCutAuto
import Derived.Deep.CutBlock
import Derived.BigQuiet
namespace Go.Proofs.Ytfhlcjfgbhmecaa.NetLinks
open Go.RowKit Go.ChangeShapes Go.WideShapes Go.ChangeAt
open Go.ChangeMaps (setBlock heap_setBlock_same)
set_option linter.unusedVariables false

theorem chain_up (cnt : Nat → Nat) (k : Nat) : upq (fun j => chain (cnt j)) k (chain (cnt k) ++ [[(cnt k : Int)]]) = fun j => chain (upq cnt k (cnt k + 1) j) := by
  funext j
  unfold upq
  split
  · rename_i e; rw [chain_succ]
  · rfl
theorem upq_upq {α : Type} (f : Nat → α) (k : Nat) (x y : α) : upq (upq f k x) k y = upq f k y := by
  funext j
  unfold upq
  split <;> rfl
theorem chain_drop (c j : Nat) (h : j < c) : (chain c).drop j = [(j : Int)] :: (chain c).drop (j + 1) := by
  have hl : j < (chain c).length := by rw [chain_len]; exact h
  rw [List.drop_eq_getElem_cons hl]
  have := chain_get c j h
  rw [List.getElem?_eq_getElem hl] at this
  rw [Option.some.inj this]
theorem chain_left (cnt : Nat → Nat) (i : Nat) (hi : i < (idx cnt 36).length) : upq (fun j => chain (left_ cnt i j)) ((idx cnt 36)[i]) [] = fun j => chain (left_ cnt (i + 1) j) := by
  funext j
  rw [left_succ cnt hi]
  unfold upq
  split <;> rfl
theorem upq_id {α : Type} (f : Nat → α) (k : Nat) : upq f k (f k) = f := by
  funext j
  unfold upq
  split
  · rename_i e; rw [e]
  · rfl
/-- The fill. -/
structure Fil (w wr : World) (gn bm T : Nat) (K : List ((Int × Int) × Int)) (cnt : Nat → Nat) : Prop where
  net : Nw w wr gn (fun k => chain (cnt k))
  map : CMap wr bm K
  cnt : Cnt K cnt T
  ge : w.heap.size ≤ bm
theorem Fil.later {w wr w' : World} {gn bm T : Nat} {K : List ((Int × Int) × Int)} {cnt : Nat → Nat} (h : Fil w wr gn bm T K cnt) (hb : Below wr.heap.size wr w') : Fil w w' gn bm T K cnt := ⟨h.net.later hb, h.map.below hb, h.cnt, h.ge⟩
set_option maxRecDepth 100000 in
set_option maxHeartbeats 6400000 in
theorem walk (a0 : Option Addr) (n c0 : Nat) (xs : List Int) (w : World) (hr : IntRow w a0 n xs) (hm : n ≤ maxLen) (hx : ∀ x ∈ xs, I64 x) :
    Calls Try.prog 10 #[.slice a0 n c0] w fun e w' => e = .returned (.bool true) ∧ Below w.heap.size w w' := by
  have hmm := @run_makeMap Try.prog
  unfold maxLen at hm
  have HR := Lib.hid hr
  have HX := Lib.hid hx
  clear hr hx
  go_enter Try.func10, Try.ntmps10
  go_wp2_with fail
  refine (cfg_c _).mono ?_; rintro e w1 ⟨rfl, hb1⟩
  go_wp2_with fail
  refine (nnew_a 64 (by omega) _).mono ?_; rintro e w2 ⟨gn, qq, g, rfl, hn2, hb2, -, hq2⟩
  have N2 : Hid (Nw w w2 gn (fun k => chain ((fun _ => 0) k))) := Lib.hid ⟨⟨_, qq, g, _, _, hn2, fun k => rfl, fun k => rfl, fun k hk => ⟨Nat.le_trans hb1.size (hq2 k hk).1, Nat.le_trans hb1.size (hq2 k hk).2⟩⟩, hb1.trans (hb2.mono hb1.size)⟩
  clear hb1 hb2 hn2 hq2
  by_cases hbig : 40 < n
  · have i1 : (40 : Int) < n := by omega
    go_wp2_with fail
    refine (nwakes_c _).mono ?_; rintro e w3 ⟨rfl, hb3⟩
    have B3 := Lib.hid (N2.out.below.trans (hb3.mono N2.out.below.size))
    clear hb3
    go_wp2_with fail
    go_ret
    exact ⟨by first | rfl | trivial, B3.out⟩
  · have i1 : ¬ (40 : Int) < n := by omega
    go_upto_region 5 with fail
    obtain ⟨w3, hw3⟩ : ∃ w3, w3 = w2.alloc (.map #[] 0) := ⟨_, rfl⟩
    obtain ⟨bm, hbm⟩ : ∃ g, g = w2.heap.size := ⟨_, rfl⟩
    rw [← hw3, ← hbm]
    have F3 : Hid (Fil w w3 gn bm 0 [] (fun _ => 0)) := Lib.hid (by
      have b3 : Below w2.heap.size w2 w3 := by rw [hw3]; exact (Below.refl _ _).alloc (Nat.le_refl _) _
      exact ⟨N2.out.later b3, by rw [hw3, hbm]; exact CMap.made w2, Cnt.nil, by rw [hbm]; exact N2.out.below.size⟩)
    clear hw3 hbm N2 i1
    go_upto_block 0 with fail
    go_cut [6] (fun s wx => ∃ T K cnt, Fil w wx gn bm T K cnt ∧ T ≤ n)
    case first =>
      go_wp2_with fail
      go_loopw [6] (fun s wr => ∃ (k t T : Nat) (K : List ((Int × Int) × Int)) (cnt : Nat → Nat), k = 2 * t ∧ s = .int .i64 (k : Int) ∧ T ≤ t ∧ k ≤ n ∧ Fil w wr gn bm T K cnt) (fun s _ => n - (intOf s).toNat)
      case atStart => exact ⟨0, 0, 0, _, _, rfl, rfl, Nat.le_refl _, by omega, F3.out⟩
      case round =>
        obtain ⟨k, t, T, K, cnt, hkt, rfl, hT, hkn, hf⟩ := hrel
        have HF := Lib.hid hf
        have HKT := Lib.hid hkt
        have e0 : IntKind.i64.wrap ((k : Int) + 1) = (k : Int) + 1 := IntWalk.i64_in _ (by omega)
        have e2 : IntKind.i64.wrap ((k : Int) + 2) = (k : Int) + 2 := IntWalk.i64_in _ (by omega)
        clear hf hkt
        obtain ⟨wo, rfl⟩ : ∃ wo, wo = wr := ⟨_, rfl⟩
        by_cases hlt : k + 1 < n
        · have i1 : (k : Int) + 1 < n := by omega
          have i0 : (0 : Int) ≤ k := by omega
          have i2 : (k : Int) < n := by omega
          have i3 : (0 : Int) ≤ (k : Int) + 1 := by omega
          obtain ⟨ge, off, rfl, hlt2, hcell⟩ := HR.out.2 (by omega)
          have hxl := HR.out.1
          obtain ⟨x, hxx⟩ : ∃ x, x = xs.getD k 0 := ⟨_, rfl⟩
          obtain ⟨y, hyy⟩ : ∃ y, y = xs.getD (k + 1) 0 := ⟨_, rfl⟩
          have cx : w.cell? ⟨ge, off + k, none⟩ = some (.int .i64 x) := by rw [hxx]; exact hcell k (by omega)
          have cy : w.cell? ⟨ge, off + (k + 1), none⟩ = some (.int .i64 y) := by rw [hyy]; exact hcell (k + 1) (by omega)
          have X1 : Hid (I64 x ∧ I64 y) := Lib.hid (by
            rw [hxx, hyy]
            rw [show xs.getD k 0 = xs[k]'(by omega) by simp [List.getD, List.getElem?_eq_getElem (show k < xs.length by omega)], show xs.getD (k + 1) 0 = xs[k + 1]'(by omega) by simp [List.getD, List.getElem?_eq_getElem (show k + 1 < xs.length by omega)]]
            exact ⟨HX.out _ (List.getElem_mem _), HX.out _ (List.getElem_mem _)⟩)
          have KS : ∀ w', Below w.heap.size w w' → w'.cell? ⟨ge, off + k, none⟩ = some (.int .i64 x) ∧ w'.cell? ⟨ge, off + (k + 1), none⟩ = some (.int .i64 y) := fun w' o => ⟨(o.cell (p := ⟨ge, off + k, none⟩) hlt2).trans cx, (o.cell (p := ⟨ge, off + (k + 1), none⟩) hlt2).trans cy⟩
          clear hcell hxl hxx hyy cx cy hlt2
          go_upto_region 8 with fail
          go_cut [7] from 48 to 59 (fun s7 wx => ∃ (pb a b : Nat), s7 = .pointer (some ⟨pb, 0, none⟩) ∧ a < 4 ∧ b < 4 ∧ Blk wx pb 75 #[.int .i64 a, .int .i64 b] ∧ wo.heap.size ≤ pb ∧ Below wo.heap.size wo wx)
          case first =>
            have B0 : Below w.heap.size w wo.drew := HF.out.net.below.drew
            refine wp_region_plan (fun w' => w'.cell? ⟨ge, off + k, none⟩ = some (.int .i64 x) ∧ w'.cell? ⟨ge, off + (k + 1), none⟩ = some (.int .i64 y)) 13 (.take 0 (.take 1 (.take 2 (.take 3 (.take 5 (.take 6 (.take 7 (.take 8 (.take 9 (.two 4 (.two 10 (.take 11 (.one 12 (.one 13 .done))) 12 (.one 10 (.take 11 (.one 13 .done)))) 12 (.one 4 (.one 10 (.take 11 (.one 13 .done)))))))))))))) (by kernel_rfl) (by kernel_rfl) (by kernel_rfl) (KS _ B0) ?_
            intro hS0
            obtain ⟨v0, hv0⟩ : ∃ v, v = wo.drew := ⟨_, rfl⟩
            rw [← hv0] at hS0 B0 ⊢
            have HV0 := Lib.hid hv0
            clear hv0
            repeat (refine' wpPlan_take rfl (by rfl) (by assumption) ?_ ?_; rotate_left; (· (intro w hSw; (try dsimp only at hSw); go_simp; try with_reducible rfl)); try simp only [Act.put, List.setIfInBounds_toArray, List.set_cons_zero, List.set_cons_succ])
            refine wpPlan_two ?_ ?_
            · skip
              refine wpPlan_one rfl (fun KT hKT => ?_)
              go_simp
              refine (within_q x 4 _ X1.out.1 (by omega) (by omega)).mono ?_; rintro e w' ⟨p, rfl, -, p0, p4, rfl⟩
              obtain ⟨pn, rfl⟩ := Int.eq_ofNat_of_zero_le p0
              refine hKT.out _ _ (KS _ B0) (fun _ => ?_); clear hKT KT; try simp only [Act.put, List.setIfInBounds_toArray, List.set_cons_zero, List.set_cons_succ]
              repeat (refine' wpPlan_take rfl (by rfl) (by assumption) ?_ ?_; rotate_left; (· (intro w hSw; (try dsimp only at hSw); go_simp; try with_reducible rfl)); try simp only [Act.put, List.setIfInBounds_toArray, List.set_cons_zero, List.set_cons_succ])
              refine wpPlan_two ?_ ?_
              · skip
                refine wpPlan_one rfl (fun KT hKT => ?_)
                go_simp
                refine (within_q y 4 _ X1.out.2 (by omega) (by omega)).mono ?_; rintro e w' ⟨q, rfl, -, q0, q4, rfl⟩
                obtain ⟨qn, rfl⟩ := Int.eq_ofNat_of_zero_le q0
                refine hKT.out _ _ (KS _ B0) (fun _ => ?_); clear hKT KT; try simp only [Act.put, List.setIfInBounds_toArray, List.set_cons_zero, List.set_cons_succ]
                repeat (refine' wpPlan_take rfl (by rfl) (by assumption) ?_ ?_; rotate_left; (· (intro w hSw; (try dsimp only at hSw); go_simp; try with_reducible rfl)); try simp only [Act.put, List.setIfInBounds_toArray, List.set_cons_zero, List.set_cons_succ])
                refine wpPlan_one rfl (fun KT hKT => ?_)
                go_simp
                refine hKT.out _ _ (KS _ (B0.alloc B0.size _)) (fun _ => ?_); clear hKT KT; try simp only [Act.put, List.setIfInBounds_toArray, List.set_cons_zero, List.set_cons_succ]
                repeat (refine' wpPlan_take rfl (by rfl) (by assumption) ?_ ?_; rotate_left; (· (intro w hSw; (try dsimp only at hSw); go_simp; try with_reducible rfl)); try simp only [Act.put, List.setIfInBounds_toArray, List.set_cons_zero, List.set_cons_succ])
                refine wpPlan_last rfl (fun KT hKT => ?_)
                have hk := Blk.new v0 75 #[.int .i64 0, .int .i64 0]
                have z0 : (v0.alloc (.cells #[.int .i64 0, .int .i64 0] 75)).cell? ⟨v0.heap.size, 0, none⟩ = some (.int .i64 0) := hk.cell 0
                have z1 : (v0.alloc (.cells #[.int .i64 0, .int .i64 0] 75)).cell? ⟨v0.heap.size, 1, none⟩ = some (.int .i64 0) := hk.cell 1
                have f0 := hk.frozen 0
                have f1 := hk.frozen 1
                go_simp
                refine hKT.out _ _ ?_; clear hKT KT; try simp only [Act.put, List.setIfInBounds_toArray, List.set_cons_zero, List.set_cons_succ]
                refine wpPlan_done ?_
                clear f0 f1 z0 z1
                go_wp2_with fail
                go_meet
                refine ⟨v0.heap.size, pn, qn, rfl, by omega, by omega, Blk.new v0 75 #[.int .i64 pn, .int .i64 qn], ?_, ?_⟩
                · rw [HV0.out]; exact Nat.le_refl _
                · have e := (Below.refl wo.heap.size wo).drew.alloc (by simp) (.cells #[.int .i64 pn, .int .i64 qn] 75)
                  rw [← HV0.out] at e
                  exact e
              · skip
                refine wpPlan_one rfl (fun KT hKT => ?_)
                go_simp
                refine hKT.out _ _ (KS _ (B0.alloc B0.size _)) (fun _ => ?_); clear hKT KT; try simp only [Act.put, List.setIfInBounds_toArray, List.set_cons_zero, List.set_cons_succ]
                repeat (refine' wpPlan_take rfl (by rfl) (by assumption) ?_ ?_; rotate_left; (· (intro w hSw; (try dsimp only at hSw); go_simp; try with_reducible rfl)); try simp only [Act.put, List.setIfInBounds_toArray, List.set_cons_zero, List.set_cons_succ])
                refine wpPlan_one rfl (fun KT hKT => ?_)
                go_simp
                refine (within_q y 4 _ X1.out.2 (by omega) (by omega)).mono ?_; rintro e w' ⟨q, rfl, -, q0, q4, rfl⟩
                obtain ⟨qn, rfl⟩ := Int.eq_ofNat_of_zero_le q0
                refine hKT.out _ _ (KS _ (B0.alloc B0.size _)) (fun _ => ?_); clear hKT KT; try simp only [Act.put, List.setIfInBounds_toArray, List.set_cons_zero, List.set_cons_succ]
                repeat (refine' wpPlan_take rfl (by rfl) (by assumption) ?_ ?_; rotate_left; (· (intro w hSw; (try dsimp only at hSw); go_simp; try with_reducible rfl)); try simp only [Act.put, List.setIfInBounds_toArray, List.set_cons_zero, List.set_cons_succ])
                refine wpPlan_last rfl (fun KT hKT => ?_)
                have hk := Blk.new v0 75 #[.int .i64 0, .int .i64 0]
                have z0 : (v0.alloc (.cells #[.int .i64 0, .int .i64 0] 75)).cell? ⟨v0.heap.size, 0, none⟩ = some (.int .i64 0) := hk.cell 0
                have z1 : (v0.alloc (.cells #[.int .i64 0, .int .i64 0] 75)).cell? ⟨v0.heap.size, 1, none⟩ = some (.int .i64 0) := hk.cell 1
                have f0 := hk.frozen 0
                have f1 := hk.frozen 1
                go_simp
                refine hKT.out _ _ ?_; clear hKT KT; try simp only [Act.put, List.setIfInBounds_toArray, List.set_cons_zero, List.set_cons_succ]
                refine wpPlan_done ?_
                clear f0 f1 z0 z1
                go_wp2_with fail
                go_meet
                refine ⟨v0.heap.size, pn, qn, rfl, by omega, by omega, Blk.new v0 75 #[.int .i64 pn, .int .i64 qn], ?_, ?_⟩
                · rw [HV0.out]; exact Nat.le_refl _
                · have e := (Below.refl wo.heap.size wo).drew.alloc (by simp) (.cells #[.int .i64 pn, .int .i64 qn] 75)
                  rw [← HV0.out] at e
                  exact e
            · skip
              refine wpPlan_one rfl (fun KT hKT => ?_)
              go_simp
              refine hKT.out _ _ (KS _ (B0.alloc B0.size _)) (fun _ => ?_); clear hKT KT; try simp only [Act.put, List.setIfInBounds_toArray, List.set_cons_zero, List.set_cons_succ]
              repeat (refine' wpPlan_take rfl (by rfl) (by assumption) ?_ ?_; rotate_left; (· (intro w hSw; (try dsimp only at hSw); go_simp; try with_reducible rfl)); try simp only [Act.put, List.setIfInBounds_toArray, List.set_cons_zero, List.set_cons_succ])
              refine wpPlan_one rfl (fun KT hKT => ?_)
              go_simp
              refine (within_q x 4 _ X1.out.1 (by omega) (by omega)).mono ?_; rintro e w' ⟨p, rfl, -, p0, p4, rfl⟩
              obtain ⟨pn, rfl⟩ := Int.eq_ofNat_of_zero_le p0
              refine hKT.out _ _ (KS _ (B0.alloc B0.size _)) (fun _ => ?_); clear hKT KT; try simp only [Act.put, List.setIfInBounds_toArray, List.set_cons_zero, List.set_cons_succ]
              repeat (refine' wpPlan_take rfl (by rfl) (by assumption) ?_ ?_; rotate_left; (· (intro w hSw; (try dsimp only at hSw); go_simp; try with_reducible rfl)); try simp only [Act.put, List.setIfInBounds_toArray, List.set_cons_zero, List.set_cons_succ])
              refine wpPlan_one rfl (fun KT hKT => ?_)
              go_simp
              refine (within_q y 4 _ X1.out.2 (by omega) (by omega)).mono ?_; rintro e w' ⟨q, rfl, -, q0, q4, rfl⟩
              obtain ⟨qn, rfl⟩ := Int.eq_ofNat_of_zero_le q0
              refine hKT.out _ _ (KS _ (B0.alloc B0.size _)) (fun _ => ?_); clear hKT KT; try simp only [Act.put, List.setIfInBounds_toArray, List.set_cons_zero, List.set_cons_succ]
              repeat (refine' wpPlan_take rfl (by rfl) (by assumption) ?_ ?_; rotate_left; (· (intro w hSw; (try dsimp only at hSw); go_simp; try with_reducible rfl)); try simp only [Act.put, List.setIfInBounds_toArray, List.set_cons_zero, List.set_cons_succ])
              refine wpPlan_last rfl (fun KT hKT => ?_)
              have hk := Blk.new v0 75 #[.int .i64 0, .int .i64 0]
              have z0 : (v0.alloc (.cells #[.int .i64 0, .int .i64 0] 75)).cell? ⟨v0.heap.size, 0, none⟩ = some (.int .i64 0) := hk.cell 0
              have z1 : (v0.alloc (.cells #[.int .i64 0, .int .i64 0] 75)).cell? ⟨v0.heap.size, 1, none⟩ = some (.int .i64 0) := hk.cell 1
              have f0 := hk.frozen 0
              have f1 := hk.frozen 1
              go_simp
              refine hKT.out _ _ ?_; clear hKT KT; try simp only [Act.put, List.setIfInBounds_toArray, List.set_cons_zero, List.set_cons_succ]
              refine wpPlan_done ?_
              clear f0 f1 z0 z1
              go_wp2_with fail
              go_meet
              refine ⟨v0.heap.size, pn, qn, rfl, by omega, by omega, Blk.new v0 75 #[.int .i64 pn, .int .i64 qn], ?_, ?_⟩
              · rw [HV0.out]; exact Nat.le_refl _
              · have e := (Below.refl wo.heap.size wo).drew.alloc (by simp) (.cells #[.int .i64 pn, .int .i64 qn] 75)
                rw [← HV0.out] at e
                exact e
          case rest =>
            obtain ⟨pb, a, b, rfl, ha, hb, hp, hge, hbb⟩ := hcut
            have F4 := Lib.hid (HF.out.later hbb)
            have P4 := Lib.hid hp
            obtain ⟨c, hc⟩ : ∃ c, c = cnt (a * 6 + b) := ⟨_, rfl⟩
            have HC := Lib.hid hc
            have hcT : c ≤ T := by
              have e1 := tot_le cnt (k := a * 6 + b) 36 (by omega)
              rw [F4.out.cnt.tot, ← hc] at e1
              exact e1
            have KS9 : ∀ w', Aside wc w' → w'.cell? ⟨pb, 0, none⟩ = some (.int .i64 a) ∧ w'.cell? ⟨pb, 1, none⟩ = some (.int .i64 b) ∧ (Instr.lookup 74 (.map (some bm)) (.agg #[.int .i64 a, .int .i64 b]) false).run Try.prog w' = .ok (.int .i64 c) w' := fun w' o => by
              have hb4 := o.blk P4.out (by decide) (by decide)
              have hl4 := (o.map F4.out.map).look (p := ((a : Int), (b : Int))) ⟨by simp only [I64]; omega, by simp only [I64]; omega⟩
              rw [F4.out.cnt.at_ a b ha hb, ← HC.out] at hl4
              exact ⟨hb4.cell 0, hb4.cell 1, hl4⟩
            have hc20 : c ≤ 20 := by have := HKT.out; omega
            have ec : IntKind.u8.wrap (c : Int) = c := IntWalk.u8_in _ (by omega)
            have e3 : IntKind.i64.wrap ((c : Int) + 1) = (c : Int) + 1 := IntWalk.i64_in _ (by omega)
            have HCT := Lib.hid hc20
            clear hc hcT hc20 hp hge hbb HF KS X1 i0 i2 i3 HR
            go_upto_region 9 with fail
            refine wp_region_plan (fun w' => w'.cell? ⟨pb, 0, none⟩ = some (.int .i64 a) ∧ w'.cell? ⟨pb, 1, none⟩ = some (.int .i64 b) ∧ (Instr.lookup 74 (.map (some bm)) (.agg #[.int .i64 a, .int .i64 b]) false).run Try.prog w' = .ok (.int .i64 c) w') 18 (.take 0 (.take 1 (.take 2 (.take 3 (.take 4 (.take 5 (.take 6 (.take 12 (.take 13 (.take 14 (.take 15 (.take 16 (.one 7 (.take 8 (.one 9 (.take 10 (.one 11 (.take 17 .done)))))))))))))))))) (by kernel_rfl) (by kernel_rfl) (by kernel_rfl) (KS9 _ (Aside.below (Below.refl _ _).drew)) ?_
            intro hS0
            obtain ⟨v0, hv0⟩ : ∃ v, v = wc.drew := ⟨_, rfl⟩
            have B0 : Below wc.heap.size wc v0 := by rw [hv0]; exact (Below.refl _ _).drew
            rw [← hv0] at hS0 ⊢
            clear hv0
            repeat (refine' wpPlan_take rfl (by rfl) (by assumption) ?_ ?_; rotate_left; (· (intro w hSw; (try dsimp only at hSw); go_simp; try with_reducible rfl)); try simp only [Act.put, List.setIfInBounds_toArray, List.set_cons_zero, List.set_cons_succ])
            obtain ⟨s0, s1, s2⟩ := hS0
            refine wpPlan_one rfl (fun KT hKT => ?_)
            go_simp
            refine hKT.out _ _ (KS9 _ (Aside.below B0)) (fun _ => ?_); clear hKT KT; try simp only [Act.put, List.setIfInBounds_toArray, List.set_cons_zero, List.set_cons_succ]
            repeat (refine' wpPlan_take rfl (by rfl) (by assumption) ?_ ?_; rotate_left; (· (intro w hSw; (try dsimp only at hSw); go_simp; try with_reducible rfl)); try simp only [Act.put, List.setIfInBounds_toArray, List.set_cons_zero, List.set_cons_succ])
            clear s0 s1 s2
            refine wpPlan_one rfl (fun KT hKT => ?_)
            go_simp
            have B1 := B0.alloc B0.size (.cells #[.int .u8 c] 5)
            have V1 := VRow.of_blk (n := 1) (s := 1) (Blk.new v0 5 #[.int .u8 c]) rfl
            refine hKT.out _ _ (KS9 _ (Aside.below B1)) (fun _ => ?_); clear hKT KT; try simp only [Act.put, List.setIfInBounds_toArray, List.set_cons_zero, List.set_cons_succ]
            repeat (refine' wpPlan_take rfl (by rfl) (by assumption) ?_ ?_; rotate_left; (· (intro w hSw; (try dsimp only at hSw); go_simp; try with_reducible rfl)); try simp only [Act.put, List.setIfInBounds_toArray, List.set_cons_zero, List.set_cons_succ])
            by_cases hab : a = b
            · subst hab
              refine wpPlan_one rfl (fun KT hKT => ?_)
              go_simp
              obtain ⟨BB, qq', g', lost', ms', h1, h2, h3, h4⟩ := (F4.out.net.later B1).ex
              refine (npush_none a a _ 1 1 _ h1 (by omega) (six_no a a ha rfl)).mono ?_; rintro e w9 ⟨rfl, hb9⟩
              clear h1 h2 h3 h4
              have B9 : Below wc.heap.size wc w9 := B1.trans (hb9.mono B1.size)
              have F9 := Lib.hid (F4.out.later B9)
              refine hKT.out _ _ (KS9 _ (Aside.below B9)) (fun _ => ?_); clear hKT KT; try simp only [Act.put, List.setIfInBounds_toArray, List.set_cons_zero, List.set_cons_succ]
              repeat (refine' wpPlan_take rfl (by rfl) (by assumption) ?_ ?_; rotate_left; (· (intro w hSw; (try dsimp only at hSw); go_simp; try with_reducible rfl)); try simp only [Act.put, List.setIfInBounds_toArray, List.set_cons_zero, List.set_cons_succ])
              refine wpPlan_done ?_
              obtain ⟨s0, s1, s2⟩ := KS9 _ (Aside.below B9)
              clear KS9 B0 B1 V1 hb9 B9 s2
              go_wp2_with fail
              go_roundw
              case rel => exact ⟨k + 2, t + 1, T, K, cnt, by have := HKT.out; omega, by go_num, by omega, by omega, F9.out⟩
              case measure => simp [intOf]; omega
            · have n1 : ¬ (a : Int) = b := by omega
              have n2 : ((a : Int) == b) = false := beq_eq_false_iff_ne.2 n1
              have n3 : ((a : Int) != b) = true := by rw [bne, n2]; rfl
              refine wpPlan_one rfl (fun KT hKT => ?_)
              go_simp
              refine (nw_push (F4.out.net.later B1) a b ha hb hab _ 1 c V1 (by rw [chain_len, ← HC.out]; have := HCT.out; omega)).mono ?_; rintro e w9 ⟨rfl, hn9, ha9⟩
              have A9 : Aside wc w9 := (Aside.below B1).trans ha9
              rw [show (chain (cnt (a * 6 + b)) ++ [[(c : Int)]]) = chain (cnt (a * 6 + b)) ++ [[(cnt (a * 6 + b) : Int)]] by rw [← HC.out], chain_up] at hn9
              have N9 := Lib.hid hn9
              have M9 := Lib.hid (A9.map F4.out.map)
              refine hKT.out _ _ (KS9 _ A9) (fun _ => ?_); clear hKT KT; try simp only [Act.put, List.setIfInBounds_toArray, List.set_cons_zero, List.set_cons_succ]
              repeat (refine' wpPlan_take rfl (by rfl) (by assumption) ?_ ?_; rotate_left; (· (intro w hSw; (try dsimp only at hSw); go_simp; try with_reducible rfl)); try simp only [Act.put, List.setIfInBounds_toArray, List.set_cons_zero, List.set_cons_succ])
              refine wpPlan_done ?_
              obtain ⟨s0, s1, s2⟩ := KS9 _ A9
              have KS12 : ∀ w', Aside w9 w' → w'.cell? ⟨pb, 0, none⟩ = some (.int .i64 a) ∧ w'.cell? ⟨pb, 1, none⟩ = some (.int .i64 b) ∧ (Instr.lookup 74 (.map (some bm)) (.agg #[.int .i64 a, .int .i64 b]) false).run Try.prog w' = .ok (.int .i64 c) w' := fun w' o => KS9 w' (A9.trans o)
              have KK := Lib.hid KS12
              clear KS9 KS12 B0 B1 V1 hn9 ha9 A9 s2
              go_upto_region 12 with fail
              have hS1 := KK.out _ (Aside.below (Below.refl w9.heap.size w9).drew)
              obtain ⟨v9, hv9⟩ : ∃ v, v = w9.drew := ⟨_, rfl⟩
              have M10 : CMap v9 bm K := by rw [hv9]; exact M9.out.below (Below.refl _ _).drew
              have N10 : Hid (Nw w v9 gn (fun j => chain (upq cnt (a * 6 + b) (cnt (a * 6 + b) + 1) j))) := Lib.hid (by rw [hv9]; exact N9.out.later (Below.refl _ _).drew)
              obtain ⟨K', w10, hK', h10, m10, o10⟩ : ∃ K' w10, Cnt K' (upq cnt (a * 6 + b) (cnt (a * 6 + b) + 1)) (T + 1) ∧ (Instr.mapUpdate 74 (.map (some bm)) (.agg #[.int .i64 a, .int .i64 b]) (.int .i64 ((c : Int) + 1))).run Try.prog v9 = .ok () w10 ∧ CMap w10 bm K' ∧ Only [bm] v9 w10 := by
                have hok : OkP ((a : Int), (b : Int)) := ⟨by simp only [I64]; omega, by simp only [I64]; omega⟩
                by_cases h0 : c = 0
                · obtain ⟨w10, x1, x2, x3⟩ := M10.put hok (fun hh => by have := (F4.out.cnt.has a b ha hb).1 hh; have := HC.out; omega) ((c : Int) + 1)
                  exact ⟨_, w10, F4.out.cnt.put ha hb hab _ (.inl ⟨by rw [← HC.out]; exact h0, by rw [h0]; rfl⟩), x1, x2, x3⟩
                · obtain ⟨w10, x1, x2, x3⟩ := M10.put_old hok ((F4.out.cnt.has a b ha hb).2 (by rw [← HC.out]; omega)) ((c : Int) + 1)
                  exact ⟨_, w10, F4.out.cnt.put ha hb hab _ (.inr ⟨by rw [← HC.out]; omega, by rw [HC.out]⟩), x1, x2, x3⟩
              have F10 : Hid (Fil w w10 gn bm (T + 1) K' (upq cnt (a * 6 + b) (cnt (a * 6 + b) + 1))) := Lib.hid ⟨N10.out.map_ o10 M10 F4.out.ge, m10, hK', F4.out.ge⟩
              refine wp_region_plan (fun w' => w'.cell? ⟨pb, 0, none⟩ = some (.int .i64 a) ∧ w'.cell? ⟨pb, 1, none⟩ = some (.int .i64 b) ∧ (Instr.lookup 74 (.map (some bm)) (.agg #[.int .i64 a, .int .i64 b]) false).run Try.prog w' = .ok (.int .i64 c) w') 6 (.take 0 (.take 1 (.take 2 (.take 3 (.one 4 (.take 5 (.one 6 .done))))))) (by kernel_rfl) (by kernel_rfl) (by kernel_rfl) hS1 ?_
              intro hS0
              rw [← hv9] at hS0 hS1 ⊢
              clear hv9 M10 N10 m10 o10 hK' s0 s1
              repeat (refine' wpPlan_take rfl (by rfl) (by assumption) ?_ ?_; rotate_left; (· (intro w hSw; (try dsimp only at hSw); go_simp; try with_reducible rfl)); try simp only [Act.put, List.setIfInBounds_toArray, List.set_cons_zero, List.set_cons_succ])
              obtain ⟨s0, s1, s2⟩ := hS1
              refine wpPlan_one rfl (fun KT hKT => ?_)
              go_simp
              refine hKT.out _ _ (hS0) (fun _ => ?_); clear hKT KT; try simp only [Act.put, List.setIfInBounds_toArray, List.set_cons_zero, List.set_cons_succ]
              repeat (refine' wpPlan_take rfl (by rfl) (by assumption) ?_ ?_; rotate_left; (· (intro w hSw; (try dsimp only at hSw); go_simp; try with_reducible rfl)); try simp only [Act.put, List.setIfInBounds_toArray, List.set_cons_zero, List.set_cons_succ])
              refine wpPlan_last rfl (fun KT hKT => ?_)
              go_simp
              refine hKT.out _ _ ?_; clear hKT KT; try simp only [Act.put, List.setIfInBounds_toArray, List.set_cons_zero, List.set_cons_succ]
              refine wpPlan_done ?_
              clear s0 s1 s2 hS0 h10
              go_wp2_with fail
              go_roundw
              case rel => exact ⟨k + 2, t + 1, T + 1, K', _, by have := HKT.out; omega, by go_num, by omega, by omega, F10.out⟩
              case measure => simp [intOf]; omega
        · have i1 : ¬ (k : Int) + 1 < n := by omega
          go_wp2_with fail
          go_meet
          exact ⟨T, K, cnt, HF.out, by have := HKT.out; omega⟩
    case rest =>
      obtain ⟨T, K, cnt, hf, hT⟩ := hcut
      have HF := Lib.hid hf
      have HX2 : Hid (T ≤ 40 ∧ T ≤ n) := Lib.hid (by omega)
      clear hf F3 HX HR hmm hT
      go_wp2_with fail
      refine (nw_links HF.out.net cnt (fun k => chain_len _)).mono ?_; rintro e w4 ⟨A, cA, rfl, hp4, hb4⟩
      obtain ⟨L, hL⟩ : ∃ L, L = (idx cnt 36).map (prOf six 6) := ⟨_, rfl⟩
      obtain ⟨N, hN⟩ : ∃ N, N = (idx cnt 36).length := ⟨_, rfl⟩
      have hLN : L.length = N := by rw [hL, hN, List.length_map]
      rw [← hN] at hp4
      rw [← hL] at hp4
      rw [← hN]
      unfold PRow at hp4
      rw [hLN] at hp4
      have F4 := Lib.hid (HF.out.later hb4)
      have R4 := Lib.hid hp4
      have HN := Lib.hid hN
      have HL := Lib.hid hL
      have HLN := Lib.hid hLN
      have hN36 : N ≤ 36 := by rw [hN]; exact idx_le cnt 36
      obtain ⟨base, hbase⟩ : ∃ base, base = wc.heap.size := ⟨_, rfl⟩
      rw [← hbase] at R4
      clear hp4 hb4 hN hL hLN HF hbase
      go_wp2_with fail
      go_loopw [93, 9] (fun s u wr => ∃ i : Nat, i ≤ N ∧ s = .int .i64 i ∧ u = .int .i64 (sumTo cnt i) ∧ Nw w wr gn (fun k => chain (left_ cnt i k)) ∧ CMap wr bm K ∧ wr.ownsRow base 75 2 (.slice A N cA) N (L.flatMap acell)) (fun s _ _ => N - (intOf s).toNat)
      case atStart => exact ⟨0, by omega, rfl, rfl, by rw [left_zero]; exact F4.out.net, F4.out.map, R4.out⟩
      case round =>
        obtain ⟨i, hiN, rfl, rfl, hnw, hmp, hrow⟩ := hrel
        have NW := Lib.hid hnw
        have MP := Lib.hid hmp
        have RW := Lib.hid hrow
        clear hnw hmp hrow
        obtain ⟨wo, rfl⟩ : ∃ wo, wo = wr := ⟨_, rfl⟩
        by_cases hlt : i < N
        · obtain ⟨gA, rfl⟩ : ∃ gA, A = some ⟨gA, 0, none⟩ := by
            rcases own_addr RW.out with ⟨_, h0, _⟩ | h
            · omega
            · exact h
          have hcl : ∀ (x : Nat) (px : Int × Int) (w' : World), L[x]? = some px → w'.ownsRow base 75 2 (.slice (some ⟨gA, 0, none⟩) N cA) N (L.flatMap acell) → w'.cell? ⟨gA, x * 2, none⟩ = some (.int .i64 px.1) ∧ w'.cell? ⟨gA, x * 2 + 1, none⟩ = some (.int .i64 px.2) := fun x px w' hx hw => by
            obtain ⟨hxl, e⟩ := List.getElem?_eq_some_iff.1 hx
            exact ⟨(Row.of_own hw).cell (flat_get' acell 2 acell_len L x 0 (by omega) hxl _ (by rw [e]; rfl)), (Row.of_own hw).cell (flat_get' acell 2 acell_len L x 1 (by omega) hxl _ (by rw [e]; rfl))⟩
          have hcN : i < (idx cnt 36).length := by rw [← HN.out]; exact hlt
          obtain ⟨a, b, ha, hb, hab, hidx, hpos, hget⟩ := F4.out.cnt.nth hcN
          have hgetL : L[i]? = some ((a : Int), (b : Int)) := by rw [HL.out]; exact hget
          obtain ⟨c, hc⟩ : ∃ c, c = cnt (a * 6 + b) := ⟨_, rfl⟩
          rw [← hc] at hpos
          have HC := Lib.hid hc
          have hsucc := sumTo_succ cnt hcN
          rw [hidx, ← hc] at hsucc
          have hS1 := sumTo_le cnt (i + 1)
          rw [F4.out.cnt.tot] at hS1
          have hleft := left_at cnt hcN
          rw [hidx, ← hc] at hleft
          have hchl := chain_left cnt i hcN
          rw [hidx] at hchl
          have HLEFT := Lib.hid hleft
          have HCHL := Lib.hid hchl
          have HSU := Lib.hid hsucc
          obtain ⟨S, hS⟩ : ∃ S, S = sumTo cnt i := ⟨_, rfl⟩
          rw [← hS] at hsucc ⊢
          have HSS := Lib.hid hS
          have hc40 : S + c ≤ 40 := by have := HX2.out; omega
          have KS : ∀ w', Aside wo w' → w'.cell? ⟨gA, i * 2, none⟩ = some (.int .i64 a) ∧ w'.cell? ⟨gA, i * 2 + 1, none⟩ = some (.int .i64 b) := fun w' o => hcl i _ w' hgetL (o.row RW.out (by decide) (by decide))
          obtain ⟨ca, cb⟩ := KS wo (Aside.below (Below.refl _ _))
          have i0 : (0 : Int) ≤ i := by omega
          have i1 : (i : Int) < N := by omega
          have es : IntKind.i64.wrap ((S : Int) + c) = (S : Int) + c := IntWalk.i64_in _ (by omega)
          have hlk : (Instr.lookup 74 (.map (some bm)) (.agg #[.int .i64 a, .int .i64 b]) false).run Try.prog wo = .ok (.int .i64 c) wo := by
            have hl4 := MP.out.look (p := ((a : Int), (b : Int))) ⟨by simp only [I64]; omega, by simp only [I64]; omega⟩
            rw [F4.out.cnt.at_ a b ha hb, ← HC.out] at hl4
            exact hl4
          have hprev : i = 0 ∨ ∃ j a' b' : Nat, i = j + 1 ∧ L[j]? = some ((a' : Int), (b' : Int)) ∧ (a' < a ∨ (a' = a ∧ b' < b)) := by
            rcases Nat.eq_zero_or_pos i with h0 | h0
            · exact .inl h0
            · obtain ⟨j, rfl⟩ : ∃ j, i = j + 1 := ⟨i - 1, by omega⟩
              obtain ⟨a', b', ha', hb', _, hidx', _, hget'⟩ := F4.out.cnt.nth (i := j) (by omega)
              have hr := idx_rise cnt hcN
              rw [hidx, hidx'] at hr
              exact .inr ⟨j, a', b', rfl, by rw [HL.out]; exact hget', by omega⟩
          clear hc hidx hsucc hS1 hleft hchl hS hgetL hget hcN
          go_upto_region 18 with fail
          go_cut [139] from 96 to 139 (fun s wx => s = .bool false ∧ ∃ j, wx = wo.drewN j)
          case first =>
            rcases hprev with rfl | ⟨j, a', b', hij, hgj, hr⟩
            · go_quiet (fail)
              go_wp2_with fail
              go_meet
              exact ⟨by first | rfl | trivial, _, rfl⟩
            · obtain ⟨cj, cj2⟩ := hcl j _ wo hgj RW.out
              have d0 : decide ((0 : Int) < i) = true := decide_eq_true (by omega)
              have d0n : decide (0 < i) = true := decide_eq_true (by omega)
              have ej : IntKind.i64.wrap ((i : Int) - 1) = (j : Int) := by rw [hij]; rw [IntWalk.i64_in _ (by omega)]; omega
              have j0 : (0 : Int) ≤ j := by omega
              have j1 : (j : Int) < N := by omega
              have d1 : decide ((a : Int) < a') = false := decide_eq_false (by omega)
              have d1n : decide (a < a') = false := decide_eq_false (by omega)
              have HIJ := Lib.hid hij
              clear hij hgj
              by_cases he : a' = a
              · subst he
                have d3 : decide ((b : Int) ≤ b') = false := decide_eq_false (by omega)
                have d3n : decide (b ≤ b') = false := decide_eq_false (by omega)
                clear hr
                go_quiet (fail)
                go_wp2_with fail
                go_meet
                exact ⟨by first | rfl | trivial, _, rfl⟩
              · have d2 : ((a : Int) == a') = false := beq_eq_false_iff_ne.2 (by omega)
                have d2n : (a == a') = false := beq_eq_false_iff_ne.2 (by omega)
                clear hr
                go_quiet (fail)
                go_wp2_with fail
                go_meet
                exact ⟨by first | rfl | trivial, _, rfl⟩
          case rest =>
            obtain ⟨rfl, j9, rfl⟩ := hcut
            obtain ⟨v0, hv0⟩ : ∃ v, v = wo.drewN j9 := ⟨_, rfl⟩
            have B0 : Below wo.heap.size wo v0 := by rw [hv0]; exact below_drewN (Below.refl _ _) _
            rw [← hv0]
            have A0 := Aside.below B0
            have NW0 := Lib.hid (NW.out.later B0)
            have MP0 := Lib.hid (MP.out.below B0)
            have KS0 : ∀ w', Aside v0 w' → w'.cell? ⟨gA, i * 2, none⟩ = some (.int .i64 a) ∧ w'.cell? ⟨gA, i * 2 + 1, none⟩ = some (.int .i64 b) := fun w' o => KS w' (A0.trans o)
            have RW0 := Lib.hid (A0.row RW.out (by decide) (by decide))
            obtain ⟨ca, cb⟩ := KS0 v0 (Aside.below (Below.refl _ _))
            have hlk : (Instr.lookup 74 (.map (some bm)) (.agg #[.int .i64 a, .int .i64 b]) false).run Try.prog v0.drew = .ok (.int .i64 c) v0.drew := by
              have hl4 := (MP0.out.below (Below.refl _ _).drew).look (p := ((a : Int), (b : Int))) ⟨by simp only [I64]; omega, by simp only [I64]; omega⟩
              rw [F4.out.cnt.at_ a b ha hb, ← HC.out] at hl4
              exact hl4
            have k0 : ((c : Int) == 0) = false := beq_eq_false_iff_ne.2 (by omega)
            have HN0 := Lib.hid hpos
            clear hv0 B0 A0 KS hpos
            go_upto_region 20 with fail
            refine wp_region_plan (fun w' => w'.cell? ⟨gA, i * 2, none⟩ = some (.int .i64 a) ∧ w'.cell? ⟨gA, i * 2 + 1, none⟩ = some (.int .i64 b)) 13 (.take 0 (.take 1 (.take 2 (.take 3 (.take 4 (.take 5 (.take 6 (.take 7 (.take 8 (.take 9 (.take 10 (.one 11 (.take 12 .done))))))))))))) (by kernel_rfl) (by kernel_rfl) (by kernel_rfl) (KS0 _ (Aside.below (Below.refl _ _).drew)) ?_
            intro hS0
            repeat (refine' wpPlan_take rfl (by rfl) (by assumption) ?_ ?_; rotate_left; (· (intro w hSw; (try dsimp only at hSw); go_simp; try with_reducible rfl)); try simp only [Act.put, List.setIfInBounds_toArray, List.set_cons_zero, List.set_cons_succ])
            refine wpPlan_one rfl (fun KT hKT => ?_)
            go_simp
            refine (nw_len (NW0.out.later (Below.refl _ _).drew) a b ha hb hab c (by rw [← HLEFT.out]; exact chain_len _)).mono ?_; rintro e w' ⟨rfl, rfl⟩
            refine hKT.out _ _ (KS0 _ (Aside.below (Below.refl _ _).drew)) (fun _ => ?_); clear hKT KT; try simp only [Act.put, List.setIfInBounds_toArray, List.set_cons_zero, List.set_cons_succ]
            repeat (refine' wpPlan_take rfl (by rfl) (by assumption) ?_ ?_; rotate_left; (· (intro w hSw; (try dsimp only at hSw); go_simp; try with_reducible rfl)); try simp only [Act.put, List.setIfInBounds_toArray, List.set_cons_zero, List.set_cons_succ])
            refine wpPlan_done ?_
            clear hS0
            obtain ⟨v1, hv1⟩ : ∃ v, v = v0.drew := ⟨_, rfl⟩
            have B1 : Below v0.heap.size v0 v1 := by rw [hv1]; exact (Below.refl _ _).drew
            rw [← hv1] at hlk ⊢
            obtain ⟨ca1, cb1⟩ := KS0 v1 (Aside.below B1)
            have NW1 := Lib.hid (NW0.out.later B1)
            have MP1 := Lib.hid (MP0.out.below B1)
            have RW1 := Lib.hid ((Aside.below B1).row RW0.out (by decide) (by decide))
            have KS1 : ∀ w', Aside v1 w' → w'.cell? ⟨gA, i * 2, none⟩ = some (.int .i64 a) ∧ w'.cell? ⟨gA, i * 2 + 1, none⟩ = some (.int .i64 b) := fun w' o => KS0 w' ((Aside.below B1).trans o)
            clear hv1 B1 KS0 ca cb
            go_upto_block 4 with fail
            go_wp2_with fail
            clear hlk ca1 cb1 es
            go_loopw [12] (fun s wx => ∃ j : Nat, j ≤ c ∧ s = .int .i64 j ∧ Nw w wx gn (upq (fun k => chain (left_ cnt i k)) (a * 6 + b) ((chain c).drop j)) ∧ Aside v1 wx) (fun s _ => c - (intOf s).toNat)
            case atStart => exact ⟨0, by omega, rfl, by
              rw [List.drop_zero, ← HLEFT.out, show chain (left_ cnt i (a * 6 + b)) = (fun k => chain (left_ cnt i k)) (a * 6 + b) from rfl, upq_id]
              exact NW1.out, Aside.below (Below.refl _ _)⟩
            case round =>
              obtain ⟨j, hjc, rfl, hnj, haj⟩ := hrel
              have NJ := Lib.hid hnj
              have AJ := Lib.hid haj
              clear hnj haj
              by_cases hj : j < c
              · have j1 : (j : Int) < c := by omega
                have ec : IntKind.u8.wrap (j : Int) = j := IntWalk.u8_in _ (by omega)
                have ej : IntKind.i64.wrap ((j : Int) + 1) = (j : Int) + 1 := IntWalk.i64_in _ (by omega)
                have KJ : ∀ w', Aside wr w' → w'.cell? ⟨gA, i * 2, none⟩ = some (.int .i64 a) ∧ w'.cell? ⟨gA, i * 2 + 1, none⟩ = some (.int .i64 b) := fun w' o => KS1 w' (AJ.out.trans o)
                go_upto_region 27 with fail
                refine wp_region_plan (fun w' => w'.cell? ⟨gA, i * 2, none⟩ = some (.int .i64 a) ∧ w'.cell? ⟨gA, i * 2 + 1, none⟩ = some (.int .i64 b)) 17 (.take 0 (.take 1 (.take 2 (.take 3 (.take 4 (.take 5 (.take 6 (.take 7 (.take 8 (.take 9 (.take 10 (.one 11 (.take 12 (.take 13 (.take 14 (.take 15 (.take 16 .done))))))))))))))))) (by kernel_rfl) (by kernel_rfl) (by kernel_rfl) (KJ _ (Aside.below (Below.refl _ _).drew)) ?_
                intro hS0
                repeat (refine' wpPlan_take rfl (by rfl) (by assumption) ?_ ?_; rotate_left; (· (intro w hSw; (try dsimp only at hSw); go_simp; try with_reducible rfl)); try simp only [Act.put, List.setIfInBounds_toArray, List.set_cons_zero, List.set_cons_succ])
                refine wpPlan_one rfl (fun KT hKT => ?_)
                go_simp
                refine (nw_take (NJ.out.later (Below.refl _ _).drew) a b ha hb hab [(j : Int)] ((chain c).drop (j + 1)) (by rw [upq_same]; exact chain_drop c j hj)).mono ?_; rintro e w5 ⟨v, cv, rfl, hv5, hn5, ha5⟩
                have A5 := (Aside.below (Below.refl wr.heap.size wr).drew).trans ha5
                rw [upq_upq] at hn5
                have N5 := Lib.hid hn5
                have V5 := Lib.hid hv5
                have AA5 := Lib.hid (AJ.out.trans A5)
                clear hv5 hn5
                refine hKT.out _ _ (KJ _ A5) (fun _ => ?_); clear hKT KT; try simp only [Act.put, List.setIfInBounds_toArray, List.set_cons_zero, List.set_cons_succ]
                repeat (refine' wpPlan_take rfl (by rfl) (by assumption) ?_ ?_; rotate_left; (· (intro w hSw; (try dsimp only at hSw); go_simp; try with_reducible rfl)); try simp only [Act.put, List.setIfInBounds_toArray, List.set_cons_zero, List.set_cons_succ])
                refine wpPlan_done ?_
                clear hS0 KJ A5 ha5
                go_wp2_with fail
                refine (same_byte_c v 1 cv (some ⟨w5.heap.size, 0, none⟩) 1 1 [(j : Int)] _ (V5.out.below ((Below.refl _ _).alloc (Nat.le_refl _) _)) (VRow.of_blk (n := 1) (s := 1) (Blk.new w5 5 #[.int .u8 j]) rfl) (by omega)).mono ?_; rintro e w6 ⟨rfl, hb6⟩
                have B6 := ((Below.refl w5.heap.size w5).alloc (Nat.le_refl _) (.cells #[.int .u8 j] 5)).trans (hb6.mono (by simp))
                have N6 := Lib.hid (N5.out.later B6)
                have A6 := Lib.hid (AA5.out.trans (Aside.below B6))
                clear hb6 B6
                go_wp2_with fail
                go_roundw
                case rel => exact ⟨j + 1, by omega, by go_num, N6.out, A6.out⟩
                case measure => simp [intOf]; omega
              · have hjc2 : j = c := by omega
                subst hjc2
                have j1 : ¬ (j : Int) < j := by omega
                have N7 : Hid (Nw w wr gn (fun k => chain (left_ cnt (i + 1) k))) := Lib.hid (by
                  have e := NJ.out
                  rw [List.drop_of_length_le (by rw [chain_len]; exact Nat.le_refl _), HCHL.out] at e
                  exact e)
                have M7 := Lib.hid (AJ.out.map MP1.out)
                have R7 := Lib.hid (AJ.out.row RW1.out (by decide) (by decide))
                have ei : IntKind.i64.wrap ((i : Int) + 1) = (i : Int) + 1 := IntWalk.i64_in _ (by omega)
                go_wp2_with fail
                go_roundw
                case rel => exact ⟨i + 1, by omega, by go_num, by rw [HSU.out, ← HSS.out]; go_num, N7.out, M7.out, R7.out⟩
                case measure => simp [intOf]; omega
        · have hiN2 : i = N := by omega
          have hsum : ((sumTo cnt i : Nat) : Int) ≤ n := by
            have e := sumTo_le cnt i
            rw [F4.out.cnt.tot] at e
            have := HX2.out
            omega
          have i1 : ¬ (i : Int) < N := by omega
          have hkl : (K.length : Int) = N := by rw [F4.out.cnt.len, HN.out]
          have NZ : Hid (idx (left_ cnt i) 36 = []) := Lib.hid (idx_nil _ fun k hk => by rw [hiN2, HN.out]; exact left_all cnt k hk)
          have hl0 := fun ty => MP.out.len ty
          rw [hkl] at hl0
          obtain ⟨S, hS⟩ : ∃ S, S = sumTo cnt i := ⟨_, rfl⟩
          rw [← hS] at hsum ⊢
          clear hkl hS
          go_wp2_with fail
          have hnl := nw_links NW.out (left_ cnt i) (fun k => chain_len _)
          rw [NZ.out] at hnl
          refine hnl.mono ?_; rintro e w5 ⟨A5, c5, rfl, hp5, hb5⟩
          have N5 := Lib.hid (NW.out.later hb5)
          clear hp5 hb5 hnl hl0
          go_wp2_with fail
          refine (nw_lost N5.out).mono ?_; rintro e w' ⟨rfl, rfl⟩
          go_wp2_with fail
          refine (nwakes_c _).mono ?_; rintro e w6 ⟨rfl, hb6⟩
          have B6 := Lib.hid (N5.out.below.trans (hb6.mono N5.out.below.size))
          clear hb6
          go_wp2_with fail
          go_ret
          exact ⟨by first | rfl | trivial, B6.out⟩

set_option maxRecDepth 100000 in
theorem lawWalk : LawWalk Try.checked 10 Try.f10 := by
  intro H enc W base args ds p hval hA hsz
  rw [Try.params10] at hA hval
  obtain ⟨v0, vs0, d0, ds0, p0, q0, hargs, rfl, rfl, h0, r0⟩ := trodAll_cons hA
  obtain ⟨rfl, rfl, rfl⟩ := trodAll_nil r0
  obtain rfl : args = #[v0] := by cases args; simp_all
  obtain ⟨a0, n0, c0, xs0, rfl, hnc0, hcm0, hr0, hx0⟩ := open_int_slice Try.underlying73 Try.underlying3 (by kernel_rfl) (hval 0 73 v0 rfl rfl) h0
  exact walk a0 n0 c0 xs0 W hr0 (Nat.le_trans hnc0 hcm0) hx0

theorem lifted (os : Os) (started : os.Started) (H : Type) (enc : TypeId × Value → H) :
    ReturnsInHanded {} Try.checked os 10 .any (Rows.netLinksSpec.pre6 enc Try.prog Try.f10 Rows.netLinksRow.domain false) (Rows.netLinksSpec.post enc Try.prog Try.f10 false true false false) :=
  law_lift (C := Try.checked) (s := Rows.netLinksSpec) (tb := 4) (by kernel_rfl) started (by kernel_rfl) Try.func10
    (ChangeSpec.witness6 (enc := enc) (C := Try.checked) false ⟨#[], #[.slice none 0 0], []⟩ 8 (by kernel_rfl) (by kernel_rfl) (by kernel_rfl) (by kernel_rfl))
    rfl (fun H ds h => by
      match ds, h with
      | [d0], _ => rfl) (by kernel_rfl) (by kernel_rfl) (by kernel_rfl) Try.underlying4 lawWalk

theorem over : Rows.netLinksRow.holds Try.pinned (OpenSpec.ofChange Rows.netLinksSpec) :=
  OpenClaim.holds_of_wide 10 Try.f10 rfl rfl rfl rfl rfl rfl rfl ⟨rfl, rfl, rfl, rfl, rfl⟩ rfl rfl rfl rfl rfl (by kernel_rfl) Try.func10 (by kernel_rfl)
    (of_decide_eq_true (by kernel_rfl)) (by unfold Func.isWrapper; first | (rw [if_pos (by decide +kernel)]; kernel_rfl) | (rw [if_neg (by decide +kernel)]; exact ⟨rfl, rfl⟩))
    (fun os started H enc _ => lifted os started H enc)

/-- The statement. -/
theorem proved : Rows.NetLinksSaid := over
#print axioms proved
end Go.Proofs.Ytfhlcjfgbhmecaa.NetLinks
