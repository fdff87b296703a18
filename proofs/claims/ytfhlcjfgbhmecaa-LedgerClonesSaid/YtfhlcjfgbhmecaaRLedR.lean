/- The reference's ledger: Run. -/
import Derived.Test.YtfhlcjfgbhmecaaRLed
import Derived.Test.YtfhlcjfgbhmecaaLedgerI
import Derived.Deep.CutRange
import Derived.Deep.CutBlock
namespace Go.Proofs.Ytfhlcjfgbhmecaa
open Go.RowKit
set_option linter.unusedVariables false

/-- The reference's ledger at gr: its entries, store, replies; F: its blocks. -/
structure RLg (w : World) (F : List Nat) (gr C : Nat) (es : List Ent) (st : List (Bool × Int)) (ct : List (Int × Int)) : Prop where
  ex : ∃ a cap, F = gr :: blks a ∧ RSL C ct (.slice a es.length cap) w gr st ∧ w.ownsRow 0 38 7 (.slice a es.length cap) es.length (es.flatMap ecell)
  c : C ≤ 4
  len : ct.length = C
  sm : Smalls st
section
variable {w w' : World} {S F : List Nat} {gr C : Nat} {es : List Ent} {st : List (Bool × Int)} {ct : List (Int × Int)}
theorem RLg.lt (h : RLg w F gr C es st ct) : ∀ k ∈ F, k < w.heap.size := by
  obtain ⟨a, cap, rfl, h1, h2⟩ := h.ex
  intro k hk
  rcases List.mem_cons.1 hk with rfl | hk
  · exact h1.lt
  · cases a with
    | none => cases hk
    | some p =>
      simp only [blks, List.mem_singleton] at hk
      subst hk
      exact (World.ownsRow.lt h2 p.block (by simp [Value.ownBlock])).2
theorem RLg.mem (h : RLg w F gr C es st ct) : gr ∈ F := by
  obtain ⟨a, cap, rfl, _⟩ := h.ex
  simp
theorem RLg.only (h : RLg w F gr C es st ct) (ho : Only S w w') (hd : ∀ k ∈ F, k ∉ S) : RLg w' F gr C es st ct := by
  obtain ⟨a, cap, rfl, h1, h2⟩ := h.ex
  exact ⟨⟨a, cap, rfl, h1.only ho (hd _ (by simp)), own_only h2 ho fun g hg => hd g (by have := blks_own hg; simp [this])⟩, h.c, h.len, h.sm⟩
theorem RLg.below (h : RLg w F gr C es st ct) (hb : Below w.heap.size w w') : RLg w' F gr C es st ct := h.only (Only.of_below (S := []) hb) (by simp)
theorem RLg.drewN (h : RLg w F gr C es st ct) (j : Nat) : RLg (w.drewN j) F gr C es st ct := h.only (S := []) ((Only.refl _ _).drewN j) (by simp)
end

set_option maxRecDepth 100000 in
set_option maxHeartbeats 6400000 in
theorem rrun_c (F : List Nat) (gr C : Nat) (es : List Ent) (st : List (Bool × Int)) (ct : List (Int × Int)) (a : Option Addr) (n c : Nat) (rs : List Rq) (w : World) (h : RLg w F gr C es st ct) (hv : VRow w a n 6 (rs.flatMap rqc)) (hsep : 0 < n → ∀ p, a = some p → p.block ≠ gr) (hl : rs.length = n) (hn : es.length + n ≤ 4096)
    (hi : ∀ r ∈ rs, RqI r) (out : List Ent) (st' : List (Bool × Int)) (ct' : List (Int × Int)) (hs : runL ([], st, ct) rs = (out, st', ct')) (m : Nat) (hm : out.length = m) :
    Calls Try.prog 28 #[.pointer (some ⟨gr, 0, none⟩), .slice a n c] w fun e w' => ∃ F' a' c', e = .returned (.slice a' m c') ∧ RLg w' F' gr C (es ++ out) st' ct' ∧
      w'.ownsRow w.heap.size 38 7 (.slice a' m c') m (out.flatMap ecell) ∧ Only [gr] w w' ∧ ∀ k ∈ F', k = gr ∨ w.heap.size ≤ k := by
  obtain ⟨i0, hi0, hz0, hz1, hz2⟩ := info_parts info_entry
  obtain ⟨aL, cL, _, hR, hO⟩ := h.ex
  obtain ⟨V, hV⟩ : ∃ V, V = Value.slice aL es.length cL := ⟨_, rfl⟩
  rw [← hV] at hR
  have HVV := Lib.hid hV
  have HOL := Lib.hid hO
  have RR := Lib.hid hR
  have SM := Lib.hid h.sm
  have CL := Lib.hid h.len
  have C4 := h.c
  have HV := Lib.hid hv
  have HI := Lib.hid hi
  have HS := Lib.hid hs
  have HM := Lib.hid hm
  have SEP := Lib.hid hsep
  have GR := Lib.hid hR.lt
  subst hl
  clear hR hO h hsep hv hi hs hm hV
  go_enter Try.func28, Try.ntmps28
  go_wp2_with fail
  go_loopw [5, 6] (fun o i wr => ∃ k : Nat, k ≤ rs.length ∧ i = .int .i64 k ∧ ∃ s a1 c1, s = runL ([], st, ct) (rs.take k) ∧ o = .slice a1 s.1.length c1 ∧ wr.ownsRow w.heap.size 38 7 (.slice a1 s.1.length c1) s.1.length (s.1.flatMap ecell) ∧ RSL C s.2.2 V wr gr s.2.1 ∧ Smalls s.2.1 ∧ s.2.2.length = C ∧ Only [gr] w wr) (fun _ i _ => rs.length - (intOf i).toNat)
  case atStart => exact ⟨0, by omega, rfl, ([], st, ct), none, 0, rfl, rfl, ⟨by simp, .inl ⟨rfl, rfl⟩⟩, RR.out, SM.out, CL.out, Only.refl _ _⟩
  case round =>
    obtain ⟨k, hk, rfl, s, a1, c1, hsk, rfl, ho, hR, hsm, hcl, hon⟩ := hrel
    have dl : s.1.length ≤ k := by
      have := (runL_inv (s := ([], st, ct)) SM.out (rs.take k)).2.2
      rw [← hsk, List.length_take] at this
      simp only [List.length_nil] at this
      omega
    have O := Lib.hid ho
    have R := Lib.hid hR
    have SS := Lib.hid hsm
    have CC := Lib.hid hcl
    have ON := Lib.hid hon
    have SK := Lib.hid hsk
    have zr := hon.size
    by_cases hkl : k < rs.length
    · obtain ⟨b, off, rfl, hbl, hcell⟩ := HV.out.2 (by omega)
      have hbS := SEP.out (by omega) _ rfl
      have cw : ∀ j v, j < 6 → (rqc rs[k])[j]? = some v → wr.cell? ⟨b, off + k * 6 + j, none⟩ = some v := fun j v hj hv => by
        refine hon.cell_ ?_ (by simpa using hbS)
        rw [Nat.add_assoc]
        exact hcell _ _ (flat_get' rqc 6 rqc_len rs k j hj hkl v hv)
      obtain ⟨r, hr⟩ : ∃ r, r = rs[k] := ⟨_, rfl⟩
      have hri := HI.out _ (List.getElem_mem hkl)
      have hstep := runL_take ([], st, ct) rs k hkl
      rw [← hr] at cw hri hstep
      rw [← hsk] at hstep
      obtain ⟨r0, r1, r2, r3, r4, r5⟩ := r
      have q0 : wr.cell? ⟨b, off + k * 6, none⟩ = some (.int .i64 r0) := cw 0 _ (by omega) rfl
      have q1 : wr.cell? ⟨b, off + k * 6 + 1, none⟩ = some (.int .i64 r1) := cw 1 _ (by omega) rfl
      have q2 : wr.cell? ⟨b, off + k * 6 + 2, none⟩ = some (.int .i64 r2) := cw 2 _ (by omega) rfl
      have q3 : wr.cell? ⟨b, off + k * 6 + 3, none⟩ = some (.int .i64 r3) := cw 3 _ (by omega) rfl
      have q4 : wr.cell? ⟨b, off + k * 6 + 4, none⟩ = some (.int .i64 r4) := cw 4 _ (by omega) rfl
      have q5 : wr.cell? ⟨b, off + k * 6 + 5, none⟩ = some (.int .i64 r5) := cw 5 _ (by omega) rfl
      obtain ⟨x0, x1, x2, x3, x4, x5⟩ := hri
      simp only at x0 x1 x2 x3 x4 x5
      have ST := Lib.hid hstep
      have i1 : (0 : Int) ≤ k := by omega
      have i2 : (k : Int) < rs.length := by omega
      clear hcell hbS cw hr hstep hsk ho hR hsm hcl hon SK
      go_upto_region 6 with fail
      obtain ⟨gt, hgt⟩ : ∃ gt, gt = wr.heap.size := ⟨_, rfl⟩
      obtain ⟨wa, hwa⟩ : ∃ wa, wa = wr.alloc (.cells #[.int .i64 r0, .int .i64 r1, .int .i64 r2, .int .i64 r3, .int .i64 r4, .int .i64 r5] 33) := ⟨_, rfl⟩
      rw [← hwa, ← hgt]
      have T := Lib.hid (show Blk wa gt 33 #[.int .i64 r0, .int .i64 r1, .int .i64 r2, .int .i64 r3, .int .i64 r4, .int .i64 r5] by rw [hwa, hgt]; exact Blk.new _ _ _)
      have B2 := Lib.hid (show Below wr.heap.size wr wa by rw [hwa]; exact (Below.refl _ _).alloc (Nat.le_refl _) _)
      have R2 := Lib.hid (R.out.below B2.out)
      have O2 := Lib.hid (own_below O.out B2.out)
      have ON2 := Lib.hid (ON.out.trans (Only.of_below (S := [gr]) B2.out))
      have GT := Lib.hid (show w.heap.size ≤ gt ∧ gt < wa.heap.size ∧ gr < gt from ⟨by rw [hgt]; exact zr, T.out.lt, by rw [hgt]; exact R.out.lt⟩)
      clear hwa hgt q0 q1 q2 q3 q4 q5 R O ON
      have t0 : wa.cell? ⟨gt, 0, none⟩ = some (.int .i64 r0) := T.out.cell 0
      have t1 : wa.cell? ⟨gt, 1, none⟩ = some (.int .i64 r1) := T.out.cell 1
      have g0 := R2.out.cl
      by_cases hin : 0 ≤ r0 ∧ r0 < (C : Int)
      · obtain ⟨j, rfl⟩ := Int.eq_ofNat_of_zero_le hin.1
        have hj4 : j < 4 := by omega
        have hjc : j < s.2.2.length := by rw [CC.out]; omega
        have t9 := R2.out.time j hj4
        obtain ⟨lt, hlt'⟩ : ∃ lt, lt = (s.2.2.getD j (0, 0)).1 := ⟨_, rfl⟩
        rw [← hlt'] at t9
        have OKD := Lib.hid (show okR s.2.2 ((j : Int), r1, r2, r3, r4, r5) = decide (lt < r1) by
          have hb : hasB s.2.2 (j : Int) = true := decide_eq_true ⟨by omega, by rw [CC.out]; exact hin.2⟩
          unfold okR lastOf
          simp only
          rw [hb, if_pos rfl, Bool.true_and, hlt']
          rfl)
        have d0 : decide ((j : Int) < 0) = false := decide_eq_false (by omega)
        have d1 : decide ((C : Int) ≤ j) = false := decide_eq_false (by omega)
        have d1' : decide (C ≤ j) = false := decide_eq_false (by omega)
        have d1'' : decide ((j : Int) ≥ (C : Int)) = false := decide_eq_false (by omega)
        have j0 : (0 : Int) ≤ j := by omega
        have j1 : (j : Int) < 4 := by omega
        clear hlt'
        by_cases hok : lt < r1
        · have d2 : decide (r1 ≤ lt) = false := decide_eq_false (by omega)
          obtain ⟨re, hre⟩ : ∃ re, opR s.2.1 r2 r3 r4 = re := ⟨_, rfl⟩
          obtain ⟨st2, hst2⟩ : ∃ st2, opSt s.2.1 r2 r3 r4 = st2 := ⟨_, rfl⟩
          have ok := OKD.out.trans (decide_eq_true hok)
          obtain ⟨_, _, _, hput⟩ := okR_facts ok
          have NX := Lib.hid (show runL ([], st, ct) (rs.take (k + 1)) = (s.1 ++ [(((j : Int), r1, r2, r3, r4, r5), re)], st2, s.2.2.set j (r1, re)) by
            rw [ST.out]; unfold stepR; rw [if_pos ok]; unfold resR; simp only [hre, hst2]; rw [hput]; rfl)
          have RE := Lib.hid hre
          have ST2 := Lib.hid hst2
          have SML := Lib.hid (stepR_sm SS.out ((j : Int), r1, r2, r3, r4, r5))
          clear hre hst2 ok hput
          go_quiet (fail)
          obtain ⟨wb, hwb⟩ : ∃ wb, wb = wa.drewN nq := ⟨_, rfl⟩
          rw [← hwb]
          have T3 := Lib.hid (show Blk wb gt 33 #[.int .i64 j, .int .i64 r1, .int .i64 r2, .int .i64 r3, .int .i64 r4, .int .i64 r5] by rw [hwb]; exact T.out.drewN _)
          have R3 := Lib.hid (show RSL C s.2.2 V wb gr s.2.1 by rw [hwb]; exact R2.out.drewN _)
          have O3 := Lib.hid (show wb.ownsRow w.heap.size 38 7 (.slice a1 s.1.length c1) s.1.length (s.1.flatMap ecell) by rw [hwb]; exact own_only (S := []) O2.out ((Only.refl _ _).drewN _) (by simp))
          have ON3 := Lib.hid (show Only [gr] w wb by rw [hwb]; exact ON2.out.drewN _)
          have zb : gt < wb.heap.size := T3.out.lt
          clear hwb t0 t1 g0 t9 d0 d1 d1' d1'' d2 T R2 O2 ON2
          have t0 : wb.cell? ⟨gt, 0, none⟩ = some (.int .i64 j) := T3.out.cell 0
          have t1 : wb.cell? ⟨gt, 1, none⟩ = some (.int .i64 r1) := T3.out.cell 1
          have t2 : wb.cell? ⟨gt, 2, none⟩ = some (.int .i64 r2) := T3.out.cell 2
          have t3 : wb.cell? ⟨gt, 3, none⟩ = some (.int .i64 r3) := T3.out.cell 3
          have t4 : wb.cell? ⟨gt, 4, none⟩ = some (.int .i64 r4) := T3.out.cell 4
          have t5 : wb.cell? ⟨gt, 5, none⟩ = some (.int .i64 r5) := T3.out.cell 5
          go_upto_region 7 with fail
          go_cut [8] from 43 to 50 (fun s8 wx => ∃ ge, s8 = .pointer (some ⟨ge, 0, none⟩) ∧ Blk wx ge 38 #[.int .i64 j, .int .i64 r1, .int .i64 r2, .int .i64 r3, .int .i64 r4, .int .i64 r5, .int .i64 re] ∧ wb.heap.size ≤ ge ∧ Blk wx gt 33 #[.int .i64 j, .int .i64 r1, .int .i64 r2, .int .i64 r3, .int .i64 r4, .int .i64 r5] ∧
            wx.ownsRow w.heap.size 38 7 (.slice a1 s.1.length c1) s.1.length (s.1.flatMap ecell) ∧ RSL C s.2.2 V wx gr st2 ∧ Only [gr] w wx)
          case first =>
            have KS : ∀ w', Only [gr] wb w' → w'.cell? ⟨gt, 0, none⟩ = some (.int .i64 j) ∧ w'.cell? ⟨gt, 1, none⟩ = some (.int .i64 r1) ∧ w'.cell? ⟨gt, 2, none⟩ = some (.int .i64 r2) ∧ w'.cell? ⟨gt, 3, none⟩ = some (.int .i64 r3) ∧ w'.cell? ⟨gt, 4, none⟩ = some (.int .i64 r4) ∧ w'.cell? ⟨gt, 5, none⟩ = some (.int .i64 r5) ∧ Only [gr] wb w' := fun w' o => by
              have hne : gt ∉ [gr] := by have := GT.out.2.2; simp; omega
              exact ⟨o.cell_ t0 hne, o.cell_ t1 hne, o.cell_ t2 hne, o.cell_ t3 hne, o.cell_ t4 hne, o.cell_ t5 hne, o⟩
            have FIN : Hid (∀ w5 ge, Blk w5 ge 38 #[.int .i64 0, .int .i64 0, .int .i64 0, .int .i64 0, .int .i64 0, .int .i64 0, .int .i64 0] → RSL C s.2.2 V w5 gr st2 → Only [gr] wb w5 → wb.heap.size ≤ ge → ∀ w6, w6 = ((((((w5.setCell ⟨ge, 0, none⟩ (.int .i64 j)).setCell ⟨ge, 1, none⟩ (.int .i64 r1)).setCell ⟨ge, 2, none⟩ (.int .i64 r2)).setCell ⟨ge, 3, none⟩ (.int .i64 r3)).setCell ⟨ge, 4, none⟩ (.int .i64 r4)).setCell ⟨ge, 5, none⟩ (.int .i64 r5)).setCell ⟨ge, 6, none⟩ (.int .i64 re) →
                Blk w6 ge 38 #[.int .i64 j, .int .i64 r1, .int .i64 r2, .int .i64 r3, .int .i64 r4, .int .i64 r5, .int .i64 re] ∧ wb.heap.size ≤ ge ∧ Blk w6 gt 33 #[.int .i64 j, .int .i64 r1, .int .i64 r2, .int .i64 r3, .int .i64 r4, .int .i64 r5] ∧
                w6.ownsRow w.heap.size 38 7 (.slice a1 s.1.length c1) s.1.length (s.1.flatMap ecell) ∧ RSL C s.2.2 V w6 gr st2 ∧ Only [gr] w w6) := Lib.hid (by
              intro w5 ge hB hR5 ho5 hge w6 hw6
              have o6 : Only [ge] w5 w6 := by
                rw [hw6]
                exact (((((((Only.refl [ge] w5).setCell (p := ⟨ge, 0, none⟩) (.inl (by simp)) (.int .i64 j)).setCell (p := ⟨ge, 1, none⟩) (.inl (by simp)) (.int .i64 r1)).setCell (p := ⟨ge, 2, none⟩) (.inl (by simp)) (.int .i64 r2)).setCell (p := ⟨ge, 3, none⟩) (.inl (by simp)) (.int .i64 r3)).setCell (p := ⟨ge, 4, none⟩) (.inl (by simp)) (.int .i64 r4)).setCell (p := ⟨ge, 5, none⟩) (.inl (by simp)) (.int .i64 r5)).setCell (p := ⟨ge, 6, none⟩) (.inl (by simp)) (.int .i64 re)
              have bb : Blk w6 ge 38 #[.int .i64 j, .int .i64 r1, .int .i64 r2, .int .i64 r3, .int .i64 r4, .int .i64 r5, .int .i64 re] := by
                rw [hw6]
                exact ((((((hB.set_ 0 (.int .i64 j)).set_ 1 (.int .i64 r1)).set_ 2 (.int .i64 r2)).set_ 3 (.int .i64 r3)).set_ 4 (.int .i64 r4)).set_ 5 (.int .i64 r5)).set_ 6 (.int .i64 re)
              have g3 := GT.out
              have g4 := R3.out.lt
              have o5 := own_only O3.out ho5 (fun q hq hm => by
                simp only [List.mem_singleton] at hm
                exact own_blk_ne O3.out R3.out.b (by decide) (by rw [hq, hm]))
              refine ⟨bb, hge, (T3.out.only ho5 (by simp; omega)).only o6 (by simp; omega), own_only o5 o6 (fun q hq hm => ?_), hR5.only o6 (by simp; omega), (ON3.out.trans ho5).then o6 (fun q hq => .inr ?_)⟩
              · simp only [List.mem_singleton] at hm
                have := (World.ownsRow.lt O3.out q hq).2
                omega
              · simp only [List.mem_singleton] at hq
                have := ON3.out.size
                omega)
            refine wp_region_plan (fun w' => w'.cell? ⟨gt, 0, none⟩ = some (.int .i64 j) ∧ w'.cell? ⟨gt, 1, none⟩ = some (.int .i64 r1) ∧ w'.cell? ⟨gt, 2, none⟩ = some (.int .i64 r2) ∧ w'.cell? ⟨gt, 3, none⟩ = some (.int .i64 r3) ∧ w'.cell? ⟨gt, 4, none⟩ = some (.int .i64 r4) ∧ w'.cell? ⟨gt, 5, none⟩ = some (.int .i64 r5) ∧ Only [gr] wb w') 9 (.take 0 (.take 1 (.take 2 (.take 3 (.take 4 (.take 5 (.two 6 (.take 7 (.one 8 (.one 9 .done))) 8 (.one 6 (.take 7 (.one 9 .done)))))))))) (by kernel_rfl) (by kernel_rfl) (by kernel_rfl) (KS _ (Only.refl _ _).drew) ?_
            intro hS0
            have o4 : Only [gr] wb wb.drew := (Only.refl _ _).drew
            repeat (refine' wpPlan_take rfl (by rfl) (by assumption) ?_ ?_; rotate_left; (· (intro w hSw; (try dsimp only at hSw); go_simp; try with_reducible rfl)); try simp only [Act.put, List.setIfInBounds_toArray, List.set_cons_zero, List.set_cons_succ])
            refine wpPlan_two ?_ ?_
            · refine wpPlan_one rfl (fun KT hKT => ?_)
              go_simp
              refine (lapply_c C s.2.2 V gr s.2.1 r2 r3 r4 _ R3.out.drew SS.out x2 x3 x4 re RE.out st2 ST2.out).mono ?_
              rintro e w5 ⟨rfl, hR5, ho5⟩
              have o5 := o4.trans ho5
              refine hKT.out _ _ (KS _ o5) (fun _ => ?_); clear hKT KT; try simp only [Act.put, List.setIfInBounds_toArray, List.set_cons_zero, List.set_cons_succ]
              repeat (refine' wpPlan_take rfl (by rfl) (by assumption) ?_ ?_; rotate_left; (· (intro w hSw; (try dsimp only at hSw); go_simp; try with_reducible rfl)); try simp only [Act.put, List.setIfInBounds_toArray, List.set_cons_zero, List.set_cons_succ])
              refine wpPlan_one rfl (fun KT hKT => ?_)
              go_simp
              have b6 : Below w5.heap.size w5 (w5.alloc (.cells #[.int .i64 0, .int .i64 0, .int .i64 0, .int .i64 0, .int .i64 0, .int .i64 0, .int .i64 0] 38)) := (Below.refl _ _).alloc (Nat.le_refl _) _
              have o6 := o5.alloc (.cells #[.int .i64 0, .int .i64 0, .int .i64 0, .int .i64 0, .int .i64 0, .int .i64 0, .int .i64 0] 38)
              have be : Blk (w5.alloc (.cells #[.int .i64 0, .int .i64 0, .int .i64 0, .int .i64 0, .int .i64 0, .int .i64 0, .int .i64 0] 38)) w5.heap.size 38 #[.int .i64 0, .int .i64 0, .int .i64 0, .int .i64 0, .int .i64 0, .int .i64 0, .int .i64 0] := Blk.new _ _ _
              have r6 := hR5.below b6
              refine hKT.out _ _ (KS _ o6) (fun _ => ?_); clear hKT KT; try simp only [Act.put, List.setIfInBounds_toArray, List.set_cons_zero, List.set_cons_succ]
              repeat (refine' wpPlan_take rfl (by rfl) (by assumption) ?_ ?_; rotate_left; (· (intro w hSw; (try dsimp only at hSw); go_simp; try with_reducible rfl)); try simp only [Act.put, List.setIfInBounds_toArray, List.set_cons_zero, List.set_cons_succ])
              obtain ⟨w7, hw7⟩ : ∃ w7, w7 = w5.alloc (.cells #[.int .i64 0, .int .i64 0, .int .i64 0, .int .i64 0, .int .i64 0, .int .i64 0, .int .i64 0] 38) := ⟨_, rfl⟩
              obtain ⟨ge, hge⟩ : ∃ ge, ge = w5.heap.size := ⟨_, rfl⟩
              have z5 := o5.size
              rw [← hw7] at be o6 r6 ⊢
              rw [← hge] at be z5 ⊢
              clear hw7 hge b6
              refine wpPlan_last rfl (fun KT hKT => ?_)
              have u0 := be.cell 0
              have fz0 := be.frozen 0
              have u1 := be.cell 1
              have fz1 := be.frozen 1
              have u2 := be.cell 2
              have fz2 := be.frozen 2
              have u3 := be.cell 3
              have fz3 := be.frozen 3
              have u4 := be.cell 4
              have fz4 := be.frozen 4
              have u5 := be.cell 5
              have fz5 := be.frozen 5
              have u6 := be.cell 6
              have fz6 := be.frozen 6
              go_simp
              refine hKT.out _ _ ?_; clear hKT KT; try simp only [Act.put, List.setIfInBounds_toArray, List.set_cons_zero, List.set_cons_succ]
              refine wpPlan_done ?_
              go_wp2_with fail
              go_meet
              exact ⟨ge, rfl, FIN.out _ ge be r6 o6 z5 _ rfl⟩
            · refine wpPlan_one rfl (fun KT hKT => ?_)
              go_simp
              have b4 : Below wb.heap.size wb (wb.drew.alloc (.cells #[.int .i64 0, .int .i64 0, .int .i64 0, .int .i64 0, .int .i64 0, .int .i64 0, .int .i64 0] 38)) := (Below.refl _ _).drew.alloc (Nat.le_refl _) _
              have be : Blk (wb.drew.alloc (.cells #[.int .i64 0, .int .i64 0, .int .i64 0, .int .i64 0, .int .i64 0, .int .i64 0, .int .i64 0] 38)) wb.heap.size 38 #[.int .i64 0, .int .i64 0, .int .i64 0, .int .i64 0, .int .i64 0, .int .i64 0, .int .i64 0] := Blk.new wb.drew _ _
              have rsl4 := R3.out.below b4
              have o4' := o4.alloc (.cells #[.int .i64 0, .int .i64 0, .int .i64 0, .int .i64 0, .int .i64 0, .int .i64 0, .int .i64 0] 38)
              refine hKT.out _ _ (KS _ o4') (fun _ => ?_); clear hKT KT; try simp only [Act.put, List.setIfInBounds_toArray, List.set_cons_zero, List.set_cons_succ]
              repeat (refine' wpPlan_take rfl (by rfl) (by assumption) ?_ ?_; rotate_left; (· (intro w hSw; (try dsimp only at hSw); go_simp; try with_reducible rfl)); try simp only [Act.put, List.setIfInBounds_toArray, List.set_cons_zero, List.set_cons_succ])
              refine wpPlan_one rfl (fun KT hKT => ?_)
              go_simp
              refine (lapply_c C s.2.2 V gr s.2.1 r2 r3 r4 _ rsl4 SS.out x2 x3 x4 re RE.out st2 ST2.out).mono ?_
              rintro e w5 ⟨rfl, hR5, ho5⟩
              have o5 := o4'.trans ho5
              have be5 := be.only ho5 (by have := R3.out.lt; simp; omega)
              refine hKT.out _ _ (KS _ o5) (fun _ => ?_); clear hKT KT; try simp only [Act.put, List.setIfInBounds_toArray, List.set_cons_zero, List.set_cons_succ]
              repeat (refine' wpPlan_take rfl (by rfl) (by assumption) ?_ ?_; rotate_left; (· (intro w hSw; (try dsimp only at hSw); go_simp; try with_reducible rfl)); try simp only [Act.put, List.setIfInBounds_toArray, List.set_cons_zero, List.set_cons_succ])
              obtain ⟨ge, hge⟩ : ∃ ge, ge = wb.heap.size := ⟨_, rfl⟩
              have z5 : wb.heap.size ≤ ge := Nat.le_of_eq hge.symm
              rw [← hge] at be5 ⊢
              clear hge be b4
              refine wpPlan_last rfl (fun KT hKT => ?_)
              have u0 := be5.cell 0
              have fz0 := be5.frozen 0
              have u1 := be5.cell 1
              have fz1 := be5.frozen 1
              have u2 := be5.cell 2
              have fz2 := be5.frozen 2
              have u3 := be5.cell 3
              have fz3 := be5.frozen 3
              have u4 := be5.cell 4
              have fz4 := be5.frozen 4
              have u5 := be5.cell 5
              have fz5 := be5.frozen 5
              have u6 := be5.cell 6
              have fz6 := be5.frozen 6
              go_simp
              refine hKT.out _ _ ?_; clear hKT KT; try simp only [Act.put, List.setIfInBounds_toArray, List.set_cons_zero, List.set_cons_succ]
              refine wpPlan_done ?_
              go_wp2_with fail
              go_meet
              exact ⟨ge, rfl, FIN.out _ ge be5 hR5 o5 z5 _ rfl⟩
          case rest =>
            obtain ⟨ge, rfl, hBe, hge, hT, hOw, hR5, hO5⟩ := hcut
            obtain ⟨w5, hw5⟩ : ∃ w5, w5 = wc := ⟨_, rfl⟩
            rw [← hw5] at hBe hT hOw hR5 hO5 ⊢
            have BE := Lib.hid hBe
            have TT := Lib.hid hT
            have OW := Lib.hid hOw
            have R5 := Lib.hid hR5
            have O5 := Lib.hid hO5
            have GE := Lib.hid hge
            clear hw5 hBe hT hOw hR5 hO5 hge t0 t1 t2 t3 t4 t5
            have t0 : w5.cell? ⟨gt, 0, none⟩ = some (.int .i64 j) := TT.out.cell 0
            have t1 : w5.cell? ⟨gt, 1, none⟩ = some (.int .i64 r1) := TT.out.cell 1
            have e6 : w5.cell? ⟨ge, 6, none⟩ = some (.int .i64 re) := BE.out.cell 6
            have y1 := R5.out.time j hj4
            have y2 := R5.out.res j hj4
            have f1 := R5.out.b.frozen (129 + j)
            have f2 := R5.out.b.frozen (133 + j)
            have n1 : gt ≠ gr := by have := GT.out; omega
            have n2 : ge ≠ gr := by have := GT.out; have := GE.out; have := R3.out.lt; omega
            go_upto_region 8 with fail
            go_region_held3 (fun w' => w'.cell? ⟨gt, 0, none⟩ = some (.int .i64 j) ∧ w'.cell? ⟨gt, 1, none⟩ = some (.int .i64 r1) ∧ w'.cell? ⟨ge, 6, none⟩ = some (.int .i64 re)) (first | exact ⟨far_cell t0 n1, far_cell t1 n1, far_cell e6 n2⟩ | exact ⟨far_cell (far_cell t0 n1) n1, far_cell (far_cell t1 n1) n1, far_cell (far_cell e6 n2) n2⟩ | go_keep) (fail)
            obtain ⟨w6, hw6⟩ : ∃ w6, w6 = ((w5.setCell ⟨gr, 129 + j, none⟩ (.int .i64 r1)).setCell ⟨gr, 133 + j, none⟩ (.int .i64 re)).drew := ⟨_, rfl⟩
            rw [← hw6]
            have o6 : Only [gr] w5 w6 := by rw [hw6]; exact (((Only.refl _ _).setCell (.inl (by simp)) _).setCell (.inl (by simp)) _).drew
            have R6 := Lib.hid (show RSL C (s.2.2.set j (r1, re)) V w6 gr st2 by rw [hw6]; exact (R5.out.put hj4 hjc r1 re).drew)
            have B6 := Lib.hid (BE.out.only o6 (by simpa using n2))
            have OW6 := Lib.hid (own_only OW.out o6 (fun q hq hm => by
              simp only [List.mem_singleton] at hm
              exact own_blk_ne OW.out R5.out.b (by decide) (by rw [hq, hm])))
            have O6 := Lib.hid (O5.out.trans o6)
            clear hw6 o6 t0 t1 e6 y1 y2 f1 f2 BE TT OW R5 O5
            have u0 : w6.cell? ⟨ge, 0, none⟩ = some (.int .i64 j) := B6.out.cell 0
            have u1 : w6.cell? ⟨ge, 1, none⟩ = some (.int .i64 r1) := B6.out.cell 1
            have u2 : w6.cell? ⟨ge, 2, none⟩ = some (.int .i64 r2) := B6.out.cell 2
            have u3 : w6.cell? ⟨ge, 3, none⟩ = some (.int .i64 r3) := B6.out.cell 3
            have u4 : w6.cell? ⟨ge, 4, none⟩ = some (.int .i64 r4) := B6.out.cell 4
            have u5 : w6.cell? ⟨ge, 5, none⟩ = some (.int .i64 r5) := B6.out.cell 5
            have u6 : w6.cell? ⟨ge, 6, none⟩ = some (.int .i64 re) := B6.out.cell 6
            have z6 := O6.out.size
            obtain ⟨sl, hsl⟩ : ∃ sl, sl = s.1.length := ⟨_, rfl⟩
            rw [← hsl] at OW6 dl ⊢
            have HSL := Lib.hid hsl
            clear hsl
            go_wp2_with (at_builtin; refine wpList_app rfl _ _ _ rfl w.heap.size 38 i0 _ 7 56 Try.underlying34 hi0 hz0 hz1 hz2 rfl (by omega) a1 sl c1 (s.1.flatMap ecell) rfl (own_below OW6.out ((Below.refl _ _).alloc (Nat.le_refl _) (.cells #[.int .i64 j, .int .i64 r1, .int .i64 r2, .int .i64 r3, .int .i64 r4, .int .i64 r5, .int .i64 re] 38))) _ 1 _ [.int .i64 j, .int .i64 r1, .int .i64 r2, .int .i64 r3, .int .i64 r4, .int .i64 r5, .int .i64 re] rfl (VRow.of_blk (Blk.new w6 38 #[.int .i64 j, .int .i64 r1, .int .i64 r2, .int .i64 r3, .int .i64 r4, .int .i64 r5, .int .i64 re]) rfl) (ecell_one [(((j : Int), r1, r2, r3, r4, r5), re)]) (by unfold maxLen; omega) (by omega) (Nat.le_trans z6 (by simp)) ?_; intro a8 c8 w8 h8)
            have b7 : Below w6.heap.size w6 (w6.alloc (.cells #[.int .i64 j, .int .i64 r1, .int .i64 r2, .int .i64 r3, .int .i64 r4, .int .i64 r5, .int .i64 re] 38)) := (Below.refl _ _).alloc (Nat.le_refl _) _
            have ow7 := own_below OW6.out b7
            have hAg : gr ∉ (a1.map (·.block)).toList := fun hm => by
              have := Option.mem_toList.1 hm
              exact own_blk_ne OW6.out R6.out.b (by decide) (by rw [own_block_eq, this])
            have R8 := Lib.hid ((R6.out.below b7).only h8.only hAg)
            have O8 := Lib.hid (h8.own)
            have ON8 := Lib.hid ((O6.out.trans (Only.of_below (S := [gr]) b7)).then h8.only (fun q hq => .inr (by
              have := Option.mem_toList.1 hq
              exact (World.ownsRow.lt OW6.out q (by rw [own_block_eq]; exact this)).1)))
            clear h8 b7 ow7 hAg u0 u1 u2 u3 u4 u5 u6
            go_wp2_with fail
            go_roundw
            case rel =>
              refine ⟨k + 1, by omega, by go_num, (s.1 ++ [(((j : Int), r1, r2, r3, r4, r5), re)], st2, s.2.2.set j (r1, re)), a8, c8, NX.out.symm, ?_, ?_, R8.out, ?_, ?_, ON8.out⟩
              · rw [List.length_append, ← HSL.out]; rfl
              · have := O8.out
                rw [List.length_append, List.flatMap_append, ← HSL.out]
                exact this
              · have h1 := SML.out
                rw [← ST.out, NX.out] at h1
                exact h1
              · rw [List.length_set]; exact CC.out
            case measure => simp [intOf]; omega
        · have d2 : decide (r1 ≤ lt) = true := decide_eq_true (by omega)
          have NO := Lib.hid (show runL ([], st, ct) (rs.take (k + 1)) = s by rw [ST.out]; unfold stepR; rw [OKD.out, decide_eq_false hok]; rfl)
          clear hok
          go_quiet (fail)
          have R9 := Lib.hid (R2.out.drewN nq)
          have O9 := Lib.hid (own_only (S := []) O2.out ((Only.refl _ _).drewN nq) (by simp))
          have ON9 := Lib.hid (ON2.out.drewN nq)
          clear t0 t1 g0 t9
          go_wp2_with fail
          go_roundw
          case rel => exact ⟨k + 1, by omega, by go_num, s, a1, c1, NO.out.symm, rfl, O9.out, R9.out, SS.out, CC.out, ON9.out⟩
          case measure => simp [intOf]; omega
      · have NO := Lib.hid (show runL ([], st, ct) (rs.take (k + 1)) = s by
          rw [ST.out]; unfold stepR okR hasB; rw [CC.out, decide_eq_false hin]; rfl)
        rcases (show r0 < 0 ∨ (¬ r0 < 0 ∧ (C : Int) ≤ r0) by omega) with hc | ⟨hc, hc2⟩
        case' inl =>
          have d0 : decide (r0 < 0) = true := decide_eq_true hc
        case' inr =>
          have d0 : decide (r0 < 0) = false := decide_eq_false hc
          have d1 : decide ((C : Int) ≤ r0) = true := decide_eq_true hc2
          have d1' : decide (r0 ≥ (C : Int)) = true := decide_eq_true hc2
        all_goals
          clear hin
          go_quiet (fail)
          have R9 := Lib.hid (R2.out.drewN nq)
          have O9 := Lib.hid (own_only (S := []) O2.out ((Only.refl _ _).drewN nq) (by simp))
          have ON9 := Lib.hid (ON2.out.drewN nq)
          clear t0 t1 g0
          go_wp2_with fail
          go_roundw
          case rel => exact ⟨k + 1, by omega, by go_num, s, a1, c1, NO.out.symm, rfl, O9.out, R9.out, SS.out, CC.out, ON9.out⟩
          case measure => simp [intOf]; omega
    · have hkn : rs.take k = rs := List.take_of_length_le (by omega)
      rw [hkn, HS.out] at hsk
      subst hsk
      simp only at O R SS CC
      have HOL' := own_only HOL.out ON.out (fun q hq hm => by
        simp only [List.mem_singleton] at hm
        exact own_blk_ne HOL.out RR.out.b (by decide) (by rw [hq, hm]))
      have VL := Lib.hid (own_vrow HOL')
      have g9 := R.out.log
      rw [HVV.out] at g9
      obtain ⟨el, hel⟩ : ∃ el, el = es.length := ⟨_, rfl⟩
      rw [← hel] at g9 VL hn
      have EL := Lib.hid hel
      obtain ⟨ml, hml⟩ : ∃ ml, ml = out.length := ⟨_, rfl⟩
      have mle : ml ≤ rs.length := by
        have := (runL_inv (s := ([], st, ct)) SM.out rs).2.2
        rw [HS.out] at this
        simpa [hml] using this
      simp only at dl
      rw [← hml] at O dl ⊢
      have ML := Lib.hid hml
      have VO := Lib.hid (own_vrow O.out)
      clear hkn ho hR hsm hcl hon HOL' hel hml
      go_wp2_with (at_builtin; first
        | (refine wpList_app rfl _ _ _ rfl wr.heap.size 38 i0 _ 7 56 Try.underlying34 hi0 hz0 hz1 hz2 rfl (by omega) none 0 0 [] rfl ⟨rfl, .inl ⟨rfl, rfl⟩⟩ aL el cL (es.flatMap ecell) rfl VL.out (ecell_one es) (by unfold maxLen; omega) (by omega) (Nat.le_refl _) ?_; intro a5 c5 w5 h5; simp only [Nat.zero_add])
        | (refine wpList_app rfl _ _ _ rfl wr.heap.size 38 i0 _ 7 56 Try.underlying34 hi0 hz0 hz1 hz2 rfl (by omega) a5 el c5 (es.flatMap ecell) rfl (by have := h5.own; simpa only [Nat.zero_add, List.nil_append] using this) a1 ml c1 (out.flatMap ecell) rfl (VO.out.below h5.only.to_below) (ecell_one out) (by unfold maxLen; omega) (by omega) h5.only.size ?_; intro a6 c6 w6 h6; have o56 : Only [] wr w6 := Only.of_below (h6.below (by have := h5.own; simpa only [Nat.zero_add, List.nil_append] using this) h5.only.to_below (Nat.le_refl _) h5.only.size); have r6 := R.out.only o56 (by simp); have f6 := r6.b.frozen 137; have l6 := r6.log))
      obtain ⟨w7, hw7⟩ : ∃ w7, w7 = w6.setCell ⟨gr, 137, none⟩ (.slice a6 (el + ml) c6) := ⟨_, rfl⟩
      rw [← hw7]
      have o7 : Only [gr] w6 w7 := by rw [hw7]; exact (Only.refl _ _).setCell (.inl (by simp)) _
      have R7 := Lib.hid (show RSL C ct' (.slice a6 (el + ml) c6) w7 gr st' by rw [hw7]; exact r6.logged _)
      have L7 := Lib.hid (own_only h6.own o7 (fun q hq hm => by
        simp only [List.mem_singleton] at hm
        exact own_blk_ne h6.own r6.b (by decide) (by rw [hq, hm])))
      have W7 := Lib.hid (own_only (own_below O.out o56.to_below) o7 (fun q hq hm => by
        simp only [List.mem_singleton] at hm
        exact own_blk_ne O.out R.out.b (by decide) (by rw [hq, hm])))
      have ON7 := Lib.hid ((ON.out.trans (o56.mono (by simp))).trans o7)
      clear hw7 o7 r6 f6 l6 h5 h6 o56 g9
      go_wp2_with fail
      go_ret
      refine ⟨gr :: blks a6, a1, c1, ?_, ⟨⟨a6, c6, rfl, ?_, ?_⟩, C4, CC.out, SS.out⟩, ?_, ON7.out, fun q hq => ?_⟩
      · rw [← HM.out, ← ML.out]; rfl
      · rw [List.length_append, ← EL.out, ← ML.out]; exact R7.out
      · rw [List.length_append, List.flatMap_append, ← EL.out, ← ML.out]; exact own_base_le L7.out (Nat.zero_le _)
      · rw [← HM.out, ← ML.out]; exact W7.out
      · rcases List.mem_cons.1 hq with e | e
        · exact .inl e
        · cases a6 with
          | none => cases e
          | some p =>
            simp only [blks, List.mem_singleton] at e
            subst e
            exact .inr (Nat.le_trans zr (World.ownsRow.lt L7.out p.block (by simp [Value.ownBlock])).1)
end Go.Proofs.Ytfhlcjfgbhmecaa
