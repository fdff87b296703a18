/- MeterPlays: for every number of instances and all lists of acts the law returns true: measures are what the document says; a clone goes its own way. No condition. -/
import Derived.Test.YtfeepofdnjnkpaaMeterQ
import Derived.Test.YtfeepofdnjnkpaaRows
namespace Go.Proofs.Ytfeepofdnjnkpaa.MeterPlays
open Go.RowKit F Go.ChangeShapes Go.WideShapes Go.ChangeAt
set_option linter.unusedVariables false
attribute [local go_sem] run_store_complex

theorem madeCells_m (n : Nat) : madeCells #[.int .i64 0, .int .i64 0] (n * 2) = ((List.replicate n ((0, 0) : Int × Int)).flatMap pmc).toArray := by
  apply Array.ext_getElem?
  intro i
  simp only [List.getElem?_toArray]
  have hd : i = i / 2 * 2 + i % 2 := by omega
  rw [show ((List.replicate n ((0, 0) : Int × Int)).flatMap pmc)[i]? = ((List.replicate n ((0, 0) : Int × Int)).flatMap pmc)[i / 2 * 2 + i % 2]? by rw [← hd], flat_get pmc 2 pmc_len _ _ _ (Nat.mod_lt _ (by omega))]
  by_cases hi : i < n * 2
  · have h2 : i / 2 < n := by omega
    rcases Nat.mod_two_eq_zero_or_one i with hm | hm
    · simp [madeCells, hi, h2, hm, pmc]
    · simp [madeCells, hi, h2, hm, pmc]
  · have h2 : ¬ i / 2 < n := by omega
    simp [madeCells, hi, h2]
theorem at_small {K : Int} {st : List (Int × Int)} (h : Bd K st) (hK : K ≤ 1000) (k : Int) : Small (atOf st k).1 ∧ Small (atOf st k).2 := by
  unfold atOf
  split
  · rename_i hb
    have hh := of_decide_eq_true hb
    have hl : k.toNat < st.length := by omega
    have e : st.getD k.toNat (0, 0) = st[k.toNat] := by simp [List.getD, hl]
    rw [e]
    exact h.small hK (List.getElem_mem hl)
  · exact ⟨Small.of (by simp) (by simp), Small.of (by simp) (by simp)⟩
/-- A meter and the law's measures, alike. -/
structure Two (w wx : World) (gm gl gp cap n : Nat) (K : Int) (st : List (Int × Int)) : Prop where
  m : Meter wx gm gl st
  p : PRw wx gp cap st
  n : st.length = n
  bd : Bd K st
  ne : gp ≠ gl ∧ gp ≠ gm
  ge : w.heap.size ≤ gl ∧ w.heap.size ≤ gp
theorem Two.only {w wx wy : World} {S : List Nat} {gm gl gp cap n : Nat} {K : Int} {st : List (Int × Int)} (h : Two w wx gm gl gp cap n K st) (ho : Only S wx wy) (h1 : gm ∉ S) (h2 : gl ∉ S) (h3 : gp ∉ S) : Two w wy gm gl gp cap n K st :=
  ⟨h.m.only ho h1 h2, h.p.only ho h3, h.n, h.bd, h.ne, h.ge⟩
theorem Two.below {w wx wy : World} {gm gl gp cap n : Nat} {K : Int} {st : List (Int × Int)} (h : Two w wx gm gl gp cap n K st) (hb : Below wx.heap.size wx wy) : Two w wy gm gl gp cap n K st := h.only (Only.of_below (S := []) hb) (by simp) (by simp) (by simp)

set_option maxRecDepth 100000 in
set_option maxHeartbeats 6400000 in
theorem walk (z : Int) (a1 : Option Addr) (n1 c1 : Nat) (g1 : Nat → Int) (a2 : Option Addr) (n2 c2 : Nat) (g2 : Nat → Int) (w : World) (hz : I64 z) (hr1 : Flat w a1 n1 3 g1) (hm1 : n1 ≤ maxLen) (hr2 : Flat w a2 n2 3 g2) (hm2 : n2 ≤ maxLen) :
    Calls Try.prog 4 #[.int .i64 z, .slice a1 n1 c1, .slice a2 n2 c2] w fun e w' => e = .returned (.bool true) ∧ Below w.heap.size w w' := by
  unfold maxLen at hm1 hm2
  have HR1 := Lib.hid hr1
  have HR2 := Lib.hid hr2
  clear hr1 hr2
  by_cases hin : 1 ≤ z ∧ z ≤ 5
  · obtain ⟨n, rfl⟩ := Int.eq_ofNat_of_zero_le (show 0 ≤ z by omega)
    have k1 : 1 ≤ n := by omega
    have k5 : n ≤ 5 := by omega
    have l1 : ¬ (n : Int) < 1 := by omega
    have l5 : ¬ (5 : Int) < n := by omega
    have l5' : ¬ (n : Int) > 5 := by omega
    obtain ⟨i0, hi0, hz0, hz1, hz2⟩ := info_parts info_meas2
    have hmk := fun W => run_make (P := Try.prog) W 37 23 i0 _ Try.underlying37 hi0 hz0 .i64 .i64 n n (by omega) (by omega) (by rw [hz2]; omega) (by omega)
    rw [hz1] at hmk
    simp only [Int.toNat_natCast, Value.cells, madeCells_m] at hmk
    obtain ⟨C, hC⟩ : ∃ C, C = ((List.replicate n ((0, 0) : Int × Int)).flatMap pmc).toArray := ⟨_, rfl⟩
    rw [← hC] at hmk
    have HC := Lib.hid hC
    have hmf : ∀ (fn : Fn) (first cap : Array Value) (w : World), (Instr.makeFunc fn first cap).run Try.prog w = .ok (.func fn first cap) w := fun _ _ _ _ => rfl
    clear hi0 hz0 hz1 hz2 hC hin
    go_enter Try.func4, Try.ntmps4
    go_upto_region 1 with fail
    obtain ⟨w1, hw1⟩ : ∃ w1, w1 = w.alloc (.cells #[.int .i64 n] 3) := ⟨_, rfl⟩
    obtain ⟨gi, hgi⟩ : ∃ gi, gi = w.heap.size := ⟨_, rfl⟩
    rw [← hw1, ← hgi]
    have hI : Blk w1 gi 3 #[.int .i64 n] := by rw [hw1, hgi]; exact Blk.new _ _ _
    have b1 : Below w.heap.size w w1 := by rw [hw1]; exact (Below.refl _ _).alloc (Nat.le_refl _) _
    have q1 : w1.cell? ⟨gi, 0, none⟩ = some (.int .i64 n) := hI.cell 0
    have GI := Lib.hid (show gi < w1.heap.size from hI.lt)
    have B1 := Lib.hid b1
    clear hw1 hI b1 hgi
    go_wp2_with fail
    refine (mnew_ok n n rfl k1 k5 _).mono ?_; rintro e w2 ⟨gm, gl, rfl, hM2, hgm, hgl, hb2⟩
    have M2 := Lib.hid hM2
    have q2 := kept hb2 _ _ q1
    have B2 := Lib.hid (B1.out.trans (hb2.mono B1.out.size))
    have Z12 := Lib.hid hb2.size
    clear hM2 hb2 q1
    go_upto_block 0 with fail
    obtain ⟨w3, hw3⟩ : ∃ w3, w3 = w2.alloc (.cells C 23) := ⟨_, rfl⟩
    obtain ⟨gp, hgp⟩ : ∃ gp, gp = w2.heap.size := ⟨_, rfl⟩
    rw [← hw3, ← hgp]
    have b3 : Below w2.heap.size w2 w3 := by rw [hw3]; exact (Below.refl _ _).alloc (Nat.le_refl _) _
    have hP : PRw w3 gp n (List.replicate n (0, 0)) := by
      unfold PRw
      rw [hw3, hgp, HC.out, List.length_replicate]
      exact Row.of_blk (n := n) (s := 2) (Blk.new w2 23 ((List.replicate n ((0, 0) : Int × Int)).flatMap pmc).toArray) (show ((List.replicate n ((0, 0) : Int × Int)).flatMap pmc).length = n * 2 by rw [flat_len pmc 2 pmc_len, List.length_replicate]) (by unfold maxLen; omega)
    have z1 := B1.out.size
    have lgl := M2.out.llt
    have lgm := M2.out.mlt
    have q3 := kept b3 _ _ q2
    have T3 := Lib.hid (show Two w w3 gm gl gp n n 0 (List.replicate n (0, 0)) from ⟨M2.out.below b3, hP, by simp, Bd.zero _ _ (by omega), by omega, by omega⟩)
    have B3 := Lib.hid (B2.out.trans (b3.mono B2.out.size))
    have GN : Hid (gi ≠ gl ∧ gi ≠ gp) := Lib.hid (by have := GI.out; have := Z12.out; omega)
    clear hw3 hgp b3 hP z1 q2 M2 B2 HC hmk hgm hgl lgl lgm
    go_cut [] (fun wx => ∃ st, Two w wx gm gl gp n n 100 st ∧ wx.cell? ⟨gi, 0, none⟩ = some (.int .i64 n) ∧ Below w.heap.size w wx)
    case first =>
      go_wp2_with fail
      go_loopw [11] (fun i wr => ∃ (k : Nat) (st : List (Int × Int)), k ≤ n1 ∧ k ≤ 100 ∧ i = .int .i64 k ∧ Two w wr gm gl gp n n k st ∧ wr.cell? ⟨gi, 0, none⟩ = some (.int .i64 n) ∧ Below w.heap.size w wr) (fun i _ => n1 - (intOf i).toNat)
      case atStart => exact ⟨0, _, by omega, by omega, rfl, T3.out, q3, B3.out⟩
      case round =>
        obtain ⟨k, st, hk, hk100, rfl, hT, hq, hb⟩ := hrel
        obtain ⟨wo, rfl⟩ : ∃ wo, wo = wr := ⟨_, rfl⟩
        have T := Lib.hid hT
        have B := Lib.hid hb
        clear hT hb
        rcases (show (k < n1 ∧ k < 100) ∨ (¬ k < n1) ∨ (k < n1 ∧ ¬ k < 100) by omega) with ⟨hlt, h100⟩ | hlt | ⟨hlt, h100⟩
        · obtain ⟨hi64, hrow⟩ := HR1.out
          obtain ⟨b, off, rfl, hbl, hcell⟩ := hrow (by omega)
          have cw : ∀ j, j < 3 → wo.cell? ⟨b, off + k * 3 + j, none⟩ = some (.int .i64 (g1 (k * 3 + j))) := fun j hj => by
            rw [B.out.cell (p := ⟨b, off + k * 3 + j, none⟩) hbl, Nat.add_assoc]
            exact hcell _ (by omega)
          have c0 : wo.cell? ⟨b, off + k * 3, none⟩ = some (.int .i64 (g1 (k * 3))) := cw 0 (by omega)
          have c1 := cw 1 (by omega)
          have c2 := cw 2 (by omega)
          have x0 := hi64 (k * 3)
          have x1 := hi64 (k * 3 + 1)
          have x2 := hi64 (k * 3 + 2)
          obtain ⟨u0, hu0⟩ : ∃ u, u = g1 (k * 3) := ⟨_, rfl⟩
          obtain ⟨u1, hu1⟩ : ∃ u, u = g1 (k * 3 + 1) := ⟨_, rfl⟩
          obtain ⟨u2, hu2⟩ : ∃ u, u = g1 (k * 3 + 2) := ⟨_, rfl⟩
          rw [← hu0] at c0 x0
          rw [← hu1] at c1 x1
          rw [← hu2] at c2 x2
          have j0 : (0 : Int) ≤ k := by omega
          have j1 : (k : Int) < n1 := by omega
          have j2 : (k : Int) < 100 := by omega
          have KS : ∀ w', Only [gl, gp] wo w' → w'.cell? ⟨b, off + k * 3, none⟩ = some (.int .i64 u0) ∧ w'.cell? ⟨b, off + k * 3 + 1, none⟩ = some (.int .i64 u1) ∧ w'.cell? ⟨b, off + k * 3 + 2, none⟩ = some (.int .i64 u2) := fun w' o => by
            have hge := T.out.ge
            have hnn : b ∉ [gl, gp] := by simp; omega
            exact ⟨o.cell_ c0 hnn, o.cell_ c1 hnn, o.cell_ c2 hnn⟩
          clear cw hcell hrow hu0 hu1 hu2
          go_upto_region 11 with fail
          refine wp_region_plan (fun w' => w'.cell? ⟨b, off + k * 3, none⟩ = some (.int .i64 u0) ∧ w'.cell? ⟨b, off + k * 3 + 1, none⟩ = some (.int .i64 u1) ∧ w'.cell? ⟨b, off + k * 3 + 2, none⟩ = some (.int .i64 u2)) 26 (.take 0 (.take 1 (.take 2 (.take 3 (.take 4 (.take 5 (.take 6 (.one 7 (.take 8 (.take 9 (.take 10 (.take 11 (.take 12 (.take 13 (.take 14 (.take 15 (.take 17 (.take 18 (.take 19 (.take 20 (.take 21 (.take 22 (.one 16 (.one 23 (.take 24 (.take 25 .done)))))))))))))))))))))))))) (by kernel_rfl) (by kernel_rfl) (by kernel_rfl) (KS _ (Only.refl _ _).drew) ?_
          intro hS0
          repeat (refine' wpPlan_take rfl (by rfl) (by assumption) ?_ ?_; rotate_left; (· (intro w hSw; (try dsimp only at hSw); go_simp; try with_reducible rfl)); try simp only [Act.put, List.setIfInBounds_toArray, List.set_cons_zero, List.set_cons_succ])
          refine wpPlan_one rfl (fun KT hKT => ?_)
          go_simp
          refine (mplay_c gm gl gp n gi n st k u0 u1 u2 _ (T.out.m.drewN 1) (T.out.p.drewN 1) hq T.out.n k5 T.out.bd (by omega) x0 x1 x2 T.out.ne GN.out).mono ?_
          rintro e w5 ⟨rfl, st', hM5, hP5, hn5, hb5, ho5⟩
          have o5 : Only [gl, gp] wo w5 := (Only.refl _ _).drew.trans ho5
          have T5 := Lib.hid (show Two w w5 gm gl gp n n (k + 1) st' from ⟨hM5, hP5, hn5, hb5, T.out.ne, T.out.ge⟩)
          have q5 := o5.cell_ hq (by have := GN.out; simp; omega)
          have B5 := Lib.hid (o5.below B.out B.out.size (by have := T.out.ge; simp; omega))
          clear hM5 hP5 hn5 hb5 ho5
          obtain ⟨zz, hzz⟩ : ∃ zz, atOf st' u1 = zz := ⟨_, rfl⟩
          have sm := at_small T5.out.bd (by omega) u1
          rw [hzz] at sm
          have e1 := eq_fw sm.1 sm.1 true (by simp)
          have e2 := eq_fw sm.2 sm.2 true (by simp)
          refine hKT.out _ _ (KS _ o5) (fun _ => ?_); clear hKT KT; try simp only [Act.put, List.setIfInBounds_toArray, List.set_cons_zero, List.set_cons_succ]
          repeat (refine' wpPlan_take rfl (by rfl) (by assumption) ?_ ?_; rotate_left; (· (intro w hSw; (try dsimp only at hSw); go_simp; try with_reducible rfl)); try simp only [Act.put, List.setIfInBounds_toArray, List.set_cons_zero, List.set_cons_succ])
          refine wpPlan_one rfl (fun KT hKT => ?_)
          go_simp
          refine (at_c gm gl st' u1 _ T5.out.m (by rw [T5.out.n]; exact k5) x1 zz hzz).mono ?_; rintro e w' ⟨rfl, rfl⟩
          refine hKT.out _ _ (KS _ o5) (fun _ => ?_); clear hKT KT; try simp only [Act.put, List.setIfInBounds_toArray, List.set_cons_zero, List.set_cons_succ]
          repeat (refine' wpPlan_take rfl (by rfl) (by assumption) ?_ ?_; rotate_left; (· (intro w hSw; (try dsimp only at hSw); go_simp; try with_reducible rfl)); try simp only [Act.put, List.setIfInBounds_toArray, List.set_cons_zero, List.set_cons_succ])
          refine wpPlan_one rfl (fun KT hKT => ?_)
          go_simp
          refine (at_l gp n st' n u1 _ T5.out.p T5.out.n k5 x1 zz hzz).mono ?_; rintro e w6 ⟨rfl, hb6⟩
          have T6 := Lib.hid (T5.out.below hb6)
          have q6 := kept hb6 _ _ q5
          have B6 := Lib.hid (B5.out.trans (hb6.mono B5.out.size))
          refine hKT.out _ _ (KS _ (o5.trans (Only.of_below hb6))) (fun _ => ?_); clear hKT KT; try simp only [Act.put, List.setIfInBounds_toArray, List.set_cons_zero, List.set_cons_succ]
          repeat (refine' wpPlan_take rfl (by rfl) (by assumption) ?_ ?_; rotate_left; (· (intro w hSw; (try dsimp only at hSw); go_simp; try with_reducible rfl)); try simp only [Act.put, List.setIfInBounds_toArray, List.set_cons_zero, List.set_cons_succ])
          refine wpPlan_done ?_
          clear hb6 o5 hS0 KS
          go_wp2_with fail
          go_roundw
          case rel => exact ⟨k + 1, st', by omega, by omega, by go_num, by exact T6.out, q6, B6.out⟩
          case measure => simp [intOf]; omega
        all_goals
          go_wp2_with fail
          go_meet
          exact ⟨st, ⟨T.out.m, T.out.p, T.out.n, T.out.bd.mono (by omega), T.out.ne, T.out.ge⟩, hq, B.out⟩
    case rest =>
      obtain ⟨st, hT, hq, hb⟩ := hcut
      obtain ⟨w4, hw4⟩ : ∃ w4, w4 = wc := ⟨_, rfl⟩
      rw [← hw4] at hT hq hb ⊢
      have T := Lib.hid hT
      have B := Lib.hid hb
      clear hw4 hT hb T3 B3 q3
      go_wp2_with fail
      refine (mclone_c gm gl st _ T.out.m (by rw [T.out.n]; exact k1) (by rw [T.out.n]; exact k5)).mono ?_; rintro e w5 ⟨gd, gk, rfl, hM5, hgd, hgk, hb5⟩
      have M5 := Lib.hid hM5
      have T5 := Lib.hid (T.out.below hb5)
      have q5 := kept hb5 _ _ hq
      have B5 := Lib.hid (B.out.trans (hb5.mono B.out.size))
      have z5 := hb5.size
      have GI4 := Lib.hid (show gi < w4.heap.size from lt_of_cell' hq)
      clear hM5 hb5 hq
      go_wp2_with fail
      refine (copy_m gp n st n _ T5.out.p T5.out.n k1 k5).mono ?_; rintro e w6 ⟨gq, cq, rfl, hP6, hgq, hb6⟩
      have lgk := M5.out.llt
      have lgd := M5.out.mlt
      have lp := T.out.p.lt
      have ll := T.out.m.llt
      have lm := T.out.m.mlt
      have hwb := B.out.size
      have hwi := lt_of_cell' q5
      have Q6 := Lib.hid (show Two w w6 gd gk gq cq n 100 st from ⟨M5.out.below hb6, hP6, T.out.n, T.out.bd, by omega, by omega⟩)
      have T6 := Lib.hid (T5.out.below hb6)
      have q6 := kept hb6 _ _ q5
      have B6 := Lib.hid (B5.out.trans (hb6.mono B5.out.size))
      have NQ : Hid (gm ≠ gk ∧ gm ≠ gq ∧ gl ≠ gk ∧ gl ≠ gq ∧ gp ≠ gk ∧ gp ≠ gq) := Lib.hid (by omega)
      have GN2 : Hid (gi ≠ gk ∧ gi ≠ gq) := Lib.hid (by have := GI4.out; omega)
      clear hP6 hb6 lgk lgd lp ll lm hwb hwi T5 M5 q5 B5
      go_upto_block 2 with fail
      go_cut [] (fun wx => ∃ st2, Two w wx gd gk gq cq n 150 st2 ∧ Two w wx gm gl gp n n 100 st ∧ Below w.heap.size w wx)
      case first =>
        go_wp2_with fail
        go_loopw [14] (fun i wr => ∃ (k : Nat) (st2 : List (Int × Int)), k ≤ n2 ∧ k ≤ 50 ∧ i = .int .i64 k ∧ Two w wr gd gk gq cq n (100 + k) st2 ∧ Two w wr gm gl gp n n 100 st ∧ wr.cell? ⟨gi, 0, none⟩ = some (.int .i64 n) ∧ Below w.heap.size w wr) (fun i _ => n2 - (intOf i).toNat)
        case atStart => exact ⟨0, st, by omega, by omega, rfl, Q6.out, T6.out, q6, B6.out⟩
        case round =>
          obtain ⟨k, st2, hk, hk50, rfl, hQ, hT, hq, hb⟩ := hrel
          obtain ⟨wo, rfl⟩ : ∃ wo, wo = wr := ⟨_, rfl⟩
          have Q := Lib.hid hQ
          have TT := Lib.hid hT
          have BB := Lib.hid hb
          clear hQ hT hb
          rcases (show (k < n2 ∧ k < 50) ∨ (¬ k < n2) ∨ (k < n2 ∧ ¬ k < 50) by omega) with ⟨hlt, h50⟩ | hlt | ⟨hlt, h50⟩
          · obtain ⟨hi64, hrow⟩ := HR2.out
            obtain ⟨b, off, rfl, hbl, hcell⟩ := hrow (by omega)
            have cw : ∀ j, j < 3 → wo.cell? ⟨b, off + k * 3 + j, none⟩ = some (.int .i64 (g2 (k * 3 + j))) := fun j hj => by
              rw [BB.out.cell (p := ⟨b, off + k * 3 + j, none⟩) hbl, Nat.add_assoc]
              exact hcell _ (by omega)
            have c0 : wo.cell? ⟨b, off + k * 3, none⟩ = some (.int .i64 (g2 (k * 3))) := cw 0 (by omega)
            have c1 := cw 1 (by omega)
            have c2 := cw 2 (by omega)
            have x0 := hi64 (k * 3)
            have x1 := hi64 (k * 3 + 1)
            have x2 := hi64 (k * 3 + 2)
            obtain ⟨u0, hu0⟩ : ∃ u, u = g2 (k * 3) := ⟨_, rfl⟩
            obtain ⟨u1, hu1⟩ : ∃ u, u = g2 (k * 3 + 1) := ⟨_, rfl⟩
            obtain ⟨u2, hu2⟩ : ∃ u, u = g2 (k * 3 + 2) := ⟨_, rfl⟩
            rw [← hu0] at c0 x0
            rw [← hu1] at c1 x1
            rw [← hu2] at c2 x2
            have j0 : (0 : Int) ≤ k := by omega
            have j1 : (k : Int) < n2 := by omega
            have j2 : (k : Int) < 50 := by omega
            clear cw hcell hrow hu0 hu1 hu2
            go_wp2_with fail
            refine (mplay_c gd gk gq cq gi n st2 (100 + k) u0 u1 u2 _ Q.out.m Q.out.p hq Q.out.n k5 Q.out.bd (by omega) x0 x1 x2 Q.out.ne GN2.out).mono ?_
            rintro e w7 ⟨rfl, st', hM7, hP7, hn7, hb7, ho7⟩
            have Q7 := Lib.hid (show Two w w7 gd gk gq cq n (100 + (k + 1 : Nat)) st' from ⟨hM7, hP7, hn7, hb7.mono (by omega), Q.out.ne, Q.out.ge⟩)
            have nq := NQ.out
            have T7 := Lib.hid (TT.out.only ho7 (by simp; omega) (by simp; omega) (by simp; omega))
            have q7 := ho7.cell_ hq (by have := GN2.out; simp; omega)
            have B7 := Lib.hid (ho7.below BB.out BB.out.size (by have := Q.out.ge; simp; omega))
            clear hM7 hP7 hn7 hb7 ho7 c0 c1 c2
            go_wp2_with fail
            go_roundw
            case rel => exact ⟨k + 1, st', by omega, by omega, by go_num, Q7.out, T7.out, q7, B7.out⟩
            case measure => simp [intOf]; omega
          all_goals
            go_wp2_with fail
            go_meet
            exact ⟨st2, ⟨Q.out.m, Q.out.p, Q.out.n, Q.out.bd.mono (by omega), Q.out.ne, Q.out.ge⟩, TT.out, BB.out⟩
      case rest =>
        obtain ⟨st2, hQ, hT, hb⟩ := hcut
        have Q := Lib.hid hQ
        have TT := Lib.hid hT
        have BB := Lib.hid hb
        clear hQ hT hb Q6 T6 q6 B6
        have sn : st.length = n := TT.out.n
        have sn2 : st2.length = n := Q.out.n
        go_wp2_with fail
        refine (mall_c gm gl st _ TT.out.m (by omega) (by omega)).mono ?_; rintro e w7 ⟨gx, cx, rfl, hr7, hg7, hb7⟩
        rw [sn] at hr7 ⊢
        have R7 := Lib.hid hr7
        have T7 := Lib.hid (TT.out.below hb7)
        have Q7 := Lib.hid (Q.out.below hb7)
        have B7 := Lib.hid (BB.out.trans (hb7.mono BB.out.size))
        have NX : Hid (gm ≠ gx ∧ gl ≠ gx ∧ gp ≠ gx ∧ w.heap.size ≤ gx) := Lib.hid (by
          have h1 := TT.out.m.mlt
          have h2 := TT.out.m.llt
          have h3 := TT.out.p.lt
          have h4 := BB.out.size
          omega)
        clear hr7 hg7 hb7
        go_wp2_with fail
        refine (same_l (some ⟨gx, 0, none⟩) gp cx n st n _ (own_vrow R7.out) T7.out.p sn k5 100 T7.out.bd (by omega)).mono ?_; rintro e w8 ⟨rfl, hb8⟩
        have R8 := Lib.hid (R7.out.below hb8)
        have T8 := Lib.hid (T7.out.below hb8)
        have Q8 := Lib.hid (Q7.out.below hb8)
        have B8 := Lib.hid (B7.out.trans (hb8.mono B7.out.size))
        clear hb8
        go_wp2_with fail
        refine (mall_c gd gk st2 _ Q8.out.m (by omega) (by omega)).mono ?_; rintro e w9 ⟨gy, cy, rfl, hr9, hg9, hb9⟩
        rw [sn2] at hr9 ⊢
        have R9 := Lib.hid hr9
        have X9 := Lib.hid (R8.out.below hb9)
        have T9 := Lib.hid (T8.out.below hb9)
        have Q9 := Lib.hid (Q8.out.below hb9)
        have B9 := Lib.hid (B8.out.trans (hb9.mono B8.out.size))
        clear hr9 hg9 hb9
        go_wp2_with fail
        refine (same_l (some ⟨gy, 0, none⟩) gq cy cq st2 n _ (own_vrow R9.out) Q9.out.p sn2 k5 150 Q9.out.bd (by omega)).mono ?_; rintro e wa ⟨rfl, hba⟩
        have Xa := Lib.hid (X9.out.below hba)
        have Ta := Lib.hid (T9.out.below hba)
        have Ba := Lib.hid (B9.out.trans (hba.mono B9.out.size))
        clear hba
        go_wp2_with fail
        go_loopw [122] (fun i wr => ∃ (k : Nat) (us : List Value), k ≤ n ∧ i = .int .i64 k ∧ Row wr gx 27 1 n cx us ∧ Only [gx] wa wr) (fun i _ => n - (intOf i).toNat)
        case atStart => exact ⟨0, _, by omega, rfl, Xa.out, Only.refl _ _⟩
        case round =>
          obtain ⟨k, us, hk, rfl, hr, ho⟩ := hrel
          have RR := Lib.hid hr
          have OO := Lib.hid ho
          by_cases hlt : k < n
          · have ul : us.length = n := by have := hr.1; omega
            have c0 := Row.cell hr (j := k) (v := us[k]'(by omega)) (List.getElem?_eq_getElem (by omega))
            obtain ⟨uu, huu⟩ : ∃ uu, uu = us[k]'(by omega) := ⟨_, rfl⟩
            rw [← huu] at c0
            have f0 := Row.frozen hr k
            have i0 : (0 : Int) ≤ k := by omega
            have i1 : (k : Int) < n := by omega
            clear hr ho huu ul
            go_wp2_with fail
            go_roundw
            case rel => exact ⟨k + 1, _, by omega, by go_num, Row.set_ RR.out k _, OO.out.setCell (.inl (by simp)) _⟩
            case measure => simp [intOf]; omega
          · have nx := NX.out
            have Tb := Lib.hid (Ta.out.only ho (by simp; omega) (by simp; omega) (by simp; omega))
            have Bb := Lib.hid (ho.below Ba.out Ba.out.size (by simp; omega))
            clear hr ho
            go_wp2_with fail
            refine (mall_c gm gl st _ Tb.out.m (by omega) (by omega)).mono ?_; rintro e wc' ⟨gv, cv, rfl, hrc, hgc, hbc⟩
            rw [sn] at hrc ⊢
            have Rc := Lib.hid hrc
            have Tc := Lib.hid (Tb.out.below hbc)
            have Bc := Lib.hid (Bb.out.trans (hbc.mono Bb.out.size))
            clear hrc hgc hbc
            go_wp2_with fail
            refine (same_l (some ⟨gv, 0, none⟩) gp cv n st n _ (own_vrow Rc.out) Tc.out.p sn k5 100 Tc.out.bd (by omega)).mono ?_; rintro e wd ⟨rfl, hbd⟩
            have Bd' := Lib.hid (Bc.out.trans (hbd.mono Bc.out.size))
            clear hbd
            go_wp2_with fail
            refine (mwakes_c _).mono ?_; rintro e we ⟨rfl, hbe⟩
            go_wp2_with fail
            go_ret
            exact ⟨rfl, Bd'.out.trans (hbe.mono Bd'.out.size)⟩
  · have NO : Hid (z < 1 ∨ 5 < z) := Lib.hid (by omega)
    rcases (show z < 1 ∨ (¬ z < 1 ∧ 5 < z) by omega) with h1 | ⟨h1, h2⟩
    all_goals
      clear hin
      go_enter Try.func4, Try.ntmps4
      go_wp2_with fail
      refine (mnew_no z NO.out _).mono ?_; rintro e w1 ⟨rfl, rfl⟩
      go_wp2_with fail
      refine (mwakes_c _).mono ?_; rintro e w2 ⟨rfl, hb2⟩
      go_wp2_with fail
      go_ret
      exact ⟨rfl, ((Below.refl _ _).alloc (Nat.le_refl _) _).trans (hb2.mono (by simp))⟩

set_option maxRecDepth 100000 in
theorem lawWalk : LawWalk Try.checked 4 Try.f4 := by
  intro H enc W base args ds p hval hA hsz
  rw [Try.params4] at hA hval
  obtain ⟨v0, vs0, d0, ds0, p0, q0, hargs, rfl, rfl, h0, r0⟩ := trodAll_cons hA
  obtain ⟨v1, vs1, d1, ds1, p1, q1, rfl, rfl, rfl, h1, r1⟩ := trodAll_cons r0
  obtain ⟨v2, vs2, d2, ds2, p2, q2, rfl, rfl, rfl, h2, r2⟩ := trodAll_cons r1
  obtain ⟨rfl, rfl, rfl⟩ := trodAll_nil r2
  obtain rfl : args = #[v0, v1, v2] := by cases args; simp_all
  obtain ⟨a0, rfl, rfl, rfl, w0⟩ := open_int Try.underlying3 (hval 0 3 v0 rfl rfl) h0
  obtain ⟨a1, n1, c1, g1, rfl, hnc1, hcm1, hr1⟩ := open_flat Try.underlying32 Try.underlying39 (by kernel_rfl) (by kernel_rfl) (by decide) (by kernel_rfl) (hval 1 32 v1 rfl rfl) h1
  obtain ⟨a2, n2, c2, g2, rfl, hnc2, hcm2, hr2⟩ := open_flat Try.underlying32 Try.underlying39 (by kernel_rfl) (by kernel_rfl) (by decide) (by kernel_rfl) (hval 2 32 v2 rfl rfl) h2
  exact walk a0 a1 n1 c1 g1 a2 n2 c2 g2 W (I64.of_wf w0) hr1 (Nat.le_trans hnc1 hcm1) hr2 (Nat.le_trans hnc2 hcm2)

theorem lifted (os : Os) (started : os.Started) (H : Type) (enc : TypeId × Value → H) :
    ReturnsInHanded {} Try.checked os 4 .any (Rows.meterPlaysSpec.pre6 enc Try.prog Try.f4 Rows.meterPlaysRow.domain false) (Rows.meterPlaysSpec.post enc Try.prog Try.f4 false true false false) :=
  law_lift (C := Try.checked) (s := Rows.meterPlaysSpec) (tb := 4) (by kernel_rfl) started (by kernel_rfl) Try.func4
    (ChangeSpec.witness6 (enc := enc) (C := Try.checked) false ⟨#[], #[.int .i64 0, .slice none 0 0, .slice none 0 0], []⟩ 8 (by kernel_rfl) (by kernel_rfl) (by kernel_rfl) (by kernel_rfl))
    rfl (fun H ds h => by
      match ds, h with
      | [d0, d1, d2], _ => rfl) (by kernel_rfl) (by kernel_rfl) (by kernel_rfl) Try.underlying4 lawWalk

theorem over : Rows.meterPlaysRow.holds Try.pinned (OpenSpec.ofChange Rows.meterPlaysSpec) :=
  OpenClaim.holds_of_wide 4 Try.f4 rfl rfl rfl rfl rfl rfl rfl ⟨rfl, rfl, rfl, rfl, rfl⟩ rfl rfl rfl rfl rfl (by kernel_rfl) Try.func4 (by kernel_rfl)
    (of_decide_eq_true (by kernel_rfl)) (by unfold Func.isWrapper; first | (rw [if_pos (by decide +kernel)]; kernel_rfl) | (rw [if_neg (by decide +kernel)]; exact ⟨rfl, rfl⟩))
    (fun os started H enc _ => lifted os started H enc)

/-- The statement. -/
theorem proved : Rows.MeterPlaysSaid := over
#print axioms proved

end Go.Proofs.Ytfeepofdnjnkpaa.MeterPlays
