/- The law's measures: at, same, copies; an act of both. -/
import Derived.Test.YtfeepofdnjnkpaaMeterP
import Derived.Test.YtfeepofdnjnkpaaKeep
import Derived.Deep.CutRange
import Derived.Deep.CutBlock
import Derived.BigQuiet
namespace Go.Proofs.Ytfeepofdnjnkpaa
open Go.RowKit F
set_option linter.unusedVariables false
attribute [local go_sem] run_store_complex

theorem info_meas2 : (Try.prog.info? 23).map (fun i => (i.zero, i.size, i.bytes)) = some (some (.agg #[.int .i64 0, .int .i64 0]), 2, 16) := by kernel_rfl
theorem copy_m (gp cap : Nat) (st : List (Int × Int)) (n : Nat) (w : World) (h : PRw w gp cap st) (hn : st.length = n) (h1 : 1 ≤ n) (h5 : n ≤ 5) :
    Calls Try.prog 25 #[.slice (some ⟨gp, 0, none⟩) n cap] w fun e w' => ∃ g c, e = .returned (.slice (some ⟨g, 0, none⟩) n c) ∧ PRw w' g c st ∧ w.heap.size ≤ g ∧ Below w.heap.size w w' := by
  obtain ⟨i0, hi0, hz0, hz1, hz2⟩ := info_parts info_meas2
  have H := Lib.hid (show VRow w (some ⟨gp, 0, none⟩) n 2 (st.flatMap pmc) by rw [← hn]; exact h.vrow)
  have N := Lib.hid hn
  clear h hn
  go_enter Try.func25, Try.ntmps25
  go_wp2_with (at_builtin; refine wpList_app rfl _ _ _ rfl w.heap.size 23 i0 _ 2 16 Try.underlying37 hi0 hz0 hz1 hz2 rfl (by omega) none 0 0 [] rfl ⟨rfl, .inl ⟨rfl, rfl⟩⟩ (some ⟨gp, 0, none⟩) n cap (st.flatMap pmc) rfl H.out (pmc_one st) (by unfold maxLen; omega) (by omega) (Nat.le_refl _) ?_; intro a5 c5 w5 h5)
  go_ret
  have h6 := h5.own
  rw [Nat.zero_add, List.nil_append] at h6
  obtain ⟨g, rfl⟩ : ∃ g, a5 = some ⟨g, 0, none⟩ := by
    rcases own_addr h6 with ⟨_, h0, _⟩ | h0
    · omega
    · exact h0
  refine ⟨g, c5, rfl, ?_, (World.ownsRow.lt h6 g rfl).1, h5.only.to_below⟩
  unfold PRw
  rw [N.out]
  exact Row.of_own h6

/-- All parts are whole numbers that a double holds. -/
def Bd (K : Int) (st : List (Int × Int)) : Prop := ∀ z ∈ st, (0 ≤ z.1 ∧ z.1 ≤ K) ∧ 0 ≤ z.2 ∧ z.2 ≤ 10000 * K
theorem Bd.roomy {K : Int} {st : List (Int × Int)} (h : Bd K st) (hK : K ≤ 1000) : Roomy st := fun z hz => by have := h z hz; omega
theorem Bd.mono {K L : Int} {st : List (Int × Int)} (h : Bd K st) (hK : K ≤ L) : Bd L st := fun z hz => by have := h z hz; omega
theorem Bd.small {K : Int} {st : List (Int × Int)} (h : Bd K st) (hK : K ≤ 1000) {z : Int × Int} (hz : z ∈ st) : Small z.1 ∧ Small z.2 := by
  have := h z hz
  exact ⟨Small.of (by omega) (by omega), Small.of (by omega) (by omega)⟩
theorem Bd.zero (K : Int) (n : Nat) (hK : 0 ≤ K) : Bd K (List.replicate n (0, 0)) := fun z hz => by rw [List.eq_of_mem_replicate hz]; simp only; omega

theorem at_l (gp cap : Nat) (st : List (Int × Int)) (n : Nat) (k : Int) (w : World) (h : PRw w gp cap st) (hn : st.length = n) (h5 : n ≤ 5) (hk : I64 k) (z : Int × Int) (hz : atOf st k = z) :
    Calls Try.prog 23 #[.slice (some ⟨gp, 0, none⟩) n cap, .int .i64 k] w fun e w' => e = .returned (.complex .f64 (fw z.1) (fw z.2)) ∧ Below w.heap.size w w' := by
  by_cases hh : 0 ≤ k ∧ k < (n : Int)
  · obtain ⟨j, rfl⟩ := Int.eq_ofNat_of_zero_le hh.1
    have hlt : j < st.length := by omega
    obtain rfl : z = st[j] := by
      rw [← hz]
      unfold atOf mhasB
      rw [decide_eq_true (by omega), if_pos rfl, Int.toNat_natCast]
      simp [List.getD, hlt]
    have a0 := h.c0 j hlt
    have a1 := h.c1 j hlt
    obtain ⟨x, hx⟩ : ∃ x, x = st[j].1 := ⟨_, rfl⟩
    obtain ⟨y, hy⟩ : ∃ y, y = st[j].2 := ⟨_, rfl⟩
    rw [← hx] at a0
    rw [← hy] at a1
    rw [← hx, ← hy]
    have i0 : (0 : Int) ≤ j := hh.1
    have i1 : (j : Int) < n := hh.2
    have i2 : ¬ (n : Int) ≤ j := by omega
    have i3 : ¬ (j : Int) ≥ n := by omega
    clear hz hh h hx hy
    go_enter Try.func23, Try.ntmps23
    go_wp2_with fail
    refine (z_c x y _).mono ?_; rintro e w1 ⟨rfl, hb1⟩
    go_wp2_with fail
    go_ret
    exact ⟨rfl, hb1⟩
  · obtain rfl : z = (0, 0) := by
      rw [← hz]
      unfold atOf mhasB
      rw [decide_eq_false (by omega)]
      rfl
    show Calls _ _ _ _ fun e w' => e = .returned (.complex .f64 (fw 0) (fw 0)) ∧ Below w.heap.size w w'
    rw [fw_zero]
    rcases (show k < 0 ∨ (¬ k < 0 ∧ (n : Int) ≤ k) by omega) with g1 | ⟨g1, g2⟩
    all_goals
      clear hz hh h
      go_enter Try.func23, Try.ntmps23
      go_wp2_with fail
      go_ret
      exact ⟨rfl, Below.refl _ _⟩

set_option maxRecDepth 100000 in
set_option maxHeartbeats 1600000 in
theorem same_l (a : Option Addr) (gp c cap : Nat) (st : List (Int × Int)) (n : Nat) (w : World) (hx : VRow w a n 1 (st.map mcell)) (h : PRw w gp cap st) (hn : st.length = n) (h5 : n ≤ 5) (K : Int) (hb : Bd K st) (hK : K ≤ 1000) :
    Calls Try.prog 27 #[.slice a n c, .slice (some ⟨gp, 0, none⟩) n cap] w fun e w' => e = .returned (.bool true) ∧ Below w.heap.size w w' := by
  have HX := Lib.hid hx
  have H := Lib.hid h
  have N := Lib.hid hn
  have B := Lib.hid hb
  clear hx h hn hb
  go_enter Try.func27, Try.ntmps27
  go_wp2_with fail
  go_loopw [13] (fun i wr => ∃ k : Nat, k ≤ n ∧ i = .int .i64 k ∧ Below w.heap.size w wr) (fun i _ => n - (intOf i).toNat)
  case atStart => exact ⟨0, by omega, rfl, Below.refl _ _⟩
  case round =>
    obtain ⟨k, hk, rfl, hb⟩ := hrel
    have BB := Lib.hid hb
    by_cases hlt : k < n
    · have hkl : k < st.length := by rw [N.out]; exact hlt
      obtain ⟨b, off, rfl, hbl, hc⟩ := (HX.out.below hb).2 (by omega)
      have x0 : wr.cell? ⟨b, off + k, none⟩ = some (cplx st[k].1 st[k].2) := hc k _ (by simp [hkl, mcell])
      have p0 := (H.out.below hb).c0 k hkl
      have p1 := (H.out.below hb).c1 k hkl
      have sm := B.out.small hK (List.getElem_mem hkl)
      unfold cplx at x0
      obtain ⟨x, hx1⟩ : ∃ x, x = st[k].1 := ⟨_, rfl⟩
      obtain ⟨y, hy1⟩ : ∃ y, y = st[k].2 := ⟨_, rfl⟩
      rw [← hx1, ← hy1] at x0 sm
      rw [← hx1] at p0
      rw [← hy1] at p1
      have e1 := eq_fw sm.1 sm.1 true (by simp)
      have e2 := eq_fw sm.2 sm.2 true (by simp)
      have i0 : (0 : Int) ≤ k := by omega
      have i1 : (k : Int) < n := by omega
      have KS : ∀ w', Below wr.heap.size wr w' → w'.cell? ⟨b, off + k, none⟩ = some (.complex .f64 (fw x) (fw y)) ∧ w'.cell? ⟨gp, k * 2, none⟩ = some (.int .i64 x) ∧ w'.cell? ⟨gp, k * 2 + 1, none⟩ = some (.int .i64 y) := fun w' o => ⟨kept o _ _ x0, kept o _ _ p0, kept o _ _ p1⟩
      clear hc hx1 hy1 hb sm hbl
      go_upto_region 6 with fail
      refine wp_region_plan (fun w' => w'.cell? ⟨b, off + k, none⟩ = some (.complex .f64 (fw x) (fw y)) ∧ w'.cell? ⟨gp, k * 2, none⟩ = some (.int .i64 x) ∧ w'.cell? ⟨gp, k * 2 + 1, none⟩ = some (.int .i64 y)) 10 (.take 0 (.take 1 (.take 2 (.take 3 (.take 4 (.take 5 (.take 6 (.take 7 (.one 8 (.take 9 .done)))))))))) (by kernel_rfl) (by kernel_rfl) (by kernel_rfl) (KS _ (Below.refl _ _).drew) ?_
      intro hS0
      repeat (refine' wpPlan_take rfl (by rfl) (by assumption) ?_ ?_; rotate_left; (· (intro w hSw; (try dsimp only at hSw); go_simp; try with_reducible rfl)); try simp only [Act.put, List.setIfInBounds_toArray, List.set_cons_zero, List.set_cons_succ])
      refine wpPlan_one rfl (fun KT hKT => ?_)
      go_simp
      refine (z_c x y _).mono ?_; rintro e w2 ⟨rfl, hb2⟩
      have E2 : Below wr.heap.size wr w2 := (Below.refl _ _).drew.trans hb2
      refine hKT.out _ _ (KS _ E2) (fun _ => ?_); clear hKT KT; try simp only [Act.put, List.setIfInBounds_toArray, List.set_cons_zero, List.set_cons_succ]
      repeat (refine' wpPlan_take rfl (by rfl) (by assumption) ?_ ?_; rotate_left; (· (intro w hSw; (try dsimp only at hSw); go_simp; try with_reducible rfl)); try simp only [Act.put, List.setIfInBounds_toArray, List.set_cons_zero, List.set_cons_succ])
      refine wpPlan_done ?_
      go_wp2_with fail
      go_roundw
      case rel => exact ⟨k + 1, by omega, by go_num, BB.out.trans (E2.mono BB.out.size)⟩
      case measure => simp [intOf]; omega
    · clear hb
      go_wp2_with fail
      go_ret
      exact ⟨rfl, BB.out⟩

theorem add_bd {K : Int} {st : List (Int × Int)} (h : Bd K st) (hK : 0 ≤ K) (i t : Int) (ht : t ≤ 1048576 → t ≤ 10000) : Bd (K + 1) (addSt st i t) := by
  unfold addSt
  split
  · rename_i hb
    unfold addB mhasB at hb
    simp only [Bool.and_eq_true, decide_eq_true_eq] at hb
    intro z hz
    rcases List.mem_or_eq_of_mem_set hz with h1 | h1
    · have := h z h1; omega
    · have hl : i.toNat < st.length := by omega
      have h2 := h _ (List.getElem_mem hl)
      have e : st.getD i.toNat (0, 0) = st[i.toNat] := by simp [List.getD, hl]
      rw [h1, e]
      have := ht hb.2.2
      simp only
      omega
  · exact h.mono (by omega)

set_option maxRecDepth 100000 in
set_option maxHeartbeats 6400000 in
theorem mplay_c (gm gl gp cap gi n : Nat) (st : List (Int × Int)) (K d i t : Int) (w : World) (h : Meter w gm gl st) (hp : PRw w gp cap st) (hi : w.cell? ⟨gi, 0, none⟩ = some (.int .i64 n)) (hn : st.length = n) (h5 : n ≤ 5) (hb : Bd K st) (hK : 0 ≤ K ∧ K ≤ 900) (xd : I64 d) (xi : I64 i) (xt : I64 t) (hne : gp ≠ gl ∧ gp ≠ gm) (hgi : gi ≠ gl ∧ gi ≠ gp) :
    Calls Try.prog 18 #[.pointer (some ⟨gm, 0, none⟩), .slice (some ⟨gp, 0, none⟩) n cap, .agg #[.int .i64 d, .int .i64 i, .int .i64 t], .pointer (some ⟨gi, 0, none⟩)] w fun e w' => e = .returned (.bool true) ∧ ∃ st', Meter w' gm gl st' ∧ PRw w' gp cap st' ∧ st'.length = n ∧ Bd (K + 1) st' ∧ Only [gl, gp] w w' := by
  have M := Lib.hid h
  have P := Lib.hid hp
  have N := Lib.hid hn
  have B := Lib.hid hb
  have HI := Lib.hid hi
  have MG := Lib.hid (show gm ≠ gl from h.ne)
  clear h hp hn hb hi
  go_enter Try.func18, Try.ntmps18
  go_upto_region 1 with fail
  obtain ⟨w1, hw1⟩ : ∃ w1, w1 = w.alloc (.cells #[.int .i64 d, .int .i64 i, .int .i64 t] 39) := ⟨_, rfl⟩
  obtain ⟨ga, hga⟩ : ∃ ga, ga = w.heap.size := ⟨_, rfl⟩
  rw [← hw1, ← hga]
  have hA : Blk w1 ga 39 #[.int .i64 d, .int .i64 i, .int .i64 t] := by rw [hw1, hga]; exact Blk.new _ _ _
  have b1 : Below w.heap.size w w1 := by rw [hw1]; exact (Below.refl _ _).alloc (Nat.le_refl _) _
  have a0 := (hA.cell 0).trans (show _ = some (.int .i64 d) from rfl)
  have a1 := (hA.cell 1).trans (show _ = some (.int .i64 i) from rfl)
  have a2 := (hA.cell 2).trans (show _ = some (.int .i64 t) from rfl)
  have A1 := Lib.hid hA
  have M1 := Lib.hid (M.out.below b1)
  have P1 := Lib.hid (P.out.below b1)
  have O1 := Lib.hid (Only.of_below (S := [gl, gp]) b1)
  have g1 := kept b1 _ _ HI.out
  have lgl := M.out.llt
  have lgp := P.out.lt
  have ngl : ga ≠ gl := by omega
  have ngp : ga ≠ gp := by omega
  have lgm := M.out.mlt
  have lgi := lt_of_cell' HI.out
  have LG : Hid (w.heap.size ≤ ga ∧ gm < ga ∧ gi < ga) := Lib.hid ⟨Nat.le_of_eq hga.symm, by omega, by rw [hga]; exact lgi⟩
  clear hw1 hA b1 hga lgl lgp HI lgm lgi
  go_wp2_with fail
  refine (within_q d 10 _ xd (by omega) (by omega)).mono ?_; rintro e w' ⟨x, rfl, _, x0, x9, rfl⟩
  by_cases hx : x = 9
  · subst hx
    clear x0 x9
    go_wp2_with fail
    refine (reset_c gm gl st _ M1.out (by rw [N.out]; exact h5)).mono ?_; rintro e w2 ⟨rfl, hM2, ho2⟩
    rw [N.out] at hM2
    have M2 := Lib.hid hM2
    have P2 := Lib.hid (P1.out.only ho2 (by simp; exact hne.1))
    have O2 := Lib.hid (O1.out.trans (ho2.mono (by simp)))
    clear hM2 ho2 a0 a1 a2 g1
    go_wp2_with fail
    go_loopw [18] (fun v wr => ∃ (k : Nat) (L : List (Int × Int)), k ≤ n ∧ v = .int .i64 k ∧ PRw wr gp cap L ∧ L.length = n ∧ (∀ j, j < k → L[j]? = some (0, 0)) ∧ Only [gp] w2 wr) (fun v _ => n - (intOf v).toNat)
    case atStart => exact ⟨0, st, by omega, rfl, P2.out, N.out, by simp, Only.refl _ _⟩
    case round =>
      obtain ⟨k, L, hk, rfl, hP, hL, hz, ho⟩ := hrel
      have PP := Lib.hid hP
      have LL := Lib.hid hL
      have ZZ := Lib.hid hz
      have O := Lib.hid ho
      by_cases hlt : k < n
      · have c0 := hP.c0 k (by omega)
        have c1 := hP.c1 k (by omega)
        have f0 := hP.fr (k * 2)
        have f1 := hP.fr (k * 2 + 1)
        obtain ⟨z, hz1⟩ : ∃ z, z = L[k]'(by omega) := ⟨_, rfl⟩
        rw [← hz1] at c0 c1
        have i0 : (0 : Int) ≤ k := by omega
        have i1 : (k : Int) < n := by omega
        clear hP hL hz ho hz1
        go_wp2_with fail
        go_roundw
        case rel =>
          refine ⟨k + 1, L.set k (0, 0), by omega, by go_num, PP.out.set (by have := LL.out; omega) 0 0, by rw [List.length_set]; exact LL.out, fun j hj => ?_, (O.out.setCell (.inl (by simp)) _).setCell (.inl (by simp)) _⟩
          rw [List.getElem?_set]
          split
          · rename_i e
            subst e
            rw [if_pos (by have := LL.out; omega)]
          · exact ZZ.out j (by omega)
        case measure => simp [intOf]; omega
      · have e : L = List.replicate n (0, 0) := by
          apply List.ext_getElem?
          intro j
          rw [List.getElem?_replicate]
          by_cases hj : j < n
          · rw [if_pos hj]; exact ZZ.out j (by omega)
          · rw [if_neg hj, List.getElem?_eq_none (by have := LL.out; omega)]
        rw [e] at PP
        clear hP hL hz ho e
        go_wp2_with fail
        go_ret
        exact ⟨rfl, List.replicate n (0, 0), M2.out.only O.out (by simp; exact hne.2.symm) (by simp; exact hne.1.symm), PP.out, by simp, Bd.zero _ _ (by omega), O2.out.trans (O.out.mono (by simp))⟩
  · have hx9 : (x == 9) = false := beq_eq_false_iff_ne.2 hx
    clear hx
    go_upto_region 9 with fail
    go_cut [33] from 26 to 33 (fun v wx => v = .bool (decide (10000 < t ∧ t ≤ 1048576)) ∧ wx = w1)
    case first =>
      rcases (show (10000 < t ∧ t ≤ 1048576) ∨ (¬ 10000 < t) ∨ (10000 < t ∧ ¬ t ≤ 1048576) by omega) with ⟨h1, h2⟩ | h1 | ⟨h1, h2⟩
      · have e : decide (10000 < t ∧ t ≤ 1048576) = true := decide_eq_true ⟨h1, h2⟩
        go_wp2_with fail
        go_meet
        exact ⟨by rw [e], rfl⟩
      all_goals
        have e : decide (10000 < t ∧ t ≤ 1048576) = false := decide_eq_false (by omega)
        go_wp2_with fail
        go_meet
        exact ⟨by rw [e], rfl⟩
    case rest =>
      obtain ⟨rfl, rfl⟩ := hcut
      obtain ⟨w2, hw2⟩ : ∃ w2, w2 = wc := ⟨_, rfl⟩
      rw [← hw2] at A1 M1 P1 O1 a0 a1 a2 g1 ⊢
      clear hw2
      obtain ⟨bv, hbv⟩ : ∃ bv, bv = decide (10000 < t ∧ t ≤ 1048576) := ⟨_, rfl⟩
      rw [← hbv]
      have BV := Lib.hid hbv
      clear hbv
      go_upto_if 33 with fail
      go_cut [] from 34 to 37 (fun wx => ∃ t', I64 t' ∧ (t' ≤ 1048576 → t' ≤ 10000) ∧ wx.cell? ⟨ga, 1, none⟩ = some (.int .i64 i) ∧ wx.cell? ⟨ga, 2, none⟩ = some (.int .i64 t') ∧ Meter wx gm gl st ∧ PRw wx gp cap st ∧ wx.cell? ⟨gi, 0, none⟩ = some (.int .i64 n) ∧ Only [gl, gp] w wx)
      case first =>
        cases bv with
        | true =>
          have f2 := A1.out.frozen 2
          go_wp2_with fail
          refine (within_q t 10000 _ xt (by omega) (by omega)).mono ?_; rintro e w' ⟨y, rfl, _, y0, y1, rfl⟩
          go_wp2_with fail
          go_meet
          have ka := A1.out.set_ 2 (.int .i64 y)
          have oa : Only [ga] w2 (w2.setCell ⟨ga, 2, none⟩ (.int .i64 y)) := (Only.refl _ _).setCell (.inl (by simp)) _
          have lg := LG.out
          exact ⟨y, by unfold I64; omega, by omega, ka.cell 1, ka.cell 2, M1.out.only oa (by simp; omega) (by simp; omega), P1.out.only oa (by simp; omega), far_cell g1 (by simp; omega), O1.out.then oa (fun k hk => .inr (by simp at hk; omega))⟩
        | false =>
          have h1 := of_decide_eq_false BV.out.symm
          go_wp2_with fail
          go_meet
          exact ⟨t, xt, by omega, a1, a2, M1.out, P1.out, g1, O1.out⟩
      case rest =>
        obtain ⟨t', xt', ht', c1, c2, hM, hP, hg, hO⟩ := hcut
        obtain ⟨w3, hw3⟩ : ∃ w3, w3 = wc := ⟨_, rfl⟩
        rw [← hw3] at c1 c2 hM hP hg hO ⊢
        have M3 := Lib.hid hM
        have P3 := Lib.hid hP
        have O3 := Lib.hid hO
        have HT := Lib.hid ht'
        have NB : Hid (Bd (K + 1) (addSt st i t')) := Lib.hid (add_bd B.out hK.1 i t' ht')
        clear hw3 hM hP hO a0 a1 a2 g1 A1 M1 P1 O1 ht'
        by_cases hin : (0 ≤ i ∧ i < (n : Int)) ∧ (0 ≤ t' ∧ t' ≤ 1048576)
        · obtain ⟨j, rfl⟩ := Int.eq_ofNat_of_zero_le hin.1.1
          have hjl : j < st.length := by rw [N.out]; omega
          have AB : Hid (addB st (j : Int) t' = true) := Lib.hid (by
            unfold addB mhasB
            rw [decide_eq_true (by rw [N.out]; exact hin.1), decide_eq_true hin.2]
            rfl)
          have hz := B.out _ (List.getElem_mem hjl)
          have hg2 : st.getD j (0, 0) = st[j] := by simp [List.getD, hjl]
          have p0 := P3.out.c0 j hjl
          have p1 := P3.out.c1 j hjl
          have f0 := P3.out.fr (j * 2)
          obtain ⟨N0, hN0⟩ : ∃ z, z = st[j].1 := ⟨_, rfl⟩
          obtain ⟨T0, hT0⟩ : ∃ z, z = st[j].2 := ⟨_, rfl⟩
          rw [← hN0] at p0 hz
          rw [← hT0] at p1 hz
          have AS : Hid (addSt st (j : Int) t' = st.set j (N0 + 1, T0 + t')) := Lib.hid (by
            unfold addSt
            rw [AB.out, if_pos rfl, Int.toNat_natCast, hg2, hN0, hT0])
          have e1 : IntKind.i64.wrap (N0 + 1) = N0 + 1 := IntWalk.i64_in _ (by omega)
          have e2 : IntKind.i64.wrap (T0 + t') = T0 + t' := IntWalk.i64_in _ (by omega)
          have i0 : (0 : Int) ≤ j := by omega
          have i1 : (j : Int) < n := hin.1.2
          have t0 : (0 : Int) ≤ t' := hin.2.1
          have t1 : t' ≤ 1048576 := hin.2.2
          have lg := LG.out
          have n1 : gp ≠ ga := by omega
          clear hz hg2 hN0 hT0 hin
          go_upto_region 14 with fail
          obtain ⟨w4, hw4⟩ : ∃ w4, w4 = w3.setCell ⟨gp, j * 2, none⟩ (.int .i64 (N0 + 1)) := ⟨_, rfl⟩
          rw [← hw4]
          have o4 : Only [gp] w3 w4 := by rw [hw4]; exact (Only.refl _ _).setCell (.inl (by simp)) _
          have d1 := o4.cell_ c1 (by simpa using n1.symm)
          have d2 := o4.cell_ c2 (by simpa using n1.symm)
          have p4 : Row w4 gp 23 2 st.length cap ((st.flatMap pmc).set (j * 2) (.int .i64 (N0 + 1))) := by rw [hw4]; exact Row.set_ P3.out _ _
          have q1 : w4.cell? ⟨gp, j * 2 + 1, none⟩ = some (.int .i64 T0) := Row.cell p4 (by
            rw [List.getElem?_set_ne (by omega)]
            have e := flat_get pmc 2 pmc_len st j 1 (by omega)
            rw [e, List.getElem?_eq_getElem hjl]
            have h2 := P3.out.c1 j hjl
            rw [p1] at h2
            injection h2 with h2
            injection h2 with _ h2
            show some (Value.int .i64 st[j].2) = _
            rw [h2])
          have f1 : w4.frozen? ⟨gp, j * 2 + 1, none⟩ = false := Row.frozen p4 _
          have P4 := Lib.hid p4
          have M4 := Lib.hid (M3.out.only o4 (by simpa using hne.2.symm) (by simpa using hne.1.symm))
          have O4 := Lib.hid (O3.out.trans (o4.mono (by simp)))
          clear hw4 o4 c1 c2 p0 p1 f0 p4 hg
          have KS : ∀ j', (w4.drewN j').cell? ⟨ga, 1, none⟩ = some (.int .i64 j) ∧ (w4.drewN j').cell? ⟨ga, 2, none⟩ = some (.int .i64 t') ∧ (w4.drewN j').cell? ⟨gp, j * 2 + 1, none⟩ = some (.int .i64 T0) := fun _ => ⟨d1, d2, q1⟩
          refine wp_region_plan (fun w' => w'.cell? ⟨ga, 1, none⟩ = some (.int .i64 j) ∧ w'.cell? ⟨ga, 2, none⟩ = some (.int .i64 t') ∧ w'.cell? ⟨gp, j * 2 + 1, none⟩ = some (.int .i64 T0)) 11 (.take 0 (.take 1 (.take 2 (.take 3 (.take 4 (.take 5 (.take 6 (.take 7 (.take 8 (.one 9 (.take 10 (.one 11 .done)))))))))))) (by kernel_rfl) (by kernel_rfl) (by kernel_rfl) (KS 1) ?_
          intro hS0
          repeat (refine' wpPlan_take rfl (by rfl) (by assumption) ?_ ?_; rotate_left; (· (intro w hSw; (try dsimp only at hSw); go_simp; try with_reducible rfl)); try simp only [Act.put, List.setIfInBounds_toArray, List.set_cons_zero, List.set_cons_succ])
          refine wpPlan_one rfl (fun KT hKT => ?_)
          go_simp
          refine hKT.out _ _ ((KS 1)) (fun _ => ?_); clear hKT KT; try simp only [Act.put, List.setIfInBounds_toArray, List.set_cons_zero, List.set_cons_succ]
          repeat (refine' wpPlan_take rfl (by rfl) (by assumption) ?_ ?_; rotate_left; (· (intro w hSw; (try dsimp only at hSw); go_simp; try with_reducible rfl)); try simp only [Act.put, List.setIfInBounds_toArray, List.set_cons_zero, List.set_cons_succ])
          refine wpPlan_last rfl (fun KT hKT => ?_)
          go_simp
          refine hKT.out _ _ ?_; clear hKT KT; try simp only [Act.put, List.setIfInBounds_toArray, List.set_cons_zero, List.set_cons_succ]
          refine wpPlan_done ?_
          obtain ⟨w5, hw5⟩ : ∃ w5, w5 = (w4.setCell ⟨gp, j * 2 + 1, none⟩ (.int .i64 (T0 + t'))).drew := ⟨_, rfl⟩
          rw [← hw5]
          have o5 : Only [gp] w4 w5 := by rw [hw5]; exact ((Only.refl _ _).setCell (.inl (by simp)) _).drew
          have d1 := o5.cell_ d1 (by simpa using n1.symm)
          have d2 := o5.cell_ d2 (by simpa using n1.symm)
          have p5 : PRw w5 gp cap (addSt st (j : Int) t') := by
            have e := Row.set_ P4.out (j * 2 + 1) (.int .i64 (T0 + t'))
            unfold PRw
            rw [AS.out, List.length_set, ← flat_set2 pmc pmc_len (N0 + 1, T0 + t') _ _ rfl st j hjl, hw5]
            exact e
          have P5 := Lib.hid p5
          have M5 := Lib.hid (M4.out.only o5 (by simpa using hne.2.symm) (by simpa using hne.1.symm))
          have O5 := Lib.hid (O4.out.trans (o5.mono (by simp)))
          clear hw5 o5 p5 q1 f1 KS hS0
          go_wp2_with fail
          refine (add_c gm gl st j t' _ M5.out (by rw [N.out]; exact h5) (B.out.roomy (by omega)) xi xt' true AB.out _ rfl).mono ?_; rintro e w6 ⟨rfl, hM6, ho6⟩
          have M6 := Lib.hid hM6
          have P6 := Lib.hid (P5.out.only ho6 (by simpa using hne.1))
          have O6 := Lib.hid (O5.out.trans (ho6.mono (by simp)))
          clear hM6 ho6
          go_wp2_with fail
          go_ret
          exact ⟨rfl, addSt st j t', M6.out, P6.out, by rw [addSt_len, N.out], NB.out, O6.out⟩
        · have AB : Hid (addB st i t' = false) := Lib.hid (by
            unfold addB mhasB
            rw [N.out]
            by_cases h1 : 0 ≤ i ∧ i < (n : Int)
            · rw [decide_eq_true h1, decide_eq_false (fun h2 => hin ⟨h1, h2⟩)]
              rfl
            · rw [decide_eq_false h1]
              rfl)
          have AS : Hid (addSt st i t' = st) := Lib.hid (by unfold addSt; rw [AB.out]; rfl)
          rcases (show i < 0 ∨ (0 ≤ i ∧ ¬ i < (n : Int)) ∨ (0 ≤ i ∧ i < (n : Int) ∧ t' < 0) ∨ (0 ≤ i ∧ i < (n : Int) ∧ 0 ≤ t' ∧ ¬ t' ≤ 1048576) by omega) with h1 | ⟨h1, h2⟩ | ⟨h1, h2, h3⟩ | ⟨h1, h2, h3, h4⟩
          all_goals
            clear hin
            go_wp2_with fail
            refine (add_c gm gl st i t' _ M3.out (by rw [N.out]; exact h5) (B.out.roomy (by omega)) xi xt' false AB.out _ rfl).mono ?_; rintro e w6 ⟨rfl, hM6, ho6⟩
            have M6 := Lib.hid hM6
            have P6 := Lib.hid (P3.out.only ho6 (by simpa using hne.1))
            have O6 := Lib.hid (O3.out.trans (ho6.mono (by simp)))
            clear hM6 ho6
            go_wp2_with fail
            go_ret
            exact ⟨rfl, addSt st i t', M6.out, by rw [AS.out]; exact P6.out, by rw [addSt_len, N.out], NB.out, O6.out⟩
end Go.Proofs.Ytfeepofdnjnkpaa
