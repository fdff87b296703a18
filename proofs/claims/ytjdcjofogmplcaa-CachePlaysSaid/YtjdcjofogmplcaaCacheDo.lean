/- The law's act on a cache and on a plain one: both answer alike. -/
import Derived.Test.YtjdcjofogmplcaaCacheC
import Derived.Test.YtjdcjofogmplcaaKeep
import Derived.Deep.RegionHeld3
namespace Go.Proofs.Ytjdcjofogmplcaa
open Go.RowKit
set_option linter.unusedVariables false

/-- A plain cache's cells. -/
def plainL (st : List (Int × Int)) : List Value :=
  [.int .i64 st.length, .int .i64 (st.getD 0 (0, 0)).1, .int .i64 (st.getD 1 (0, 0)).1, .int .i64 (st.getD 2 (0, 0)).1, .int .i64 (st.getD 3 (0, 0)).1,
    .int .i64 (st.getD 0 (0, 0)).2, .int .i64 (st.getD 1 (0, 0)).2, .int .i64 (st.getD 2 (0, 0)).2, .int .i64 (st.getD 3 (0, 0)).2]
theorem plain_time (st : List (Int × Int)) (n : Nat) (hn : n < 4) : (plainL st)[1 + n]? = some (.int .i64 (st.getD n (0, 0)).1) := by
  match n, hn with
  | 0, _ => rfl
  | 1, _ => rfl
  | 2, _ => rfl
  | 3, _ => rfl
theorem plain_res (st : List (Int × Int)) (n : Nat) (hn : n < 4) : (plainL st)[5 + n]? = some (.int .i64 (st.getD n (0, 0)).2) := by
  match n, hn with
  | 0, _ => rfl
  | 1, _ => rfl
  | 2, _ => rfl
  | 3, _ => rfl
theorem getD_set (st : List (Int × Int)) (n i : Nat) (x d : Int × Int) (hn : n < st.length) : (st.set n x).getD i d = if n = i then x else st.getD i d := by
  by_cases h : n = i
  · subst h
    simp [List.getD, hn]
  · rw [if_neg h]
    simp [List.getD, List.getElem?_set_ne h]
theorem plain_set (st : List (Int × Int)) (n : Nat) (t r : Int) (h4 : n < 4) (hn : n < st.length) : ((plainL st).set (1 + n) (.int .i64 t)).set (5 + n) (.int .i64 r) = plainL (st.set n (t, r)) := by
  unfold plainL
  simp only [getD_set st n _ (t, r) (0, 0) hn, List.length_set]
  match n, h4 with
  | 0, _ => simp
  | 1, _ => simp
  | 2, _ => simp
  | 3, _ => simp

/-- The state behind an act. -/
def doSt (st : List (Int × Int)) (u0 u1 u2 u3 : Int) : List (Int × Int) := if u0 % 4 < 2 then putSt st u1 u2 u3 else st

set_option maxHeartbeats 1600000 in
theorem do_out (gc gl gp : Nat) (st : List (Int × Int)) (u0 u1 u2 u3 : Int) (w : World) (h : Cache w gc gl st) (hp : Blk w gp 69 (plainL st).toArray) (hn : st.length ≤ 4)
    (x0 : I64 u0) (x1 : I64 u1) (x2 : I64 u2) (x3 : I64 u3) (hh : hasB st u1 = false) :
    Calls Try.prog 40 #[.pointer (some ⟨gc, 0, none⟩), .pointer (some ⟨gp, 0, none⟩), .agg #[.int .i64 u0, .int .i64 u1, .int .i64 u2, .int .i64 u3]] w fun e w' => e = .returned (.bool true) ∧ Cache w' gc gl st ∧ Blk w' gp 69 (plainL st).toArray ∧ Only [gl, gp] w w' := by
  have H := Lib.hid h
  have HP := Lib.hid hp
  have hne1 : gp ≠ gl := by
    obtain ⟨cap, _, h2⟩ := h.ex
    exact (h2.ne hp (by decide)).symm
  have hB : putB st u1 u2 = false := by unfold putB; rw [hh]; rfl
  have hS : putSt st u1 u2 u3 = st := by unfold putSt; rw [hB]; rfl
  have hL : lastOf st u1 = 0 := by unfold lastOf; rw [hh]; rfl
  have hG : getB st u1 u2 = false := by unfold getB; rw [hh]; rfl
  have hR : getR st u1 u2 = 0 := by unfold getR; rw [hG]; rfl
  have HB := Lib.hid hB
  have HS := Lib.hid hS
  have HL := Lib.hid hL
  have HG := Lib.hid hG
  have HR := Lib.hid hR
  have c0 := (hp.cell 0).trans (show _ = some (.int .i64 st.length) from rfl)
  have n0 := lt_of_cell' c0
  have hno : u1 < 0 ∨ (0 ≤ u1 ∧ ¬ u1 < st.length) := by
    have := of_decide_eq_false hh
    omega
  clear h hp hB hS hL hG hR hh
  rcases hno with hno | ⟨hno1, hno2⟩
  · have e0 : decide (0 ≤ u1) = false := decide_eq_false (by omega)
    go_enter Try.func40, Try.ntmps40
    go_wp2_with fail
    obtain ⟨w1, hw1⟩ : ∃ w1, w1 = w.alloc (.cells #[.int .i64 u0, .int .i64 u1, .int .i64 u2, .int .i64 u3] 51) := ⟨_, rfl⟩
    obtain ⟨ga, hga⟩ : ∃ ga, ga = w.heap.size := ⟨_, rfl⟩
    rw [← hw1, ← hga]
    have hA : Blk w1 ga 51 #[.int .i64 u0, .int .i64 u1, .int .i64 u2, .int .i64 u3] := by rw [hw1, hga]; exact Blk.new _ _ _
    have hb1 : Below w.heap.size w w1 := by rw [hw1]; exact (Below.refl _ _).alloc (Nat.le_refl _) _
    have H1 := Lib.hid (H.out.below hb1)
    have P1 := Lib.hid (HP.out.below hb1 n0)
    have a0 := (hA.cell 0).trans (show _ = some (.int .i64 u0) from rfl)
    have a1 := (hA.cell 1).trans (show _ = some (.int .i64 u1) from rfl)
    have a2 := (hA.cell 2).trans (show _ = some (.int .i64 u2) from rfl)
    have a3 := (hA.cell 3).trans (show _ = some (.int .i64 u3) from rfl)
    have c1 : w1.cell? ⟨gp, 0, none⟩ = some (.int .i64 st.length) := (P1.out.cell 0).trans rfl
    have o1 := Lib.hid (Only.of_below (S := [gl, gp]) hb1)
    have hgg : ga ≠ gp := by rw [hga]; omega
    clear hw1 hga hA hb1 c0
    go_quiet (fail)
    have H2 := Lib.hid (H1.out.drewN nq)
    have P2 := Lib.hid (P1.out.drewN nq)
    have o2 := Lib.hid (o1.out.drewN nq)
    have b0 : (w1.drewN nq).cell? ⟨ga, 0, none⟩ = _ := a0
    have b1 : (w1.drewN nq).cell? ⟨ga, 1, none⟩ = _ := a1
    have b2 : (w1.drewN nq).cell? ⟨ga, 2, none⟩ = _ := a2
    have b3 : (w1.drewN nq).cell? ⟨ga, 3, none⟩ = _ := a3
    clear a0 a1 a2 a3 c1 H1 P1 o1
    generalize w1.drewN nq = w2 at H2 P2 o2 b0 b1 b2 b3 ⊢
    go_wp2_with fail
    refine (within_q u0 4 _ x0 (by omega) (by omega)).mono ?_; rintro e w' ⟨q, rfl, hq, hq0, hq4, rfl⟩
    clear hq
    have hqq : q = 0 ∨ q = 1 ∨ q = 2 ∨ q = 3 := by omega
    rcases hqq with rfl | rfl | rfl | rfl
    · go_wp2_with fail
      refine (put_c gc gl st u1 u2 u3 _ H2.out hn x1 false HB.out _ HS.out).mono ?_; rintro e w3 ⟨rfl, h3, o3⟩
      have p3 := P2.out.only o3 (by simpa using hne1)
      go_wp2
      go_ret
      exact ⟨rfl, h3, p3, o2.out.then o3 (by simp)⟩
    · go_wp2_with fail
      refine (put_c gc gl st u1 u2 u3 _ H2.out hn x1 false HB.out _ HS.out).mono ?_; rintro e w3 ⟨rfl, h3, o3⟩
      have p3 := P2.out.only o3 (by simpa using hne1)
      go_wp2
      go_ret
      exact ⟨rfl, h3, p3, o2.out.then o3 (by simp)⟩
    · go_wp2_with fail
      refine (last_c gc gl st u1 _ H2.out hn x1 0 HL.out).mono ?_; rintro e w3 ⟨rfl, rfl⟩
      go_wp2
      go_ret
      exact ⟨rfl, H2.out, P2.out, o2.out⟩
    · go_wp2_with fail
      refine (get_c gc gl st u1 u2 _ H2.out hn x1 false HG.out 0 HR.out).mono ?_; rintro e w3 ⟨rfl, rfl⟩
      go_wp2
      go_ret
      exact ⟨rfl, H2.out, P2.out, o2.out⟩
  · have e0 : decide (0 ≤ u1) = true := decide_eq_true hno1
    have e1 : decide (u1 < (st.length : Int)) = false := decide_eq_false hno2
    go_enter Try.func40, Try.ntmps40
    go_wp2_with fail
    obtain ⟨w1, hw1⟩ : ∃ w1, w1 = w.alloc (.cells #[.int .i64 u0, .int .i64 u1, .int .i64 u2, .int .i64 u3] 51) := ⟨_, rfl⟩
    obtain ⟨ga, hga⟩ : ∃ ga, ga = w.heap.size := ⟨_, rfl⟩
    rw [← hw1, ← hga]
    have hA : Blk w1 ga 51 #[.int .i64 u0, .int .i64 u1, .int .i64 u2, .int .i64 u3] := by rw [hw1, hga]; exact Blk.new _ _ _
    have hb1 : Below w.heap.size w w1 := by rw [hw1]; exact (Below.refl _ _).alloc (Nat.le_refl _) _
    have H1 := Lib.hid (H.out.below hb1)
    have P1 := Lib.hid (HP.out.below hb1 n0)
    have a0 := (hA.cell 0).trans (show _ = some (.int .i64 u0) from rfl)
    have a1 := (hA.cell 1).trans (show _ = some (.int .i64 u1) from rfl)
    have a2 := (hA.cell 2).trans (show _ = some (.int .i64 u2) from rfl)
    have a3 := (hA.cell 3).trans (show _ = some (.int .i64 u3) from rfl)
    have c1 : w1.cell? ⟨gp, 0, none⟩ = some (.int .i64 st.length) := (P1.out.cell 0).trans rfl
    have o1 := Lib.hid (Only.of_below (S := [gl, gp]) hb1)
    have hgg : ga ≠ gp := by rw [hga]; omega
    clear hw1 hga hA hb1 c0
    go_quiet (fail)
    have H2 := Lib.hid (H1.out.drewN nq)
    have P2 := Lib.hid (P1.out.drewN nq)
    have o2 := Lib.hid (o1.out.drewN nq)
    have b0 : (w1.drewN nq).cell? ⟨ga, 0, none⟩ = _ := a0
    have b1 : (w1.drewN nq).cell? ⟨ga, 1, none⟩ = _ := a1
    have b2 : (w1.drewN nq).cell? ⟨ga, 2, none⟩ = _ := a2
    have b3 : (w1.drewN nq).cell? ⟨ga, 3, none⟩ = _ := a3
    clear a0 a1 a2 a3 c1 H1 P1 o1
    generalize w1.drewN nq = w2 at H2 P2 o2 b0 b1 b2 b3 ⊢
    go_wp2_with fail
    refine (within_q u0 4 _ x0 (by omega) (by omega)).mono ?_; rintro e w' ⟨q, rfl, hq, hq0, hq4, rfl⟩
    clear hq
    have hqq : q = 0 ∨ q = 1 ∨ q = 2 ∨ q = 3 := by omega
    rcases hqq with rfl | rfl | rfl | rfl
    · go_wp2_with fail
      refine (put_c gc gl st u1 u2 u3 _ H2.out hn x1 false HB.out _ HS.out).mono ?_; rintro e w3 ⟨rfl, h3, o3⟩
      have p3 := P2.out.only o3 (by simpa using hne1)
      go_wp2
      go_ret
      exact ⟨rfl, h3, p3, o2.out.then o3 (by simp)⟩
    · go_wp2_with fail
      refine (put_c gc gl st u1 u2 u3 _ H2.out hn x1 false HB.out _ HS.out).mono ?_; rintro e w3 ⟨rfl, h3, o3⟩
      have p3 := P2.out.only o3 (by simpa using hne1)
      go_wp2
      go_ret
      exact ⟨rfl, h3, p3, o2.out.then o3 (by simp)⟩
    · go_wp2_with fail
      refine (last_c gc gl st u1 _ H2.out hn x1 0 HL.out).mono ?_; rintro e w3 ⟨rfl, rfl⟩
      go_wp2
      go_ret
      exact ⟨rfl, H2.out, P2.out, o2.out⟩
    · go_wp2_with fail
      refine (get_c gc gl st u1 u2 _ H2.out hn x1 false HG.out 0 HR.out).mono ?_; rintro e w3 ⟨rfl, rfl⟩
      go_wp2
      go_ret
      exact ⟨rfl, H2.out, P2.out, o2.out⟩

set_option maxHeartbeats 3200000 in
theorem do_in (gc gl gp : Nat) (st : List (Int × Int)) (u0 u2 u3 : Int) (n : Nat) (w : World) (h : Cache w gc gl st) (hp : Blk w gp 69 (plainL st).toArray) (hn : st.length ≤ 4)
    (x0 : I64 u0) (x2 : I64 u2) (x3 : I64 u3) (hlt : n < st.length) :
    Calls Try.prog 40 #[.pointer (some ⟨gc, 0, none⟩), .pointer (some ⟨gp, 0, none⟩), .agg #[.int .i64 u0, .int .i64 n, .int .i64 u2, .int .i64 u3]] w fun e w' => e = .returned (.bool true) ∧ Cache w' gc gl (doSt st u0 n u2 u3) ∧ Blk w' gp 69 (plainL (doSt st u0 n u2 u3)).toArray ∧ Only [gl, gp] w w' := by
  have H := Lib.hid h
  have HP := Lib.hid hp
  have hne1 : gp ≠ gl := by
    obtain ⟨cap, _, h2⟩ := h.ex
    exact (h2.ne hp (by decide)).symm
  have hne2 : gp ≠ gc := by
    obtain ⟨cap, h1, _⟩ := h.ex
    exact (h1.ne_ hp (by decide)).symm
  have x1 : I64 (n : Int) := by unfold I64; omega
  have hh : hasB st n = true := decide_eq_true ⟨by omega, by omega⟩
  have hg : st.getD n (0, 0) = st[n] := by simp [List.getD, hlt]
  have h4 : n < 4 := by omega
  obtain ⟨T, hT⟩ : ∃ T, T = (st.getD n (0, 0)).1 := ⟨_, rfl⟩
  obtain ⟨R, hR⟩ : ∃ R, R = (st.getD n (0, 0)).2 := ⟨_, rfl⟩
  have hPB : putB st n u2 = decide (T < u2) := by unfold putB; rw [hh, Int.toNat_natCast, ← hT]; rfl
  have hL : lastOf st n = T := by unfold lastOf; rw [hh, Int.toNat_natCast, ← hT]; rfl
  have hG : getB st n u2 = (decide (1 ≤ u2) && decide (T = u2)) := by unfold getB; rw [hh, Int.toNat_natCast, ← hT, Bool.true_and]
  have hGR : getB st n u2 = true → getR st n u2 = R := fun hb => by unfold getR; rw [hb, Int.toNat_natCast, ← hR]; rfl
  have hGR0 : getB st n u2 = false → getR st n u2 = 0 := fun hb => by unfold getR; rw [hb]; rfl
  have hds : doSt st u0 n u2 u3 = if u0 % 4 < 2 then putSt st n u2 u3 else st := rfl
  have HPB := Lib.hid hPB
  have HL := Lib.hid hL
  have HG := Lib.hid hG
  have HGR := Lib.hid hGR
  have HGR0 := Lib.hid hGR0
  have HDS := Lib.hid hds
  have HT := Lib.hid hT
  have HR := Lib.hid hR
  have c0 := (hp.cell 0).trans (show _ = some (.int .i64 st.length) from rfl)
  have n0 := lt_of_cell' c0
  clear h hp hPB hL hG hGR hGR0 hh hg hT hR hds
  have e0 : decide (0 ≤ (n : Int)) = true := decide_eq_true (by omega)
  have e1 : decide ((n : Int) < (st.length : Int)) = true := decide_eq_true (by omega)
  have i0 : (0 : Int) ≤ n := by omega
  have i1 : (n : Int) < 4 := by omega
  go_enter Try.func40, Try.ntmps40
  go_wp2_with fail
  obtain ⟨w1, hw1⟩ : ∃ w1, w1 = w.alloc (.cells #[.int .i64 u0, .int .i64 n, .int .i64 u2, .int .i64 u3] 51) := ⟨_, rfl⟩
  obtain ⟨ga, hga⟩ : ∃ ga, ga = w.heap.size := ⟨_, rfl⟩
  rw [← hw1, ← hga]
  have hA : Blk w1 ga 51 #[.int .i64 u0, .int .i64 n, .int .i64 u2, .int .i64 u3] := by rw [hw1, hga]; exact Blk.new _ _ _
  have hb1 : Below w.heap.size w w1 := by rw [hw1]; exact (Below.refl _ _).alloc (Nat.le_refl _) _
  have H1 := Lib.hid (H.out.below hb1)
  have P1 := Lib.hid (HP.out.below hb1 n0)
  have a0 := (hA.cell 0).trans (show _ = some (.int .i64 u0) from rfl)
  have a1 := (hA.cell 1).trans (show _ = some (.int .i64 n) from rfl)
  have a2 := (hA.cell 2).trans (show _ = some (.int .i64 u2) from rfl)
  have a3 := (hA.cell 3).trans (show _ = some (.int .i64 u3) from rfl)
  have c1 : w1.cell? ⟨gp, 0, none⟩ = some (.int .i64 st.length) := (P1.out.cell 0).trans rfl
  have o1 := Lib.hid (Only.of_below (S := [gl, gp]) hb1)
  have hgg : ga ≠ gp := by rw [hga]; omega
  clear hw1 hga hA hb1 c0
  go_quiet (fail)
  have H2 := Lib.hid (H1.out.drewN nq)
  have P2 := Lib.hid (P1.out.drewN nq)
  have o2 := Lib.hid (o1.out.drewN nq)
  have b0 : (w1.drewN nq).cell? ⟨ga, 0, none⟩ = _ := a0
  have b1 : (w1.drewN nq).cell? ⟨ga, 1, none⟩ = _ := a1
  have b2 : (w1.drewN nq).cell? ⟨ga, 2, none⟩ = _ := a2
  have b3 : (w1.drewN nq).cell? ⟨ga, 3, none⟩ = _ := a3
  have p1 : (w1.drewN nq).cell? ⟨gp, 1 + n, none⟩ = some (.int .i64 T) := by
    rw [P2.out.cell, List.getElem?_toArray, plain_time st n h4, ← HT.out]
  have p2 : (w1.drewN nq).cell? ⟨gp, 5 + n, none⟩ = some (.int .i64 R) := by
    rw [P2.out.cell, List.getElem?_toArray, plain_res st n h4, ← HR.out]
  clear a0 a1 a2 a3 c1 H1 P1 o1
  generalize w1.drewN nq = w2 at H2 P2 o2 b0 b1 b2 b3 p1 p2 ⊢
  go_wp2_with fail
  go_quiet (fail)
  have H3 := Lib.hid (H2.out.drewN nq)
  have P3 := Lib.hid (P2.out.drewN nq)
  have o3 := Lib.hid (o2.out.drewN nq)
  have a0 : (w2.drewN nq).cell? ⟨ga, 0, none⟩ = _ := b0
  have a1 : (w2.drewN nq).cell? ⟨ga, 1, none⟩ = _ := b1
  have a2 : (w2.drewN nq).cell? ⟨ga, 2, none⟩ = _ := b2
  have a3 : (w2.drewN nq).cell? ⟨ga, 3, none⟩ = _ := b3
  have p3 : (w2.drewN nq).cell? ⟨gp, 1 + n, none⟩ = _ := p1
  have p4 : (w2.drewN nq).cell? ⟨gp, 5 + n, none⟩ = _ := p2
  clear b0 b1 b2 b3 p1 p2 H2 P2 o2
  generalize w2.drewN nq = w3 at H3 P3 o3 a0 a1 a2 a3 p3 p4 ⊢
  have f1 := P3.out.frozen (1 + n)
  have f2 := P3.out.frozen (5 + n)
  have hgw : w.heap.size ≤ w3.heap.size := o3.out.size
  have HC3 := Lib.hid H3.out.llt
  go_wp2_with fail
  refine (within_q u0 4 _ x0 (by omega) (by omega)).mono ?_; rintro e w' ⟨q, rfl, hq, hq0, hq4, rfl⟩
  have hqq : (q = 0 ∨ q = 1) ∨ q = 2 ∨ q = 3 := by omega
  rcases hqq with hqq | rfl | rfl
  · have hds : doSt st u0 n u2 u3 = putSt st n u2 u3 := by rw [HDS.out, ← hq.out, if_pos (by omega)]
    have HD := Lib.hid hds
    clear hds hq
    by_cases hT : T < u2
    · have e2 : decide (T < u2) = true := decide_eq_true hT
      have hput : putSt st n u2 u3 = st.set n (u2, u3) := by unfold putSt; rw [HPB.out, e2]; rfl
      have HB := Lib.hid (HPB.out.trans e2)
      have HPS := Lib.hid hput
      clear hput
      rcases hqq with rfl | rfl
      all_goals
        go_wp2_with fail
        go_region_held3 (fun w' => w'.cell? ⟨ga, 1, none⟩ = some (.int .i64 n) ∧ w'.cell? ⟨ga, 2, none⟩ = some (.int .i64 u2) ∧ w'.cell? ⟨ga, 3, none⟩ = some (.int .i64 u3)) (first | exact ⟨far_cell a1 hgg, far_cell a2 hgg, far_cell a3 hgg⟩ | exact ⟨far_cell (far_cell a1 hgg) hgg, far_cell (far_cell a2 hgg) hgg, far_cell (far_cell a3 hgg) hgg⟩ | go_keep) (fail)
        obtain ⟨w5, hw5⟩ : ∃ w5, w5 = ((w3.setCell ⟨gp, 1 + n, none⟩ (.int .i64 u2)).setCell ⟨gp, 5 + n, none⟩ (.int .i64 u3)).drew := ⟨_, rfl⟩
        rw [← hw5]
        have P5 := Lib.hid (show Blk w5 gp 69 (plainL (st.set n (u2, u3))).toArray by
          rw [hw5, ← plain_set st n u2 u3 h4 hlt]
          have e := ((P3.out.set_ (1 + n) (.int .i64 u2)).set_ (5 + n) (.int .i64 u3)).drew
          simpa only [List.setIfInBounds_toArray] using e)
        have o5 := Lib.hid (show Only [gl, gp] w w5 by rw [hw5]; exact ((o3.out.setCell (.inl (by simp)) _).setCell (.inl (by simp)) _).drew)
        have H5 := Lib.hid (show Cache w5 gc gl st by
          rw [hw5]
          exact H3.out.only ((((Only.refl [gp] w3).setCell (.inl (by simp)) _).setCell (.inl (by simp)) _).drew) (by simp; exact Ne.symm hne2) (by simp; exact Ne.symm hne1))
        have b1 : w5.cell? ⟨ga, 1, none⟩ = some (.int .i64 n) := by rw [hw5]; exact far_cell (far_cell a1 hgg) hgg
        have b2 : w5.cell? ⟨ga, 2, none⟩ = some (.int .i64 u2) := by rw [hw5]; exact far_cell (far_cell a2 hgg) hgg
        have b3 : w5.cell? ⟨ga, 3, none⟩ = some (.int .i64 u3) := by rw [hw5]; exact far_cell (far_cell a3 hgg) hgg
        clear hw5 a0 a1 a2 a3 p3 p4 f1 f2
        go_wp2_with fail
        refine (put_c gc gl st n u2 u3 _ H5.out hn x1 true HB.out _ HPS.out).mono ?_; rintro e w6 ⟨rfl, h6, o6⟩
        have p6 := P5.out.only o6 (by simpa using hne1)
        go_wp2
        go_ret
        rw [HD.out, HPS.out]
        exact ⟨rfl, h6, p6, o5.out.then o6 (by simp)⟩
    · have e2 : decide (T < u2) = false := decide_eq_false hT
      have hput : putSt st n u2 u3 = st := by unfold putSt; rw [HPB.out, e2]; rfl
      have HB := Lib.hid (HPB.out.trans e2)
      have HPS := Lib.hid hput
      clear hput
      rcases hqq with rfl | rfl
      all_goals
        go_wp2_with fail
        refine (put_c gc gl st n u2 u3 _ H3.out hn x1 false HB.out _ HPS.out).mono ?_; rintro e w4 ⟨rfl, h4, o4⟩
        have p5 := P3.out.only o4 (by simpa using hne1)
        go_wp2
        go_ret
        rw [HD.out]
        rw [HPS.out]
        exact ⟨rfl, h4, p5, o3.out.then o4 (by simp)⟩
  · have hds : doSt st u0 n u2 u3 = st := by rw [HDS.out, ← hq.out, if_neg (by omega)]
    have HD := Lib.hid hds
    clear hds hq
    have e3 : (T == T) = true := beq_self_eq_true T
    go_wp2_with fail
    refine (last_c gc gl st n _ H3.out hn x1 T HL.out).mono ?_; rintro e w3 ⟨rfl, rfl⟩
    go_wp2
    go_ret
    exact ⟨rfl, by rw [HD.out]; exact H3.out, by rw [HD.out]; exact P3.out, o3.out⟩
  · have hds : doSt st u0 n u2 u3 = st := by rw [HDS.out, ← hq.out, if_neg (by omega)]
    have HD := Lib.hid hds
    clear hds hq
    by_cases hT : T = u2
    · by_cases h1 : 1 ≤ u2
      · have hb : getB st n u2 = true := by rw [HG.out, decide_eq_true h1, decide_eq_true hT]; rfl
        have HB := Lib.hid hb
        subst hT
        have e3 : (T == T) = true := beq_self_eq_true T
        have e4 : (R == R) = true := beq_self_eq_true R
        have e5 : decide (0 < T) = true := decide_eq_true (by omega)
        clear hb
        go_wp2_with fail
        refine (get_c gc gl st n T _ H3.out hn x1 true HB.out R (HGR.out HB.out)).mono ?_; rintro e w3 ⟨rfl, rfl⟩
        go_wp2
        go_ret
        exact ⟨rfl, by rw [HD.out]; exact H3.out, by rw [HD.out]; exact P3.out, o3.out⟩
      · have hb : getB st n u2 = false := by rw [HG.out, decide_eq_false h1]; rfl
        have HB := Lib.hid hb
        subst hT
        have e3 : (T == T) = true := beq_self_eq_true T
        have e5 : decide (0 < T) = false := decide_eq_false (by omega)
        clear hb
        go_wp2_with fail
        refine (get_c gc gl st n T _ H3.out hn x1 false HB.out 0 (HGR0.out HB.out)).mono ?_; rintro e w3 ⟨rfl, rfl⟩
        go_wp2
        go_ret
        exact ⟨rfl, by rw [HD.out]; exact H3.out, by rw [HD.out]; exact P3.out, o3.out⟩
    · have hb : getB st n u2 = false := by rw [HG.out, decide_eq_false hT, Bool.and_false]
      have HB := Lib.hid hb
      have e3 : (u2 == T) = false := beq_eq_false_iff_ne.2 (Ne.symm hT)
      clear hb
      go_wp2_with fail
      refine (get_c gc gl st n u2 _ H3.out hn x1 false HB.out 0 (HGR0.out HB.out)).mono ?_; rintro e w3 ⟨rfl, rfl⟩
      go_wp2
      go_ret
      exact ⟨rfl, by rw [HD.out]; exact H3.out, by rw [HD.out]; exact P3.out, o3.out⟩

theorem do_len (st : List (Int × Int)) (u0 u1 u2 u3 : Int) : (doSt st u0 u1 u2 u3).length = st.length := by
  unfold doSt
  split
  · exact putSt_len st u1 u2 u3
  · rfl
theorem do_c (gc gl gp : Nat) (st : List (Int × Int)) (u0 u1 u2 u3 : Int) (w : World) (h : Cache w gc gl st) (hp : Blk w gp 69 (plainL st).toArray) (hn : st.length ≤ 4)
    (x0 : I64 u0) (x1 : I64 u1) (x2 : I64 u2) (x3 : I64 u3) :
    Calls Try.prog 40 #[.pointer (some ⟨gc, 0, none⟩), .pointer (some ⟨gp, 0, none⟩), .agg #[.int .i64 u0, .int .i64 u1, .int .i64 u2, .int .i64 u3]] w fun e w' => e = .returned (.bool true) ∧ Cache w' gc gl (doSt st u0 u1 u2 u3) ∧ Blk w' gp 69 (plainL (doSt st u0 u1 u2 u3)).toArray ∧ Only [gl, gp] w w' := by
  by_cases hh : 0 ≤ u1 ∧ u1 < st.length
  · obtain ⟨n, rfl⟩ := Int.eq_ofNat_of_zero_le hh.1
    exact do_in gc gl gp st u0 u2 u3 n w h hp hn x0 x2 x3 (by omega)
  · have hb : hasB st u1 = false := decide_eq_false hh
    have hd : doSt st u0 u1 u2 u3 = st := by
      unfold doSt
      split
      · unfold putSt putB
        rw [hb]
        rfl
      · rfl
    rw [hd]
    exact do_out gc gl gp st u0 u1 u2 u3 w h hp hn x0 x1 x2 x3 hb
end Go.Proofs.Ytjdcjofogmplcaa
