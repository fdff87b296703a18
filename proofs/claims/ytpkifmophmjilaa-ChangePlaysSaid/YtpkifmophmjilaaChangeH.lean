/- ChangePlays: what right and do do. -/
import Derived.Test.YtpkifmophmjilaaChangeG
import Derived.Deep.RegionHeld3
namespace Go.Proofs.Ytpkifmophmjilaa
open Go.RowKit
set_option linter.unusedVariables false

theorem view_ref {L : List Vt} (hF : VFine L) (hl : L.length ≤ 13) (z : Int) :
    (∃ j : Nat, z = j ∧ j < 13 ∧ vviewB L z = true ∧ vviewOf L z = refV L j ∧ 0 ≤ refV L j) ∨ (∃ j : Nat, z = j ∧ j < 13 ∧ vviewB L z = false ∧ vviewOf L z = 0 ∧ refV L j = -1) ∨ ((z < 0 ∨ 13 ≤ z) ∧ vviewB L z = false ∧ vviewOf L z = 0) := by
  have off : vviewB L z = false → vviewOf L z = 0 := fun e => by unfold vviewOf; rw [e]; rfl
  by_cases hz : 0 ≤ z ∧ z < 13
  · obtain ⟨j, rfl⟩ := Int.eq_ofNat_of_zero_le hz.1
    by_cases hj : j < L.length
    · have hat : voteAt L j = L[j] := by simp [voteAt, List.getD, hj]
      rcases refV_in hF hj with ⟨h1, h2, h3⟩ | ⟨h1, h2⟩
      · have e : vviewB L (j : Int) = true := by unfold vviewB; rw [decide_eq_true (by omega), hat, h1]; rfl
        exact .inl ⟨j, rfl, by omega, e, by unfold vviewOf; rw [e, if_pos rfl, hat, h2], h3⟩
      · have e : vviewB L (j : Int) = false := by unfold vviewB; rw [hat, h1, Bool.and_false]
        exact .inr (.inl ⟨j, rfl, by omega, e, off e, h2⟩)
    · have e : vviewB L (j : Int) = false := by unfold vviewB; rw [decide_eq_false (by omega), Bool.false_and]
      exact .inr (.inl ⟨j, rfl, by omega, e, off e, refV_out hj⟩)
  · have e : vviewB L z = false := by unfold vviewB; rw [decide_eq_false (by omega), Bool.false_and]
    exact .inr (.inr ⟨by omega, e, off e⟩)

set_option maxRecDepth 100000 in
set_option maxHeartbeats 3200000 in
theorem right_c (gv gl gr : Nat) (f : Int) (q : Nat) (L : List Vt) (w : World) (hv : Votes w gv gl f L) (hr : RCh w gr f L) (hF : VFine L) (hn : L.length ≤ 13) (hf : 1 ≤ f ∧ f ≤ 4) (hq : 2 * f + 1 = q) :
    Calls Try.prog 43 #[.pointer (some ⟨gv, 0, none⟩), .pointer (some ⟨gr, 0, none⟩)] w fun e w' => e = .returned (.bool true) ∧ Below w.heap.size w w' := by
  have V := Lib.hid hv
  have R := Lib.hid hr
  have F := Lib.hid hF
  have HQ := Lib.hid hq
  have HF := Lib.hid hf
  clear hv hr hF hq hf
  go_enter Try.func43, Try.ntmps43
  go_wp2_with fail
  go_loopw [5] (fun i wr => ∃ z : Int, i = .int .i64 z ∧ -1 ≤ z ∧ z ≤ 14 ∧ Below w.heap.size w wr) (fun i _ => (20 - intOf i).toNat)
  case atStart => exact ⟨-1, rfl, by omega, by omega, Below.refl _ _⟩
  case round =>
    obtain ⟨z, rfl, z0, z1, hb⟩ := hrel
    have B := Lib.hid hb
    by_cases hz : z ≤ 13
    · have zi : I64 z := by unfold I64; omega
      obtain ⟨ok, hok⟩ : ∃ ok, vviewB L z = ok := ⟨_, rfl⟩
      obtain ⟨n, hn'⟩ : ∃ n, vviewOf L z = n := ⟨_, rfl⟩
      have OK := Lib.hid hok
      have NN := Lib.hid hn'
      have vr := view_ref F.out hn z
      rw [hok, hn'] at vr
      clear hok hn' hb
      rcases vr with ⟨j, rfl, hj, rfl, rfl, h3⟩ | ⟨j, rfl, hj, rfl, rfl, h3⟩ | ⟨h3, rfl, rfl⟩
      · have cv := (R.out.below B.out).cv j hj
        have e : (refV L j != refV L j) = false := by simp
        have i1 : (j : Int) < 13 := by omega
        obtain ⟨l0, hl0⟩ : ∃ l0, l0 = refV L j := ⟨_, rfl⟩
        rw [← hl0] at cv e h3 NN
        clear hl0
        go_wp2_with fail
        refine (vview_c gv gl f L j _ (V.out.below B.out) hn zi true OK.out l0 NN.out).mono ?_; rintro e w' ⟨rfl, rfl⟩
        go_wp2_with fail
        exact ⟨⟨(j : Int) + 1, rfl, by omega, by omega, B.out⟩, by simp [intOf]; omega⟩
      · have cv := (R.out.below B.out).cv j hj
        have i1 : (j : Int) < 13 := by omega
        rw [h3] at cv
        clear h3
        go_wp2_with fail
        refine (vview_c gv gl f L j _ (V.out.below B.out) hn zi false OK.out 0 NN.out).mono ?_; rintro e w' ⟨rfl, rfl⟩
        go_wp2_with fail
        exact ⟨⟨(j : Int) + 1, rfl, by omega, by omega, B.out⟩, by simp [intOf]; omega⟩
      · rcases h3 with h3 | h3
        all_goals
          go_wp2_with fail
          refine (vview_c gv gl f L z _ (V.out.below B.out) hn zi false OK.out 0 NN.out).mono ?_; rintro e w' ⟨rfl, rfl⟩
          go_wp2_with fail
          exact ⟨⟨z + 1, rfl, by omega, by omega, B.out⟩, by simp [intOf]; omega⟩
    · clear hb
      go_wp2_with fail
      go_loopw [9] (fun i wr => ∃ z : Int, i = .int .i64 z ∧ -1 ≤ z ∧ z ≤ 13 ∧ Below w.heap.size w wr) (fun i _ => (20 - intOf i).toNat)
      case atStart => exact ⟨-1, rfl, by omega, by omega, B.out⟩
      case round =>
        obtain ⟨y, rfl, y0, y1, hb⟩ := hrel
        have B2 := Lib.hid hb
        clear hb
        by_cases hy : y ≤ 12
        · have yi : I64 y := by unfold I64; omega
          obtain ⟨eb, heb⟩ : ∃ eb, decide (q ≤ (mat y L L.length).length) = eb := ⟨_, rfl⟩
          obtain ⟨E, hE⟩ : ∃ E, (if eb then (mat y L L.length).take q else []) = E := ⟨_, rfl⟩
          obtain ⟨me, hme⟩ : ∃ me, E.length = me := ⟨_, rfl⟩
          have m13 : me ≤ 13 := by
            have := mat_len y L L.length
            rw [← hme, ← hE]
            split
            · rw [List.length_take]; omega
            · simp
          have EB := Lib.hid heb
          have EE := Lib.hid hE
          have EM := Lib.hid hme
          clear heb hE hme
          go_wp2_with fail
          refine (enough_c gv gl f L y _ (V.out.below B2.out) hn yi HF.out q HQ.out eb EB.out E EE.out me EM.out).mono ?_; rintro e w6 ⟨a6, c6, rfl, ho6, hb6⟩
          have O6 := Lib.hid ho6
          have B6 := Lib.hid (B2.out.trans (hb6.mono B2.out.size))
          clear ho6 hb6
          go_wp2_with fail
          refine (renough_c gr f L y _ (R.out.below B6.out) F.out hn yi HF.out q HQ.out eb EB.out E EE.out me EM.out).mono ?_; rintro e w7 ⟨a7, c7, rfl, ho7, hb7⟩
          have O7 := Lib.hid ho7
          have X6 := Lib.hid ((own_vrow O6.out).below hb7)
          have B7 := Lib.hid (B6.out.trans (hb7.mono B6.out.size))
          clear ho7 hb7
          have h3 : (eb != eb) = false := by simp
          go_wp2_with fail
          refine (same_vote_c a6 me c6 a7 me c7 E _ X6.out (own_vrow O7.out) EM.out EM.out (by omega)).mono ?_; rintro e w8 ⟨rfl, hb8⟩
          have B8 := Lib.hid (B7.out.trans (hb8.mono B7.out.size))
          clear hb8
          go_wp2_with fail
          exact ⟨⟨y + 1, rfl, by omega, by omega, B8.out⟩, by simp [intOf]; omega⟩
        · go_wp2_with fail
          go_ret
          exact ⟨rfl, B2.out⟩

def doL (L : List Vt) (u0 u1 u2 u3 : Int) : List Vt := if u0 % 6 < 5 then vputSt L u1 u2 u3 else dropSt L u2
theorem doL_len (L : List Vt) (u0 u1 u2 u3 : Int) : (doL L u0 u1 u2 u3).length = L.length := by
  unfold doL
  split
  · exact vputSt_len _ _ _ _
  · exact dropSt_len _ _
theorem VFine.doL {L : List Vt} (h : VFine L) (u0 u1 u2 u3 : Int) : VFine (doL L u0 u1 u2 u3) := by
  unfold Proofs.Ytpkifmophmjilaa.doL
  split
  · exact h.put _ _ _
  · exact h.drop _

set_option maxRecDepth 100000 in
set_option maxHeartbeats 3200000 in
theorem do_c (gv gl gr : Nat) (f : Int) (L : List Vt) (u0 u1 u2 u3 : Int) (w : World) (hv : Votes w gv gl f L) (hr : RCh w gr f L) (hF : VFine L) (hl : 3 * f + 1 = L.length) (hf : 1 ≤ f ∧ f ≤ 4) (x0 : I64 u0) (x1 : I64 u1) (x2 : I64 u2) (L' : List Vt) (hL : doL L u0 u1 u2 u3 = L') :
    Calls Try.prog 42 #[.pointer (some ⟨gv, 0, none⟩), .pointer (some ⟨gr, 0, none⟩), .agg #[.int .i64 u0, .int .i64 u1, .int .i64 u2, .int .i64 u3]] w fun e w' => e = .returned (.bool true) ∧ Votes w' gv gl f L' ∧ RCh w' gr f L' ∧ Only [gl, gr] w w' := by
  have n13 : L.length ≤ 13 := by omega
  have F := Lib.hid hF
  have HF := Lib.hid hf
  have HL := Lib.hid hl
  have HD := Lib.hid hL
  have ne1 : gl ≠ gr := by obtain ⟨cap, h1, h2⟩ := hv.ex; exact h2.ne hr (by decide)
  have ne2 : gv ≠ gr := by obtain ⟨cap, h1, h2⟩ := hv.ex; exact Blk.ne_ h1 hr (by decide)
  have ne3 : gv ≠ gl := hv.ne
  have NE := Lib.hid (show gl ≠ gr ∧ gv ≠ gr ∧ gv ≠ gl from ⟨ne1, ne2, ne3⟩)
  have V := Lib.hid hv
  have R := Lib.hid hr
  clear hF hf hL hv hr ne1 ne2 ne3 hl
  go_enter Try.func42, Try.ntmps42
  go_wp2_with fail
  obtain ⟨ga, hga⟩ : ∃ ga, ga = w.heap.size := ⟨_, rfl⟩
  obtain ⟨w1, hw1⟩ : ∃ w1, w1 = w.alloc (.cells #[.int .i64 u0, .int .i64 u1, .int .i64 u2, .int .i64 u3] 63) := ⟨_, rfl⟩
  rw [← hw1, ← hga]
  have b1 := Below.refl w.heap.size w
  have o1 := Lib.hid (show Only [gl, gr] w w1 by rw [hw1]; exact (Only.refl _ _).alloc _)
  have V1 := Lib.hid (show Votes w1 gv gl f L by rw [hw1]; exact V.out.below ((Below.refl _ _).alloc (Nat.le_refl _) _))
  have R1 := Lib.hid (show RCh w1 gr f L by rw [hw1]; exact R.out.below ((Below.refl _ _).alloc (Nat.le_refl _) _))
  have A1 : Blk w1 ga 63 #[.int .i64 u0, .int .i64 u1, .int .i64 u2, .int .i64 u3] := by rw [hw1, hga]; exact Blk.new _ _ _
  have nga := Lib.hid (show ga ≠ gl ∧ ga ≠ gr by
    have := V.out.llt
    have := R.out.lt
    constructor <;> omega)
  clear hw1 hga b1
  have a1 : w1.cell? ⟨ga, 1, none⟩ = some (.int .i64 u1) := A1.cell 1
  have a2 : w1.cell? ⟨ga, 2, none⟩ = some (.int .i64 u2) := A1.cell 2
  have a3 : w1.cell? ⟨ga, 3, none⟩ = some (.int .i64 u3) := A1.cell 3
  refine (within_q u0 6 _ x0 (by omega) (by omega)).mono ?_; rintro e w' ⟨q, rfl, hq, q0, q1, rfl⟩
  by_cases hc : q < 5
  · have hd : doL L u0 u1 u2 u3 = vputSt L u1 u2 u3 := by unfold doL; rw [if_pos (by rw [← hq.out]; exact hc)]
    rw [hd] at HD
    obtain ⟨ok, hok⟩ : ∃ ok, vputB L u1 u2 = ok := ⟨_, rfl⟩
    have OK := Lib.hid hok
    have e : (ok == ok) = true := by simp
    clear hd hok hq A1
    go_wp2_with fail
    go_region_held3 (fun w' => w'.cell? ⟨ga, 1, none⟩ = some (.int .i64 u1) ∧ w'.cell? ⟨ga, 2, none⟩ = some (.int .i64 u2) ∧ w'.cell? ⟨ga, 3, none⟩ = some (.int .i64 u3)) (first | go_keep | exact ⟨r1, r2, r3⟩ | exact ⟨s1, s2, s3⟩)
      (first
        | (go_at_call 29; refine (vput_c gv gl f L u1 u2 u3 _ V1.out.drew n13 x1 x2 ok OK.out L' HD.out).mono ?_; rintro e w3 ⟨rfl, hV3, ho3⟩; have s1 := ho3.cell_ (p := ⟨ga, 1, none⟩) a1 (by simpa using nga.out.1); have s2 := ho3.cell_ (p := ⟨ga, 2, none⟩) a2 (by simpa using nga.out.1); have s3 := ho3.cell_ (p := ⟨ga, 3, none⟩) a3 (by simpa using nga.out.1))
        | (go_at_call 52; refine (rput_c gr f L u1 u2 u3 _ (R1.out.drew.only ho3 (by simpa using NE.out.1.symm)) HF.out HL.out x1 x2 ok OK.out L' HD.out).mono ?_; rintro e w4 ⟨rfl, hR4, ho4⟩; have r1 := ho4.cell_ (p := ⟨ga, 1, none⟩) s1 (by simpa using nga.out.2); have r2 := ho4.cell_ (p := ⟨ga, 2, none⟩) s2 (by simpa using nga.out.2); have r3 := ho4.cell_ (p := ⟨ga, 3, none⟩) s3 (by simpa using nga.out.2)))
    have V4 := Lib.hid (hV3.only ho4 (by simpa using NE.out.2.1) (by simpa using NE.out.1))
    have R4 := Lib.hid hR4
    have O4 := Lib.hid ((o1.out.drew.then ho3 (by simp)).then ho4 (by simp))
    clear hV3 ho3 hR4 ho4 r1 r2 r3 s1 s2 s3 a1 a2 a3
    go_wp2
    go_ret
    exact ⟨rfl, V4.out, R4.out, O4.out⟩
  · have hd : doL L u0 u1 u2 u3 = dropSt L u2 := by unfold doL; rw [if_neg (by rw [← hq.out]; exact hc)]
    rw [hd] at HD
    obtain ⟨n, hn⟩ : ∃ n, dropN L u2 = n := ⟨_, rfl⟩
    have NN := Lib.hid hn
    have e : ((n : Int) == n) = true := by simp
    clear hd hn hq A1 a1 a3
    go_wp2_with fail
    go_region_held3 (fun w' => w'.cell? ⟨ga, 2, none⟩ = some (.int .i64 u2)) (first | go_keep | exact r2 | exact s2)
      (first
        | (go_at_call 33; refine (vdrop_c gv gl f L u2 _ V1.out.drew n13 n NN.out L' HD.out).mono ?_; rintro e w3 ⟨rfl, hV3, ho3⟩; have s2 := ho3.cell_ (p := ⟨ga, 2, none⟩) a2 (by simpa using nga.out.1))
        | (go_at_call 53; refine (rdrop_c gr f L u2 _ (R1.out.drew.only ho3 (by simpa using NE.out.1.symm)) F.out n13 n NN.out L' HD.out).mono ?_; rintro e w4 ⟨rfl, hR4, ho4⟩; have r2 := ho4.cell_ (p := ⟨ga, 2, none⟩) s2 (by simpa using nga.out.2)))
    have V4 := Lib.hid (hV3.only ho4 (by simpa using NE.out.2.1) (by simpa using NE.out.1))
    have R4 := Lib.hid hR4
    have O4 := Lib.hid ((o1.out.drew.then ho3 (by simp)).then ho4 (by simp))
    clear hV3 ho3 hR4 ho4 r2 s2 a2
    go_wp2
    go_ret
    exact ⟨rfl, V4.out, R4.out, O4.out⟩
end Go.Proofs.Ytpkifmophmjilaa
