/- NotaryClones: for all lists of acts the law returns true: a clone of a notary knows the same, and goes its own way. No condition. -/
import Derived.Test.YtjdcjofogmplcaaNotM
import Derived.Test.YtjdcjofogmplcaaRows
namespace Go.Proofs.Ytjdcjofogmplcaa.NotaryClones
open Go.RowKit Go.ChangeShapes Go.WideShapes Go.ChangeAt
set_option linter.unusedVariables false

set_option maxRecDepth 100000 in
set_option maxHeartbeats 3200000 in
theorem walk (a : Option Addr) (la ca : Nat) (ga : Nat → Nat → Int) (Ra : Nat → Byt) (b' : Option Addr) (lb cb : Nat) (gb : Nat → Nat → Int) (Rb : Nat → Byt) (c : Option Addr) (lc cc : Nat) (gc : Nat → Nat → Int) (Rc : Nat → Byt) (w : World)
    (hra : ActsB w a la 3 ga Ra) (hma : la ≤ maxLen) (hrb : ActsB w b' lb 3 gb Rb) (hmb : lb ≤ maxLen) (hrc : ActsB w c lc 3 gc Rc) (hmc : lc ≤ maxLen) :
    Calls Try.prog 8 #[.slice a la ca, .slice b' lb cb, .slice c lc cc] w fun e w' => e = .returned (.bool true) ∧ Below w.heap.size w w' := by
  have RA := Lib.hid hra
  have MA := Lib.hid hma
  have RB := Lib.hid hrb
  have MB := Lib.hid hmb
  have RC := Lib.hid hrc
  have MC := Lib.hid hmc
  clear hra hma hrb hmb hrc hmc
  go_enter Try.func8, Try.ntmps8
  go_wp2_with fail
  refine (nnew_c _).mono ?_; rintro e w1 ⟨n, b, rfl, hN1, hn1, hb1, hw1⟩
  have P2 := Lib.hid (pair_new hN1 hw1 hn1 hb1)
  clear hN1 hw1
  obtain ⟨r, hr⟩ : ∃ r, r = w1.heap.size := ⟨_, rfl⟩
  rw [← hr] at P2
  go_wp2_with fail
  rw [← hr]
  refine (play_c w _ n b r [r] [] a la ca ga Ra P2.out RA.out MA.out (by simp)).mono ?_
  rintro e w3 ⟨rfl, F', K', hP, hl, ho, hF⟩
  have P3 := Lib.hid hP
  have hl80 : K'.length ≤ 80 := by simpa using hl
  clear hP hl ho hF hr P2
  go_wp2_with fail
  refine (nclone_c n b K' _ P3.out.nty).mono ?_; rintro e w4 ⟨m, bm, rfl, hN4, hm4, hbm4, hw4⟩
  have N4 := Lib.hid hN4
  have B4 := Lib.hid hw4
  have P4 := Lib.hid (P3.out.below hw4)
  clear hN4 hw4
  go_wp2_with fail
  refine (rcopy_c w _ r F' K' P4.out.rty P4.out.bel (by omega)).mono ?_; rintro e w5 ⟨r2, F2, rfl, hR5, hw5, hF2⟩
  have P5 := Lib.hid (P4.out.below hw5)
  have h0 := P3.out.bel.size
  have h1 := P3.out.nty.obj.lt
  have h2 := P3.out.nty.map.lt
  have h45 := B4.out.size
  have m4 := N4.out.obj.lt
  have bm4 := N4.out.map.lt
  have Q5 := Lib.hid (show Pair w w5 m bm r2 F2 K' from ⟨N4.out.below hw5, hR5, fun h => by have := hF2 _ h; omega, fun h => by have := hF2 _ h; omega, by omega, by omega, P5.out.bel⟩)
  have LF : Hid (∀ x ∈ b :: F', x < w3.heap.size) := Lib.hid fun x hx => (P3.out.lt x hx).2
  have LF2 : Hid (∀ x ∈ bm :: F2, w3.heap.size ≤ x ∧ x < w5.heap.size) := Lib.hid fun x hx => ⟨by
    rcases List.mem_cons.1 hx with rfl | hx
    · exact hbm4
    · exact Nat.le_trans B4.out.size (hF2 x hx), (Q5.out.lt x hx).2⟩
  clear hR5 hw5 hF2
  go_upto_region 11 with fail
  refine wp_region_plan (fun w' => True) 24 (.take 0 (.take 1 (.take 2 (.one 3 (.take 4 (.take 5 (.take 6 (.take 7 (.one 8 (.take 9 (.take 10 (.take 11 (.take 13 (.take 14 (.take 15 (.two 12 (.one 16 (.take 17 (.take 18 (.take 19 (.take 20 (.one 21 (.take 22 (.take 23 .done)))))))) 16 (.take 17 (.one 12 (.take 18 (.take 19 (.take 20 (.one 21 (.take 22 (.take 23 .done)))))))))))))))))))))))) (by kernel_rfl) (by kernel_rfl) (by kernel_rfl) trivial ?_
  intro hS0
  repeat (refine' wpPlan_take rfl (by rfl) (by assumption) ?_ ?_; rotate_left; (· (intro w hSw; (try dsimp only at hSw); go_simp; try with_reducible rfl)); try simp only [Act.put, List.setIfInBounds_toArray, List.set_cons_zero, List.set_cons_succ])
  refine wpPlan_one rfl (fun KT hKT => ?_)
  go_simp
  refine (play_c w _ n b r F' K' b' lb cb gb Rb (P5.out.drewN 1) RB.out MB.out (by omega)).mono ?_
  rintro e w6 ⟨rfl, F7, K7, hP6, hl6, ho6, hF6⟩
  have P6 := Lib.hid hP6
  have F6 := Lib.hid hF6
  have Q6 := Lib.hid ((Q5.out.drewN 1).only ho6 (fun h => by have := LF.out _ h; omega) (fun h => by have := LF.out _ h; omega) (fun x hx h => by have := LF.out _ h; have := LF2.out x (List.mem_cons_of_mem _ hx); omega) (fun x hx => (P3.out.lt x hx).1))
  have S6 : w5.heap.size ≤ w6.heap.size := ho6.size
  have hl160 : K7.length ≤ 160 := by omega
  clear hP6 hF6 ho6 hl6
  refine hKT.out _ _ (trivial) (fun _ => ?_); clear hKT KT; try simp only [Act.put, List.setIfInBounds_toArray, List.set_cons_zero, List.set_cons_succ]
  repeat (refine' wpPlan_take rfl (by rfl) (by assumption) ?_ ?_; rotate_left; (· (intro w hSw; (try dsimp only at hSw); go_simp; try with_reducible rfl)); try simp only [Act.put, List.setIfInBounds_toArray, List.set_cons_zero, List.set_cons_succ])
  refine wpPlan_one rfl (fun KT hKT => ?_)
  go_simp
  refine (play_c w _ m bm r2 F2 K' c lc cc gc Rc Q6.out RC.out MC.out (by omega)).mono ?_
  rintro e w7 ⟨rfl, F8, K8, hQ7, hl7, ho7, hF7⟩
  have P7 := Lib.hid (P6.out.only ho7 (fun h => by have := LF2.out _ h; omega) (fun h => by have := LF2.out _ h; omega) (fun x hx h => by
    have h3 := LF2.out _ h
    rcases F6.out x hx with e | e
    · have := LF.out x (List.mem_cons_of_mem _ e); omega
    · have e' : w5.heap.size ≤ x := e
      omega) (fun x hx => (Q6.out.lt x hx).1))
  obtain ⟨A, C, A', C', e0, e1, _, _⟩ := P7.out.rty.rows
  clear hQ7 hF7 ho7 hl7 e1
  refine hKT.out _ _ (trivial) (fun _ => ?_); clear hKT KT; try simp only [Act.put, List.setIfInBounds_toArray, List.set_cons_zero, List.set_cons_succ]
  repeat (refine' wpPlan_take rfl (by rfl) (by assumption) ?_ ?_; rotate_left; (· (intro w hSw; (try dsimp only at hSw); go_simp; try with_reducible rfl)); try simp only [Act.put, List.setIfInBounds_toArray, List.set_cons_zero, List.set_cons_succ])
  refine wpPlan_two ?_ ?_
  · refine wpPlan_one rfl (fun KT hKT => ?_)
    go_simp
    refine (nlen_c n b K7 _ P7.out.nty _ rfl).mono ?_; rintro e w8 ⟨rfl, rfl⟩
    refine hKT.out _ _ (trivial) (fun _ => ?_); clear hKT KT; try simp only [Act.put, List.setIfInBounds_toArray, List.set_cons_zero, List.set_cons_succ]
    repeat (refine' wpPlan_take rfl (by rfl) (by assumption) ?_ ?_; rotate_left; (· (intro w hSw; (try dsimp only at hSw); go_simp; try with_reducible rfl)); try simp only [Act.put, List.setIfInBounds_toArray, List.set_cons_zero, List.set_cons_succ])
    refine wpPlan_one rfl (fun KT hKT => ?_)
    go_simp
    refine hKT.out _ _ (trivial) (fun _ => ?_); clear hKT KT; try simp only [Act.put, List.setIfInBounds_toArray, List.set_cons_zero, List.set_cons_succ]
    repeat (refine' wpPlan_take rfl (by rfl) (by assumption) ?_ ?_; rotate_left; (· (intro w hSw; (try dsimp only at hSw); go_simp; try with_reducible rfl)); try simp only [Act.put, List.setIfInBounds_toArray, List.set_cons_zero, List.set_cons_succ])
    refine wpPlan_one rfl (fun KT hKT => ?_)
    go_simp
    refine (nwakes_c _).mono ?_; rintro e w9 ⟨rfl, hb9⟩
    have B9 := Lib.hid (P7.out.bel.trans (hb9.mono P7.out.bel.size))
    clear hb9
    refine hKT.out _ _ (trivial) (fun _ => ?_); clear hKT KT; try simp only [Act.put, List.setIfInBounds_toArray, List.set_cons_zero, List.set_cons_succ]
    repeat (refine' wpPlan_take rfl (by rfl) (by assumption) ?_ ?_; rotate_left; (· (intro w hSw; (try dsimp only at hSw); go_simp; try with_reducible rfl)); try simp only [Act.put, List.setIfInBounds_toArray, List.set_cons_zero, List.set_cons_succ])
    refine wpPlan_done ?_
    go_wp2_with fail
    go_ret
    exact ⟨by simp, B9.out⟩
  · refine wpPlan_one rfl (fun KT hKT => ?_)
    go_simp
    refine hKT.out _ _ (trivial) (fun _ => ?_); clear hKT KT; try simp only [Act.put, List.setIfInBounds_toArray, List.set_cons_zero, List.set_cons_succ]
    repeat (refine' wpPlan_take rfl (by rfl) (by assumption) ?_ ?_; rotate_left; (· (intro w hSw; (try dsimp only at hSw); go_simp; try with_reducible rfl)); try simp only [Act.put, List.setIfInBounds_toArray, List.set_cons_zero, List.set_cons_succ])
    refine wpPlan_one rfl (fun KT hKT => ?_)
    go_simp
    refine (nlen_c n b K7 _ P7.out.nty _ rfl).mono ?_; rintro e w8 ⟨rfl, rfl⟩
    refine hKT.out _ _ (trivial) (fun _ => ?_); clear hKT KT; try simp only [Act.put, List.setIfInBounds_toArray, List.set_cons_zero, List.set_cons_succ]
    repeat (refine' wpPlan_take rfl (by rfl) (by assumption) ?_ ?_; rotate_left; (· (intro w hSw; (try dsimp only at hSw); go_simp; try with_reducible rfl)); try simp only [Act.put, List.setIfInBounds_toArray, List.set_cons_zero, List.set_cons_succ])
    refine wpPlan_one rfl (fun KT hKT => ?_)
    go_simp
    refine (nwakes_c _).mono ?_; rintro e w9 ⟨rfl, hb9⟩
    have B9 := Lib.hid (P7.out.bel.trans (hb9.mono P7.out.bel.size))
    clear hb9
    refine hKT.out _ _ (trivial) (fun _ => ?_); clear hKT KT; try simp only [Act.put, List.setIfInBounds_toArray, List.set_cons_zero, List.set_cons_succ]
    repeat (refine' wpPlan_take rfl (by rfl) (by assumption) ?_ ?_; rotate_left; (· (intro w hSw; (try dsimp only at hSw); go_simp; try with_reducible rfl)); try simp only [Act.put, List.setIfInBounds_toArray, List.set_cons_zero, List.set_cons_succ])
    refine wpPlan_done ?_
    go_wp2_with fail
    go_ret
    exact ⟨by simp, B9.out⟩

set_option maxRecDepth 100000 in
theorem lawWalk : LawWalk Try.checked 8 Try.f8 := by
  intro H enc W base args ds p hval hA hsz
  rw [Try.params8] at hA hval
  obtain ⟨v0, vs0, d0, ds0, p0, q0, hargs, rfl, rfl, h0, r0⟩ := trodAll_cons hA
  obtain ⟨v1, vs1, d1, ds1, p1, q1, rfl, rfl, rfl, h1, r1⟩ := trodAll_cons r0
  obtain ⟨v2, vs2, d2, ds2, p2, q2, rfl, rfl, rfl, h2, r2⟩ := trodAll_cons r1
  obtain ⟨rfl, rfl, rfl⟩ := trodAll_nil r2
  obtain rfl : args = #[v0, v1, v2] := by cases args; simp_all
  obtain ⟨a0, n0, c0, g0, R0, rfl, hnc0, hcm0, hr0⟩ := open_acts (k := 3) (f := 33) (l := 5) Try.underlying22 Try.underlying36 (by kernel_rfl) (by kernel_rfl) (by rfl) (by kernel_rfl) (by kernel_rfl) Try.underlying33 Try.underlying5 (by kernel_rfl) (hval 0 22 v0 rfl rfl) h0
  obtain ⟨a1, n1, c1, g1, R1, rfl, hnc1, hcm1, hr1⟩ := open_acts (k := 3) (f := 33) (l := 5) Try.underlying22 Try.underlying36 (by kernel_rfl) (by kernel_rfl) (by rfl) (by kernel_rfl) (by kernel_rfl) Try.underlying33 Try.underlying5 (by kernel_rfl) (hval 1 22 v1 rfl rfl) h1
  obtain ⟨a2, n2, c2, g2, R2, rfl, hnc2, hcm2, hr2⟩ := open_acts (k := 3) (f := 33) (l := 5) Try.underlying22 Try.underlying36 (by kernel_rfl) (by kernel_rfl) (by rfl) (by kernel_rfl) (by kernel_rfl) Try.underlying33 Try.underlying5 (by kernel_rfl) (hval 2 22 v2 rfl rfl) h2
  exact walk a0 n0 c0 g0 R0 a1 n1 c1 g1 R1 a2 n2 c2 g2 R2 W hr0 (Nat.le_trans hnc0 hcm0) hr1 (Nat.le_trans hnc1 hcm1) hr2 (Nat.le_trans hnc2 hcm2)

theorem lifted (os : Os) (started : os.Started) (H : Type) (enc : TypeId × Value → H) :
    ReturnsInHanded {} Try.checked os 8 .any (Rows.notaryClonesSpec.pre6 enc Try.prog Try.f8 Rows.notaryClonesRow.domain false) (Rows.notaryClonesSpec.post enc Try.prog Try.f8 false true false false) :=
  law_lift (C := Try.checked) (s := Rows.notaryClonesSpec) (tb := 4) (by kernel_rfl) started (by kernel_rfl) Try.func8
    (ChangeSpec.witness6 (enc := enc) (C := Try.checked) false ⟨#[], #[.slice none 0 0, .slice none 0 0, .slice none 0 0], []⟩ 8 (by kernel_rfl) (by kernel_rfl) (by kernel_rfl) (by kernel_rfl))
    rfl (fun H ds h => by
      match ds, h with
      | [d0, d1, d2], _ => rfl) (by kernel_rfl) (by kernel_rfl) (by kernel_rfl) Try.underlying4 lawWalk

theorem over : Rows.notaryClonesRow.holds Try.pinned (OpenSpec.ofChange Rows.notaryClonesSpec) :=
  OpenClaim.holds_of_wide 8 Try.f8 rfl rfl rfl rfl rfl rfl rfl ⟨rfl, rfl, rfl, rfl, rfl⟩ rfl rfl rfl rfl rfl (by kernel_rfl) Try.func8 (by kernel_rfl)
    (of_decide_eq_true (by kernel_rfl)) (by unfold Func.isWrapper; first | (rw [if_pos (by decide +kernel)]; kernel_rfl) | (rw [if_neg (by decide +kernel)]; exact ⟨rfl, rfl⟩))
    (fun os started H enc _ => lifted os started H enc)

/-- The statement. -/
theorem proved : Rows.NotaryClonesSaid := over
#print axioms proved

end Go.Proofs.Ytjdcjofogmplcaa.NotaryClones
