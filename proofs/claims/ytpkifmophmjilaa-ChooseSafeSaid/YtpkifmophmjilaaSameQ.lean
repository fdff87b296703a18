/- psephoskeep.Same of requests. -/
import Derived.Test.YtpkifmophmjilaaReq
import Derived.Test.YtpkifmophmjilaaOnly
import Derived.BigQuiet
namespace Go.Proofs.Ytpkifmophmjilaa
open Go.RowKit
set_option linter.unusedVariables false

set_option maxRecDepth 100000 in
set_option maxHeartbeats 3200000 in
theorem same_q (a b : Option Addr) (n m c d : Nat) (l l' : List Rq) (w : World) (h : RqRow w a n c l) (h' : RqRow w b m d l') (hn : n ≤ 4096) (bb : Bool) (hb : decide (l = l') = bb) :
    Calls Try.prog 26 #[.slice a n c, .slice b m d] w fun e w' => e = .returned (.bool bb) ∧ Below w.heap.size w w' := by
  have H := Lib.hid h
  have H' := Lib.hid h'
  have HBB := Lib.hid hb
  by_cases hnm : n = m
  · subst hnm
    clear h h' hb
    go_enter Try.func26, Try.ntmps26
    go_wp2_with fail
    go_loopw [5] (fun i wr => ∃ k : Nat, k ≤ n ∧ i = .int .i64 k ∧ (∀ j, j < k → l[j]? = l'[j]?) ∧ Below w.heap.size w wr) (fun i _ => n - (intOf i).toNat)
    case atStart => exact ⟨0, by omega, rfl, fun j hj => absurd hj (by omega), Below.refl _ _⟩
    case round =>
      obtain ⟨k, hkn, rfl, hs, hb⟩ := hrel
      have HB := Lib.hid hb
      have HS := Lib.hid hs
      clear hs hb
      by_cases hlt : k < n
      · obtain ⟨b1, o1, rfl, hb1, x0, x1, x2, x3, x4, x5, hx, p0, p1, p2, p3, p4, p5⟩ := (H.out.below HB.out).get hlt
        obtain ⟨b2, o2, rfl, hb2, y0, y1, y2, y3, y4, y5, hy, q0, q1, q2, q3, q4, q5⟩ := (H'.out.below HB.out).get hlt
        have i0 : (0 : Int) ≤ k := by omega
        have i1 : (k : Int) < n := by omega
        have BAD := Lib.hid (show (((x0, x1, x2, x3, x4, x5) : Rq) ≠ (y0, y1, y2, y3, y4, y5)) → bb = false from fun hne => by
          rw [← HBB.out]
          refine decide_eq_false fun he => hne ?_
          subst he
          rw [hx] at hy
          exact Option.some.inj hy)
        have GOOD := Lib.hid (show (((x0, x1, x2, x3, x4, x5) : Rq) = (y0, y1, y2, y3, y4, y5)) → ∀ j, j < k + 1 → l[j]? = l'[j]? from fun hh j hj => by
          rcases Nat.lt_or_ge j k with h | h
          · exact HS.out j h
          · obtain rfl : j = k := by omega
            rw [hx, hy, hh])
        clear hx hy
        by_cases e0 : x0 = y0
        · subst e0
          by_cases e1 : x1 = y1
          · subst e1
            by_cases e2 : x2 = y2
            · subst e2
              by_cases e3 : x3 = y3
              · subst e3
                by_cases e4 : x4 = y4
                · subst e4
                  by_cases e5 : x5 = y5
                  · subst e5
                    have hg := GOOD.out rfl
                    have HG := Lib.hid hg
                    clear hg
                    go_wp2_with fail
                    go_quiet (fail)
                    go_wp2_with fail
                    go_roundw
                    case rel => exact ⟨k + 1, by omega, by go_num, HG.out, below_drewN HB.out nq⟩
                    case measure => simp [intOf]; omega
                  · have hbf := BAD.out (fun h => e5 (congrArg (fun (z : Rq) => z.2.2.2.2.2) h))
                    subst hbf
                    have ne : (x5 == y5) = false := beq_eq_false_iff_ne.2 e5
                    clear e5 BAD GOOD
                    go_wp2_with fail
                    go_quiet (fail)
                    go_wp2_with fail
                    go_ret
                    exact ⟨rfl, below_drewN HB.out nq⟩
                · have hbf := BAD.out (fun h => e4 (congrArg (fun (z : Rq) => z.2.2.2.2.1) h))
                  subst hbf
                  have ne : (x4 == y4) = false := beq_eq_false_iff_ne.2 e4
                  clear e4 BAD GOOD
                  go_wp2_with fail
                  go_quiet (fail)
                  go_wp2_with fail
                  go_ret
                  exact ⟨rfl, below_drewN HB.out nq⟩
              · have hbf := BAD.out (fun h => e3 (congrArg (fun (z : Rq) => z.2.2.2.1) h))
                subst hbf
                have ne : (x3 == y3) = false := beq_eq_false_iff_ne.2 e3
                clear e3 BAD GOOD
                go_wp2_with fail
                go_quiet (fail)
                go_wp2_with fail
                go_ret
                exact ⟨rfl, below_drewN HB.out nq⟩
            · have hbf := BAD.out (fun h => e2 (congrArg (fun (z : Rq) => z.2.2.1) h))
              subst hbf
              have ne : (x2 == y2) = false := beq_eq_false_iff_ne.2 e2
              clear e2 BAD GOOD
              go_wp2_with fail
              go_quiet (fail)
              go_wp2_with fail
              go_ret
              exact ⟨rfl, below_drewN HB.out nq⟩
          · have hbf := BAD.out (fun h => e1 (congrArg (fun (z : Rq) => z.2.1) h))
            subst hbf
            have ne : (x1 == y1) = false := beq_eq_false_iff_ne.2 e1
            clear e1 BAD GOOD
            go_wp2_with fail
            go_quiet (fail)
            go_wp2_with fail
            go_ret
            exact ⟨rfl, below_drewN HB.out nq⟩
        · have hbf := BAD.out (fun h => e0 (congrArg (fun (z : Rq) => z.1) h))
          subst hbf
          have ne : (x0 == y0) = false := beq_eq_false_iff_ne.2 e0
          clear e0 BAD GOOD
          go_wp2_with fail
          go_quiet (fail)
          go_wp2_with fail
          go_ret
          exact ⟨rfl, below_drewN HB.out nq⟩
      · have hkk : k = n := by omega
        obtain rfl : bb = true := by
          rw [← HBB.out]
          exact decide_eq_true (eq_of_upto H.out.len H'.out.len fun j hj => HS.out j (by omega))
        clear hkk
        go_wp2_with fail
        go_ret
        exact ⟨rfl, HB.out⟩
  · obtain rfl : bb = false := by
      rw [← hb]
      refine decide_eq_false fun he => hnm ?_
      rw [← h.len, ← h'.len, he]
    have e1 : ((n : Int) != (m : Int)) = true := bne_iff_ne.2 (by omega)
    clear h h' hb hnm
    go_enter Try.func26, Try.ntmps26
    go_wp2_with fail
    go_ret
    exact ⟨rfl, Below.refl _ _⟩
end Go.Proofs.Ytpkifmophmjilaa
