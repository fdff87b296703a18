/- ledger.Prefix and the reference's: is the shorter one the beginning of the other one? -/
import Derived.Test.YtfhlcjfgbhmecaaLedgerQ
import Derived.Laws.StructEq
import Derived.Deep.QuietTactic
import Derived.BigQuiet
namespace Go.Proofs.Ytfhlcjfgbhmecaa
open Go.RowKit
set_option linter.unusedVariables false

theorem ent_cells {w : World} {a : Option Addr} {n : Nat} {es : List Ent} (h : VRow w a n 7 (es.flatMap ecell)) (hn : es.length = n) (k : Nat) (hk : k < n) : ∃ b off, a = some ⟨b, off, none⟩ ∧ b < w.heap.size ∧
    ∃ e, es[k]? = some e ∧ w.cell? ⟨b, off + k * 7, none⟩ = some (.int .i64 e.1.1) ∧ w.cell? ⟨b, off + k * 7 + 1, none⟩ = some (.int .i64 e.1.2.1) ∧ w.cell? ⟨b, off + k * 7 + 2, none⟩ = some (.int .i64 e.1.2.2.1) ∧ w.cell? ⟨b, off + k * 7 + 3, none⟩ = some (.int .i64 e.1.2.2.2.1) ∧
      w.cell? ⟨b, off + k * 7 + 4, none⟩ = some (.int .i64 e.1.2.2.2.2.1) ∧ w.cell? ⟨b, off + k * 7 + 5, none⟩ = some (.int .i64 e.1.2.2.2.2.2) ∧ w.cell? ⟨b, off + k * 7 + 6, none⟩ = some (.int .i64 e.2) := by
  obtain ⟨b, off, rfl, hlt, hc⟩ := h.2 (by omega)
  have hk' : k < es.length := by omega
  have key : ∀ j v, j < 7 → (ecell es[k])[j]? = some v → w.cell? ⟨b, off + k * 7 + j, none⟩ = some v := fun j v hj hv => by
    rw [Nat.add_assoc]
    exact hc _ _ (flat_get' ecell 7 ecell_len es k j hj hk' v hv)
  exact ⟨b, off, rfl, hlt, es[k], List.getElem?_eq_getElem hk', key 0 _ (by omega) rfl, key 1 _ (by omega) rfl, key 2 _ (by omega) rfl, key 3 _ (by omega) rfl, key 4 _ (by omega) rfl, key 5 _ (by omega) rfl, key 6 _ (by omega) rfl⟩
theorem take_iff {α : Type} (A B : List α) : A.take B.length = B.take A.length ↔ ∀ j, j < A.length → j < B.length → A[j]? = B[j]? := by
  constructor
  · intro h j h1 h2
    have := congrArg (fun L => L[j]?) h
    simpa [List.getElem?_take, h1, h2] using this
  · intro h
    apply List.ext_getElem?
    intro j
    rw [List.getElem?_take, List.getElem?_take]
    by_cases h1 : j < A.length
    · by_cases h2 : j < B.length
      · rw [if_pos h2, if_pos h1, h j h1 h2]
      · rw [if_neg h2, if_pos h1, List.getElem?_eq_none (by omega)]
    · by_cases h2 : j < B.length
      · rw [if_pos h2, if_neg h1, List.getElem?_eq_none (by omega)]
      · rw [if_neg h1, if_neg h2]

set_option maxRecDepth 100000 in
set_option maxHeartbeats 6400000 in
theorem prefix_c (a1 : Option Addr) (n1 c1 : Nat) (a2 : Option Addr) (n2 c2 : Nat) (E1 E2 : List Ent) (w : World) (h1 : VRow w a1 n1 7 (E1.flatMap ecell)) (h2 : VRow w a2 n2 7 (E2.flatMap ecell)) (l1 : E1.length = n1) (l2 : E2.length = n2) (hn1 : n1 ≤ 4096) (hn2 : n2 ≤ 4096) (b : Bool) (hb : b = true ↔ E1.take n2 = E2.take n1) :
    Calls Try.prog 23 #[.slice a1 n1 c1, .slice a2 n2 c2] w fun e w' => e = .returned (.bool b) ∧ Below w.heap.size w w' := by
  have H1 := Lib.hid h1
  have H2 := Lib.hid h2
  have L1 := Lib.hid l1
  have L2 := Lib.hid l2
  have HT := Lib.hid (show (∀ j, j < n1 → j < n2 → E1[j]? = E2[j]?) → b = true from fun h => by
    rw [hb, ← l1, ← l2]; exact (take_iff E1 E2).2 (by rw [l1, l2]; exact h))
  have HF := Lib.hid (show ∀ j, j < n1 → j < n2 → E1[j]? ≠ E2[j]? → b = false from fun j h1 h2 h3 => by
    cases b
    · rfl
    · have h := hb.1 rfl
      rw [← l1, ← l2] at h
      exact absurd ((take_iff E1 E2).1 h j (by omega) (by omega)) h3)
  clear h1 h2 l1 l2 hb
  go_enter Try.func23, Try.ntmps23
  go_wp2_with fail
  go_loopw [5] (fun i wr => ∃ k : Nat, k ≤ 4096 ∧ i = .int .i64 k ∧ (∀ j, j < k → j < n1 → j < n2 → E1[j]? = E2[j]?) ∧ Below w.heap.size w wr) (fun i _ => 5000 - (intOf i).toNat)
  case atStart => exact ⟨0, by omega, rfl, fun j hj => absurd hj (by omega), Below.refl _ _⟩
  case round =>
    obtain ⟨k, hk, rfl, hall, hbl⟩ := hrel
    have AL := Lib.hid hall
    have B := Lib.hid hbl
    clear hall hbl
    rcases (show (k < n1 ∧ k < n2) ∨ ¬ k < n1 ∨ (k < n1 ∧ ¬ k < n2) by omega) with ⟨k1, k2⟩ | k1 | ⟨k1, k2⟩
    · obtain ⟨b1, o1, rfl, hb1, ⟨⟨x0, x1, x2, x3, x4, x5⟩, x6⟩, he1, p0, p1, p2, p3, p4, p5, p6⟩ := ent_cells (H1.out.below B.out) L1.out k k1
      obtain ⟨b2, o2, rfl, hb2, ⟨⟨y0, y1, y2, y3, y4, y5⟩, y6⟩, he2, q0, q1, q2, q3, q4, q5, q6⟩ := ent_cells (H2.out.below B.out) L2.out k k2
      simp only at p0 p1 p2 p3 p4 p5 p6 q0 q1 q2 q3 q4 q5 q6
      have i0 : (0 : Int) ≤ k := by omega
      have i1 : (k : Int) < n1 := by omega
      have i2 : (k : Int) < n2 := by omega
      have BAD := Lib.hid (show ((((x0, x1, x2, x3, x4, x5), x6) : Ent) ≠ ((y0, y1, y2, y3, y4, y5), y6)) → b = false from fun hne => HF.out k k1 k2 (by rw [he1, he2]; exact fun e => hne (Option.some.inj e)))
      have GOOD := Lib.hid (show ((((x0, x1, x2, x3, x4, x5), x6) : Ent) = ((y0, y1, y2, y3, y4, y5), y6)) → ∀ j, j < k + 1 → j < n1 → j < n2 → E1[j]? = E2[j]? from fun hh j hj h1 h2 => by
        rcases Nat.lt_or_ge j k with h | h
        · exact AL.out j h h1 h2
        · obtain rfl : j = k := by omega
          rw [he1, he2, hh])
      clear he1 he2 hb1 hb2
      by_cases e0 : x0 = y0
      · subst e0
        by_cases e1 : x1 = y1
        · subst e1
          by_cases e2 : x2 = y2
          · subst e2
            by_cases e3 : x3 = y3
            · subst e3
              by_cases e4 : x4 = y4
              · subst e4
                by_cases e5 : x5 = y5
                · subst e5
                  by_cases e6 : x6 = y6
                  · subst e6
                    have hg := GOOD.out rfl
                    have HG := Lib.hid hg
                    clear hg
                    go_wp2_with fail
                    go_quiet (fail)
                    go_wp2_with fail
                    refine ⟨⟨k + 1, by omega, by go_num, HG.out, below_drewN B.out nq⟩, by simp [intOf]; omega⟩
                  · have hbf := BAD.out (fun h => e6 (congrArg (fun (z : Ent) => z.2) h))
                    subst hbf
                    have ne : (x6 == y6) = false := beq_eq_false_iff_ne.2 e6
                    go_wp2_with fail
                    go_quiet (fail)
                    go_wp2_with fail
                    go_ret
                    exact ⟨rfl, below_drewN B.out nq⟩
                · have hbf := BAD.out (fun h => e5 (congrArg (fun (z : Ent) => z.1.2.2.2.2.2) h))
                  subst hbf
                  have ne : (x5 == y5) = false := beq_eq_false_iff_ne.2 e5
                  go_wp2_with fail
                  go_quiet (fail)
                  go_wp2_with fail
                  go_ret
                  exact ⟨rfl, below_drewN B.out nq⟩
              · have hbf := BAD.out (fun h => e4 (congrArg (fun (z : Ent) => z.1.2.2.2.2.1) h))
                subst hbf
                have ne : (x4 == y4) = false := beq_eq_false_iff_ne.2 e4
                go_wp2_with fail
                go_quiet (fail)
                go_wp2_with fail
                go_ret
                exact ⟨rfl, below_drewN B.out nq⟩
            · have hbf := BAD.out (fun h => e3 (congrArg (fun (z : Ent) => z.1.2.2.2.1) h))
              subst hbf
              have ne : (x3 == y3) = false := beq_eq_false_iff_ne.2 e3
              go_wp2_with fail
              go_quiet (fail)
              go_wp2_with fail
              go_ret
              exact ⟨rfl, below_drewN B.out nq⟩
          · have hbf := BAD.out (fun h => e2 (congrArg (fun (z : Ent) => z.1.2.2.1) h))
            subst hbf
            have ne : (x2 == y2) = false := beq_eq_false_iff_ne.2 e2
            go_wp2_with fail
            go_quiet (fail)
            go_wp2_with fail
            go_ret
            exact ⟨rfl, below_drewN B.out nq⟩
        · have hbf := BAD.out (fun h => e1 (congrArg (fun (z : Ent) => z.1.2.1) h))
          subst hbf
          have ne : (x1 == y1) = false := beq_eq_false_iff_ne.2 e1
          go_wp2_with fail
          go_quiet (fail)
          go_wp2_with fail
          go_ret
          exact ⟨rfl, below_drewN B.out nq⟩
      · have hbf := BAD.out (fun h => e0 (congrArg (fun (z : Ent) => z.1.1) h))
        subst hbf
        have ne : (x0 == y0) = false := beq_eq_false_iff_ne.2 e0
        go_wp2_with fail
        go_quiet (fail)
        go_wp2_with fail
        go_ret
        exact ⟨rfl, below_drewN B.out nq⟩
    all_goals
      have hT := HT.out (fun j h1 h2 => AL.out j (by omega) h1 h2)
      subst hT
      go_wp2_with fail
      go_ret
      exact ⟨rfl, B.out⟩

set_option maxRecDepth 100000 in
set_option maxHeartbeats 6400000 in
theorem rprefix_c (a1 : Option Addr) (n1 c1 : Nat) (a2 : Option Addr) (n2 c2 : Nat) (E1 E2 : List Ent) (w : World) (h1 : VRow w a1 n1 7 (E1.flatMap ecell)) (h2 : VRow w a2 n2 7 (E2.flatMap ecell)) (l1 : E1.length = n1) (l2 : E2.length = n2) (hn1 : n1 ≤ 4096) (hn2 : n2 ≤ 4096) (b : Bool) (hb : b = true ↔ E1.take n2 = E2.take n1) :
    Calls Try.prog 24 #[.slice a1 n1 c1, .slice a2 n2 c2] w fun e w' => e = .returned (.bool b) ∧ Below w.heap.size w w' := by
  have H1 := Lib.hid h1
  have H2 := Lib.hid h2
  have L1 := Lib.hid l1
  have L2 := Lib.hid l2
  have HT := Lib.hid (show (∀ j, j < n1 → j < n2 → E1[j]? = E2[j]?) → b = true from fun h => by
    rw [hb, ← l1, ← l2]; exact (take_iff E1 E2).2 (by rw [l1, l2]; exact h))
  have HF := Lib.hid (show ∀ j, j < n1 → j < n2 → E1[j]? ≠ E2[j]? → b = false from fun j h1 h2 h3 => by
    cases b
    · rfl
    · have h := hb.1 rfl
      rw [← l1, ← l2] at h
      exact absurd ((take_iff E1 E2).1 h j (by omega) (by omega)) h3)
  clear h1 h2 l1 l2 hb
  go_enter Try.func24, Try.ntmps24
  go_wp2_with fail
  go_loopw [5] (fun i wr => ∃ k : Nat, k ≤ 4096 ∧ i = .int .i64 k ∧ (∀ j, j < k → j < n1 → j < n2 → E1[j]? = E2[j]?) ∧ Below w.heap.size w wr) (fun i _ => 5000 - (intOf i).toNat)
  case atStart => exact ⟨0, by omega, rfl, fun j hj => absurd hj (by omega), Below.refl _ _⟩
  case round =>
    obtain ⟨k, hk, rfl, hall, hbl⟩ := hrel
    have AL := Lib.hid hall
    have B := Lib.hid hbl
    clear hall hbl
    rcases (show (k < n1 ∧ k < n2) ∨ ¬ k < n1 ∨ (k < n1 ∧ ¬ k < n2) by omega) with ⟨k1, k2⟩ | k1 | ⟨k1, k2⟩
    · obtain ⟨b1, o1, rfl, hb1, ⟨⟨x0, x1, x2, x3, x4, x5⟩, x6⟩, he1, p0, p1, p2, p3, p4, p5, p6⟩ := ent_cells (H1.out.below B.out) L1.out k k1
      obtain ⟨b2, o2, rfl, hb2, ⟨⟨y0, y1, y2, y3, y4, y5⟩, y6⟩, he2, q0, q1, q2, q3, q4, q5, q6⟩ := ent_cells (H2.out.below B.out) L2.out k k2
      simp only at p0 p1 p2 p3 p4 p5 p6 q0 q1 q2 q3 q4 q5 q6
      have i0 : (0 : Int) ≤ k := by omega
      have i1 : (k : Int) < n1 := by omega
      have i2 : (k : Int) < n2 := by omega
      have BAD := Lib.hid (show ((((x0, x1, x2, x3, x4, x5), x6) : Ent) ≠ ((y0, y1, y2, y3, y4, y5), y6)) → b = false from fun hne => HF.out k k1 k2 (by rw [he1, he2]; exact fun e => hne (Option.some.inj e)))
      have GOOD := Lib.hid (show ((((x0, x1, x2, x3, x4, x5), x6) : Ent) = ((y0, y1, y2, y3, y4, y5), y6)) → ∀ j, j < k + 1 → j < n1 → j < n2 → E1[j]? = E2[j]? from fun hh j hj h1 h2 => by
        rcases Nat.lt_or_ge j k with h | h
        · exact AL.out j h h1 h2
        · obtain rfl : j = k := by omega
          rw [he1, he2, hh])
      clear he1 he2 hb1 hb2
      by_cases e0 : x0 = y0
      · subst e0
        by_cases e1 : x1 = y1
        · subst e1
          by_cases e2 : x2 = y2
          · subst e2
            by_cases e3 : x3 = y3
            · subst e3
              by_cases e4 : x4 = y4
              · subst e4
                by_cases e5 : x5 = y5
                · subst e5
                  by_cases e6 : x6 = y6
                  · subst e6
                    have hg := GOOD.out rfl
                    have HG := Lib.hid hg
                    clear hg
                    go_wp2_with fail
                    go_quiet (fail)
                    go_wp2_with fail
                    refine ⟨⟨k + 1, by omega, by go_num, HG.out, below_drewN B.out nq⟩, by simp [intOf]; omega⟩
                  · have hbf := BAD.out (fun h => e6 (congrArg (fun (z : Ent) => z.2) h))
                    subst hbf
                    have ne : (x6 == y6) = false := beq_eq_false_iff_ne.2 e6
                    go_wp2_with fail
                    go_quiet (fail)
                    go_wp2_with fail
                    go_ret
                    exact ⟨rfl, below_drewN B.out nq⟩
                · have hbf := BAD.out (fun h => e5 (congrArg (fun (z : Ent) => z.1.2.2.2.2.2) h))
                  subst hbf
                  have ne : (x5 == y5) = false := beq_eq_false_iff_ne.2 e5
                  go_wp2_with fail
                  go_quiet (fail)
                  go_wp2_with fail
                  go_ret
                  exact ⟨rfl, below_drewN B.out nq⟩
              · have hbf := BAD.out (fun h => e4 (congrArg (fun (z : Ent) => z.1.2.2.2.2.1) h))
                subst hbf
                have ne : (x4 == y4) = false := beq_eq_false_iff_ne.2 e4
                go_wp2_with fail
                go_quiet (fail)
                go_wp2_with fail
                go_ret
                exact ⟨rfl, below_drewN B.out nq⟩
            · have hbf := BAD.out (fun h => e3 (congrArg (fun (z : Ent) => z.1.2.2.2.1) h))
              subst hbf
              have ne : (x3 == y3) = false := beq_eq_false_iff_ne.2 e3
              go_wp2_with fail
              go_quiet (fail)
              go_wp2_with fail
              go_ret
              exact ⟨rfl, below_drewN B.out nq⟩
          · have hbf := BAD.out (fun h => e2 (congrArg (fun (z : Ent) => z.1.2.2.1) h))
            subst hbf
            have ne : (x2 == y2) = false := beq_eq_false_iff_ne.2 e2
            go_wp2_with fail
            go_quiet (fail)
            go_wp2_with fail
            go_ret
            exact ⟨rfl, below_drewN B.out nq⟩
        · have hbf := BAD.out (fun h => e1 (congrArg (fun (z : Ent) => z.1.2.1) h))
          subst hbf
          have ne : (x1 == y1) = false := beq_eq_false_iff_ne.2 e1
          go_wp2_with fail
          go_quiet (fail)
          go_wp2_with fail
          go_ret
          exact ⟨rfl, below_drewN B.out nq⟩
      · have hbf := BAD.out (fun h => e0 (congrArg (fun (z : Ent) => z.1.1) h))
        subst hbf
        have ne : (x0 == y0) = false := beq_eq_false_iff_ne.2 e0
        go_wp2_with fail
        go_quiet (fail)
        go_wp2_with fail
        go_ret
        exact ⟨rfl, below_drewN B.out nq⟩
    all_goals
      have hT := HT.out (fun j h1 h2 => AL.out j (by omega) h1 h2)
      subst hT
      go_wp2_with fail
      go_ret
      exact ⟨rfl, B.out⟩
end Go.Proofs.Ytfhlcjfgbhmecaa
