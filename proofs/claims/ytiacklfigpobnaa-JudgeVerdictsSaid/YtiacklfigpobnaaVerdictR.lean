/- Contracts of the reference's Verdict, and of both verdicts over no measures. -/
import Derived.Test.YtiacklfigpobnaaVerdict
namespace Go.Proofs.Ytiacklfigpobnaa
open Go.RowKit F
set_option linter.unusedVariables false

set_option maxRecDepth 100000 in
set_option maxHeartbeats 2000000 in
theorem rverdict_c (num den om : Int) {b1 o1 c1 b2 o2 c2 n : Nat} {m0 m1 : Int} {rest : List (Int × Int)} (w : World) (B : Both w b1 o1 c1 b2 o2 c2 n m0 m1 rest) (h1 : 0 ≤ num ∧ num ≤ 64) (h2 : 0 ≤ den ∧ den ≤ 64) (h3 : 0 ≤ om ∧ om ≤ 64) :
    Calls Try.prog 36 #[.agg #[.int .i64 0, .int .i64 0, .int .i64 0, .int .i64 0, .int .i64 0, .int .i64 0, .int .i64 0, .int .i64 0, .int .i64 num, .int .i64 den, .int .i64 0, .int .i64 om, .int .i64 0, .int .i64 0, .int .i64 0], .slice (some ⟨b1, o1, none⟩) (n + 1) c1] w fun e w' => e = .returned (.bool (verdictB num den om m0 m1 rest)) ∧ Below w.heap.size w w' := by
  obtain ⟨w1, hw1⟩ : ∃ w1, w1 = w.alloc (.cells #[.int .i64 0, .int .i64 0, .int .i64 0, .int .i64 0, .int .i64 0, .int .i64 0, .int .i64 0, .int .i64 0, .int .i64 num, .int .i64 den, .int .i64 0, .int .i64 om, .int .i64 0, .int .i64 0, .int .i64 0] 23) := ⟨_, rfl⟩
  have hb1 : Below w.heap.size w w1 := by rw [hw1]; exact (Below.refl _ _).alloc (Nat.le_refl _) _
  have B1 := B.below hb1
  have hk : Blk w1 w.heap.size 23 #[.int .i64 0, .int .i64 0, .int .i64 0, .int .i64 0, .int .i64 0, .int .i64 0, .int .i64 0, .int .i64 0, .int .i64 num, .int .i64 den, .int .i64 0, .int .i64 om, .int .i64 0, .int .i64 0, .int .i64 0] := by rw [hw1]; exact Blk.new _ _ _
  have x8 := fun (x : Later w1) => hk.laterCell (i := 8) (v := .int .i64 num) rfl x
  have x9 := fun (x : Later w1) => hk.laterCell (i := 9) (v := .int .i64 den) rfl x
  have x11 := fun (x : Later w1) => hk.laterCell (i := 11) (v := .int .i64 om) rfl x
  obtain ⟨A1, A2, r1, r2, hM, hZ⟩ := B1.rest
  have k1 := B1.m0_.1
  have k2 := B1.m0_.2
  have q1 := fun (x : Later w1) => x.cell k1
  have q2 := fun (x : Later w1) => x.cell k2
  have hf := B1.fine.head
  have hF := Lib.hid B1.fine
  have hlen := B1.few
  have hM' := Lib.hid hM
  have i1 : (0 : Int) < (n : Int) + 1 := by omega
  have i3 : decide ((0 : Int) < (n : Int) + 1) = true := decide_eq_true i1
  have key : ∀ bs bl, slowB num den m0 rest = bs → lateB om m0 m1 rest = bl → Calls Try.prog 36 #[.agg #[.int .i64 0, .int .i64 0, .int .i64 0, .int .i64 0, .int .i64 0, .int .i64 0, .int .i64 0, .int .i64 0, .int .i64 num, .int .i64 den, .int .i64 0, .int .i64 om, .int .i64 0, .int .i64 0, .int .i64 0], .slice (some ⟨b1, o1, none⟩) (n + 1) c1] w fun e w' => e = .returned (.bool (bs || bl)) ∧ Below w.heap.size w w' := by
    intro bs bl hs hl
    have Cs := Lib.hid (show ∀ w' : World, MRow w' A1 n rest → Calls Try.prog 27 #[.int .i64 num, .int .i64 den, .agg #[.int .i64 m0, .int .i64 m1], .slice A1 n (c1 - 1)] w' fun e w'' => e = .returned (.bool bs) ∧ Below w'.heap.size w' w'' from fun w' h => by have k := rslow_c num den m0 m1 A1 n (c1 - 1) rest w' h hF.out.tail.usual (by omega) (by omega) (by omega) (by omega); rw [hs] at k; exact k)
    have Cl := Lib.hid (show ∀ w' : World, MRow w' A1 n rest → Calls Try.prog 34 #[.int .i64 om, .agg #[.int .i64 m0, .int .i64 m1], .slice A1 n (c1 - 1)] w' fun e w'' => e = .returned (.bool bl) ∧ Below w'.heap.size w' w'' from fun w' h => by have k := rlate_c om m0 m1 A1 n (c1 - 1) rest w' h hF.out.tail.usual (by omega) (by omega) (by omega) (by omega); rw [hl] at k; exact k)
    clear hM hZ k1 k2 hk B B1 hs hl
    cases bs
    all_goals
      go_enter Try.func36, Try.ntmps36
      go_wp2_with fail
      rw [← hw1]
      have HW := Lib.hid hw1
      clear hw1
      refine wp_region_later (by kernel_rfl) (by kernel_rfl) ?_
      repeat (go_big_quiet_step (first
        | (go_at_call 27; exact Later.call (Cs.out _ (VRow.later hM'.out _)))
        | (go_at_call 34; exact Later.call (Cl.out _ (VRow.later hM'.out _)))))
      refine wpQuiet_nil ?_
      rintro _ ⟨x, rfl⟩
      go_wp2
      go_ret
      exact ⟨rfl, hb1.trans (x.b.mono hb1.size)⟩
  exact key _ _ rfl rfl

set_option maxRecDepth 100000 in
set_option maxHeartbeats 1000000 in
theorem verdict_none (num den om : Int) (a : Option Addr) (c : Nat) (w : World) :
    Calls Try.prog 35 #[.agg #[.int .i64 0, .int .i64 0, .int .i64 0, .int .i64 0, .int .i64 0, .int .i64 0, .int .i64 0, .int .i64 0, .int .i64 num, .int .i64 den, .int .i64 0, .int .i64 om, .int .i64 0, .int .i64 0, .int .i64 0], .slice a 0 c] w fun e w' => e = .returned (.bool false) ∧ Below w.heap.size w w' := by
  obtain ⟨w1, hw1⟩ : ∃ w1, w1 = w.alloc (.cells #[.int .i64 0, .int .i64 0, .int .i64 0, .int .i64 0, .int .i64 0, .int .i64 0, .int .i64 0, .int .i64 0, .int .i64 num, .int .i64 den, .int .i64 0, .int .i64 om, .int .i64 0, .int .i64 0, .int .i64 0] 23) := ⟨_, rfl⟩
  have hb1 : Below w.heap.size w w1 := by rw [hw1]; exact (Below.refl _ _).alloc (Nat.le_refl _) _
  go_enter Try.func35, Try.ntmps35
  go_wp2_with fail
  rw [← hw1]
  have HW := Lib.hid hw1
  clear hw1
  refine wp_scope_jumps 0 (fun a' w' => w' = w1 ∧ ∃ u0 u1 u2 u3 u4 u5 u6 u7 u8 u9 u10 u11 u12 u13 u14 u15 u16 u17 u18 u19 u20 u21 u22 u23 u24 u25 : Value, a' = { tmps := #[u0, u1, u2, u3, u4, u5, u6, u7, u8, u9, u10, u11, u12, u13, u14, u15, u16, u17, u18, u19, u20, u21, u22, u23, u24, u25], defers := [] }) (fun _ _ => 0) rfl ?_ ?_
  · go_wp2
    go_step3
    exact ⟨rfl, rfl, _, _, _, _, _, _, _, _, _, _, _, _, _, _, _, _, _, _, _, _, _, _, _, _, _, _, rfl⟩
  · rintro a' w' ⟨rfl, u0, u1, u2, u3, u4, u5, u6, u7, u8, u9, u10, u11, u12, u13, u14, u15, u16, u17, u18, u19, u20, u21, u22, u23, u24, u25, rfl⟩
    go_wp2
    simp only [Exit.jump]
    go_ret
    exact ⟨rfl, hb1⟩

set_option maxRecDepth 100000 in
set_option maxHeartbeats 1000000 in
theorem rverdict_none (num den om : Int) (a : Option Addr) (c : Nat) (w : World) :
    Calls Try.prog 36 #[.agg #[.int .i64 0, .int .i64 0, .int .i64 0, .int .i64 0, .int .i64 0, .int .i64 0, .int .i64 0, .int .i64 0, .int .i64 num, .int .i64 den, .int .i64 0, .int .i64 om, .int .i64 0, .int .i64 0, .int .i64 0], .slice a 0 c] w fun e w' => e = .returned (.bool false) ∧ Below w.heap.size w w' := by
  obtain ⟨w1, hw1⟩ : ∃ w1, w1 = w.alloc (.cells #[.int .i64 0, .int .i64 0, .int .i64 0, .int .i64 0, .int .i64 0, .int .i64 0, .int .i64 0, .int .i64 0, .int .i64 num, .int .i64 den, .int .i64 0, .int .i64 om, .int .i64 0, .int .i64 0, .int .i64 0] 23) := ⟨_, rfl⟩
  have hb1 : Below w.heap.size w w1 := by rw [hw1]; exact (Below.refl _ _).alloc (Nat.le_refl _) _
  go_enter Try.func36, Try.ntmps36
  go_wp2_with fail
  rw [← hw1]
  have HW := Lib.hid hw1
  clear hw1
  refine wp_region_later (by kernel_rfl) (by kernel_rfl) ?_
  repeat (go_big_quiet_step (fail))
  refine wpQuiet_nil ?_
  rintro _ ⟨x, rfl⟩
  go_wp2
  go_ret
  exact ⟨rfl, hb1.trans (x.b.mono hb1.size)⟩
end Go.Proofs.Ytiacklfigpobnaa
