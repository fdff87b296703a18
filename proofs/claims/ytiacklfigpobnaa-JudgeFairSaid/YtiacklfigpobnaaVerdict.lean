/- Contracts of judge.Verdict and of the reference's Verdict. -/
import Derived.Test.YtiacklfigpobnaaMeasT
import Derived.Deep.RegionWith
import Derived.ScopeJumps
import Derived.WalkMore
namespace Go.Proofs.Ytiacklfigpobnaa
open Go.RowKit F
set_option linter.unusedVariables false

/-- The verdict over a first measure and others. -/
def verdictB (num den om m0 m1 : Int) (rest : List (Int × Int)) : Bool := slowB num den m0 rest || lateB om m0 m1 rest

/-- The slice of numbers of some measures, the first one told. -/
structure Half (w : World) (b2 o2 c2 n : Nat) (m0 m1 : Int) (rest : List (Int × Int)) : Prop where
  len : rest.length = n
  few : n ≤ 5
  fine : Fine ((m0, m1) :: rest)
  z : CRow w (some ⟨b2, o2, none⟩) (n + 1) ((m0, m1) :: rest)
  cz : n + 1 ≤ c2
theorem Both.half {w : World} {b1 o1 c1 b2 o2 c2 n : Nat} {m0 m1 : Int} {rest : List (Int × Int)} (h : Both w b1 o1 c1 b2 o2 c2 n m0 m1 rest) : Half w b2 o2 c2 n m0 m1 rest :=
  ⟨h.len, by have := h.few; omega, h.fine, h.z, h.cz⟩
theorem Half.below {w w' : World} {b2 o2 c2 n : Nat} {m0 m1 : Int} {rest : List (Int × Int)} (h : Half w b2 o2 c2 n m0 m1 rest) (hb : Below w.heap.size w w') : Half w' b2 o2 c2 n m0 m1 rest :=
  ⟨h.len, h.few, h.fine, VRow.below h.z hb, h.cz⟩
theorem Half.z0 {w : World} {b2 o2 c2 n : Nat} {m0 m1 : Int} {rest : List (Int × Int)} (h : Half w b2 o2 c2 n m0 m1 rest) : w.cell? ⟨b2, o2, none⟩ = some (.complex .f64 (fw m0) (fw m1)) := by
  obtain ⟨b, o, e, _, hc⟩ := h.z.2 (by omega)
  injection e with e
  injection e with e1 e2
  subst e1 e2
  exact hc 0 (cplx m0 m1) rfl
theorem Half.rest {w : World} {b2 o2 c2 n : Nat} {m0 m1 : Int} {rest : List (Int × Int)} (h : Half w b2 o2 c2 n m0 m1 rest) :
    ∃ A2, (∀ w : World, (Instr.slice 35 (.slice (some ⟨b2, o2, none⟩) (n + 1) c2) (some (.int .i64 1)) none none).run Try.prog w = .ok (.slice A2 n (c2 - 1)) w) ∧ CRow w A2 n rest := by
  obtain ⟨A2, r2, v2⟩ := from_one (P := Try.prog) 35 39 1 Try.underlying35 (by kernel_rfl) size_cplx b2 o2 n c2 h.cz
  exact ⟨A2, r2, v2 _ _ h.z⟩

theorem below_trans' {a b c : World} (h : Below a.heap.size a b) (k : Below b.heap.size b c) : Below a.heap.size a c := h.trans (k.mono h.size)

set_option maxRecDepth 100000 in
set_option maxHeartbeats 2000000 in
theorem verdict_h (num den om : Int) {b2 o2 c2 n : Nat} {m0 m1 : Int} {rest : List (Int × Int)} (w : World) (B : Half w b2 o2 c2 n m0 m1 rest) (h1 : 0 ≤ num ∧ num ≤ 64) (h2 : 0 ≤ den ∧ den ≤ 64) (h3 : 0 ≤ om ∧ om ≤ 64) :
    Calls Try.prog 35 #[.agg #[.int .i64 0, .int .i64 0, .int .i64 0, .int .i64 0, .int .i64 0, .int .i64 0, .int .i64 0, .int .i64 0, .int .i64 num, .int .i64 den, .int .i64 0, .int .i64 om, .int .i64 0, .int .i64 0, .int .i64 0], .slice (some ⟨b2, o2, none⟩) (n + 1) c2] w fun e w' => e = .returned (.bool (verdictB num den om m0 m1 rest)) ∧ Below w.heap.size w w' := by
  obtain ⟨w1, hw1⟩ : ∃ w1, w1 = w.alloc (.cells #[.int .i64 0, .int .i64 0, .int .i64 0, .int .i64 0, .int .i64 0, .int .i64 0, .int .i64 0, .int .i64 0, .int .i64 num, .int .i64 den, .int .i64 0, .int .i64 om, .int .i64 0, .int .i64 0, .int .i64 0] 23) := ⟨_, rfl⟩
  have hb1 : Below w.heap.size w w1 := by rw [hw1]; exact (Below.refl _ _).alloc (Nat.le_refl _) _
  have B1 := B.below hb1
  have hk : Blk w1 w.heap.size 23 #[.int .i64 0, .int .i64 0, .int .i64 0, .int .i64 0, .int .i64 0, .int .i64 0, .int .i64 0, .int .i64 0, .int .i64 num, .int .i64 den, .int .i64 0, .int .i64 om, .int .i64 0, .int .i64 0, .int .i64 0] := by rw [hw1]; exact Blk.new _ _ _
  have x8 := fun (x : Later w1) => hk.laterCell (i := 8) (v := .int .i64 num) rfl x
  have x9 := fun (x : Later w1) => hk.laterCell (i := 9) (v := .int .i64 den) rfl x
  have x11 := fun (x : Later w1) => hk.laterCell (i := 11) (v := .int .i64 om) rfl x
  obtain ⟨A2, r2, hZ⟩ := B1.rest
  have k3 := B1.z0
  have q3 := fun (x : Later w1) => x.cell k3
  have hf := B1.fine.head
  have hF := Lib.hid B1.fine
  have hlen := B1.few
  have hZ' := Lib.hid hZ
  have i1 : (0 : Int) < (n : Int) + 1 := by omega
  have i2 : ((n : Int) + 1 == 0) = false := by simp; omega
  cases hs : slowB num den m0 rest
  · cases hl : lateB om m0 m1 rest
    · have hv := Lib.hid (show verdictB num den om m0 m1 rest = false by simp [verdictB, hs, hl])
      have Cs := Lib.hid (show ∀ w' : World, CRow w' A2 n rest → Calls Try.prog 25 #[.int .i64 num, .int .i64 den, .complex .f64 (fw m0) (fw m1), .slice A2 n (c2 - 1)] w' fun e w'' => e = .returned (.bool false) ∧ w' = w'' from fun w' h => by have k := slow_c num den m0 m1 A2 n (c2 - 1) rest w' h hF.out.tail.usual (by omega) (by omega) (by omega) (by omega) (Small.of (by omega) (by omega)); rw [hs] at k; exact k)
      have Cl := Lib.hid (show ∀ w' : World, CRow w' A2 n rest → Calls Try.prog 32 #[.int .i64 om, .complex .f64 (fw m0) (fw m1), .slice A2 n (c2 - 1)] w' fun e w'' => e = .returned (.bool false) ∧ w' = w'' from fun w' h => by have k := late_c om m0 m1 A2 n (c2 - 1) rest w' h hF.out.tail.usual (by omega) (by omega) (by omega) (by omega); rw [hl] at k; exact k)
      clear hs hl
      clear hZ k3 hk B B1
      go_enter Try.func35, Try.ntmps35
      go_wp2_with fail
      rw [← hw1]
      have HW := Lib.hid hw1
      clear hw1
      apply wp_scope_straight
      go_wp2_with fail
      refine wp_region_later (by kernel_rfl) (by kernel_rfl) ?_
      repeat (go_big_quiet_step ((go_at_call 25; exact Later.same (Cs.out _ (VRow.later hZ'.out _)))))
      refine wpQuiet_nil ?_
      rintro _ ⟨x, rfl⟩
      have y3 := fun (y : Later x.w) => y.cell (q3 x)
      have y11 := fun (y : Later x.w) => y.cell (x11 x)
      have hZx := Lib.hid (VRow.later hZ'.out x)
      go_wp2_with fail
      refine wp_region_later (by kernel_rfl) (by kernel_rfl) ?_
      repeat (go_big_quiet_step ((go_at_call 32; exact Later.same (Cl.out _ (VRow.later hZx.out _)))))
      refine wpQuiet_nil ?_
      rintro _ ⟨y, rfl⟩
      go_wp2
      go_step3
      go_wp2
      try rw [Exit.noGoto_ret]
      go_ret
      exact ⟨by rw [hv.out]; rfl, hb1.trans ((below_trans' x.b y.b).mono hb1.size)⟩
    · have hv := Lib.hid (show verdictB num den om m0 m1 rest = true by simp [verdictB, hl])
      have Cs := Lib.hid (show ∀ w' : World, CRow w' A2 n rest → Calls Try.prog 25 #[.int .i64 num, .int .i64 den, .complex .f64 (fw m0) (fw m1), .slice A2 n (c2 - 1)] w' fun e w'' => e = .returned (.bool false) ∧ w' = w'' from fun w' h => by have k := slow_c num den m0 m1 A2 n (c2 - 1) rest w' h hF.out.tail.usual (by omega) (by omega) (by omega) (by omega) (Small.of (by omega) (by omega)); rw [hs] at k; exact k)
      have Cl := Lib.hid (show ∀ w' : World, CRow w' A2 n rest → Calls Try.prog 32 #[.int .i64 om, .complex .f64 (fw m0) (fw m1), .slice A2 n (c2 - 1)] w' fun e w'' => e = .returned (.bool true) ∧ w' = w'' from fun w' h => by have k := late_c om m0 m1 A2 n (c2 - 1) rest w' h hF.out.tail.usual (by omega) (by omega) (by omega) (by omega); rw [hl] at k; exact k)
      clear hs hl
      clear hZ k3 hk B B1
      go_enter Try.func35, Try.ntmps35
      go_wp2_with fail
      rw [← hw1]
      have HW := Lib.hid hw1
      clear hw1
      refine wp_scope_jumps 1 (fun a' w' => (∃ x : Later w1, w' = x.w) ∧ ∃ u0 u1 u2 u3 u4 u5 u6 u7 u8 u9 u10 u11 u12 u13 u14 u15 u16 u17 u18 u19 u20 u21 u22 u23 u24 u25 : Value, a' = { tmps := #[u0, u1, u2, u3, u4, u5, u6, u7, u8, u9, u10, u11, u12, u13, u14, u15, u16, u17, u18, u19, u20, u21, u22, u23, u24, u25], defers := [] }) (fun _ _ => 0) rfl ?_ ?_
      · go_wp2_with fail
        refine wp_region_later (by kernel_rfl) (by kernel_rfl) ?_
        repeat (go_big_quiet_step ((go_at_call 25; exact Later.same (Cs.out _ (VRow.later hZ'.out _)))))
        refine wpQuiet_nil ?_
        rintro _ ⟨x, rfl⟩
        have y3 := fun (y : Later x.w) => y.cell (q3 x)
        have y11 := fun (y : Later x.w) => y.cell (x11 x)
        have hZx := Lib.hid (VRow.later hZ'.out x)
        go_wp2_with fail
        refine wp_region_later (by kernel_rfl) (by kernel_rfl) ?_
        repeat (go_big_quiet_step ((go_at_call 32; exact Later.same (Cl.out _ (VRow.later hZx.out _)))))
        refine wpQuiet_nil ?_
        rintro _ ⟨y, rfl⟩
        go_wp2
        go_step3
        exact ⟨rfl, ⟨⟨_, below_trans' x.b y.b⟩, rfl⟩, _, _, _, _, _, _, _, _, _, _, _, _, _, _, _, _, _, _, _, _, _, _, _, _, _, _, rfl⟩
      · rintro a' w' ⟨⟨z, rfl⟩, u0, u1, u2, u3, u4, u5, u6, u7, u8, u9, u10, u11, u12, u13, u14, u15, u16, u17, u18, u19, u20, u21, u22, u23, u24, u25, rfl⟩
        go_wp2
        simp only [Exit.jump]
        go_ret
        exact ⟨by rw [hv.out]; rfl, hb1.trans (z.b.mono hb1.size)⟩
  · have hv := Lib.hid (show verdictB num den om m0 m1 rest = true by simp [verdictB, hs])
    have Cs := Lib.hid (show ∀ w' : World, CRow w' A2 n rest → Calls Try.prog 25 #[.int .i64 num, .int .i64 den, .complex .f64 (fw m0) (fw m1), .slice A2 n (c2 - 1)] w' fun e w'' => e = .returned (.bool true) ∧ w' = w'' from fun w' h => by have k := slow_c num den m0 m1 A2 n (c2 - 1) rest w' h hF.out.tail.usual (by omega) (by omega) (by omega) (by omega) (Small.of (by omega) (by omega)); rw [hs] at k; exact k)
    clear hs
    clear hZ k3 hk B B1
    go_enter Try.func35, Try.ntmps35
    go_wp2_with fail
    rw [← hw1]
    have HW := Lib.hid hw1
    clear hw1
    refine wp_scope_jumps 1 (fun a' w' => (∃ x : Later w1, w' = x.w) ∧ ∃ u0 u1 u2 u3 u4 u5 u6 u7 u8 u9 u10 u11 u12 u13 u14 u15 u16 u17 u18 u19 u20 u21 u22 u23 u24 u25 : Value, a' = { tmps := #[u0, u1, u2, u3, u4, u5, u6, u7, u8, u9, u10, u11, u12, u13, u14, u15, u16, u17, u18, u19, u20, u21, u22, u23, u24, u25], defers := [] }) (fun _ _ => 0) rfl ?_ ?_
    · go_wp2_with fail
      refine wp_region_later (by kernel_rfl) (by kernel_rfl) ?_
      repeat (go_big_quiet_step ((go_at_call 25; exact Later.same (Cs.out _ (VRow.later hZ'.out _)))))
      refine wpQuiet_nil ?_
      rintro _ ⟨x, rfl⟩
      go_wp2
      go_step3
      exact ⟨rfl, ⟨x, rfl⟩, _, _, _, _, _, _, _, _, _, _, _, _, _, _, _, _, _, _, _, _, _, _, _, _, _, _, rfl⟩
    · rintro a' w' ⟨⟨z, rfl⟩, u0, u1, u2, u3, u4, u5, u6, u7, u8, u9, u10, u11, u12, u13, u14, u15, u16, u17, u18, u19, u20, u21, u22, u23, u24, u25, rfl⟩
      go_wp2
      simp only [Exit.jump]
      go_ret
      exact ⟨by rw [hv.out]; rfl, hb1.trans (z.b.mono hb1.size)⟩

theorem verdict_c (num den om : Int) {b1 o1 c1 b2 o2 c2 n : Nat} {m0 m1 : Int} {rest : List (Int × Int)} (w : World) (B : Both w b1 o1 c1 b2 o2 c2 n m0 m1 rest) (h1 : 0 ≤ num ∧ num ≤ 64) (h2 : 0 ≤ den ∧ den ≤ 64) (h3 : 0 ≤ om ∧ om ≤ 64) :
    Calls Try.prog 35 #[.agg #[.int .i64 0, .int .i64 0, .int .i64 0, .int .i64 0, .int .i64 0, .int .i64 0, .int .i64 0, .int .i64 0, .int .i64 num, .int .i64 den, .int .i64 0, .int .i64 om, .int .i64 0, .int .i64 0, .int .i64 0], .slice (some ⟨b2, o2, none⟩) (n + 1) c2] w fun e w' => e = .returned (.bool (verdictB num den om m0 m1 rest)) ∧ Below w.heap.size w w' :=
  verdict_h num den om w B.half h1 h2 h3
end Go.Proofs.Ytiacklfigpobnaa
