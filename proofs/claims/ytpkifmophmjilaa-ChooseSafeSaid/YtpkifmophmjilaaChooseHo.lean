/- choose.Holds. -/
import Derived.Test.YtpkifmophmjilaaChooseK
import Derived.Test.YtpkifmophmjilaaSameR
namespace Go.Proofs.Ytpkifmophmjilaa
open Go.RowKit
set_option linter.unusedVariables false

/-- Is a certificate's batch what is told for its number? -/
def holdsP (ps : List PD) (x : CD) : Prop := 1 ≤ x.seq ∧ x.seq ≤ (batches x.inst ps).length ∧ (batches x.inst ps)[(x.seq - 1).toNat]? = some x.bs
theorem batches_small {w : World} {a : Option Addr} {n c : Nat} {ps : List PD} (h : Parts w a n c ps) (hs : Small n ps) (xi : Int) : ∀ y ∈ batches xi ps, y.length ≤ 4096 := fun y hy => by
  obtain ⟨i, _, rfl⟩ := List.mem_map.1 hy
  show ((best xi ((i : Int) + 1) ps).getD zeroC).bs.length ≤ 4096
  cases hbb : best xi ((i : Int) + 1) ps with
  | none => exact Nat.zero_le _
  | some d =>
    obtain ⟨p, hp, hbp⟩ := List.mem_flatMap.1 (best_mem hbb).1
    have h1 := ((h.is p hp).c.is d hbp).b.len
    have h2 := (hs.b p hp d hbp).1
    show d.bs.length ≤ 4096
    omega
theorem bool_false {b : Bool} {P : Prop} (h : b = true ↔ P) (hn : ¬ P) : b = false := by
  cases b
  · rfl
  · exact absurd (h.1 rfl) hn

set_option maxRecDepth 100000 in
set_option maxHeartbeats 3200000 in
theorem holds_c (x : CD) (a : Option Addr) (n c : Nat) (ps : List PD) (w : World) (h : Parts w a n c ps) (hs : Small n ps) (hx : x.Is w) (b : Bool) (hb : b = true ↔ holdsP ps x) :
    Calls Try.prog 35 #[.agg (ccell x).toArray, .slice a n c] w fun e w' => e = .returned (.bool b) ∧ Below w.heap.size w w' := by
  obtain ⟨xv, xi, xs, xba, xbn, xbc, xbs, xva, xvn, xvc, xvs⟩ := x
  unfold holdsP at hb
  simp only at hb
  have H := Lib.hid h
  have S := Lib.hid hs
  have XB := Lib.hid hx.b
  have hxi := hx.i1
  have hxs := hx.i2
  simp only at XB hxi hxs
  obtain ⟨l, hl⟩ : ∃ l, batches xi ps = l := ⟨_, rfl⟩
  obtain ⟨m, hm⟩ : ∃ m, l.length = m := ⟨_, rfl⟩
  have m16 : m ≤ 16 := by
    have := (greatest_le xi ps).2
    rw [← hm, ← hl, batches_len]
    omega
  rw [hl, hm] at hb
  have LB : Hid (∀ y ∈ l, y.length ≤ 4096) := Lib.hid (by rw [← hl]; exact batches_small h hs xi)
  have HL := Lib.hid hl
  have HM := Lib.hid hm
  have HB := Lib.hid hb
  clear h hs hx hl hm hb
  simp only [ccell]
  go_enter Try.func35, Try.ntmps35
  go_upto_region 1 with fail
  obtain ⟨w1, hw1⟩ : ∃ w1, w1 = w.alloc (.cells #[.int .i64 xv, .int .i64 xi, .int .i64 xs, .slice xba xbn xbc, .slice xva xvn xvc] 36) := ⟨_, rfl⟩
  obtain ⟨g1, hg1⟩ : ∃ g1, g1 = w.heap.size := ⟨_, rfl⟩
  have K1 : Hid (Blk w1 g1 36 #[.int .i64 xv, .int .i64 xi, .int .i64 xs, .slice xba xbn xbc, .slice xva xvn xvc]) := Lib.hid (by rw [hw1, hg1]; exact Blk.new _ _ _)
  have B1 : Hid (Below w.heap.size w w1) := Lib.hid (by rw [hw1]; exact (Below.refl _ _).alloc (Nat.le_refl _) _)
  rw [← hw1, ← hg1]
  have c1 : w1.cell? ⟨g1, 1, none⟩ = some (.int .i64 xi) := K1.out.cell 1
  clear hw1 hg1
  go_wp2_with fail
  refine (batches_c xi a n c ps _ (H.out.below B1.out) S.out hxi l HL.out m HM.out).mono ?_; rintro e w2 ⟨a', c', rfl, hbt, hb2⟩
  have BT := Lib.hid hbt
  have K2 := Lib.hid (K1.out.below hb2 K1.out.lt)
  have B2 := Lib.hid (B1.out.trans (hb2.mono B1.out.size))
  have c2 : w2.cell? ⟨g1, 2, none⟩ = some (.int .i64 xs) := K2.out.cell 2
  have c3 : w2.cell? ⟨g1, 3, none⟩ = some (.slice xba xbn xbc) := K2.out.cell 3
  have XB2 := Lib.hid (XB.out.below B2.out)
  clear hbt hb2 c1 K1 B1
  have X2 := fun (x : Later w2) => x.cell c2
  have X3 := fun (x : Later w2) => x.cell c3
  by_cases h1 : 1 ≤ xs
  · by_cases h2 : xs ≤ m
    · obtain ⟨k, hk⟩ : ∃ k : Nat, xs = (k : Int) + 1 := ⟨(xs - 1).toNat, by omega⟩
      have hkm : k < m := by omega
      obtain ⟨b1, o1, rfl, hl1, ya, yn, yc, ys, hy, q0, r0⟩ := BT.out.get hkm
      have hbb : decide (ys = xbs) = b := by
        have e : (xs - 1).toNat = k := by omega
        have hB := HB.out
        rw [e, hy] at hB
        by_cases hh : ys = xbs
        · rw [decide_eq_true hh]; exact (hB.2 ⟨h1, h2, by rw [hh]⟩).symm
        · rw [decide_eq_false hh]; exact (bool_false hB (fun h => hh (Option.some.inj h.2.2))).symm
      have HBB := Lib.hid hbb
      have R0 := Lib.hid r0
      have y4 : yn ≤ 4096 := by rw [← r0.len]; exact LB.out ys (List.mem_of_getElem? hy)
      have d1 : decide (1 ≤ xs) = true := decide_eq_true h1
      have d2 : decide (xs ≤ m) = true := decide_eq_true h2
      have i0 : (0 : Int) ≤ k := by omega
      have i1 : (k : Int) < m := by omega
      have e9 : IntKind.i64.wrap (xs - 1) = k := by rw [IntWalk.i64_in _ (by omega)]; omega
      have X4 := fun (x : Later w2) => x.cell q0
      clear hy hbb r0 q0 hk
      go_wp2_with fail
      refine wp_region_later (by kernel_rfl) (by kernel_rfl) ?_
      repeat (go_big_quiet_step (first
        | (go_at_call 49; exact Later.call (same_r ya xba yn xbn yc xbc ys xbs _ (R0.out.below (Later.b _)) (XB2.out.below (Later.b _)) y4 _ HBB.out))))
      refine wpQuiet_nil ?_
      rintro _ ⟨x, rfl⟩
      go_wp2_with fail
      go_ret
      exact ⟨by simp, B2.out.trans (x.b.mono B2.out.size)⟩
    · obtain rfl : b = false := bool_false HB.out (fun h => h2 h.2.1)
      have d1 : decide (1 ≤ xs) = true := decide_eq_true h1
      have d2 : decide (xs ≤ m) = false := decide_eq_false h2
      go_wp2_with fail
      refine wp_region_later (by kernel_rfl) (by kernel_rfl) ?_
      repeat (go_big_quiet_step (fail))
      refine wpQuiet_nil ?_
      rintro _ ⟨x, rfl⟩
      go_wp2_with fail
      go_ret
      exact ⟨by simp, B2.out.trans (x.b.mono B2.out.size)⟩
  · obtain rfl : b = false := bool_false HB.out (fun h => h1 h.1)
    have d1 : decide (1 ≤ xs) = false := decide_eq_false h1
    go_wp2_with fail
    refine wp_region_later (by kernel_rfl) (by kernel_rfl) ?_
    repeat (go_big_quiet_step (fail))
    refine wpQuiet_nil ?_
    rintro _ ⟨x, rfl⟩
    go_wp2_with fail
    go_ret
    exact ⟨by simp, B2.out.trans (x.b.mono B2.out.size)⟩
end Go.Proofs.Ytpkifmophmjilaa
