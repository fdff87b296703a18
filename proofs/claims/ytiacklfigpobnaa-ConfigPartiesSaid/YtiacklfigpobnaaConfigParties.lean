/- ConfigParties is proved: for all numbers the law returns true. No condition. -/
import Derived.Test.YtiacklfigpobnaaRows
import Derived.Test.YtiacklfigpobnaaOpen
import Derived.Test.YtiacklfigpobnaaKeep
import Derived.Test.YtiacklfigpobnaaBlk
import Derived.Test.YtiacklfigpobnaaParty
import Derived.Test.YtiacklfigpobnaaCfgW
namespace Go.Proofs.Ytiacklfigpobnaa.ConfigParties
open Go.ChangeShapes Go.WideShapes Go.ChangeAt Go.RowKit Cfg
set_option linter.unusedVariables false

/-- How many parties have a number below k. -/
def cnt (f c k : Int) : Int := max 0 (min k (3 * f + 1)) + max 0 (min (k - 100) c)
theorem cnt_yes (f c k : Int) (h1 : 1 ≤ f) (h4 : f ≤ 4) (hc : 1 ≤ c) (h : partyB f c k = true) : cnt f c (k + 1) = cnt f c k + 1 := by
  unfold partyB at h
  simp only [Bool.or_eq_true, Bool.and_eq_true, decide_eq_true_eq] at h
  unfold cnt
  omega
theorem cnt_no (f c k : Int) (h1 : 1 ≤ f) (h4 : f ≤ 4) (hc : 1 ≤ c) (h : partyB f c k = false) : cnt f c (k + 1) = cnt f c k := by
  unfold partyB at h
  simp only [Bool.or_eq_false_iff, Bool.and_eq_false_iff, decide_eq_false_iff_not] at h
  unfold cnt
  omega
theorem cnt_bd (f c k : Int) (h1 : 1 ≤ f) (h4 : f ≤ 4) (hc : 1 ≤ c) (hc4 : c ≤ 4) : 0 ≤ cnt f c k ∧ cnt f c k ≤ 17 := by unfold cnt; omega
theorem cnt_all (f c : Int) (h1 : 1 ≤ f) (h4 : f ≤ 4) (hc : 1 ≤ c) (hc4 : c ≤ 4) : cnt f c 130 = 3 * f + 1 + c := by unfold cnt; omega
theorem cnt_none (f c : Int) (h1 : 1 ≤ f) (h4 : f ≤ 4) (hc : 1 ≤ c) (hc4 : c ≤ 4) : cnt f c (-3) = 0 := by unfold cnt; omega

set_option maxRecDepth 100000 in
set_option maxHeartbeats 4000000 in
theorem walk (f k n : Int) (w : World) (hf : I64 f) (hk : I64 k) (hn : I64 n) :
    Calls Try.prog 8 #[.int .i64 f, .int .i64 k, .int .i64 n] w fun e w' => e = .returned (.bool true) ∧ Below w.heap.size w w' := by
  go_enter Try.func8, Try.ntmps8
  go_wp2_with fail
  refine (within_q f 4 _ hf (by omega) (by omega)).mono ?_; rintro e w' ⟨q, rfl, hq, hq0, hq4, rfl⟩
  go_wp2_with fail
  refine (standard_c _ _).mono ?_; rintro e w1 ⟨rfl, hb1⟩
  go_wp2_with fail
  refine (within_q k 4 _ hk (by omega) (by omega)).mono ?_; rintro e w' ⟨r, rfl, hr, hr0, hr4, rfl⟩
  go_wp2_with fail
  obtain ⟨w2, hw2⟩ : ∃ w2, w2 = w1.alloc (.cells #[.int .i64 (1 + q), .int .i64 (1 + r), .int .i64 2, .int .i64 4, .int .i64 64, .int .i64 8, .int .i64 8, .int .i64 8, .int .i64 1, .int .i64 2, .int .i64 12, .int .i64 8, .int .i64 6, .int .i64 2, .int .i64 6] 23) := ⟨_, rfl⟩
  rw [← hw2]
  have hb2 : Below w.heap.size w w2 := by rw [hw2]; exact hb1.alloc hb1.size _
  have hC2 := Lib.hid (show Blk w2 w1.heap.size 23 #[.int .i64 (1 + q), .int .i64 (1 + r), .int .i64 2, .int .i64 4, .int .i64 64, .int .i64 8, .int .i64 8, .int .i64 8, .int .i64 1, .int .i64 2, .int .i64 12, .int .i64 8, .int .i64 6, .int .i64 2, .int .i64 6] by rw [hw2]; exact Blk.new _ _ _)
  have HW := Lib.hid hw2
  have c0 := Lib.hid (cnt_none (1 + q) (1 + r) (by omega) (by omega) (by omega) (by omega))
  have hz : w.heap.size ≤ w1.heap.size := hb1.size
  obtain ⟨g, hg⟩ : ∃ g, g = w1.heap.size := ⟨_, rfl⟩
  rw [← hg] at hC2 hz ⊢
  clear hw2 HW hg hb1
  go_loopw [8, 9] (fun m i wr => ∃ j : Int, -3 ≤ j ∧ j ≤ 130 ∧ i = .int .i64 j ∧ m = .int .i64 (cnt (1 + q) (1 + r) j) ∧ Below w.heap.size w wr ∧ Blk wr g 23 #[.int .i64 (1 + q), .int .i64 (1 + r), .int .i64 2, .int .i64 4, .int .i64 64, .int .i64 8, .int .i64 8, .int .i64 8, .int .i64 1, .int .i64 2, .int .i64 12, .int .i64 8, .int .i64 6, .int .i64 2, .int .i64 6]) (fun _ i _ => (130 - intOf i).toNat)
  case atStart => exact ⟨-3, by omega, by omega, rfl, by rw [c0.out], hb2, hC2.out⟩
  case round =>
    obtain ⟨j, hj0, hj1, rfl, rfl, hbr, hCr⟩ := hrel
    have HCr := Lib.hid hCr
    have cb := cnt_bd (1 + q) (1 + r) j (by omega) (by omega) (by omega) (by omega)
    by_cases hlt : j < 130
    · have h0 := (hCr.cell 0).trans (show _ = some (.int .i64 (1 + q)) from rfl)
      have h1 := (hCr.cell 1).trans (show _ = some (.int .i64 (1 + r)) from rfl)
      have h2 := (hCr.cell 2).trans (show _ = some (.int .i64 2) from rfl)
      have h3 := (hCr.cell 3).trans (show _ = some (.int .i64 4) from rfl)
      have h4 := (hCr.cell 4).trans (show _ = some (.int .i64 64) from rfl)
      have h5 := (hCr.cell 5).trans (show _ = some (.int .i64 8) from rfl)
      have h6 := (hCr.cell 6).trans (show _ = some (.int .i64 8) from rfl)
      have h7 := (hCr.cell 7).trans (show _ = some (.int .i64 8) from rfl)
      have h8 := (hCr.cell 8).trans (show _ = some (.int .i64 1) from rfl)
      have h9 := (hCr.cell 9).trans (show _ = some (.int .i64 2) from rfl)
      have h10 := (hCr.cell 10).trans (show _ = some (.int .i64 12) from rfl)
      have h11 := (hCr.cell 11).trans (show _ = some (.int .i64 8) from rfl)
      have h12 := (hCr.cell 12).trans (show _ = some (.int .i64 6) from rfl)
      have h13 := (hCr.cell 13).trans (show _ = some (.int .i64 2) from rfl)
      have h14 := (hCr.cell 14).trans (show _ = some (.int .i64 6) from rfl)
      clear hCr
      have hyes := Lib.hid (cnt_yes (1 + q) (1 + r) j (by omega) (by omega) (by omega))
      have hno := Lib.hid (cnt_no (1 + q) (1 + r) j (by omega) (by omega) (by omega))
      go_wp2_with fail
      refine (party_c _ _ _ _ _ _ _ _ _ _ _ _ _ _ _ _ _ (by omega) (by omega) (by omega) (by omega)).mono ?_; rintro e w3 ⟨rfl, hb3⟩
      have hC3 := Lib.hid (HCr.out.below hb3 HCr.out.lt)
      have hb3' := hbr.trans (hb3.mono hbr.size)
      cases hpb : partyB (1 + q) (1 + r) j
      · have hno' := Lib.hid (hno.out hpb)
        clear hpb
        go_wp2_with fail
        go_roundw
        case rel => exact ⟨j + 1, by omega, by omega, rfl, by rw [hno'.out], hb3', hC3.out⟩
        case measure => simp [intOf]; omega
      · have hyes' := Lib.hid (hyes.out hpb)
        clear hpb
        go_wp2_with fail
        go_roundw
        case rel => exact ⟨j + 1, by omega, by omega, rfl, by rw [hyes'.out], hb3', hC3.out⟩
        case measure => simp [intOf]; omega
    · obtain rfl : j = 130 := by omega
      have call := cnt_all (1 + q) (1 + r) (by omega) (by omega) (by omega) (by omega)
      rw [call]
      clear call cb
      go_wp2_with fail
      have hx0 := fun (x : Later wr) => HCr.out.laterCell (i := 0) (v := .int .i64 (1 + q)) rfl x
      have hx1 := fun (x : Later wr) => HCr.out.laterCell (i := 1) (v := .int .i64 (1 + r)) rfl x
      have hx2 := fun (x : Later wr) => HCr.out.laterCell (i := 2) (v := .int .i64 2) rfl x
      have hx3 := fun (x : Later wr) => HCr.out.laterCell (i := 3) (v := .int .i64 4) rfl x
      have hx4 := fun (x : Later wr) => HCr.out.laterCell (i := 4) (v := .int .i64 64) rfl x
      have hx5 := fun (x : Later wr) => HCr.out.laterCell (i := 5) (v := .int .i64 8) rfl x
      have hx6 := fun (x : Later wr) => HCr.out.laterCell (i := 6) (v := .int .i64 8) rfl x
      have hx7 := fun (x : Later wr) => HCr.out.laterCell (i := 7) (v := .int .i64 8) rfl x
      have hx8 := fun (x : Later wr) => HCr.out.laterCell (i := 8) (v := .int .i64 1) rfl x
      have hx9 := fun (x : Later wr) => HCr.out.laterCell (i := 9) (v := .int .i64 2) rfl x
      have hx10 := fun (x : Later wr) => HCr.out.laterCell (i := 10) (v := .int .i64 12) rfl x
      have hx11 := fun (x : Later wr) => HCr.out.laterCell (i := 11) (v := .int .i64 8) rfl x
      have hx12 := fun (x : Later wr) => HCr.out.laterCell (i := 12) (v := .int .i64 6) rfl x
      have hx13 := fun (x : Later wr) => HCr.out.laterCell (i := 13) (v := .int .i64 2) rfl x
      have hx14 := fun (x : Later wr) => HCr.out.laterCell (i := 14) (v := .int .i64 6) rfl x
      clear hCr
      refine wp_region_later (by kernel_rfl) (by kernel_rfl) ?_
      repeat (go_big_quiet_step (first
        | (go_at_call 29; exact Later.same (nodes_c _ _ (by omega) (by omega)))
        | (go_at_call 28; exact Later.call (party_c _ _ _ _ _ _ _ _ _ _ _ _ _ _ _ _ _ (by omega) (by omega) (by omega) (by omega)))
        | (go_at_call 30; exact Later.call (rparty_c _ _ _ _ _ _ _ _ _ _ _ _ _ _ _ _ _ (by omega) (by omega) (by omega) (by omega)))
        | (go_at_call 19; exact Later.call (wakes_c _))))
      refine wpQuiet_nil ?_
      rintro _ ⟨x, rfl⟩
      go_wp2
      go_ret
      exact ⟨rfl, hbr.trans (x.b.mono hbr.size)⟩

theorem lawWalk : LawWalk Try.checked 8 Try.f8 := by
  intro H enc W base args ds p hval hA hsz
  rw [Try.params8] at hA hval
  obtain ⟨v0, vs0, d0, ds0, p0, q0, hargs, rfl, rfl, h0, r0⟩ := trodAll_cons hA
  obtain ⟨v1, vs1, d1, ds1, p1, q1, rfl, rfl, rfl, h1, r1⟩ := trodAll_cons r0
  obtain ⟨v2, vs2, d2, ds2, p2, q2, rfl, rfl, rfl, h2, r2⟩ := trodAll_cons r1
  obtain ⟨rfl, rfl, rfl⟩ := trodAll_nil r2
  obtain rfl : args = #[v0, v1, v2] := by cases args; simp_all
  obtain ⟨a0, rfl, rfl, rfl, w0⟩ := open_int Try.underlying3 (hval 0 3 v0 rfl rfl) h0
  obtain ⟨a1, rfl, rfl, rfl, w1⟩ := open_int Try.underlying3 (hval 1 3 v1 rfl rfl) h1
  obtain ⟨a2, rfl, rfl, rfl, w2⟩ := open_int Try.underlying3 (hval 2 3 v2 rfl rfl) h2
  exact walk a0 a1 a2 W (I64.of_wf w0) (I64.of_wf w1) (I64.of_wf w2)

theorem lifted (os : Os) (started : os.Started) (H : Type) (enc : TypeId × Value → H) :
    ReturnsInHanded {} Try.checked os 8 .any (Rows.configPartiesSpec.pre6 enc Try.prog Try.f8 Rows.configPartiesRow.domain false) (Rows.configPartiesSpec.post enc Try.prog Try.f8 false true false false) :=
  law_lift (C := Try.checked) (s := Rows.configPartiesSpec) (tb := 4) (by kernel_rfl) started (by kernel_rfl) Try.func8
    (ChangeSpec.witness6 (enc := enc) (C := Try.checked) false ⟨#[], #[.int .i64 0, .int .i64 0, .int .i64 0], []⟩ 8 (by kernel_rfl) (by kernel_rfl) (by kernel_rfl) (by kernel_rfl))
    rfl (fun H ds h => by
      match ds, h with
      | [d0, d1, d2], _ => rfl) (by kernel_rfl) (by kernel_rfl) (by kernel_rfl) Try.underlying4 lawWalk

theorem over : Rows.configPartiesRow.holds Try.pinned (OpenSpec.ofChange Rows.configPartiesSpec) :=
  OpenClaim.holds_of_wide 8 Try.f8 rfl rfl rfl rfl rfl rfl rfl ⟨rfl, rfl, rfl, rfl, rfl⟩ rfl rfl rfl rfl rfl (by kernel_rfl) Try.func8 (by kernel_rfl)
    (of_decide_eq_true (by kernel_rfl)) (by unfold Func.isWrapper; first | (rw [if_pos (by decide +kernel)]; kernel_rfl) | (rw [if_neg (by decide +kernel)]; exact ⟨rfl, rfl⟩))
    (fun os started H enc _ => lifted os started H enc)

/-- The statement. -/
theorem proved : Rows.ConfigPartiesSaid := over
#print axioms proved
end Go.Proofs.Ytiacklfigpobnaa.ConfigParties
