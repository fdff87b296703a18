/- NotaryPlays: for all lists of acts the law returns true: whatever is sealed and asked, each call answers what the document says. No condition. -/
import Derived.Test.YtjdcjofogmplcaaNotP
import Derived.Test.YtjdcjofogmplcaaRows
namespace Go.Proofs.Ytjdcjofogmplcaa.NotaryPlays
open Go.RowKit Go.ChangeShapes Go.WideShapes Go.ChangeAt
set_option linter.unusedVariables false

set_option maxRecDepth 100000 in
set_option maxHeartbeats 1600000 in
theorem walk (a : Option Addr) (len c : Nat) (g : Nat → Nat → Int) (R : Nat → Byt) (w : World) (hr : ActsB w a len 3 g R) (hm : len ≤ maxLen) :
    Calls Try.prog 3 #[.slice a len c] w fun e w' => e = .returned (.bool true) ∧ Below w.heap.size w w' := by
  have hR := Lib.hid hr
  have HM := Lib.hid hm
  clear hr hm
  go_enter Try.func3, Try.ntmps3
  go_wp2_with fail
  refine (nnew_c _).mono ?_; rintro e w1 ⟨n, b, rfl, hN1, hn1, hb1, hw1⟩
  have P2 := Lib.hid (pair_new hN1 hw1 hn1 hb1)
  clear hN1 hw1
  go_wp2_with fail
  refine (play_c w _ n b w1.heap.size [w1.heap.size] [] a len c g R P2.out hR.out HM.out (by simp)).mono ?_
  rintro e w3 ⟨rfl, F', K', hP, hl, ho, hF⟩
  have B3 := Lib.hid hP.bel
  clear hP hl ho hF
  go_wp2_with fail
  refine (nwakes_c _).mono ?_; rintro e w7 ⟨rfl, hb7⟩
  go_wp2_with fail
  go_ret
  exact ⟨rfl, B3.out.trans (hb7.mono B3.out.size)⟩

set_option maxRecDepth 100000 in
theorem lawWalk : LawWalk Try.checked 3 Try.f3 := by
  intro H enc W base args ds p hval hA hsz
  rw [Try.params3] at hA hval
  obtain ⟨v0, vs0, d0, ds0, p0, q0, hargs, rfl, rfl, h0, r0⟩ := trodAll_cons hA
  obtain ⟨rfl, rfl, rfl⟩ := trodAll_nil r0
  obtain rfl : args = #[v0] := by cases args; simp_all
  obtain ⟨a0, n0, c0, g0, R0, rfl, hnc0, hcm0, hr0⟩ := open_acts (k := 3) (f := 33) (l := 5) Try.underlying22 Try.underlying36 (by kernel_rfl) (by kernel_rfl) (by rfl) (by kernel_rfl) (by kernel_rfl) Try.underlying33 Try.underlying5 (by kernel_rfl) (hval 0 22 v0 rfl rfl) h0
  exact walk a0 n0 c0 g0 R0 W hr0 (Nat.le_trans hnc0 hcm0)

theorem lifted (os : Os) (started : os.Started) (H : Type) (enc : TypeId × Value → H) :
    ReturnsInHanded {} Try.checked os 3 .any (Rows.notaryPlaysSpec.pre6 enc Try.prog Try.f3 Rows.notaryPlaysRow.domain false) (Rows.notaryPlaysSpec.post enc Try.prog Try.f3 false true false false) :=
  law_lift (C := Try.checked) (s := Rows.notaryPlaysSpec) (tb := 4) (by kernel_rfl) started (by kernel_rfl) Try.func3
    (ChangeSpec.witness6 (enc := enc) (C := Try.checked) false ⟨#[], #[.slice none 0 0], []⟩ 8 (by kernel_rfl) (by kernel_rfl) (by kernel_rfl) (by kernel_rfl))
    rfl (fun H ds h => by
      match ds, h with
      | [d0], _ => rfl) (by kernel_rfl) (by kernel_rfl) (by kernel_rfl) Try.underlying4 lawWalk

theorem over : Rows.notaryPlaysRow.holds Try.pinned (OpenSpec.ofChange Rows.notaryPlaysSpec) :=
  OpenClaim.holds_of_wide 3 Try.f3 rfl rfl rfl rfl rfl rfl rfl ⟨rfl, rfl, rfl, rfl, rfl⟩ rfl rfl rfl rfl rfl (by kernel_rfl) Try.func3 (by kernel_rfl)
    (of_decide_eq_true (by kernel_rfl)) (by unfold Func.isWrapper; first | (rw [if_pos (by decide +kernel)]; kernel_rfl) | (rw [if_neg (by decide +kernel)]; exact ⟨rfl, rfl⟩))
    (fun os started H enc _ => lifted os started H enc)

/-- The statement. -/
theorem proved : Rows.NotaryPlaysSaid := over
#print axioms proved

end Go.Proofs.Ytjdcjofogmplcaa.NotaryPlays
