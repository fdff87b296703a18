/- Contracts of package psephoskeep: Within. -/
import Derived.Test.YtfhlcjfgbhmecaaProg
import Derived.Test.YtfhlcjfgbhmecaaOpen
namespace Go.Proofs.Ytfhlcjfgbhmecaa
open Go.RowKit
set_option linter.unusedVariables false

theorem tmod_emod (v n : Int) (hn : 1 ≤ n) : (0 ≤ v.tmod n → v % n = v.tmod n) ∧ (v.tmod n < 0 → v % n = v.tmod n + n) ∧ -n < v.tmod n ∧ v.tmod n < n := by
  have h1 := Int.emod_nonneg v (show n ≠ 0 by omega)
  have h2 := Int.emod_lt_of_pos v (show 0 < n by omega)
  have h4 : v.tmod n < n := Int.tmod_lt_of_pos v (by omega)
  rcases Int.le_total 0 v with h | h
  · have : v.tmod n = v % n := Int.tmod_eq_emod_of_nonneg h
    rw [this]; omega
  · have e : (-v).tmod n = (-v) % n := Int.tmod_eq_emod_of_nonneg (by omega)
    have e2 : v.tmod n = - ((-v) % n) := by rw [← e, Int.neg_tmod]; omega
    have h5 := Int.emod_nonneg (-v) (show n ≠ 0 by omega)
    have h6 := Int.emod_lt_of_pos (-v) (show 0 < n by omega)
    have h7 : (v % n + (-v) % n) % n = 0 := by rw [← Int.add_emod, Int.add_right_neg, Int.zero_emod]
    rw [e2]
    generalize v % n = a at *
    generalize (-v) % n = b at *
    have h8 : a + b = 0 ∨ a + b = n := by
      rcases Int.lt_or_le (a + b) n with h9 | h9
      · left
        rw [Int.emod_eq_of_lt (by omega) h9] at h7
        exact h7
      · right
        have : (a + b) % n = (a + b - n) % n := by rw [Int.sub_emod_right]
        rw [this, Int.emod_eq_of_lt (by omega) (by omega)] at h7
        omega
    omega

theorem within_keep (v n : Int) (w : World) (hv : I64 v) (hn : 1 ≤ n) (hn2 : n ≤ 4611686018427387904) :
    Calls Try.prog 15 #[.int .i64 v, .int .i64 n] w fun e w' => e = .returned (.int .i64 (v % n)) ∧ w = w' := by
  obtain ⟨hv1, hv2⟩ := hv
  obtain ⟨t0, t1, t2, t3⟩ := tmod_emod v n hn
  by_cases h0 : 0 ≤ v
  · have e0 := Int.emod_nonneg v (show n ≠ 0 by omega)
    have e1 := Int.emod_lt_of_pos v (show 0 < n by omega)
    clear t0 t1 t2 t3
    go_enter Try.func15, Try.ntmps15
    go_wp2
    go_ret
    exact ⟨rfl, rfl⟩
  · by_cases h : v.tmod n < 0
    · have e := Lib.hid (t1 h)
      clear t0 t1
      go_enter Try.func15, Try.ntmps15
      go_wp2
      go_ret
      exact ⟨by rw [e.out]; rfl, rfl⟩
    · have e := Lib.hid (t0 (by omega))
      clear t0 t1
      go_enter Try.func15, Try.ntmps15
      go_wp2
      go_ret
      exact ⟨by rw [e.out]; rfl, rfl⟩

theorem within_q (v n : Int) (w : World) (hv : I64 v) (hn : 1 ≤ n) (hn2 : n ≤ 4611686018427387904) :
    Calls Try.prog 15 #[.int .i64 v, .int .i64 n] w fun e w' => ∃ q, e = .returned (.int .i64 q) ∧ Hid (q = v % n) ∧ 0 ≤ q ∧ q < n ∧ w = w' :=
  (within_keep v n w hv hn hn2).mono fun e w' ⟨he, hw⟩ => ⟨_, he, Lib.hid rfl, Int.emod_nonneg v (by omega), Int.emod_lt_of_pos v (by omega), hw⟩
end Go.Proofs.Ytfhlcjfgbhmecaa
