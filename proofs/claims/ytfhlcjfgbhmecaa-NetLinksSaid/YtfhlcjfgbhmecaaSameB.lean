/- Package psephoskeep: Same of two equal slices of bytes. -/
import Derived.Test.YtfhlcjfgbhmecaaProg
import Derived.Test.YtfhlcjfgbhmecaaOpen
import Derived.Test.YtfhlcjfgbhmecaaOnly
import Derived.Test.YtfhlcjfgbhmecaaOwn
import Derived.Test.YtfhlcjfgbhmecaaLink
namespace Go.Proofs.Ytfhlcjfgbhmecaa
open Go.RowKit
set_option linter.unusedVariables false

theorem same_byte_c (a1 : Option Addr) (n1 c1 : Nat) (a2 : Option Addr) (n2 c2 : Nat) (xs : List Int) (w : World) (h1 : VRow w a1 n1 1 (brow xs)) (h2 : VRow w a2 n2 1 (brow xs)) (hn : n1 ≤ 1048576) :
    Calls Try.prog 39 #[.slice a1 n1 c1, .slice a2 n2 c2] w fun e w' => e = .returned (.bool true) ∧ Below w.heap.size w w' := by
  have l1 : xs.length = n1 := by have := h1.1; simpa [brow] using this
  have l2 : xs.length = n2 := by have := h2.1; simpa [brow] using this
  subst l1
  subst l2
  have H1 := Lib.hid h1
  have H2 := Lib.hid h2
  clear h1 h2
  go_enter Try.func39, Try.ntmps39
  go_wp2_with fail
  go_loopw [5] (fun i wr => ∃ k : Nat, k ≤ xs.length ∧ i = .int .i64 k ∧ Below w.heap.size w wr) (fun i _ => xs.length - (intOf i).toNat)
  case atStart => exact ⟨0, by omega, rfl, Below.refl _ _⟩
  case round =>
    obtain ⟨k, hk, rfl, hb⟩ := hrel
    by_cases hlt : k < xs.length
    · obtain ⟨b1, o1, rfl, hb1, hc1⟩ := (H1.out.below hb).2 (by omega)
      obtain ⟨b2, o2, rfl, hb2, hc2⟩ := (H2.out.below hb).2 (by omega)
      have q1 : wr.cell? ⟨b1, o1 + k, none⟩ = some (.int .u8 xs[k]) := hc1 k _ (by simp [brow, hlt])
      have q2 : wr.cell? ⟨b2, o2 + k, none⟩ = some (.int .u8 xs[k]) := hc2 k _ (by simp [brow, hlt])
      obtain ⟨x, hx⟩ : ∃ x, x = xs[k] := ⟨_, rfl⟩
      rw [← hx] at q1 q2
      have e : (x != x) = false := by simp
      have i0 : (0 : Int) ≤ k := by omega
      have i1 : (k : Int) < xs.length := by omega
      clear hc1 hc2 hx
      go_wp2_with fail
      go_quiet (fail)
      go_wp2_with fail
      go_roundw
      case rel => exact ⟨k + 1, by omega, by go_num, below_drewN hb nq⟩
      case measure => simp [intOf]; omega
    · go_wp2_with fail
      go_ret
      exact ⟨rfl, hb⟩
end Go.Proofs.Ytfhlcjfgbhmecaa
