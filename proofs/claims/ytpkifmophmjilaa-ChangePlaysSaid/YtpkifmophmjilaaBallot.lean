/- Contracts of ballot.Nodes and of the reference's. -/
import Derived.Test.YtpkifmophmjilaaProg
import Derived.Test.YtpkifmophmjilaaLater
namespace Go.Proofs.Ytpkifmophmjilaa
open Go.RowKit
set_option linter.unusedVariables false
theorem nodes_c (f : Int) (w : World) (h1 : 1 ≤ f) (h4 : f ≤ 4) : Calls Try.prog 47 #[.int .i64 f] w fun e w' => e = .returned (.int .i64 (3 * f + 1)) ∧ w = w' := by
  go_enter Try.func47, Try.ntmps47
  go_wp2
  go_ret
  exact ⟨rfl, rfl⟩
theorem rnodes_c (f : Int) (w : World) (h1 : 1 ≤ f) (h4 : f ≤ 4) : Calls Try.prog 20 #[.int .i64 f] w fun e w' => e = .returned (.int .i64 (3 * f + 1)) ∧ w = w' := by
  go_enter Try.func20, Try.ntmps20
  go_wp2
  go_ret
  exact ⟨rfl, rfl⟩
end Go.Proofs.Ytpkifmophmjilaa
