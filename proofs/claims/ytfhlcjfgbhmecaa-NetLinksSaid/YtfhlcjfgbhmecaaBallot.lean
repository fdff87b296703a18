/- Contracts of ballot.Nodes and of the reference's. -/
import Derived.Test.YtfhlcjfgbhmecaaProg
import Derived.Test.YtfhlcjfgbhmecaaLater
namespace Go.Proofs.Ytfhlcjfgbhmecaa
open Go.RowKit
set_option linter.unusedVariables false
theorem nodes_c (f : Int) (w : World) (h1 : 1 ≤ f) (h4 : f ≤ 4) : Calls Try.prog 61 #[.int .i64 f] w fun e w' => e = .returned (.int .i64 (3 * f + 1)) ∧ w = w' := by
  go_enter Try.func61, Try.ntmps61
  go_wp2
  go_ret
  exact ⟨rfl, rfl⟩
theorem rnodes_c (f : Int) (w : World) (h1 : 1 ≤ f) (h4 : f ≤ 4) : Calls Try.prog 78 #[.int .i64 f] w fun e w' => e = .returned (.int .i64 (3 * f + 1)) ∧ w = w' := by
  go_enter Try.func78, Try.ntmps78
  go_wp2
  go_ret
  exact ⟨rfl, rfl⟩
end Go.Proofs.Ytfhlcjfgbhmecaa
