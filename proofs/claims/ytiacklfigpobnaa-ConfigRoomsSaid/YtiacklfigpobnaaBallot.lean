/- Contracts of ballot.Nodes and of the reference's. -/
import Derived.Test.YtiacklfigpobnaaProg
import Derived.Test.YtiacklfigpobnaaLater
namespace Go.Proofs.Ytiacklfigpobnaa
open Go.RowKit
set_option linter.unusedVariables false
theorem nodes_c (f : Int) (w : World) (h1 : 1 ≤ f) (h4 : f ≤ 4) : Calls Try.prog 29 #[.int .i64 f] w fun e w' => e = .returned (.int .i64 (3 * f + 1)) ∧ w = w' := by
  go_enter Try.func29, Try.ntmps29
  go_wp2
  go_ret
  exact ⟨rfl, rfl⟩
theorem rnodes_c (f : Int) (w : World) (h1 : 1 ≤ f) (h4 : f ≤ 4) : Calls Try.prog 43 #[.int .i64 f] w fun e w' => e = .returned (.int .i64 (3 * f + 1)) ∧ w = w' := by
  go_enter Try.func43, Try.ntmps43
  go_wp2
  go_ret
  exact ⟨rfl, rfl⟩
end Go.Proofs.Ytiacklfigpobnaa
