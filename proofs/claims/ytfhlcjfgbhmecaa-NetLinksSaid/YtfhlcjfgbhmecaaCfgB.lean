/- Contracts of package config: within; the reference's standard. -/
import Derived.Test.YtfhlcjfgbhmecaaProg
import Derived.WalkKit
import Derived.OpenShut
import Derived.Below
import Derived.Outline
import Derived.Lib.Hide
namespace Go.Proofs.Ytfhlcjfgbhmecaa.Cfg
open Go.RowKit
set_option linter.unusedVariables false

def inB (n a b : Int) : Bool := decide (a ≤ n) && decide (n ≤ b)

theorem within_c (n a b : Int) (w : World) : Calls Try.prog 97 #[.int .i64 n, .int .i64 a, .int .i64 b] w fun e w' => e = .returned (.bool (inB n a b)) ∧ w = w' := by
  unfold inB
  by_cases h1 : a ≤ n
  all_goals
    go_enter Try.func97, Try.ntmps97
    go_wp2
    go_ret
    exact ⟨by first | (simp [h1]; done) | (simp; omega), rfl⟩

def validB (c0 c1 c2 c3 c4 c5 c6 c7 c8 c9 c10 c11 c12 c13 c14 : Int) : Bool :=
  inB c0 1 4 && inB c1 1 4 && inB c2 1 4 && inB c3 1 16 && inB c4 1 256 && inB c5 1 64 && inB c6 1 64 && inB c7 2 64 && inB c8 0 8 && inB c9 1 8 && inB c10 2 64 && inB c11 0 64 && inB c12 2 64 && inB c13 1 16 && inB c14 1 64

theorem rstandard_c (f : Int) (w : World) : Calls Try.prog 63 #[.int .i64 f] w
    fun e w' => e = .returned (.agg #[.int .i64 f, .int .i64 2, .int .i64 2, .int .i64 4, .int .i64 64, .int .i64 8, .int .i64 8, .int .i64 8, .int .i64 1, .int .i64 2, .int .i64 12, .int .i64 8, .int .i64 6, .int .i64 2, .int .i64 6]) ∧ Below w.heap.size w w' := by
  go_enter Try.func63, Try.ntmps63
  go_wp2
  refine bodyPost_ret (v := .agg #[.int .i64 f, .int .i64 2, .int .i64 2, .int .i64 4, .int .i64 64, .int .i64 8, .int .i64 8, .int .i64 8, .int .i64 1, .int .i64 2, .int .i64 12, .int .i64 8, .int .i64 6, .int .i64 2, .int .i64 6]) (by simp [results, Try.results63, go_sem]) rfl ⟨rfl, (Below.refl _ _).alloc (Nat.le_refl _) _⟩

end Go.Proofs.Ytfhlcjfgbhmecaa.Cfg
