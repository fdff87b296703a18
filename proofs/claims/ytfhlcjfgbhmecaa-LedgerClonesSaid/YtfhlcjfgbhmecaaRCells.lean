/- The cells of the reference's store. -/
import Derived.Test.YtfhlcjfgbhmecaaStoreD
namespace Go.Proofs.Ytfhlcjfgbhmecaa
open Go.RowKit
set_option linter.unusedVariables false

/-- Its cells: all values, then whether there is one. -/
def rcellsL (st : List (Bool × Int)) : List Value := (st.map fun c => .int .i64 c.2) ++ (st.map fun c => .bool c.1)
theorem rcells_set (st : List (Bool × Int)) (hl : st.length = 64) (k : Nat) (hk : k < 64) (b : Bool) (v : Int) : ((rcellsL st).set k (.int .i64 v)).set (64 + k) (.bool b) = rcellsL (st.set k (b, v)) := by
  unfold rcellsL
  rw [List.set_append_left _ _ (by rw [List.length_map, hl]; exact hk), List.set_append_right _ _ (by rw [List.length_set, List.length_map, hl]; omega), List.length_set, List.length_map, hl, Nat.add_sub_cancel_left, List.map_set, List.map_set]
end Go.Proofs.Ytfhlcjfgbhmecaa
