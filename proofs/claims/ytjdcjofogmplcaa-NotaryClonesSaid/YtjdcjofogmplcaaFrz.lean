/- A conversion of bytes to bytes: its block is marked; what stands there. -/
import Derived.Test.YtjdcjofogmplcaaNotS
import Derived.Lib.UnsafeStr
namespace Go.Proofs.Ytjdcjofogmplcaa
open Go.RowKit
set_option linter.unusedVariables false
def frz (w : World) (u : Value) : World := (w.alloc (.cells #[u] 5)).freeze ⟨w.heap.size, 1, none⟩ 1
theorem frz_heap (w : World) (u : Value) : (frz w u).heap[w.heap.size]? = some (.cells #[u] 5 (1, 2)) := by
  have h := heap_alloc_new w (.cells #[u] 5)
  unfold frz World.freeze
  rw [if_neg (by decide)]
  refine (Array.getElem?_modify (xs := (w.alloc (.cells #[u] 5)).heap)).trans ?_
  rw [if_pos rfl, h]
  simp
theorem conv_frz (w : World) (u : Value) : (convert 33 33 (.slice (some ⟨w.heap.size, 0, none⟩) 1 1)).run Try.prog (w.alloc (.cells #[u] 5)) = .ok (.slice (some ⟨w.heap.size, 0, none⟩) 1 1) (frz w u) := by
  have hs : (w.alloc (.cells #[u] 5)).shape? w.heap.size = some (5, 1) := by
    have h := heap_alloc_new w (.cells #[u] 5)
    unfold World.shape?
    rw [h]
    rfl
  simp [convert, run_underlying Try.underlying33, run_underlying Try.underlying5, markStringish, hs, Result.andThen, frz]
theorem frz_below (w : World) (u : Value) : Below w.heap.size w (frz w u) := Go.Lib.below_freeze ((Below.refl _ _).alloc (Nat.le_refl _) _) (Nat.le_refl _) _
theorem frz_row (w : World) (u : Value) : VRow (frz w u) (some ⟨w.heap.size, 0, none⟩) 1 1 [u] := by
  have h := frz_heap w u
  refine ⟨rfl, fun _ => ⟨_, 0, rfl, (Array.getElem?_eq_some_iff.1 h).1, fun i v hv => ?_⟩⟩
  rw [Nat.zero_add, cell_of_row _ _ i _ _ _ h]
  simpa using hv
end Go.Proofs.Ytjdcjofogmplcaa
