/- A whole block loaded, and stored into a new one, in one step: facts to lay ahead of a walk over 'q := *p' for a struct of many cells (the walk's own way, cell by cell, is dear for the kernel). Over any program. -/
import Derived.Test.YtfhlcjfgbhmecaaBlk
import Derived.Deep.WholeRow
namespace Go.Proofs.Ytfhlcjfgbhmecaa
open Go.RowKit
set_option linter.unusedVariables false

theorem load_whole {P : Program} {w : World} {g : Nat} {t : TypeId} {c : Array Value} (h : Blk w g t c) (n : Nat) (hn : c.size = n) :
    (loadCellsFrom ⟨g, 0, none⟩ 0 n #[]).run P w = .ok c w := by
  subst hn
  have := run_loadCells_list (P := P) w ⟨g, 0, none⟩ c.toList (fun j v hv => by
    have hadd : (⟨g, 0, none⟩ : Addr).add j = ⟨g, j, none⟩ := by unfold Addr.add; split <;> simp_all
    rw [hadd, h.cell]
    simpa using hv)
  simpa [loadCells] using this
theorem store_whole {P : Program} (w : World) (t : TypeId) (z c : Array Value) (hi : (P.info? t).map (·.size) = some c.size) (ho : z.size = c.size) (h1 : c.all (·.oneCell') = true) :
    (storeCells ⟨w.heap.size, 0, none⟩ c.toList 0).run P (w.alloc (.cells z t)) = .ok () (w.alloc (.cells c t)) := run_storeCells_new w t z c hi ho h1
end Go.Proofs.Ytfhlcjfgbhmecaa
