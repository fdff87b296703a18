/- A plan's operation that its guard leaves out. Over any program. -/
import Derived.Test.YtfeepofdnjnkpaaPlan
namespace Go.Proofs.Ytfeepofdnjnkpaa
open Go.RowKit
section
variable {P : Program} {Q : Exit → Act → World → Prop} {S : World → Prop} {n : Nat}
theorem wpPlan_skip {l : List Oper} {i : Nat} {p : Plan} {o : Oper} {a : Act} {w : World} (hi : nth l i = some o) (hw : Region.wanted o (yielded l.toArray a.tmps) = false) (hS : S w)
    (h : wpPlan P l.toArray Q S n p (a.put o.dst undef) w) : wpPlan P l.toArray Q S n (.take i p) a w :=
  ⟨o, undef, nth_arr hi, .inr ⟨hw, rfl⟩, hS, h⟩
end
end Go.Proofs.Ytfeepofdnjnkpaa
