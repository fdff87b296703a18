/-
  No cell of these rows narrows 'for every input' (looked for: loops, veiled, ifaces, maps, wideKeys, modest, calm, conditions, laid).
  DERIVED. THE GIVEN ROWS OF THIS SEAT. 5 by the template 'for every input the law returns true; each argument reads behind the call as it read before'; 0 by the template 'total and deterministic' (their statements: YtgnhecmnlddjhaaGreatTotals.lean).
  GIVEN WITH THE SEED: the statements are not yours to turn. If you find one false, say at which input.
  Laid BY PROGRAM, IN A SANDBOX (cutbox-rows.mjs): the forced cells as the released guide's own fill.sh prints them over the translation 58cd120b6ebe4446… (all of the seat's roots in one cut). By AI agents, Wed Nov 11 2026. No macro, syntax, notation, axiom, sorry.
-/
import Derived.Test.YtgnhecmnlddjhaaGreatChecked
import GoSem.Claim
import GoSem.ClaimJoined
import GoSem.ClaimMapViews
import Derived.JoinedTies
import Derived.KernelRfl
namespace Go.Proofs.YtgnhecmnlddjhaaGreat
/- THE CELL 'sum', in the pinned program and in every row, IS THE sha256 OF THE DUMP (.gsa) THAT YtgnhecmnlddjhaaGreatProg.lean LOADS. Nothing in Lean hashes anything: it is a label: what it is worth is what the hold of that sum in a sandbox is worth. -/
noncomputable def Tryz.pinned : Pinned := { name := "ytgnhecmnlddjhaagreat", sum := "58cd120b6ebe4446d716e29ee49e0065376a6e483e066c77b48b88d4167fd58f", checked := Tryz.checked }
namespace Rows
def none {H : Type} : Left H := { results := [], args := [] }

/-- 'psephostop.TopAlone': WHATEVER THE INPUT: true; the input reads as it did. -/
def topAloneSpec : ChangeSpec := { name := "topAlone", fn := fun _ => fun
  | [d1, d2] => { results := [.lit (.bool true)], args := [d1, d2] }
  | _ => none }
def topAloneRow : OpenClaim := { program := "ytgnhecmnlddjhaagreat", sum := "58cd120b6ebe4446d716e29ee49e0065376a6e483e066c77b48b88d4167fd58f", func := "psephos/psephostop.TopAlone", spec := "topAlone", unfollowed := true, recurses := true, plainKeys := false, apart := false }
def TopAloneSaid : Prop := topAloneRow.holds Tryz.pinned (OpenSpec.ofChange topAloneSpec)

/-- ITS FALSE NEIGHBOUR: 'it returns false'. Refute it at one input. -/
def topAloneWrong : ChangeSpec := { name := "topAlone", fn := fun _ => fun
  | [d1, d2] => { results := [.lit (.bool false)], args := [d1, d2] }
  | _ => none }
def TopAloneWrongFalsely : Prop := topAloneRow.holds Tryz.pinned (OpenSpec.ofChange topAloneWrong)

/-- 'psephostop.TopSilent': WHATEVER THE INPUT: true; the input reads as it did. -/
def topSilentSpec : ChangeSpec := { name := "topSilent", fn := fun _ => fun
  | [d1, d2, d3] => { results := [.lit (.bool true)], args := [d1, d2, d3] }
  | _ => none }
def topSilentRow : OpenClaim := { program := "ytgnhecmnlddjhaagreat", sum := "58cd120b6ebe4446d716e29ee49e0065376a6e483e066c77b48b88d4167fd58f", func := "psephos/psephostop.TopSilent", spec := "topSilent", unfollowed := true, recurses := true, plainKeys := false, apart := false }
def TopSilentSaid : Prop := topSilentRow.holds Tryz.pinned (OpenSpec.ofChange topSilentSpec)

/-- ITS FALSE NEIGHBOUR: 'it returns false'. Refute it at one input. -/
def topSilentWrong : ChangeSpec := { name := "topSilent", fn := fun _ => fun
  | [d1, d2, d3] => { results := [.lit (.bool false)], args := [d1, d2, d3] }
  | _ => none }
def TopSilentWrongFalsely : Prop := topSilentRow.holds Tryz.pinned (OpenSpec.ofChange topSilentWrong)

/-- 'psephostop.TopCorrect': WHATEVER THE INPUT: true; the input reads as it did. -/
def topCorrectSpec : ChangeSpec := { name := "topCorrect", fn := fun _ => fun
  | [d1, d2, d3] => { results := [.lit (.bool true)], args := [d1, d2, d3] }
  | _ => none }
def topCorrectRow : OpenClaim := { program := "ytgnhecmnlddjhaagreat", sum := "58cd120b6ebe4446d716e29ee49e0065376a6e483e066c77b48b88d4167fd58f", func := "psephos/psephostop.TopCorrect", spec := "topCorrect", unfollowed := true, recurses := true, plainKeys := false, apart := false }
def TopCorrectSaid : Prop := topCorrectRow.holds Tryz.pinned (OpenSpec.ofChange topCorrectSpec)

/-- ITS FALSE NEIGHBOUR: 'it returns false'. Refute it at one input. -/
def topCorrectWrong : ChangeSpec := { name := "topCorrect", fn := fun _ => fun
  | [d1, d2, d3] => { results := [.lit (.bool false)], args := [d1, d2, d3] }
  | _ => none }
def TopCorrectWrongFalsely : Prop := topCorrectRow.holds Tryz.pinned (OpenSpec.ofChange topCorrectWrong)

/-- 'psephostop.TopLiars': WHATEVER THE INPUT: true; the input reads as it did. -/
def topLiarsSpec : ChangeSpec := { name := "topLiars", fn := fun _ => fun
  | [d1, d2, d3, d4, d5] => { results := [.lit (.bool true)], args := [d1, d2, d3, d4, d5] }
  | _ => none }
def topLiarsRow : OpenClaim := { program := "ytgnhecmnlddjhaagreat", sum := "58cd120b6ebe4446d716e29ee49e0065376a6e483e066c77b48b88d4167fd58f", func := "psephos/psephostop.TopLiars", spec := "topLiars", unfollowed := true, recurses := true, plainKeys := false, apart := false }
def TopLiarsSaid : Prop := topLiarsRow.holds Tryz.pinned (OpenSpec.ofChange topLiarsSpec)

/-- ITS FALSE NEIGHBOUR: 'it returns false'. Refute it at one input. -/
def topLiarsWrong : ChangeSpec := { name := "topLiars", fn := fun _ => fun
  | [d1, d2, d3, d4, d5] => { results := [.lit (.bool false)], args := [d1, d2, d3, d4, d5] }
  | _ => none }
def TopLiarsWrongFalsely : Prop := topLiarsRow.holds Tryz.pinned (OpenSpec.ofChange topLiarsWrong)

/-- 'psephostop.TopSplit': WHATEVER THE INPUT: true; the input reads as it did. -/
def topSplitSpec : ChangeSpec := { name := "topSplit", fn := fun _ => fun
  | [d1, d2, d3, d4] => { results := [.lit (.bool true)], args := [d1, d2, d3, d4] }
  | _ => none }
def topSplitRow : OpenClaim := { program := "ytgnhecmnlddjhaagreat", sum := "58cd120b6ebe4446d716e29ee49e0065376a6e483e066c77b48b88d4167fd58f", func := "psephos/psephostop.TopSplit", spec := "topSplit", unfollowed := true, recurses := true, plainKeys := false, apart := false }
def TopSplitSaid : Prop := topSplitRow.holds Tryz.pinned (OpenSpec.ofChange topSplitSpec)

/-- ITS FALSE NEIGHBOUR: 'it returns false'. Refute it at one input. -/
def topSplitWrong : ChangeSpec := { name := "topSplit", fn := fun _ => fun
  | [d1, d2, d3, d4] => { results := [.lit (.bool false)], args := [d1, d2, d3, d4] }
  | _ => none }
def TopSplitWrongFalsely : Prop := topSplitRow.holds Tryz.pinned (OpenSpec.ofChange topSplitWrong)

/- THE SECOND FORM. 'bulk': how many values and letters a reading holds, each counted each time it is reached (what is shared counts as often as it is met; a slice's spare places count too). A statement '..UptoSaid' is the law's where the arguments, and the package variables that the reading takes, are together of bulk at most 1048576: NARROWER than '..Said'. Prove '..Said' where nothing that the law and all that it calls make is longer than what came in: it says more and counts as full. Else prove '..UptoSaid'. A law counts once. -/
mutual
def uptoBulk {H : Type} : DataW H → Nat
  | .lit (.string bytes) => bytes.length + 1
  | .lit _ => 1
  | .nil => 1
  | .ptr d => uptoBulk d + 1
  | .slice elems spare => uptoBulkAll elems + uptoBulkAll spare + 1
  | .agg parts => uptoBulkAll parts + 1
  | .iface _ d => uptoBulk d + 1
  | .map entries => uptoBulkEntries entries + 1
  | .held _ => 1
def uptoBulkAll {H : Type} : List (DataW H) → Nat
  | [] => 0
  | d :: r => uptoBulk d + uptoBulkAll r
def uptoBulkEntries {H : Type} : List (Lit × DataW H) → Nat
  | [] => 0
  | x :: r => uptoBulkEntry x + uptoBulkEntries r
def uptoBulkEntry {H : Type} : Lit × DataW H → Nat
  | (.string bytes, d) => bytes.length + uptoBulk d + 1
  | (_, d) => uptoBulk d + 1
 end
def uptoSmall : (H : Type) → List (DataW H) → Bool := fun _ ds => decide (uptoBulkAll ds ≤ 1048576)
def OpenSpec.upto (s : _root_.Go.ChangeSpec) : _root_.Go.OpenSpec := { _root_.Go.OpenSpec.ofChange s with cond := some uptoSmall }

/-- 'psephostop.TopAlone', WHERE WHAT IT READS IS OF BULK AT MOST 1048576: true; the input reads as it did. -/
def topAloneUptoRow : OpenClaim := { program := "ytgnhecmnlddjhaagreat", sum := "58cd120b6ebe4446d716e29ee49e0065376a6e483e066c77b48b88d4167fd58f", func := "psephos/psephostop.TopAlone", spec := "topAlone", unfollowed := true, recurses := true, plainKeys := false, apart := false, narrowed := true }
def TopAloneUptoSaid : Prop := topAloneUptoRow.holds Tryz.pinned (OpenSpec.upto topAloneSpec)

/-- 'psephostop.TopSilent', WHERE WHAT IT READS IS OF BULK AT MOST 1048576: true; the input reads as it did. -/
def topSilentUptoRow : OpenClaim := { program := "ytgnhecmnlddjhaagreat", sum := "58cd120b6ebe4446d716e29ee49e0065376a6e483e066c77b48b88d4167fd58f", func := "psephos/psephostop.TopSilent", spec := "topSilent", unfollowed := true, recurses := true, plainKeys := false, apart := false, narrowed := true }
def TopSilentUptoSaid : Prop := topSilentUptoRow.holds Tryz.pinned (OpenSpec.upto topSilentSpec)

/-- 'psephostop.TopCorrect', WHERE WHAT IT READS IS OF BULK AT MOST 1048576: true; the input reads as it did. -/
def topCorrectUptoRow : OpenClaim := { program := "ytgnhecmnlddjhaagreat", sum := "58cd120b6ebe4446d716e29ee49e0065376a6e483e066c77b48b88d4167fd58f", func := "psephos/psephostop.TopCorrect", spec := "topCorrect", unfollowed := true, recurses := true, plainKeys := false, apart := false, narrowed := true }
def TopCorrectUptoSaid : Prop := topCorrectUptoRow.holds Tryz.pinned (OpenSpec.upto topCorrectSpec)

/-- 'psephostop.TopLiars', WHERE WHAT IT READS IS OF BULK AT MOST 1048576: true; the input reads as it did. -/
def topLiarsUptoRow : OpenClaim := { program := "ytgnhecmnlddjhaagreat", sum := "58cd120b6ebe4446d716e29ee49e0065376a6e483e066c77b48b88d4167fd58f", func := "psephos/psephostop.TopLiars", spec := "topLiars", unfollowed := true, recurses := true, plainKeys := false, apart := false, narrowed := true }
def TopLiarsUptoSaid : Prop := topLiarsUptoRow.holds Tryz.pinned (OpenSpec.upto topLiarsSpec)

/-- 'psephostop.TopSplit', WHERE WHAT IT READS IS OF BULK AT MOST 1048576: true; the input reads as it did. -/
def topSplitUptoRow : OpenClaim := { program := "ytgnhecmnlddjhaagreat", sum := "58cd120b6ebe4446d716e29ee49e0065376a6e483e066c77b48b88d4167fd58f", func := "psephos/psephostop.TopSplit", spec := "topSplit", unfollowed := true, recurses := true, plainKeys := false, apart := false, narrowed := true }
def TopSplitUptoSaid : Prop := topSplitUptoRow.holds Tryz.pinned (OpenSpec.upto topSplitSpec)

end Rows
end Go.Proofs.YtgnhecmnlddjhaaGreat
