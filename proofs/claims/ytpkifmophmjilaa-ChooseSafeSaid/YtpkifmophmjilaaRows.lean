/-
  No cell of these rows narrows 'for every input' (looked for: loops, veiled, ifaces, maps, wideKeys, modest, calm, conditions, laid).
  DERIVED. THE GIVEN ROWS OF THIS SEAT. 10 by the template 'for every input the law returns true; each argument reads behind the call as it read before'; 0 by the template 'total and deterministic' (their statements: YtpkifmophmjilaaTotals.lean).
  GIVEN WITH THE SEED: the statements are not yours to turn. If you find one false, say at which input.
  Laid BY PROGRAM, IN A SANDBOX (cutbox-rows.mjs): the forced cells as the released guide's own fill.sh prints them over the translation bab30dba18c305a1… (all of the seat's roots in one cut). By AI agents, Wed Nov 11 2026. No macro, syntax, notation, axiom, sorry.
-/
import Derived.Test.YtpkifmophmjilaaChecked
import GoSem.Claim
import GoSem.ClaimJoined
import GoSem.ClaimMapViews
import Derived.JoinedTies
import Derived.KernelRfl
namespace Go.Proofs.Ytpkifmophmjilaa
/- THE CELL 'sum', in the pinned program and in every row, IS THE sha256 OF THE DUMP (.gsa) THAT YtpkifmophmjilaaProg.lean LOADS. Nothing in Lean hashes anything: it is a label: what it is worth is what the hold of that sum in a sandbox is worth. -/
noncomputable def Try.pinned : Pinned := { name := "ytpkifmophmjilaa", sum := "bab30dba18c305a190d7a7657acad9218eaaadabd2fb26d9362a5d4fa7af92a7", checked := Try.checked }
namespace Rows
def none {H : Type} : Left H := { results := [], args := [] }

/-- 'psephoslaw17.ChooseTwice': WHATEVER THE INPUT: true; the input reads as it did. -/
def chooseTwiceSpec : ChangeSpec := { name := "chooseTwice", fn := fun _ => fun
  | [d1, d2] => { results := [.lit (.bool true)], args := [d1, d2] }
  | _ => none }
def chooseTwiceRow : OpenClaim := { program := "ytpkifmophmjilaa", sum := "bab30dba18c305a190d7a7657acad9218eaaadabd2fb26d9362a5d4fa7af92a7", func := "psephos/psephoslaw17.ChooseTwice", spec := "chooseTwice", apart := false }
def ChooseTwiceSaid : Prop := chooseTwiceRow.holds Try.pinned (OpenSpec.ofChange chooseTwiceSpec)

/-- ITS FALSE NEIGHBOUR: 'it returns false'. Refute it at one input. -/
def chooseTwiceWrong : ChangeSpec := { name := "chooseTwice", fn := fun _ => fun
  | [d1, d2] => { results := [.lit (.bool false)], args := [d1, d2] }
  | _ => none }
def ChooseTwiceWrongFalsely : Prop := chooseTwiceRow.holds Try.pinned (OpenSpec.ofChange chooseTwiceWrong)

/-- 'psephoslaw17.ChooseSafe': WHATEVER THE INPUT: true; the input reads as it did. -/
def chooseSafeSpec : ChangeSpec := { name := "chooseSafe", fn := fun _ => fun
  | [d1, d2, d3] => { results := [.lit (.bool true)], args := [d1, d2, d3] }
  | _ => none }
def chooseSafeRow : OpenClaim := { program := "ytpkifmophmjilaa", sum := "bab30dba18c305a190d7a7657acad9218eaaadabd2fb26d9362a5d4fa7af92a7", func := "psephos/psephoslaw17.ChooseSafe", spec := "chooseSafe", unfollowed := true, recurses := true, apart := false }
def ChooseSafeSaid : Prop := chooseSafeRow.holds Try.pinned (OpenSpec.ofChange chooseSafeSpec)

/-- ITS FALSE NEIGHBOUR: 'it returns false'. Refute it at one input. -/
def chooseSafeWrong : ChangeSpec := { name := "chooseSafe", fn := fun _ => fun
  | [d1, d2, d3] => { results := [.lit (.bool false)], args := [d1, d2, d3] }
  | _ => none }
def ChooseSafeWrongFalsely : Prop := chooseSafeRow.holds Try.pinned (OpenSpec.ofChange chooseSafeWrong)

/-- 'psephoslaw17.ChooseOthers': WHATEVER THE INPUT: true; the input reads as it did. -/
def chooseOthersSpec : ChangeSpec := { name := "chooseOthers", fn := fun _ => fun
  | [d1, d2, d3] => { results := [.lit (.bool true)], args := [d1, d2, d3] }
  | _ => none }
def chooseOthersRow : OpenClaim := { program := "ytpkifmophmjilaa", sum := "bab30dba18c305a190d7a7657acad9218eaaadabd2fb26d9362a5d4fa7af92a7", func := "psephos/psephoslaw17.ChooseOthers", spec := "chooseOthers", apart := false }
def ChooseOthersSaid : Prop := chooseOthersRow.holds Try.pinned (OpenSpec.ofChange chooseOthersSpec)

/-- ITS FALSE NEIGHBOUR: 'it returns false'. Refute it at one input. -/
def chooseOthersWrong : ChangeSpec := { name := "chooseOthers", fn := fun _ => fun
  | [d1, d2, d3] => { results := [.lit (.bool false)], args := [d1, d2, d3] }
  | _ => none }
def ChooseOthersWrongFalsely : Prop := chooseOthersRow.holds Try.pinned (OpenSpec.ofChange chooseOthersWrong)

/-- 'psephoslaw17.ChooseGreatest': WHATEVER THE INPUT: true; the input reads as it did. -/
def chooseGreatestSpec : ChangeSpec := { name := "chooseGreatest", fn := fun _ => fun
  | [d1, d2] => { results := [.lit (.bool true)], args := [d1, d2] }
  | _ => none }
def chooseGreatestRow : OpenClaim := { program := "ytpkifmophmjilaa", sum := "bab30dba18c305a190d7a7657acad9218eaaadabd2fb26d9362a5d4fa7af92a7", func := "psephos/psephoslaw17.ChooseGreatest", spec := "chooseGreatest", apart := false }
def ChooseGreatestSaid : Prop := chooseGreatestRow.holds Try.pinned (OpenSpec.ofChange chooseGreatestSpec)

/-- ITS FALSE NEIGHBOUR: 'it returns false'. Refute it at one input. -/
def chooseGreatestWrong : ChangeSpec := { name := "chooseGreatest", fn := fun _ => fun
  | [d1, d2] => { results := [.lit (.bool false)], args := [d1, d2] }
  | _ => none }
def ChooseGreatestWrongFalsely : Prop := chooseGreatestRow.holds Try.pinned (OpenSpec.ofChange chooseGreatestWrong)

/-- 'psephoslaw16.ChangeEnough': WHATEVER THE INPUT: true; the input reads as it did. -/
def changeEnoughSpec : ChangeSpec := { name := "changeEnough", fn := fun _ => fun
  | [d1, d2] => { results := [.lit (.bool true)], args := [d1, d2] }
  | _ => none }
def changeEnoughRow : OpenClaim := { program := "ytpkifmophmjilaa", sum := "bab30dba18c305a190d7a7657acad9218eaaadabd2fb26d9362a5d4fa7af92a7", func := "psephos/psephoslaw16.ChangeEnough", spec := "changeEnough", apart := false }
def ChangeEnoughSaid : Prop := changeEnoughRow.holds Try.pinned (OpenSpec.ofChange changeEnoughSpec)

/-- ITS FALSE NEIGHBOUR: 'it returns false'. Refute it at one input. -/
def changeEnoughWrong : ChangeSpec := { name := "changeEnough", fn := fun _ => fun
  | [d1, d2] => { results := [.lit (.bool false)], args := [d1, d2] }
  | _ => none }
def ChangeEnoughWrongFalsely : Prop := changeEnoughRow.holds Try.pinned (OpenSpec.ofChange changeEnoughWrong)

/-- 'psephoslaw16.ChangeOrders': WHATEVER THE INPUT: true; the input reads as it did. -/
def changeOrdersSpec : ChangeSpec := { name := "changeOrders", fn := fun _ => fun
  | [d1, d2, d3] => { results := [.lit (.bool true)], args := [d1, d2, d3] }
  | _ => none }
def changeOrdersRow : OpenClaim := { program := "ytpkifmophmjilaa", sum := "bab30dba18c305a190d7a7657acad9218eaaadabd2fb26d9362a5d4fa7af92a7", func := "psephos/psephoslaw16.ChangeOrders", spec := "changeOrders", apart := false }
def ChangeOrdersSaid : Prop := changeOrdersRow.holds Try.pinned (OpenSpec.ofChange changeOrdersSpec)

/-- ITS FALSE NEIGHBOUR: 'it returns false'. Refute it at one input. -/
def changeOrdersWrong : ChangeSpec := { name := "changeOrders", fn := fun _ => fun
  | [d1, d2, d3] => { results := [.lit (.bool false)], args := [d1, d2, d3] }
  | _ => none }
def ChangeOrdersWrongFalsely : Prop := changeOrdersRow.holds Try.pinned (OpenSpec.ofChange changeOrdersWrong)

/-- 'psephoslaw17.ChooseAlone': WHATEVER THE INPUT: true; the input reads as it did. -/
def chooseAloneSpec : ChangeSpec := { name := "chooseAlone", fn := fun _ => fun
  | [d1, d2, d3] => { results := [.lit (.bool true)], args := [d1, d2, d3] }
  | _ => none }
def chooseAloneRow : OpenClaim := { program := "ytpkifmophmjilaa", sum := "bab30dba18c305a190d7a7657acad9218eaaadabd2fb26d9362a5d4fa7af92a7", func := "psephos/psephoslaw17.ChooseAlone", spec := "chooseAlone", apart := false }
def ChooseAloneSaid : Prop := chooseAloneRow.holds Try.pinned (OpenSpec.ofChange chooseAloneSpec)

/-- ITS FALSE NEIGHBOUR: 'it returns false'. Refute it at one input. -/
def chooseAloneWrong : ChangeSpec := { name := "chooseAlone", fn := fun _ => fun
  | [d1, d2, d3] => { results := [.lit (.bool false)], args := [d1, d2, d3] }
  | _ => none }
def ChooseAloneWrongFalsely : Prop := chooseAloneRow.holds Try.pinned (OpenSpec.ofChange chooseAloneWrong)

/-- 'psephoslaw17.ChooseBatches': WHATEVER THE INPUT: true; the input reads as it did. -/
def chooseBatchesSpec : ChangeSpec := { name := "chooseBatches", fn := fun _ => fun
  | [d1, d2, d3] => { results := [.lit (.bool true)], args := [d1, d2, d3] }
  | _ => none }
def chooseBatchesRow : OpenClaim := { program := "ytpkifmophmjilaa", sum := "bab30dba18c305a190d7a7657acad9218eaaadabd2fb26d9362a5d4fa7af92a7", func := "psephos/psephoslaw17.ChooseBatches", spec := "chooseBatches", apart := false }
def ChooseBatchesSaid : Prop := chooseBatchesRow.holds Try.pinned (OpenSpec.ofChange chooseBatchesSpec)

/-- ITS FALSE NEIGHBOUR: 'it returns false'. Refute it at one input. -/
def chooseBatchesWrong : ChangeSpec := { name := "chooseBatches", fn := fun _ => fun
  | [d1, d2, d3] => { results := [.lit (.bool false)], args := [d1, d2, d3] }
  | _ => none }
def ChooseBatchesWrongFalsely : Prop := chooseBatchesRow.holds Try.pinned (OpenSpec.ofChange chooseBatchesWrong)

/-- 'psephoslaw16.ChangeRises': WHATEVER THE INPUT: true; the input reads as it did. -/
def changeRisesSpec : ChangeSpec := { name := "changeRises", fn := fun _ => fun
  | [d1, d2, d3] => { results := [.lit (.bool true)], args := [d1, d2, d3] }
  | _ => none }
def changeRisesRow : OpenClaim := { program := "ytpkifmophmjilaa", sum := "bab30dba18c305a190d7a7657acad9218eaaadabd2fb26d9362a5d4fa7af92a7", func := "psephos/psephoslaw16.ChangeRises", spec := "changeRises", apart := false }
def ChangeRisesSaid : Prop := changeRisesRow.holds Try.pinned (OpenSpec.ofChange changeRisesSpec)

/-- ITS FALSE NEIGHBOUR: 'it returns false'. Refute it at one input. -/
def changeRisesWrong : ChangeSpec := { name := "changeRises", fn := fun _ => fun
  | [d1, d2, d3] => { results := [.lit (.bool false)], args := [d1, d2, d3] }
  | _ => none }
def ChangeRisesWrongFalsely : Prop := changeRisesRow.holds Try.pinned (OpenSpec.ofChange changeRisesWrong)

/-- 'psephoslaw16.ChangePlays': WHATEVER THE INPUT: true; the input reads as it did. -/
def changePlaysSpec : ChangeSpec := { name := "changePlays", fn := fun _ => fun
  | [d1, d2, d3] => { results := [.lit (.bool true)], args := [d1, d2, d3] }
  | _ => none }
def changePlaysRow : OpenClaim := { program := "ytpkifmophmjilaa", sum := "bab30dba18c305a190d7a7657acad9218eaaadabd2fb26d9362a5d4fa7af92a7", func := "psephos/psephoslaw16.ChangePlays", spec := "changePlays", apart := false }
def ChangePlaysSaid : Prop := changePlaysRow.holds Try.pinned (OpenSpec.ofChange changePlaysSpec)

/-- ITS FALSE NEIGHBOUR: 'it returns false'. Refute it at one input. -/
def changePlaysWrong : ChangeSpec := { name := "changePlays", fn := fun _ => fun
  | [d1, d2, d3] => { results := [.lit (.bool false)], args := [d1, d2, d3] }
  | _ => none }
def ChangePlaysWrongFalsely : Prop := changePlaysRow.holds Try.pinned (OpenSpec.ofChange changePlaysWrong)

/- THE SECOND FORM. 'bulk': how many values and letters a reading holds, each counted each time it is reached (what is shared counts as often as it is met; a slice's spare places count too). A statement '..UptoSaid' is the law's where the arguments, and the package variables that the reading takes, are together of bulk at most 1048576: NARROWER than '..Said'. Prove '..Said' where nothing that the law and all that it calls make is longer than what came in: it says more and counts as full. Else prove '..UptoSaid'. A law counts once. -/
mutual
def uptoBulk {H : Type} : DataW H → Nat
  | .lit (.string bytes) => bytes.length + 1
  | .lit _ => 1
  | .nil => 1
  | .ptr d => uptoBulk d + 1
  | .slice elems spare => uptoBulkAll elems + uptoBulkAll spare + 1
  | .agg parts => uptoBulkAll parts + 1
  | .iface _ d => uptoBulk d + 1
  | .map entries => uptoBulkEntries entries + 1
  | .held _ => 1
def uptoBulkAll {H : Type} : List (DataW H) → Nat
  | [] => 0
  | d :: r => uptoBulk d + uptoBulkAll r
def uptoBulkEntries {H : Type} : List (Lit × DataW H) → Nat
  | [] => 0
  | x :: r => uptoBulkEntry x + uptoBulkEntries r
def uptoBulkEntry {H : Type} : Lit × DataW H → Nat
  | (.string bytes, d) => bytes.length + uptoBulk d + 1
  | (_, d) => uptoBulk d + 1
 end
def uptoSmall : (H : Type) → List (DataW H) → Bool := fun _ ds => decide (uptoBulkAll ds ≤ 1048576)
def OpenSpec.upto (s : _root_.Go.ChangeSpec) : _root_.Go.OpenSpec := { _root_.Go.OpenSpec.ofChange s with cond := some uptoSmall }

/-- 'psephoslaw17.ChooseTwice', WHERE WHAT IT READS IS OF BULK AT MOST 1048576: true; the input reads as it did. -/
def chooseTwiceUptoRow : OpenClaim := { program := "ytpkifmophmjilaa", sum := "bab30dba18c305a190d7a7657acad9218eaaadabd2fb26d9362a5d4fa7af92a7", func := "psephos/psephoslaw17.ChooseTwice", spec := "chooseTwice", apart := false, narrowed := true }
def ChooseTwiceUptoSaid : Prop := chooseTwiceUptoRow.holds Try.pinned (OpenSpec.upto chooseTwiceSpec)

/-- 'psephoslaw17.ChooseSafe', WHERE WHAT IT READS IS OF BULK AT MOST 1048576: true; the input reads as it did. -/
def chooseSafeUptoRow : OpenClaim := { program := "ytpkifmophmjilaa", sum := "bab30dba18c305a190d7a7657acad9218eaaadabd2fb26d9362a5d4fa7af92a7", func := "psephos/psephoslaw17.ChooseSafe", spec := "chooseSafe", unfollowed := true, recurses := true, apart := false, narrowed := true }
def ChooseSafeUptoSaid : Prop := chooseSafeUptoRow.holds Try.pinned (OpenSpec.upto chooseSafeSpec)

/-- 'psephoslaw17.ChooseOthers', WHERE WHAT IT READS IS OF BULK AT MOST 1048576: true; the input reads as it did. -/
def chooseOthersUptoRow : OpenClaim := { program := "ytpkifmophmjilaa", sum := "bab30dba18c305a190d7a7657acad9218eaaadabd2fb26d9362a5d4fa7af92a7", func := "psephos/psephoslaw17.ChooseOthers", spec := "chooseOthers", apart := false, narrowed := true }
def ChooseOthersUptoSaid : Prop := chooseOthersUptoRow.holds Try.pinned (OpenSpec.upto chooseOthersSpec)

/-- 'psephoslaw17.ChooseGreatest', WHERE WHAT IT READS IS OF BULK AT MOST 1048576: true; the input reads as it did. -/
def chooseGreatestUptoRow : OpenClaim := { program := "ytpkifmophmjilaa", sum := "bab30dba18c305a190d7a7657acad9218eaaadabd2fb26d9362a5d4fa7af92a7", func := "psephos/psephoslaw17.ChooseGreatest", spec := "chooseGreatest", apart := false, narrowed := true }
def ChooseGreatestUptoSaid : Prop := chooseGreatestUptoRow.holds Try.pinned (OpenSpec.upto chooseGreatestSpec)

/-- 'psephoslaw16.ChangeEnough', WHERE WHAT IT READS IS OF BULK AT MOST 1048576: true; the input reads as it did. -/
def changeEnoughUptoRow : OpenClaim := { program := "ytpkifmophmjilaa", sum := "bab30dba18c305a190d7a7657acad9218eaaadabd2fb26d9362a5d4fa7af92a7", func := "psephos/psephoslaw16.ChangeEnough", spec := "changeEnough", apart := false, narrowed := true }
def ChangeEnoughUptoSaid : Prop := changeEnoughUptoRow.holds Try.pinned (OpenSpec.upto changeEnoughSpec)

/-- 'psephoslaw16.ChangeOrders', WHERE WHAT IT READS IS OF BULK AT MOST 1048576: true; the input reads as it did. -/
def changeOrdersUptoRow : OpenClaim := { program := "ytpkifmophmjilaa", sum := "bab30dba18c305a190d7a7657acad9218eaaadabd2fb26d9362a5d4fa7af92a7", func := "psephos/psephoslaw16.ChangeOrders", spec := "changeOrders", apart := false, narrowed := true }
def ChangeOrdersUptoSaid : Prop := changeOrdersUptoRow.holds Try.pinned (OpenSpec.upto changeOrdersSpec)

/-- 'psephoslaw17.ChooseAlone', WHERE WHAT IT READS IS OF BULK AT MOST 1048576: true; the input reads as it did. -/
def chooseAloneUptoRow : OpenClaim := { program := "ytpkifmophmjilaa", sum := "bab30dba18c305a190d7a7657acad9218eaaadabd2fb26d9362a5d4fa7af92a7", func := "psephos/psephoslaw17.ChooseAlone", spec := "chooseAlone", apart := false, narrowed := true }
def ChooseAloneUptoSaid : Prop := chooseAloneUptoRow.holds Try.pinned (OpenSpec.upto chooseAloneSpec)

/-- 'psephoslaw17.ChooseBatches', WHERE WHAT IT READS IS OF BULK AT MOST 1048576: true; the input reads as it did. -/
def chooseBatchesUptoRow : OpenClaim := { program := "ytpkifmophmjilaa", sum := "bab30dba18c305a190d7a7657acad9218eaaadabd2fb26d9362a5d4fa7af92a7", func := "psephos/psephoslaw17.ChooseBatches", spec := "chooseBatches", apart := false, narrowed := true }
def ChooseBatchesUptoSaid : Prop := chooseBatchesUptoRow.holds Try.pinned (OpenSpec.upto chooseBatchesSpec)

/-- 'psephoslaw16.ChangeRises', WHERE WHAT IT READS IS OF BULK AT MOST 1048576: true; the input reads as it did. -/
def changeRisesUptoRow : OpenClaim := { program := "ytpkifmophmjilaa", sum := "bab30dba18c305a190d7a7657acad9218eaaadabd2fb26d9362a5d4fa7af92a7", func := "psephos/psephoslaw16.ChangeRises", spec := "changeRises", apart := false, narrowed := true }
def ChangeRisesUptoSaid : Prop := changeRisesUptoRow.holds Try.pinned (OpenSpec.upto changeRisesSpec)

/-- 'psephoslaw16.ChangePlays', WHERE WHAT IT READS IS OF BULK AT MOST 1048576: true; the input reads as it did. -/
def changePlaysUptoRow : OpenClaim := { program := "ytpkifmophmjilaa", sum := "bab30dba18c305a190d7a7657acad9218eaaadabd2fb26d9362a5d4fa7af92a7", func := "psephos/psephoslaw16.ChangePlays", spec := "changePlays", apart := false, narrowed := true }
def ChangePlaysUptoSaid : Prop := changePlaysUptoRow.holds Try.pinned (OpenSpec.upto changePlaysSpec)

end Rows
end Go.Proofs.Ytpkifmophmjilaa
