/-
  No cell of these rows narrows 'for every input' (looked for: loops, veiled, ifaces, maps, wideKeys, modest, calm, conditions, laid).
  DERIVED. THE GIVEN ROWS OF THIS SEAT. 13 by the template 'for every input the law returns true; each argument reads behind the call as it read before'; 0 by the template 'total and deterministic' (their statements: YtiacklfigpobnaaTotals.lean).
  GIVEN WITH THE SEED: the statements are not yours to turn. If you find one false, say at which input.
  Laid BY PROGRAM, IN A SANDBOX (cutbox-rows.mjs): the forced cells as the released guide's own fill.sh prints them over the translation edc56b3bebc7acc1… (all of the seat's roots in one cut). By AI agents, Wed Nov 11 2026. No macro, syntax, notation, axiom, sorry.
-/
import Derived.Test.YtiacklfigpobnaaChecked
import GoSem.Claim
import GoSem.ClaimJoined
import GoSem.ClaimMapViews
import Derived.JoinedTies
import Derived.KernelRfl
namespace Go.Proofs.Ytiacklfigpobnaa
/- THE CELL 'sum', in the pinned program and in every row, IS THE sha256 OF THE DUMP (.gsa) THAT YtiacklfigpobnaaProg.lean LOADS. Nothing in Lean hashes anything: it is a label: what it is worth is what the hold of that sum in a sandbox is worth. -/
noncomputable def Try.pinned : Pinned := { name := "ytiacklfigpobnaa", sum := "edc56b3bebc7acc1d76d65fb402a399c447b96217a002ddcef9182b0804d8d24", checked := Try.checked }
namespace Rows
def none {H : Type} : Left H := { results := [], args := [] }

/-- 'psephoslaw20.ConfigStandard': WHATEVER THE INPUT: true; the input reads as it did. -/
def configStandardSpec : ChangeSpec := { name := "configStandard", fn := fun _ => fun
  | [d] => { results := [.lit (.bool true)], args := [d] }
  | _ => none }
def configStandardRow : OpenClaim := { program := "ytiacklfigpobnaa", sum := "edc56b3bebc7acc1d76d65fb402a399c447b96217a002ddcef9182b0804d8d24", func := "psephos/psephoslaw20.ConfigStandard", spec := "configStandard", apart := false }
def ConfigStandardSaid : Prop := configStandardRow.holds Try.pinned (OpenSpec.ofChange configStandardSpec)

/-- ITS FALSE NEIGHBOUR: 'it returns false'. Refute it at one input. -/
def configStandardWrong : ChangeSpec := { name := "configStandard", fn := fun _ => fun
  | [d] => { results := [.lit (.bool false)], args := [d] }
  | _ => none }
def ConfigStandardWrongFalsely : Prop := configStandardRow.holds Try.pinned (OpenSpec.ofChange configStandardWrong)

/-- 'psephoslaw20.ConfigValid': WHATEVER THE INPUT: true; the input reads as it did. -/
def configValidSpec : ChangeSpec := { name := "configValid", fn := fun _ => fun
  | [d1, d2] => { results := [.lit (.bool true)], args := [d1, d2] }
  | _ => none }
def configValidRow : OpenClaim := { program := "ytiacklfigpobnaa", sum := "edc56b3bebc7acc1d76d65fb402a399c447b96217a002ddcef9182b0804d8d24", func := "psephos/psephoslaw20.ConfigValid", spec := "configValid", unfollowed := true, recurses := true, apart := false }
def ConfigValidSaid : Prop := configValidRow.holds Try.pinned (OpenSpec.ofChange configValidSpec)

/-- ITS FALSE NEIGHBOUR: 'it returns false'. Refute it at one input. -/
def configValidWrong : ChangeSpec := { name := "configValid", fn := fun _ => fun
  | [d1, d2] => { results := [.lit (.bool false)], args := [d1, d2] }
  | _ => none }
def ConfigValidWrongFalsely : Prop := configValidRow.holds Try.pinned (OpenSpec.ofChange configValidWrong)

/-- 'psephoslaw20.ConfigTurned': WHATEVER THE INPUT: true; the input reads as it did. -/
def configTurnedSpec : ChangeSpec := { name := "configTurned", fn := fun _ => fun
  | [d1, d2, d3] => { results := [.lit (.bool true)], args := [d1, d2, d3] }
  | _ => none }
def configTurnedRow : OpenClaim := { program := "ytiacklfigpobnaa", sum := "edc56b3bebc7acc1d76d65fb402a399c447b96217a002ddcef9182b0804d8d24", func := "psephos/psephoslaw20.ConfigTurned", spec := "configTurned", unfollowed := true, recurses := true, apart := false }
def ConfigTurnedSaid : Prop := configTurnedRow.holds Try.pinned (OpenSpec.ofChange configTurnedSpec)

/-- ITS FALSE NEIGHBOUR: 'it returns false'. Refute it at one input. -/
def configTurnedWrong : ChangeSpec := { name := "configTurned", fn := fun _ => fun
  | [d1, d2, d3] => { results := [.lit (.bool false)], args := [d1, d2, d3] }
  | _ => none }
def ConfigTurnedWrongFalsely : Prop := configTurnedRow.holds Try.pinned (OpenSpec.ofChange configTurnedWrong)

/-- 'psephoslaw19.JudgeSlow': WHATEVER THE INPUT: true; the input reads as it did. -/
def judgeSlowSpec : ChangeSpec := { name := "judgeSlow", fn := fun _ => fun
  | [d1, d2, d3] => { results := [.lit (.bool true)], args := [d1, d2, d3] }
  | _ => none }
def judgeSlowRow : OpenClaim := { program := "ytiacklfigpobnaa", sum := "edc56b3bebc7acc1d76d65fb402a399c447b96217a002ddcef9182b0804d8d24", func := "psephos/psephoslaw19.JudgeSlow", spec := "judgeSlow", apart := false }
def JudgeSlowSaid : Prop := judgeSlowRow.holds Try.pinned (OpenSpec.ofChange judgeSlowSpec)

/-- ITS FALSE NEIGHBOUR: 'it returns false'. Refute it at one input. -/
def judgeSlowWrong : ChangeSpec := { name := "judgeSlow", fn := fun _ => fun
  | [d1, d2, d3] => { results := [.lit (.bool false)], args := [d1, d2, d3] }
  | _ => none }
def JudgeSlowWrongFalsely : Prop := judgeSlowRow.holds Try.pinned (OpenSpec.ofChange judgeSlowWrong)

/-- 'psephoslaw19.JudgeTurned': WHATEVER THE INPUT: true; the input reads as it did. -/
def judgeTurnedSpec : ChangeSpec := { name := "judgeTurned", fn := fun _ => fun
  | [d1, d2, d3, d4] => { results := [.lit (.bool true)], args := [d1, d2, d3, d4] }
  | _ => none }
def judgeTurnedRow : OpenClaim := { program := "ytiacklfigpobnaa", sum := "edc56b3bebc7acc1d76d65fb402a399c447b96217a002ddcef9182b0804d8d24", func := "psephos/psephoslaw19.JudgeTurned", spec := "judgeTurned", apart := false }
def JudgeTurnedSaid : Prop := judgeTurnedRow.holds Try.pinned (OpenSpec.ofChange judgeTurnedSpec)

/-- ITS FALSE NEIGHBOUR: 'it returns false'. Refute it at one input. -/
def judgeTurnedWrong : ChangeSpec := { name := "judgeTurned", fn := fun _ => fun
  | [d1, d2, d3, d4] => { results := [.lit (.bool false)], args := [d1, d2, d3, d4] }
  | _ => none }
def JudgeTurnedWrongFalsely : Prop := judgeTurnedRow.holds Try.pinned (OpenSpec.ofChange judgeTurnedWrong)

/-- 'psephoslaw20.ConfigParties': WHATEVER THE INPUT: true; the input reads as it did. -/
def configPartiesSpec : ChangeSpec := { name := "configParties", fn := fun _ => fun
  | [d1, d2, d3] => { results := [.lit (.bool true)], args := [d1, d2, d3] }
  | _ => none }
def configPartiesRow : OpenClaim := { program := "ytiacklfigpobnaa", sum := "edc56b3bebc7acc1d76d65fb402a399c447b96217a002ddcef9182b0804d8d24", func := "psephos/psephoslaw20.ConfigParties", spec := "configParties", apart := false }
def ConfigPartiesSaid : Prop := configPartiesRow.holds Try.pinned (OpenSpec.ofChange configPartiesSpec)

/-- ITS FALSE NEIGHBOUR: 'it returns false'. Refute it at one input. -/
def configPartiesWrong : ChangeSpec := { name := "configParties", fn := fun _ => fun
  | [d1, d2, d3] => { results := [.lit (.bool false)], args := [d1, d2, d3] }
  | _ => none }
def ConfigPartiesWrongFalsely : Prop := configPartiesRow.holds Try.pinned (OpenSpec.ofChange configPartiesWrong)

/-- 'psephoslaw19.JudgeOld': WHATEVER THE INPUT: true; the input reads as it did. -/
def judgeOldSpec : ChangeSpec := { name := "judgeOld", fn := fun _ => fun
  | [d1, d2, d3] => { results := [.lit (.bool true)], args := [d1, d2, d3] }
  | _ => none }
def judgeOldRow : OpenClaim := { program := "ytiacklfigpobnaa", sum := "edc56b3bebc7acc1d76d65fb402a399c447b96217a002ddcef9182b0804d8d24", func := "psephos/psephoslaw19.JudgeOld", spec := "judgeOld", apart := false }
def JudgeOldSaid : Prop := judgeOldRow.holds Try.pinned (OpenSpec.ofChange judgeOldSpec)

/-- ITS FALSE NEIGHBOUR: 'it returns false'. Refute it at one input. -/
def judgeOldWrong : ChangeSpec := { name := "judgeOld", fn := fun _ => fun
  | [d1, d2, d3] => { results := [.lit (.bool false)], args := [d1, d2, d3] }
  | _ => none }
def JudgeOldWrongFalsely : Prop := judgeOldRow.holds Try.pinned (OpenSpec.ofChange judgeOldWrong)

/-- 'psephoslaw20.ConfigRooms': WHATEVER THE INPUT: true; the input reads as it did. -/
def configRoomsSpec : ChangeSpec := { name := "configRooms", fn := fun _ => fun
  | [d] => { results := [.lit (.bool true)], args := [d] }
  | _ => none }
def configRoomsRow : OpenClaim := { program := "ytiacklfigpobnaa", sum := "edc56b3bebc7acc1d76d65fb402a399c447b96217a002ddcef9182b0804d8d24", func := "psephos/psephoslaw20.ConfigRooms", spec := "configRooms", unfollowed := true, recurses := true, apart := false }
def ConfigRoomsSaid : Prop := configRoomsRow.holds Try.pinned (OpenSpec.ofChange configRoomsSpec)

/-- ITS FALSE NEIGHBOUR: 'it returns false'. Refute it at one input. -/
def configRoomsWrong : ChangeSpec := { name := "configRooms", fn := fun _ => fun
  | [d] => { results := [.lit (.bool false)], args := [d] }
  | _ => none }
def ConfigRoomsWrongFalsely : Prop := configRoomsRow.holds Try.pinned (OpenSpec.ofChange configRoomsWrong)

/-- 'psephoslaw19.JudgeMore': WHATEVER THE INPUT: true; the input reads as it did. -/
def judgeMoreSpec : ChangeSpec := { name := "judgeMore", fn := fun _ => fun
  | [d1, d2, d3, d4, d5, d6] => { results := [.lit (.bool true)], args := [d1, d2, d3, d4, d5, d6] }
  | _ => none }
def judgeMoreRow : OpenClaim := { program := "ytiacklfigpobnaa", sum := "edc56b3bebc7acc1d76d65fb402a399c447b96217a002ddcef9182b0804d8d24", func := "psephos/psephoslaw19.JudgeMore", spec := "judgeMore", apart := false }
def JudgeMoreSaid : Prop := judgeMoreRow.holds Try.pinned (OpenSpec.ofChange judgeMoreSpec)

/-- ITS FALSE NEIGHBOUR: 'it returns false'. Refute it at one input. -/
def judgeMoreWrong : ChangeSpec := { name := "judgeMore", fn := fun _ => fun
  | [d1, d2, d3, d4, d5, d6] => { results := [.lit (.bool false)], args := [d1, d2, d3, d4, d5, d6] }
  | _ => none }
def JudgeMoreWrongFalsely : Prop := judgeMoreRow.holds Try.pinned (OpenSpec.ofChange judgeMoreWrong)

/-- 'psephoslaw19.JudgeNever': WHATEVER THE INPUT: true; the input reads as it did. -/
def judgeNeverSpec : ChangeSpec := { name := "judgeNever", fn := fun _ => fun
  | [d1, d2, d3, d4] => { results := [.lit (.bool true)], args := [d1, d2, d3, d4] }
  | _ => none }
def judgeNeverRow : OpenClaim := { program := "ytiacklfigpobnaa", sum := "edc56b3bebc7acc1d76d65fb402a399c447b96217a002ddcef9182b0804d8d24", func := "psephos/psephoslaw19.JudgeNever", spec := "judgeNever", apart := false }
def JudgeNeverSaid : Prop := judgeNeverRow.holds Try.pinned (OpenSpec.ofChange judgeNeverSpec)

/-- ITS FALSE NEIGHBOUR: 'it returns false'. Refute it at one input. -/
def judgeNeverWrong : ChangeSpec := { name := "judgeNever", fn := fun _ => fun
  | [d1, d2, d3, d4] => { results := [.lit (.bool false)], args := [d1, d2, d3, d4] }
  | _ => none }
def JudgeNeverWrongFalsely : Prop := judgeNeverRow.holds Try.pinned (OpenSpec.ofChange judgeNeverWrong)

/-- 'psephoslaw19.JudgeLate': WHATEVER THE INPUT: true; the input reads as it did. -/
def judgeLateSpec : ChangeSpec := { name := "judgeLate", fn := fun _ => fun
  | [d1, d2] => { results := [.lit (.bool true)], args := [d1, d2] }
  | _ => none }
def judgeLateRow : OpenClaim := { program := "ytiacklfigpobnaa", sum := "edc56b3bebc7acc1d76d65fb402a399c447b96217a002ddcef9182b0804d8d24", func := "psephos/psephoslaw19.JudgeLate", spec := "judgeLate", apart := false }
def JudgeLateSaid : Prop := judgeLateRow.holds Try.pinned (OpenSpec.ofChange judgeLateSpec)

/-- ITS FALSE NEIGHBOUR: 'it returns false'. Refute it at one input. -/
def judgeLateWrong : ChangeSpec := { name := "judgeLate", fn := fun _ => fun
  | [d1, d2] => { results := [.lit (.bool false)], args := [d1, d2] }
  | _ => none }
def JudgeLateWrongFalsely : Prop := judgeLateRow.holds Try.pinned (OpenSpec.ofChange judgeLateWrong)

/-- 'psephoslaw19.JudgeVerdicts': WHATEVER THE INPUT: true; the input reads as it did. -/
def judgeVerdictsSpec : ChangeSpec := { name := "judgeVerdicts", fn := fun _ => fun
  | [d1, d2, d3, d4] => { results := [.lit (.bool true)], args := [d1, d2, d3, d4] }
  | _ => none }
def judgeVerdictsRow : OpenClaim := { program := "ytiacklfigpobnaa", sum := "edc56b3bebc7acc1d76d65fb402a399c447b96217a002ddcef9182b0804d8d24", func := "psephos/psephoslaw19.JudgeVerdicts", spec := "judgeVerdicts", apart := false }
def JudgeVerdictsSaid : Prop := judgeVerdictsRow.holds Try.pinned (OpenSpec.ofChange judgeVerdictsSpec)

/-- ITS FALSE NEIGHBOUR: 'it returns false'. Refute it at one input. -/
def judgeVerdictsWrong : ChangeSpec := { name := "judgeVerdicts", fn := fun _ => fun
  | [d1, d2, d3, d4] => { results := [.lit (.bool false)], args := [d1, d2, d3, d4] }
  | _ => none }
def JudgeVerdictsWrongFalsely : Prop := judgeVerdictsRow.holds Try.pinned (OpenSpec.ofChange judgeVerdictsWrong)

/-- 'psephoslaw19.JudgeFair': WHATEVER THE INPUT: true; the input reads as it did. -/
def judgeFairSpec : ChangeSpec := { name := "judgeFair", fn := fun _ => fun
  | [d1, d2, d3, d4, d5, d6] => { results := [.lit (.bool true)], args := [d1, d2, d3, d4, d5, d6] }
  | _ => none }
def judgeFairRow : OpenClaim := { program := "ytiacklfigpobnaa", sum := "edc56b3bebc7acc1d76d65fb402a399c447b96217a002ddcef9182b0804d8d24", func := "psephos/psephoslaw19.JudgeFair", spec := "judgeFair", apart := false }
def JudgeFairSaid : Prop := judgeFairRow.holds Try.pinned (OpenSpec.ofChange judgeFairSpec)

/-- ITS FALSE NEIGHBOUR: 'it returns false'. Refute it at one input. -/
def judgeFairWrong : ChangeSpec := { name := "judgeFair", fn := fun _ => fun
  | [d1, d2, d3, d4, d5, d6] => { results := [.lit (.bool false)], args := [d1, d2, d3, d4, d5, d6] }
  | _ => none }
def JudgeFairWrongFalsely : Prop := judgeFairRow.holds Try.pinned (OpenSpec.ofChange judgeFairWrong)

/- THE SECOND FORM. 'bulk': how many values and letters a reading holds, each counted each time it is reached (what is shared counts as often as it is met; a slice's spare places count too). A statement '..UptoSaid' is the law's where the arguments, and the package variables that the reading takes, are together of bulk at most 1048576: NARROWER than '..Said'. Prove '..Said' where nothing that the law and all that it calls make is longer than what came in: it says more and counts as full. Else prove '..UptoSaid'. A law counts once. -/
mutual
def uptoBulk {H : Type} : DataW H → Nat
  | .lit (.string bytes) => bytes.length + 1
  | .lit _ => 1
  | .nil => 1
  | .ptr d => uptoBulk d + 1
  | .slice elems spare => uptoBulkAll elems + uptoBulkAll spare + 1
  | .agg parts => uptoBulkAll parts + 1
  | .iface _ d => uptoBulk d + 1
  | .map entries => uptoBulkEntries entries + 1
  | .held _ => 1
def uptoBulkAll {H : Type} : List (DataW H) → Nat
  | [] => 0
  | d :: r => uptoBulk d + uptoBulkAll r
def uptoBulkEntries {H : Type} : List (Lit × DataW H) → Nat
  | [] => 0
  | x :: r => uptoBulkEntry x + uptoBulkEntries r
def uptoBulkEntry {H : Type} : Lit × DataW H → Nat
  | (.string bytes, d) => bytes.length + uptoBulk d + 1
  | (_, d) => uptoBulk d + 1
 end
def uptoSmall : (H : Type) → List (DataW H) → Bool := fun _ ds => decide (uptoBulkAll ds ≤ 1048576)
def OpenSpec.upto (s : _root_.Go.ChangeSpec) : _root_.Go.OpenSpec := { _root_.Go.OpenSpec.ofChange s with cond := some uptoSmall }

/-- 'psephoslaw20.ConfigStandard', WHERE WHAT IT READS IS OF BULK AT MOST 1048576: true; the input reads as it did. -/
def configStandardUptoRow : OpenClaim := { program := "ytiacklfigpobnaa", sum := "edc56b3bebc7acc1d76d65fb402a399c447b96217a002ddcef9182b0804d8d24", func := "psephos/psephoslaw20.ConfigStandard", spec := "configStandard", apart := false, narrowed := true }
def ConfigStandardUptoSaid : Prop := configStandardUptoRow.holds Try.pinned (OpenSpec.upto configStandardSpec)

/-- 'psephoslaw20.ConfigValid', WHERE WHAT IT READS IS OF BULK AT MOST 1048576: true; the input reads as it did. -/
def configValidUptoRow : OpenClaim := { program := "ytiacklfigpobnaa", sum := "edc56b3bebc7acc1d76d65fb402a399c447b96217a002ddcef9182b0804d8d24", func := "psephos/psephoslaw20.ConfigValid", spec := "configValid", unfollowed := true, recurses := true, apart := false, narrowed := true }
def ConfigValidUptoSaid : Prop := configValidUptoRow.holds Try.pinned (OpenSpec.upto configValidSpec)

/-- 'psephoslaw20.ConfigTurned', WHERE WHAT IT READS IS OF BULK AT MOST 1048576: true; the input reads as it did. -/
def configTurnedUptoRow : OpenClaim := { program := "ytiacklfigpobnaa", sum := "edc56b3bebc7acc1d76d65fb402a399c447b96217a002ddcef9182b0804d8d24", func := "psephos/psephoslaw20.ConfigTurned", spec := "configTurned", unfollowed := true, recurses := true, apart := false, narrowed := true }
def ConfigTurnedUptoSaid : Prop := configTurnedUptoRow.holds Try.pinned (OpenSpec.upto configTurnedSpec)

/-- 'psephoslaw19.JudgeSlow', WHERE WHAT IT READS IS OF BULK AT MOST 1048576: true; the input reads as it did. -/
def judgeSlowUptoRow : OpenClaim := { program := "ytiacklfigpobnaa", sum := "edc56b3bebc7acc1d76d65fb402a399c447b96217a002ddcef9182b0804d8d24", func := "psephos/psephoslaw19.JudgeSlow", spec := "judgeSlow", apart := false, narrowed := true }
def JudgeSlowUptoSaid : Prop := judgeSlowUptoRow.holds Try.pinned (OpenSpec.upto judgeSlowSpec)

/-- 'psephoslaw19.JudgeTurned', WHERE WHAT IT READS IS OF BULK AT MOST 1048576: true; the input reads as it did. -/
def judgeTurnedUptoRow : OpenClaim := { program := "ytiacklfigpobnaa", sum := "edc56b3bebc7acc1d76d65fb402a399c447b96217a002ddcef9182b0804d8d24", func := "psephos/psephoslaw19.JudgeTurned", spec := "judgeTurned", apart := false, narrowed := true }
def JudgeTurnedUptoSaid : Prop := judgeTurnedUptoRow.holds Try.pinned (OpenSpec.upto judgeTurnedSpec)

/-- 'psephoslaw20.ConfigParties', WHERE WHAT IT READS IS OF BULK AT MOST 1048576: true; the input reads as it did. -/
def configPartiesUptoRow : OpenClaim := { program := "ytiacklfigpobnaa", sum := "edc56b3bebc7acc1d76d65fb402a399c447b96217a002ddcef9182b0804d8d24", func := "psephos/psephoslaw20.ConfigParties", spec := "configParties", apart := false, narrowed := true }
def ConfigPartiesUptoSaid : Prop := configPartiesUptoRow.holds Try.pinned (OpenSpec.upto configPartiesSpec)

/-- 'psephoslaw19.JudgeOld', WHERE WHAT IT READS IS OF BULK AT MOST 1048576: true; the input reads as it did. -/
def judgeOldUptoRow : OpenClaim := { program := "ytiacklfigpobnaa", sum := "edc56b3bebc7acc1d76d65fb402a399c447b96217a002ddcef9182b0804d8d24", func := "psephos/psephoslaw19.JudgeOld", spec := "judgeOld", apart := false, narrowed := true }
def JudgeOldUptoSaid : Prop := judgeOldUptoRow.holds Try.pinned (OpenSpec.upto judgeOldSpec)

/-- 'psephoslaw20.ConfigRooms', WHERE WHAT IT READS IS OF BULK AT MOST 1048576: true; the input reads as it did. -/
def configRoomsUptoRow : OpenClaim := { program := "ytiacklfigpobnaa", sum := "edc56b3bebc7acc1d76d65fb402a399c447b96217a002ddcef9182b0804d8d24", func := "psephos/psephoslaw20.ConfigRooms", spec := "configRooms", unfollowed := true, recurses := true, apart := false, narrowed := true }
def ConfigRoomsUptoSaid : Prop := configRoomsUptoRow.holds Try.pinned (OpenSpec.upto configRoomsSpec)

/-- 'psephoslaw19.JudgeMore', WHERE WHAT IT READS IS OF BULK AT MOST 1048576: true; the input reads as it did. -/
def judgeMoreUptoRow : OpenClaim := { program := "ytiacklfigpobnaa", sum := "edc56b3bebc7acc1d76d65fb402a399c447b96217a002ddcef9182b0804d8d24", func := "psephos/psephoslaw19.JudgeMore", spec := "judgeMore", apart := false, narrowed := true }
def JudgeMoreUptoSaid : Prop := judgeMoreUptoRow.holds Try.pinned (OpenSpec.upto judgeMoreSpec)

/-- 'psephoslaw19.JudgeNever', WHERE WHAT IT READS IS OF BULK AT MOST 1048576: true; the input reads as it did. -/
def judgeNeverUptoRow : OpenClaim := { program := "ytiacklfigpobnaa", sum := "edc56b3bebc7acc1d76d65fb402a399c447b96217a002ddcef9182b0804d8d24", func := "psephos/psephoslaw19.JudgeNever", spec := "judgeNever", apart := false, narrowed := true }
def JudgeNeverUptoSaid : Prop := judgeNeverUptoRow.holds Try.pinned (OpenSpec.upto judgeNeverSpec)

/-- 'psephoslaw19.JudgeLate', WHERE WHAT IT READS IS OF BULK AT MOST 1048576: true; the input reads as it did. -/
def judgeLateUptoRow : OpenClaim := { program := "ytiacklfigpobnaa", sum := "edc56b3bebc7acc1d76d65fb402a399c447b96217a002ddcef9182b0804d8d24", func := "psephos/psephoslaw19.JudgeLate", spec := "judgeLate", apart := false, narrowed := true }
def JudgeLateUptoSaid : Prop := judgeLateUptoRow.holds Try.pinned (OpenSpec.upto judgeLateSpec)

/-- 'psephoslaw19.JudgeVerdicts', WHERE WHAT IT READS IS OF BULK AT MOST 1048576: true; the input reads as it did. -/
def judgeVerdictsUptoRow : OpenClaim := { program := "ytiacklfigpobnaa", sum := "edc56b3bebc7acc1d76d65fb402a399c447b96217a002ddcef9182b0804d8d24", func := "psephos/psephoslaw19.JudgeVerdicts", spec := "judgeVerdicts", apart := false, narrowed := true }
def JudgeVerdictsUptoSaid : Prop := judgeVerdictsUptoRow.holds Try.pinned (OpenSpec.upto judgeVerdictsSpec)

/-- 'psephoslaw19.JudgeFair', WHERE WHAT IT READS IS OF BULK AT MOST 1048576: true; the input reads as it did. -/
def judgeFairUptoRow : OpenClaim := { program := "ytiacklfigpobnaa", sum := "edc56b3bebc7acc1d76d65fb402a399c447b96217a002ddcef9182b0804d8d24", func := "psephos/psephoslaw19.JudgeFair", spec := "judgeFair", apart := false, narrowed := true }
def JudgeFairUptoSaid : Prop := judgeFairUptoRow.holds Try.pinned (OpenSpec.upto judgeFairSpec)

end Rows
end Go.Proofs.Ytiacklfigpobnaa
