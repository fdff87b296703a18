/-
  No cell of these rows narrows 'for every input' (looked for: loops, veiled, ifaces, maps, wideKeys, modest, calm, conditions, laid).
  DERIVED. THE GIVEN ROWS OF THIS SEAT. 12 by the template 'for every input the law returns true; each argument reads behind the call as it read before'; 0 by the template 'total and deterministic' (their statements: YtjdcjofogmplcaaTotals.lean).
  GIVEN WITH THE SEED: the statements are not yours to turn. If you find one false, say at which input.
  Laid BY PROGRAM, IN A SANDBOX (cutbox-rows.mjs): the forced cells as the released guide's own fill.sh prints them over the translation 1e2280765cc675e0… (all of the seat's roots in one cut). By AI agents, Wed Nov 11 2026. No macro, syntax, notation, axiom, sorry.
-/
import Derived.Test.YtjdcjofogmplcaaChecked
import GoSem.Claim
import GoSem.ClaimJoined
import GoSem.ClaimMapViews
import Derived.JoinedTies
import Derived.KernelRfl
namespace Go.Proofs.Ytjdcjofogmplcaa
/- THE CELL 'sum', in the pinned program and in every row, IS THE sha256 OF THE DUMP (.gsa) THAT YtjdcjofogmplcaaProg.lean LOADS. Nothing in Lean hashes anything: it is a label: what it is worth is what the hold of that sum in a sandbox is worth. -/
noncomputable def Try.pinned : Pinned := { name := "ytjdcjofogmplcaa", sum := "1e2280765cc675e0a9ab2108e3fd219fddb67a43878c2d061a92e72165f611df", checked := Try.checked }
namespace Rows
def none {H : Type} : Left H := { results := [], args := [] }

/-- 'psephoslaw03.NotaryPlays': WHATEVER THE INPUT: true; the input reads as it did. -/
def notaryPlaysSpec : ChangeSpec := { name := "notaryPlays", fn := fun _ => fun
  | [d] => { results := [.lit (.bool true)], args := [d] }
  | _ => none }
def notaryPlaysRow : OpenClaim := { program := "ytjdcjofogmplcaa", sum := "1e2280765cc675e0a9ab2108e3fd219fddb67a43878c2d061a92e72165f611df", func := "psephos/psephoslaw03.NotaryPlays", spec := "notaryPlays", plainKeys := false, apart := false }
def NotaryPlaysSaid : Prop := notaryPlaysRow.holds Try.pinned (OpenSpec.ofChange notaryPlaysSpec)

/-- ITS FALSE NEIGHBOUR: 'it returns false'. Refute it at one input. -/
def notaryPlaysWrong : ChangeSpec := { name := "notaryPlays", fn := fun _ => fun
  | [d] => { results := [.lit (.bool false)], args := [d] }
  | _ => none }
def NotaryPlaysWrongFalsely : Prop := notaryPlaysRow.holds Try.pinned (OpenSpec.ofChange notaryPlaysWrong)

/-- 'psephoslaw03.NotaryAlone': WHATEVER THE INPUT: true; the input reads as it did. -/
def notaryAloneSpec : ChangeSpec := { name := "notaryAlone", fn := fun _ => fun
  | [d1, d2, d3] => { results := [.lit (.bool true)], args := [d1, d2, d3] }
  | _ => none }
def notaryAloneRow : OpenClaim := { program := "ytjdcjofogmplcaa", sum := "1e2280765cc675e0a9ab2108e3fd219fddb67a43878c2d061a92e72165f611df", func := "psephos/psephoslaw03.NotaryAlone", spec := "notaryAlone", plainKeys := false, apart := false }
def NotaryAloneSaid : Prop := notaryAloneRow.holds Try.pinned (OpenSpec.ofChange notaryAloneSpec)

/-- ITS FALSE NEIGHBOUR: 'it returns false'. Refute it at one input. -/
def notaryAloneWrong : ChangeSpec := { name := "notaryAlone", fn := fun _ => fun
  | [d1, d2, d3] => { results := [.lit (.bool false)], args := [d1, d2, d3] }
  | _ => none }
def NotaryAloneWrongFalsely : Prop := notaryAloneRow.holds Try.pinned (OpenSpec.ofChange notaryAloneWrong)

/-- 'psephoslaw03.NotaryNumbers': WHATEVER THE INPUT: true; the input reads as it did. -/
def notaryNumbersSpec : ChangeSpec := { name := "notaryNumbers", fn := fun _ => fun
  | [d1, d2] => { results := [.lit (.bool true)], args := [d1, d2] }
  | _ => none }
def notaryNumbersRow : OpenClaim := { program := "ytjdcjofogmplcaa", sum := "1e2280765cc675e0a9ab2108e3fd219fddb67a43878c2d061a92e72165f611df", func := "psephos/psephoslaw03.NotaryNumbers", spec := "notaryNumbers", plainKeys := false, apart := false }
def NotaryNumbersSaid : Prop := notaryNumbersRow.holds Try.pinned (OpenSpec.ofChange notaryNumbersSpec)

/-- ITS FALSE NEIGHBOUR: 'it returns false'. Refute it at one input. -/
def notaryNumbersWrong : ChangeSpec := { name := "notaryNumbers", fn := fun _ => fun
  | [d1, d2] => { results := [.lit (.bool false)], args := [d1, d2] }
  | _ => none }
def NotaryNumbersWrongFalsely : Prop := notaryNumbersRow.holds Try.pinned (OpenSpec.ofChange notaryNumbersWrong)

/-- 'psephoslaw11.CacheApart': WHATEVER THE INPUT: true; the input reads as it did. -/
def cacheApartSpec : ChangeSpec := { name := "cacheApart", fn := fun _ => fun
  | [d1, d2] => { results := [.lit (.bool true)], args := [d1, d2] }
  | _ => none }
def cacheApartRow : OpenClaim := { program := "ytjdcjofogmplcaa", sum := "1e2280765cc675e0a9ab2108e3fd219fddb67a43878c2d061a92e72165f611df", func := "psephos/psephoslaw11.CacheApart", spec := "cacheApart", plainKeys := false, apart := false }
def CacheApartSaid : Prop := cacheApartRow.holds Try.pinned (OpenSpec.ofChange cacheApartSpec)

/-- ITS FALSE NEIGHBOUR: 'it returns false'. Refute it at one input. -/
def cacheApartWrong : ChangeSpec := { name := "cacheApart", fn := fun _ => fun
  | [d1, d2] => { results := [.lit (.bool false)], args := [d1, d2] }
  | _ => none }
def CacheApartWrongFalsely : Prop := cacheApartRow.holds Try.pinned (OpenSpec.ofChange cacheApartWrong)

/-- 'psephoslaw11.CacheRises': WHATEVER THE INPUT: true; the input reads as it did. -/
def cacheRisesSpec : ChangeSpec := { name := "cacheRises", fn := fun _ => fun
  | [d1, d2] => { results := [.lit (.bool true)], args := [d1, d2] }
  | _ => none }
def cacheRisesRow : OpenClaim := { program := "ytjdcjofogmplcaa", sum := "1e2280765cc675e0a9ab2108e3fd219fddb67a43878c2d061a92e72165f611df", func := "psephos/psephoslaw11.CacheRises", spec := "cacheRises", plainKeys := false, apart := false }
def CacheRisesSaid : Prop := cacheRisesRow.holds Try.pinned (OpenSpec.ofChange cacheRisesSpec)

/-- ITS FALSE NEIGHBOUR: 'it returns false'. Refute it at one input. -/
def cacheRisesWrong : ChangeSpec := { name := "cacheRises", fn := fun _ => fun
  | [d1, d2] => { results := [.lit (.bool false)], args := [d1, d2] }
  | _ => none }
def CacheRisesWrongFalsely : Prop := cacheRisesRow.holds Try.pinned (OpenSpec.ofChange cacheRisesWrong)

/-- 'psephoslaw03.NotaryClones': WHATEVER THE INPUT: true; the input reads as it did. -/
def notaryClonesSpec : ChangeSpec := { name := "notaryClones", fn := fun _ => fun
  | [d1, d2, d3] => { results := [.lit (.bool true)], args := [d1, d2, d3] }
  | _ => none }
def notaryClonesRow : OpenClaim := { program := "ytjdcjofogmplcaa", sum := "1e2280765cc675e0a9ab2108e3fd219fddb67a43878c2d061a92e72165f611df", func := "psephos/psephoslaw03.NotaryClones", spec := "notaryClones", plainKeys := false, apart := false }
def NotaryClonesSaid : Prop := notaryClonesRow.holds Try.pinned (OpenSpec.ofChange notaryClonesSpec)

/-- ITS FALSE NEIGHBOUR: 'it returns false'. Refute it at one input. -/
def notaryClonesWrong : ChangeSpec := { name := "notaryClones", fn := fun _ => fun
  | [d1, d2, d3] => { results := [.lit (.bool false)], args := [d1, d2, d3] }
  | _ => none }
def NotaryClonesWrongFalsely : Prop := notaryClonesRow.holds Try.pinned (OpenSpec.ofChange notaryClonesWrong)

/-- 'psephoslaw07.LinkOrder': WHATEVER THE INPUT: true; the input reads as it did. -/
def linkOrderSpec : ChangeSpec := { name := "linkOrder", fn := fun _ => fun
  | [d1, d2] => { results := [.lit (.bool true)], args := [d1, d2] }
  | _ => none }
def linkOrderRow : OpenClaim := { program := "ytjdcjofogmplcaa", sum := "1e2280765cc675e0a9ab2108e3fd219fddb67a43878c2d061a92e72165f611df", func := "psephos/psephoslaw07.LinkOrder", spec := "linkOrder", plainKeys := false, apart := false }
def LinkOrderSaid : Prop := linkOrderRow.holds Try.pinned (OpenSpec.ofChange linkOrderSpec)

/-- ITS FALSE NEIGHBOUR: 'it returns false'. Refute it at one input. -/
def linkOrderWrong : ChangeSpec := { name := "linkOrder", fn := fun _ => fun
  | [d1, d2] => { results := [.lit (.bool false)], args := [d1, d2] }
  | _ => none }
def LinkOrderWrongFalsely : Prop := linkOrderRow.holds Try.pinned (OpenSpec.ofChange linkOrderWrong)

/-- 'psephoslaw07.LinkMoves': WHATEVER THE INPUT: true; the input reads as it did. -/
def linkMovesSpec : ChangeSpec := { name := "linkMoves", fn := fun _ => fun
  | [d1, d2, d3] => { results := [.lit (.bool true)], args := [d1, d2, d3] }
  | _ => none }
def linkMovesRow : OpenClaim := { program := "ytjdcjofogmplcaa", sum := "1e2280765cc675e0a9ab2108e3fd219fddb67a43878c2d061a92e72165f611df", func := "psephos/psephoslaw07.LinkMoves", spec := "linkMoves", plainKeys := false, apart := false }
def LinkMovesSaid : Prop := linkMovesRow.holds Try.pinned (OpenSpec.ofChange linkMovesSpec)

/-- ITS FALSE NEIGHBOUR: 'it returns false'. Refute it at one input. -/
def linkMovesWrong : ChangeSpec := { name := "linkMoves", fn := fun _ => fun
  | [d1, d2, d3] => { results := [.lit (.bool false)], args := [d1, d2, d3] }
  | _ => none }
def LinkMovesWrongFalsely : Prop := linkMovesRow.holds Try.pinned (OpenSpec.ofChange linkMovesWrong)

/-- 'psephoslaw11.CachePlays': WHATEVER THE INPUT: true; the input reads as it did. -/
def cachePlaysSpec : ChangeSpec := { name := "cachePlays", fn := fun _ => fun
  | [d1, d2, d3] => { results := [.lit (.bool true)], args := [d1, d2, d3] }
  | _ => none }
def cachePlaysRow : OpenClaim := { program := "ytjdcjofogmplcaa", sum := "1e2280765cc675e0a9ab2108e3fd219fddb67a43878c2d061a92e72165f611df", func := "psephos/psephoslaw11.CachePlays", spec := "cachePlays", plainKeys := false, apart := false }
def CachePlaysSaid : Prop := cachePlaysRow.holds Try.pinned (OpenSpec.ofChange cachePlaysSpec)

/-- ITS FALSE NEIGHBOUR: 'it returns false'. Refute it at one input. -/
def cachePlaysWrong : ChangeSpec := { name := "cachePlays", fn := fun _ => fun
  | [d1, d2, d3] => { results := [.lit (.bool false)], args := [d1, d2, d3] }
  | _ => none }
def CachePlaysWrongFalsely : Prop := cachePlaysRow.holds Try.pinned (OpenSpec.ofChange cachePlaysWrong)

/-- 'psephoslaw07.LinkDups': WHATEVER THE INPUT: true; the input reads as it did. -/
def linkDupsSpec : ChangeSpec := { name := "linkDups", fn := fun _ => fun
  | [d1, d2] => { results := [.lit (.bool true)], args := [d1, d2] }
  | _ => none }
def linkDupsRow : OpenClaim := { program := "ytjdcjofogmplcaa", sum := "1e2280765cc675e0a9ab2108e3fd219fddb67a43878c2d061a92e72165f611df", func := "psephos/psephoslaw07.LinkDups", spec := "linkDups", plainKeys := false, apart := false }
def LinkDupsSaid : Prop := linkDupsRow.holds Try.pinned (OpenSpec.ofChange linkDupsSpec)

/-- ITS FALSE NEIGHBOUR: 'it returns false'. Refute it at one input. -/
def linkDupsWrong : ChangeSpec := { name := "linkDups", fn := fun _ => fun
  | [d1, d2] => { results := [.lit (.bool false)], args := [d1, d2] }
  | _ => none }
def LinkDupsWrongFalsely : Prop := linkDupsRow.holds Try.pinned (OpenSpec.ofChange linkDupsWrong)

/-- 'psephoslaw07.LinkPlays': WHATEVER THE INPUT: true; the input reads as it did. -/
def linkPlaysSpec : ChangeSpec := { name := "linkPlays", fn := fun _ => fun
  | [d1, d2] => { results := [.lit (.bool true)], args := [d1, d2] }
  | _ => none }
def linkPlaysRow : OpenClaim := { program := "ytjdcjofogmplcaa", sum := "1e2280765cc675e0a9ab2108e3fd219fddb67a43878c2d061a92e72165f611df", func := "psephos/psephoslaw07.LinkPlays", spec := "linkPlays", plainKeys := false, apart := false }
def LinkPlaysSaid : Prop := linkPlaysRow.holds Try.pinned (OpenSpec.ofChange linkPlaysSpec)

/-- ITS FALSE NEIGHBOUR: 'it returns false'. Refute it at one input. -/
def linkPlaysWrong : ChangeSpec := { name := "linkPlays", fn := fun _ => fun
  | [d1, d2] => { results := [.lit (.bool false)], args := [d1, d2] }
  | _ => none }
def LinkPlaysWrongFalsely : Prop := linkPlaysRow.holds Try.pinned (OpenSpec.ofChange linkPlaysWrong)

/-- 'psephoslaw07.LinkClones': WHATEVER THE INPUT: true; the input reads as it did. -/
def linkClonesSpec : ChangeSpec := { name := "linkClones", fn := fun _ => fun
  | [d1, d2, d3, d4] => { results := [.lit (.bool true)], args := [d1, d2, d3, d4] }
  | _ => none }
def linkClonesRow : OpenClaim := { program := "ytjdcjofogmplcaa", sum := "1e2280765cc675e0a9ab2108e3fd219fddb67a43878c2d061a92e72165f611df", func := "psephos/psephoslaw07.LinkClones", spec := "linkClones", plainKeys := false, apart := false }
def LinkClonesSaid : Prop := linkClonesRow.holds Try.pinned (OpenSpec.ofChange linkClonesSpec)

/-- ITS FALSE NEIGHBOUR: 'it returns false'. Refute it at one input. -/
def linkClonesWrong : ChangeSpec := { name := "linkClones", fn := fun _ => fun
  | [d1, d2, d3, d4] => { results := [.lit (.bool false)], args := [d1, d2, d3, d4] }
  | _ => none }
def LinkClonesWrongFalsely : Prop := linkClonesRow.holds Try.pinned (OpenSpec.ofChange linkClonesWrong)

/- THE SECOND FORM. 'bulk': how many values and letters a reading holds, each counted each time it is reached (what is shared counts as often as it is met; a slice's spare places count too). A statement '..UptoSaid' is the law's where the arguments, and the package variables that the reading takes, are together of bulk at most 1048576: NARROWER than '..Said'. Prove '..Said' where nothing that the law and all that it calls make is longer than what came in: it says more and counts as full. Else prove '..UptoSaid'. A law counts once. -/
mutual
def uptoBulk {H : Type} : DataW H → Nat
  | .lit (.string bytes) => bytes.length + 1
  | .lit _ => 1
  | .nil => 1
  | .ptr d => uptoBulk d + 1
  | .slice elems spare => uptoBulkAll elems + uptoBulkAll spare + 1
  | .agg parts => uptoBulkAll parts + 1
  | .iface _ d => uptoBulk d + 1
  | .map entries => uptoBulkEntries entries + 1
  | .held _ => 1
def uptoBulkAll {H : Type} : List (DataW H) → Nat
  | [] => 0
  | d :: r => uptoBulk d + uptoBulkAll r
def uptoBulkEntries {H : Type} : List (Lit × DataW H) → Nat
  | [] => 0
  | x :: r => uptoBulkEntry x + uptoBulkEntries r
def uptoBulkEntry {H : Type} : Lit × DataW H → Nat
  | (.string bytes, d) => bytes.length + uptoBulk d + 1
  | (_, d) => uptoBulk d + 1
 end
def uptoSmall : (H : Type) → List (DataW H) → Bool := fun _ ds => decide (uptoBulkAll ds ≤ 1048576)
def OpenSpec.upto (s : _root_.Go.ChangeSpec) : _root_.Go.OpenSpec := { _root_.Go.OpenSpec.ofChange s with cond := some uptoSmall }

/-- 'psephoslaw03.NotaryPlays', WHERE WHAT IT READS IS OF BULK AT MOST 1048576: true; the input reads as it did. -/
def notaryPlaysUptoRow : OpenClaim := { program := "ytjdcjofogmplcaa", sum := "1e2280765cc675e0a9ab2108e3fd219fddb67a43878c2d061a92e72165f611df", func := "psephos/psephoslaw03.NotaryPlays", spec := "notaryPlays", plainKeys := false, apart := false, narrowed := true }
def NotaryPlaysUptoSaid : Prop := notaryPlaysUptoRow.holds Try.pinned (OpenSpec.upto notaryPlaysSpec)

/-- 'psephoslaw03.NotaryAlone', WHERE WHAT IT READS IS OF BULK AT MOST 1048576: true; the input reads as it did. -/
def notaryAloneUptoRow : OpenClaim := { program := "ytjdcjofogmplcaa", sum := "1e2280765cc675e0a9ab2108e3fd219fddb67a43878c2d061a92e72165f611df", func := "psephos/psephoslaw03.NotaryAlone", spec := "notaryAlone", plainKeys := false, apart := false, narrowed := true }
def NotaryAloneUptoSaid : Prop := notaryAloneUptoRow.holds Try.pinned (OpenSpec.upto notaryAloneSpec)

/-- 'psephoslaw03.NotaryNumbers', WHERE WHAT IT READS IS OF BULK AT MOST 1048576: true; the input reads as it did. -/
def notaryNumbersUptoRow : OpenClaim := { program := "ytjdcjofogmplcaa", sum := "1e2280765cc675e0a9ab2108e3fd219fddb67a43878c2d061a92e72165f611df", func := "psephos/psephoslaw03.NotaryNumbers", spec := "notaryNumbers", plainKeys := false, apart := false, narrowed := true }
def NotaryNumbersUptoSaid : Prop := notaryNumbersUptoRow.holds Try.pinned (OpenSpec.upto notaryNumbersSpec)

/-- 'psephoslaw11.CacheApart', WHERE WHAT IT READS IS OF BULK AT MOST 1048576: true; the input reads as it did. -/
def cacheApartUptoRow : OpenClaim := { program := "ytjdcjofogmplcaa", sum := "1e2280765cc675e0a9ab2108e3fd219fddb67a43878c2d061a92e72165f611df", func := "psephos/psephoslaw11.CacheApart", spec := "cacheApart", plainKeys := false, apart := false, narrowed := true }
def CacheApartUptoSaid : Prop := cacheApartUptoRow.holds Try.pinned (OpenSpec.upto cacheApartSpec)

/-- 'psephoslaw11.CacheRises', WHERE WHAT IT READS IS OF BULK AT MOST 1048576: true; the input reads as it did. -/
def cacheRisesUptoRow : OpenClaim := { program := "ytjdcjofogmplcaa", sum := "1e2280765cc675e0a9ab2108e3fd219fddb67a43878c2d061a92e72165f611df", func := "psephos/psephoslaw11.CacheRises", spec := "cacheRises", plainKeys := false, apart := false, narrowed := true }
def CacheRisesUptoSaid : Prop := cacheRisesUptoRow.holds Try.pinned (OpenSpec.upto cacheRisesSpec)

/-- 'psephoslaw03.NotaryClones', WHERE WHAT IT READS IS OF BULK AT MOST 1048576: true; the input reads as it did. -/
def notaryClonesUptoRow : OpenClaim := { program := "ytjdcjofogmplcaa", sum := "1e2280765cc675e0a9ab2108e3fd219fddb67a43878c2d061a92e72165f611df", func := "psephos/psephoslaw03.NotaryClones", spec := "notaryClones", plainKeys := false, apart := false, narrowed := true }
def NotaryClonesUptoSaid : Prop := notaryClonesUptoRow.holds Try.pinned (OpenSpec.upto notaryClonesSpec)

/-- 'psephoslaw07.LinkOrder', WHERE WHAT IT READS IS OF BULK AT MOST 1048576: true; the input reads as it did. -/
def linkOrderUptoRow : OpenClaim := { program := "ytjdcjofogmplcaa", sum := "1e2280765cc675e0a9ab2108e3fd219fddb67a43878c2d061a92e72165f611df", func := "psephos/psephoslaw07.LinkOrder", spec := "linkOrder", plainKeys := false, apart := false, narrowed := true }
def LinkOrderUptoSaid : Prop := linkOrderUptoRow.holds Try.pinned (OpenSpec.upto linkOrderSpec)

/-- 'psephoslaw07.LinkMoves', WHERE WHAT IT READS IS OF BULK AT MOST 1048576: true; the input reads as it did. -/
def linkMovesUptoRow : OpenClaim := { program := "ytjdcjofogmplcaa", sum := "1e2280765cc675e0a9ab2108e3fd219fddb67a43878c2d061a92e72165f611df", func := "psephos/psephoslaw07.LinkMoves", spec := "linkMoves", plainKeys := false, apart := false, narrowed := true }
def LinkMovesUptoSaid : Prop := linkMovesUptoRow.holds Try.pinned (OpenSpec.upto linkMovesSpec)

/-- 'psephoslaw11.CachePlays', WHERE WHAT IT READS IS OF BULK AT MOST 1048576: true; the input reads as it did. -/
def cachePlaysUptoRow : OpenClaim := { program := "ytjdcjofogmplcaa", sum := "1e2280765cc675e0a9ab2108e3fd219fddb67a43878c2d061a92e72165f611df", func := "psephos/psephoslaw11.CachePlays", spec := "cachePlays", plainKeys := false, apart := false, narrowed := true }
def CachePlaysUptoSaid : Prop := cachePlaysUptoRow.holds Try.pinned (OpenSpec.upto cachePlaysSpec)

/-- 'psephoslaw07.LinkDups', WHERE WHAT IT READS IS OF BULK AT MOST 1048576: true; the input reads as it did. -/
def linkDupsUptoRow : OpenClaim := { program := "ytjdcjofogmplcaa", sum := "1e2280765cc675e0a9ab2108e3fd219fddb67a43878c2d061a92e72165f611df", func := "psephos/psephoslaw07.LinkDups", spec := "linkDups", plainKeys := false, apart := false, narrowed := true }
def LinkDupsUptoSaid : Prop := linkDupsUptoRow.holds Try.pinned (OpenSpec.upto linkDupsSpec)

/-- 'psephoslaw07.LinkPlays', WHERE WHAT IT READS IS OF BULK AT MOST 1048576: true; the input reads as it did. -/
def linkPlaysUptoRow : OpenClaim := { program := "ytjdcjofogmplcaa", sum := "1e2280765cc675e0a9ab2108e3fd219fddb67a43878c2d061a92e72165f611df", func := "psephos/psephoslaw07.LinkPlays", spec := "linkPlays", plainKeys := false, apart := false, narrowed := true }
def LinkPlaysUptoSaid : Prop := linkPlaysUptoRow.holds Try.pinned (OpenSpec.upto linkPlaysSpec)

/-- 'psephoslaw07.LinkClones', WHERE WHAT IT READS IS OF BULK AT MOST 1048576: true; the input reads as it did. -/
def linkClonesUptoRow : OpenClaim := { program := "ytjdcjofogmplcaa", sum := "1e2280765cc675e0a9ab2108e3fd219fddb67a43878c2d061a92e72165f611df", func := "psephos/psephoslaw07.LinkClones", spec := "linkClones", plainKeys := false, apart := false, narrowed := true }
def LinkClonesUptoSaid : Prop := linkClonesUptoRow.holds Try.pinned (OpenSpec.upto linkClonesSpec)

end Rows
end Go.Proofs.Ytjdcjofogmplcaa
