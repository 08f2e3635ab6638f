/-
  No cell of these rows narrows 'for every input' (looked for: loops, veiled, ifaces, maps, wideKeys, modest, calm, conditions, laid).
  DERIVED. THE GIVEN ROWS OF THIS SEAT. 12 by the template 'for every input the law returns true; each argument reads behind the call as it read before'; 0 by the template 'total and deterministic' (their statements: YtfkjbiigciabpaaGreatTotals.lean).
  GIVEN WITH THE SEED: the statements are not yours to turn. If you find one false, say at which input.
  Laid BY PROGRAM, IN A SANDBOX (cutbox-rows.mjs): the forced cells as the released guide's own fill.sh prints them over the translation e14689032b532ba5… (all of the seat's roots in one cut). By AI agents, Wed Nov 11 2026. No macro, syntax, notation, axiom, sorry.
-/
import Derived.Test.YtfkjbiigciabpaaGreatChecked
import GoSem.Claim
import GoSem.ClaimJoined
import GoSem.ClaimMapViews
import Derived.JoinedTies
import Derived.KernelRfl
namespace Go.Proofs.YtfkjbiigciabpaaGreat
/- THE CELL 'sum', in the pinned program and in every row, IS THE sha256 OF THE DUMP (.gsa) THAT YtfkjbiigciabpaaGreatProg.lean LOADS. Nothing in Lean hashes anything: it is a label: what it is worth is what the hold of that sum in a sandbox is worth. -/
noncomputable def Tryz.pinned : Pinned := { name := "ytfkjbiigciabpaagreat", sum := "e14689032b532ba541af195b885ae7038f64e2fb01e10e563bb217ab0813aef2", checked := Tryz.checked }
namespace Rows
def none {H : Type} : Left H := { results := [], args := [] }

/-- 'limekilnlaw23.WorldPlays': WHATEVER THE INPUT: true; the input reads as it did. -/
def worldPlaysSpec : ChangeSpec := { name := "worldPlays", fn := fun _ => fun
  | [d1, d2] => { results := [.lit (.bool true)], args := [d1, d2] }
  | _ => none }
def worldPlaysRow : OpenClaim := { program := "ytfkjbiigciabpaagreat", sum := "e14689032b532ba541af195b885ae7038f64e2fb01e10e563bb217ab0813aef2", func := "limekiln/limekilnlaw23.WorldPlays", spec := "worldPlays", inPlace := ["slices.overlaps[int]"], unfollowed := true, recurses := true, apart := false }
def WorldPlaysSaid : Prop := worldPlaysRow.holds Tryz.pinned (OpenSpec.ofChange worldPlaysSpec)

/-- ITS FALSE NEIGHBOUR: 'it returns false'. Refute it at one input. -/
def worldPlaysWrong : ChangeSpec := { name := "worldPlays", fn := fun _ => fun
  | [d1, d2] => { results := [.lit (.bool false)], args := [d1, d2] }
  | _ => none }
def WorldPlaysWrongFalsely : Prop := worldPlaysRow.holds Tryz.pinned (OpenSpec.ofChange worldPlaysWrong)

/-- 'limekilnlaw24.HistoryWorlds': WHATEVER THE INPUT: true; the input reads as it did. -/
def historyWorldsSpec : ChangeSpec := { name := "historyWorlds", fn := fun _ => fun
  | [d1, d2] => { results := [.lit (.bool true)], args := [d1, d2] }
  | _ => none }
def historyWorldsRow : OpenClaim := { program := "ytfkjbiigciabpaagreat", sum := "e14689032b532ba541af195b885ae7038f64e2fb01e10e563bb217ab0813aef2", func := "limekiln/limekilnlaw24.HistoryWorlds", spec := "historyWorlds", inPlace := ["slices.overlaps[int]"], unfollowed := true, recurses := true, apart := false }
def HistoryWorldsSaid : Prop := historyWorldsRow.holds Tryz.pinned (OpenSpec.ofChange historyWorldsSpec)

/-- ITS FALSE NEIGHBOUR: 'it returns false'. Refute it at one input. -/
def historyWorldsWrong : ChangeSpec := { name := "historyWorlds", fn := fun _ => fun
  | [d1, d2] => { results := [.lit (.bool false)], args := [d1, d2] }
  | _ => none }
def HistoryWorldsWrongFalsely : Prop := historyWorldsRow.holds Tryz.pinned (OpenSpec.ofChange historyWorldsWrong)

/-- 'limekilnlaw26.PartsWorlds': WHATEVER THE INPUT: true; the input reads as it did. -/
def partsWorldsSpec : ChangeSpec := { name := "partsWorlds", fn := fun _ => fun
  | [d1, d2] => { results := [.lit (.bool true)], args := [d1, d2] }
  | _ => none }
def partsWorldsRow : OpenClaim := { program := "ytfkjbiigciabpaagreat", sum := "e14689032b532ba541af195b885ae7038f64e2fb01e10e563bb217ab0813aef2", func := "limekiln/limekilnlaw26.PartsWorlds", spec := "partsWorlds", inPlace := ["slices.overlaps[int]"], unfollowed := true, recurses := true, apart := false }
def PartsWorldsSaid : Prop := partsWorldsRow.holds Tryz.pinned (OpenSpec.ofChange partsWorldsSpec)

/-- ITS FALSE NEIGHBOUR: 'it returns false'. Refute it at one input. -/
def partsWorldsWrong : ChangeSpec := { name := "partsWorlds", fn := fun _ => fun
  | [d1, d2] => { results := [.lit (.bool false)], args := [d1, d2] }
  | _ => none }
def PartsWorldsWrongFalsely : Prop := partsWorldsRow.holds Tryz.pinned (OpenSpec.ofChange partsWorldsWrong)

/-- 'limekilnlaw33.WearWatches': WHATEVER THE INPUT: true; the input reads as it did. -/
def wearWatchesSpec : ChangeSpec := { name := "wearWatches", fn := fun _ => fun
  | [d1, d2] => { results := [.lit (.bool true)], args := [d1, d2] }
  | _ => none }
def wearWatchesRow : OpenClaim := { program := "ytfkjbiigciabpaagreat", sum := "e14689032b532ba541af195b885ae7038f64e2fb01e10e563bb217ab0813aef2", func := "limekiln/limekilnlaw33.WearWatches", spec := "wearWatches", inPlace := ["slices.overlaps[int]"], unfollowed := true, recurses := true, apart := false }
def WearWatchesSaid : Prop := wearWatchesRow.holds Tryz.pinned (OpenSpec.ofChange wearWatchesSpec)

/-- ITS FALSE NEIGHBOUR: 'it returns false'. Refute it at one input. -/
def wearWatchesWrong : ChangeSpec := { name := "wearWatches", fn := fun _ => fun
  | [d1, d2] => { results := [.lit (.bool false)], args := [d1, d2] }
  | _ => none }
def WearWatchesWrongFalsely : Prop := wearWatchesRow.holds Tryz.pinned (OpenSpec.ofChange wearWatchesWrong)

/-- 'limekilnlaw30.BoundNumbers': WHATEVER THE INPUT: true; the input reads as it did. -/
def boundNumbersSpec : ChangeSpec := { name := "boundNumbers", fn := fun _ => fun
  | [d] => { results := [.lit (.bool true)], args := [d] }
  | _ => none }
def boundNumbersRow : OpenClaim := { program := "ytfkjbiigciabpaagreat", sum := "e14689032b532ba541af195b885ae7038f64e2fb01e10e563bb217ab0813aef2", func := "limekiln/limekilnlaw30.BoundNumbers", spec := "boundNumbers", inPlace := ["slices.overlaps[int]"], unfollowed := true, recurses := true, apart := false }
def BoundNumbersSaid : Prop := boundNumbersRow.holds Tryz.pinned (OpenSpec.ofChange boundNumbersSpec)

/-- ITS FALSE NEIGHBOUR: 'it returns false'. Refute it at one input. -/
def boundNumbersWrong : ChangeSpec := { name := "boundNumbers", fn := fun _ => fun
  | [d] => { results := [.lit (.bool false)], args := [d] }
  | _ => none }
def BoundNumbersWrongFalsely : Prop := boundNumbersRow.holds Tryz.pinned (OpenSpec.ofChange boundNumbersWrong)

/-- 'limekilnlaw30.BoundAnswers': WHATEVER THE INPUT: true; the input reads as it did. -/
def boundAnswersSpec : ChangeSpec := { name := "boundAnswers", fn := fun _ => fun
  | [d1, d2, d3] => { results := [.lit (.bool true)], args := [d1, d2, d3] }
  | _ => none }
def boundAnswersRow : OpenClaim := { program := "ytfkjbiigciabpaagreat", sum := "e14689032b532ba541af195b885ae7038f64e2fb01e10e563bb217ab0813aef2", func := "limekiln/limekilnlaw30.BoundAnswers", spec := "boundAnswers", inPlace := ["slices.overlaps[int]"], unfollowed := true, recurses := true, apart := false }
def BoundAnswersSaid : Prop := boundAnswersRow.holds Tryz.pinned (OpenSpec.ofChange boundAnswersSpec)

/-- ITS FALSE NEIGHBOUR: 'it returns false'. Refute it at one input. -/
def boundAnswersWrong : ChangeSpec := { name := "boundAnswers", fn := fun _ => fun
  | [d1, d2, d3] => { results := [.lit (.bool false)], args := [d1, d2, d3] }
  | _ => none }
def BoundAnswersWrongFalsely : Prop := boundAnswersRow.holds Tryz.pinned (OpenSpec.ofChange boundAnswersWrong)

/-- 'limekilnlaw30.BoundRevives': WHATEVER THE INPUT: true; the input reads as it did. -/
def boundRevivesSpec : ChangeSpec := { name := "boundRevives", fn := fun _ => fun
  | [d1, d2] => { results := [.lit (.bool true)], args := [d1, d2] }
  | _ => none }
def boundRevivesRow : OpenClaim := { program := "ytfkjbiigciabpaagreat", sum := "e14689032b532ba541af195b885ae7038f64e2fb01e10e563bb217ab0813aef2", func := "limekiln/limekilnlaw30.BoundRevives", spec := "boundRevives", inPlace := ["slices.overlaps[int]"], unfollowed := true, recurses := true, apart := false }
def BoundRevivesSaid : Prop := boundRevivesRow.holds Tryz.pinned (OpenSpec.ofChange boundRevivesSpec)

/-- ITS FALSE NEIGHBOUR: 'it returns false'. Refute it at one input. -/
def boundRevivesWrong : ChangeSpec := { name := "boundRevives", fn := fun _ => fun
  | [d1, d2] => { results := [.lit (.bool false)], args := [d1, d2] }
  | _ => none }
def BoundRevivesWrongFalsely : Prop := boundRevivesRow.holds Tryz.pinned (OpenSpec.ofChange boundRevivesWrong)

/-- 'limekilnlaw30.BoundNext': WHATEVER THE INPUT: true; the input reads as it did. -/
def boundNextSpec : ChangeSpec := { name := "boundNext", fn := fun _ => fun
  | [d1, d2, d3] => { results := [.lit (.bool true)], args := [d1, d2, d3] }
  | _ => none }
def boundNextRow : OpenClaim := { program := "ytfkjbiigciabpaagreat", sum := "e14689032b532ba541af195b885ae7038f64e2fb01e10e563bb217ab0813aef2", func := "limekiln/limekilnlaw30.BoundNext", spec := "boundNext", inPlace := ["slices.overlaps[int]"], unfollowed := true, recurses := true, apart := false }
def BoundNextSaid : Prop := boundNextRow.holds Tryz.pinned (OpenSpec.ofChange boundNextSpec)

/-- ITS FALSE NEIGHBOUR: 'it returns false'. Refute it at one input. -/
def boundNextWrong : ChangeSpec := { name := "boundNext", fn := fun _ => fun
  | [d1, d2, d3] => { results := [.lit (.bool false)], args := [d1, d2, d3] }
  | _ => none }
def BoundNextWrongFalsely : Prop := boundNextRow.holds Tryz.pinned (OpenSpec.ofChange boundNextWrong)

/-- 'limekilnlaw38.ReplayStores': WHATEVER THE INPUT: true; the input reads as it did. -/
def replayStoresSpec : ChangeSpec := { name := "replayStores", fn := fun _ => fun
  | [d1, d2] => { results := [.lit (.bool true)], args := [d1, d2] }
  | _ => none }
def replayStoresRow : OpenClaim := { program := "ytfkjbiigciabpaagreat", sum := "e14689032b532ba541af195b885ae7038f64e2fb01e10e563bb217ab0813aef2", func := "limekiln/limekilnlaw38.ReplayStores", spec := "replayStores", inPlace := ["slices.overlaps[int]"], unfollowed := true, recurses := true, apart := false }
def ReplayStoresSaid : Prop := replayStoresRow.holds Tryz.pinned (OpenSpec.ofChange replayStoresSpec)

/-- ITS FALSE NEIGHBOUR: 'it returns false'. Refute it at one input. -/
def replayStoresWrong : ChangeSpec := { name := "replayStores", fn := fun _ => fun
  | [d1, d2] => { results := [.lit (.bool false)], args := [d1, d2] }
  | _ => none }
def ReplayStoresWrongFalsely : Prop := replayStoresRow.holds Tryz.pinned (OpenSpec.ofChange replayStoresWrong)

/-- 'limekilnlaw37.TraceStores': WHATEVER THE INPUT: true; the input reads as it did. -/
def traceStoresSpec : ChangeSpec := { name := "traceStores", fn := fun _ => fun
  | [d1, d2] => { results := [.lit (.bool true)], args := [d1, d2] }
  | _ => none }
def traceStoresRow : OpenClaim := { program := "ytfkjbiigciabpaagreat", sum := "e14689032b532ba541af195b885ae7038f64e2fb01e10e563bb217ab0813aef2", func := "limekiln/limekilnlaw37.TraceStores", spec := "traceStores", inPlace := ["slices.overlaps[int]"], unfollowed := true, recurses := true, apart := false }
def TraceStoresSaid : Prop := traceStoresRow.holds Tryz.pinned (OpenSpec.ofChange traceStoresSpec)

/-- ITS FALSE NEIGHBOUR: 'it returns false'. Refute it at one input. -/
def traceStoresWrong : ChangeSpec := { name := "traceStores", fn := fun _ => fun
  | [d1, d2] => { results := [.lit (.bool false)], args := [d1, d2] }
  | _ => none }
def TraceStoresWrongFalsely : Prop := traceStoresRow.holds Tryz.pinned (OpenSpec.ofChange traceStoresWrong)

/-- 'limekilnlaw36.CensusMore': WHATEVER THE INPUT: true; the input reads as it did. -/
def censusMoreSpec : ChangeSpec := { name := "censusMore", fn := fun _ => fun
  | [d1, d2] => { results := [.lit (.bool true)], args := [d1, d2] }
  | _ => none }
def censusMoreRow : OpenClaim := { program := "ytfkjbiigciabpaagreat", sum := "e14689032b532ba541af195b885ae7038f64e2fb01e10e563bb217ab0813aef2", func := "limekiln/limekilnlaw36.CensusMore", spec := "censusMore", inPlace := ["slices.overlaps[int]"], unfollowed := true, recurses := true, apart := false }
def CensusMoreSaid : Prop := censusMoreRow.holds Tryz.pinned (OpenSpec.ofChange censusMoreSpec)

/-- ITS FALSE NEIGHBOUR: 'it returns false'. Refute it at one input. -/
def censusMoreWrong : ChangeSpec := { name := "censusMore", fn := fun _ => fun
  | [d1, d2] => { results := [.lit (.bool false)], args := [d1, d2] }
  | _ => none }
def CensusMoreWrongFalsely : Prop := censusMoreRow.holds Tryz.pinned (OpenSpec.ofChange censusMoreWrong)

/-- 'limekilnlaw36.CensusOf': WHATEVER THE INPUT: true; the input reads as it did. -/
def censusOfSpec : ChangeSpec := { name := "censusOf", fn := fun _ => fun
  | [d1, d2] => { results := [.lit (.bool true)], args := [d1, d2] }
  | _ => none }
def censusOfRow : OpenClaim := { program := "ytfkjbiigciabpaagreat", sum := "e14689032b532ba541af195b885ae7038f64e2fb01e10e563bb217ab0813aef2", func := "limekiln/limekilnlaw36.CensusOf", spec := "censusOf", inPlace := ["slices.overlaps[int]"], unfollowed := true, recurses := true, apart := false }
def CensusOfSaid : Prop := censusOfRow.holds Tryz.pinned (OpenSpec.ofChange censusOfSpec)

/-- ITS FALSE NEIGHBOUR: 'it returns false'. Refute it at one input. -/
def censusOfWrong : ChangeSpec := { name := "censusOf", fn := fun _ => fun
  | [d1, d2] => { results := [.lit (.bool false)], args := [d1, d2] }
  | _ => none }
def CensusOfWrongFalsely : Prop := censusOfRow.holds Tryz.pinned (OpenSpec.ofChange censusOfWrong)

/- THE SECOND FORM. 'bulk': how many values and letters a reading holds, each counted each time it is reached (what is shared counts as often as it is met; a slice's spare places count too). A statement '..UptoSaid' is the law's where the arguments, and the package variables that the reading takes, are together of bulk at most 1048576: NARROWER than '..Said'. Prove '..Said' where nothing that the law and all that it calls make is longer than what came in: it says more and counts as full. Else prove '..UptoSaid'. A law counts once. -/
mutual
def uptoBulk {H : Type} : DataW H → Nat
  | .lit (.string bytes) => bytes.length + 1
  | .lit _ => 1
  | .nil => 1
  | .ptr d => uptoBulk d + 1
  | .slice elems spare => uptoBulkAll elems + uptoBulkAll spare + 1
  | .agg parts => uptoBulkAll parts + 1
  | .iface _ d => uptoBulk d + 1
  | .map entries => uptoBulkEntries entries + 1
  | .held _ => 1
def uptoBulkAll {H : Type} : List (DataW H) → Nat
  | [] => 0
  | d :: r => uptoBulk d + uptoBulkAll r
def uptoBulkEntries {H : Type} : List (Lit × DataW H) → Nat
  | [] => 0
  | x :: r => uptoBulkEntry x + uptoBulkEntries r
def uptoBulkEntry {H : Type} : Lit × DataW H → Nat
  | (.string bytes, d) => bytes.length + uptoBulk d + 1
  | (_, d) => uptoBulk d + 1
 end
def uptoSmall : (H : Type) → List (DataW H) → Bool := fun _ ds => decide (uptoBulkAll ds ≤ 1048576)
def OpenSpec.upto (s : _root_.Go.ChangeSpec) : _root_.Go.OpenSpec := { _root_.Go.OpenSpec.ofChange s with cond := some uptoSmall }

/-- 'limekilnlaw23.WorldPlays', WHERE WHAT IT READS IS OF BULK AT MOST 1048576: true; the input reads as it did. -/
def worldPlaysUptoRow : OpenClaim := { program := "ytfkjbiigciabpaagreat", sum := "e14689032b532ba541af195b885ae7038f64e2fb01e10e563bb217ab0813aef2", func := "limekiln/limekilnlaw23.WorldPlays", spec := "worldPlays", inPlace := ["slices.overlaps[int]"], unfollowed := true, recurses := true, apart := false, narrowed := true }
def WorldPlaysUptoSaid : Prop := worldPlaysUptoRow.holds Tryz.pinned (OpenSpec.upto worldPlaysSpec)

/-- 'limekilnlaw24.HistoryWorlds', WHERE WHAT IT READS IS OF BULK AT MOST 1048576: true; the input reads as it did. -/
def historyWorldsUptoRow : OpenClaim := { program := "ytfkjbiigciabpaagreat", sum := "e14689032b532ba541af195b885ae7038f64e2fb01e10e563bb217ab0813aef2", func := "limekiln/limekilnlaw24.HistoryWorlds", spec := "historyWorlds", inPlace := ["slices.overlaps[int]"], unfollowed := true, recurses := true, apart := false, narrowed := true }
def HistoryWorldsUptoSaid : Prop := historyWorldsUptoRow.holds Tryz.pinned (OpenSpec.upto historyWorldsSpec)

/-- 'limekilnlaw26.PartsWorlds', WHERE WHAT IT READS IS OF BULK AT MOST 1048576: true; the input reads as it did. -/
def partsWorldsUptoRow : OpenClaim := { program := "ytfkjbiigciabpaagreat", sum := "e14689032b532ba541af195b885ae7038f64e2fb01e10e563bb217ab0813aef2", func := "limekiln/limekilnlaw26.PartsWorlds", spec := "partsWorlds", inPlace := ["slices.overlaps[int]"], unfollowed := true, recurses := true, apart := false, narrowed := true }
def PartsWorldsUptoSaid : Prop := partsWorldsUptoRow.holds Tryz.pinned (OpenSpec.upto partsWorldsSpec)

/-- 'limekilnlaw33.WearWatches', WHERE WHAT IT READS IS OF BULK AT MOST 1048576: true; the input reads as it did. -/
def wearWatchesUptoRow : OpenClaim := { program := "ytfkjbiigciabpaagreat", sum := "e14689032b532ba541af195b885ae7038f64e2fb01e10e563bb217ab0813aef2", func := "limekiln/limekilnlaw33.WearWatches", spec := "wearWatches", inPlace := ["slices.overlaps[int]"], unfollowed := true, recurses := true, apart := false, narrowed := true }
def WearWatchesUptoSaid : Prop := wearWatchesUptoRow.holds Tryz.pinned (OpenSpec.upto wearWatchesSpec)

/-- 'limekilnlaw30.BoundNumbers', WHERE WHAT IT READS IS OF BULK AT MOST 1048576: true; the input reads as it did. -/
def boundNumbersUptoRow : OpenClaim := { program := "ytfkjbiigciabpaagreat", sum := "e14689032b532ba541af195b885ae7038f64e2fb01e10e563bb217ab0813aef2", func := "limekiln/limekilnlaw30.BoundNumbers", spec := "boundNumbers", inPlace := ["slices.overlaps[int]"], unfollowed := true, recurses := true, apart := false, narrowed := true }
def BoundNumbersUptoSaid : Prop := boundNumbersUptoRow.holds Tryz.pinned (OpenSpec.upto boundNumbersSpec)

/-- 'limekilnlaw30.BoundAnswers', WHERE WHAT IT READS IS OF BULK AT MOST 1048576: true; the input reads as it did. -/
def boundAnswersUptoRow : OpenClaim := { program := "ytfkjbiigciabpaagreat", sum := "e14689032b532ba541af195b885ae7038f64e2fb01e10e563bb217ab0813aef2", func := "limekiln/limekilnlaw30.BoundAnswers", spec := "boundAnswers", inPlace := ["slices.overlaps[int]"], unfollowed := true, recurses := true, apart := false, narrowed := true }
def BoundAnswersUptoSaid : Prop := boundAnswersUptoRow.holds Tryz.pinned (OpenSpec.upto boundAnswersSpec)

/-- 'limekilnlaw30.BoundRevives', WHERE WHAT IT READS IS OF BULK AT MOST 1048576: true; the input reads as it did. -/
def boundRevivesUptoRow : OpenClaim := { program := "ytfkjbiigciabpaagreat", sum := "e14689032b532ba541af195b885ae7038f64e2fb01e10e563bb217ab0813aef2", func := "limekiln/limekilnlaw30.BoundRevives", spec := "boundRevives", inPlace := ["slices.overlaps[int]"], unfollowed := true, recurses := true, apart := false, narrowed := true }
def BoundRevivesUptoSaid : Prop := boundRevivesUptoRow.holds Tryz.pinned (OpenSpec.upto boundRevivesSpec)

/-- 'limekilnlaw30.BoundNext', WHERE WHAT IT READS IS OF BULK AT MOST 1048576: true; the input reads as it did. -/
def boundNextUptoRow : OpenClaim := { program := "ytfkjbiigciabpaagreat", sum := "e14689032b532ba541af195b885ae7038f64e2fb01e10e563bb217ab0813aef2", func := "limekiln/limekilnlaw30.BoundNext", spec := "boundNext", inPlace := ["slices.overlaps[int]"], unfollowed := true, recurses := true, apart := false, narrowed := true }
def BoundNextUptoSaid : Prop := boundNextUptoRow.holds Tryz.pinned (OpenSpec.upto boundNextSpec)

/-- 'limekilnlaw38.ReplayStores', WHERE WHAT IT READS IS OF BULK AT MOST 1048576: true; the input reads as it did. -/
def replayStoresUptoRow : OpenClaim := { program := "ytfkjbiigciabpaagreat", sum := "e14689032b532ba541af195b885ae7038f64e2fb01e10e563bb217ab0813aef2", func := "limekiln/limekilnlaw38.ReplayStores", spec := "replayStores", inPlace := ["slices.overlaps[int]"], unfollowed := true, recurses := true, apart := false, narrowed := true }
def ReplayStoresUptoSaid : Prop := replayStoresUptoRow.holds Tryz.pinned (OpenSpec.upto replayStoresSpec)

/-- 'limekilnlaw37.TraceStores', WHERE WHAT IT READS IS OF BULK AT MOST 1048576: true; the input reads as it did. -/
def traceStoresUptoRow : OpenClaim := { program := "ytfkjbiigciabpaagreat", sum := "e14689032b532ba541af195b885ae7038f64e2fb01e10e563bb217ab0813aef2", func := "limekiln/limekilnlaw37.TraceStores", spec := "traceStores", inPlace := ["slices.overlaps[int]"], unfollowed := true, recurses := true, apart := false, narrowed := true }
def TraceStoresUptoSaid : Prop := traceStoresUptoRow.holds Tryz.pinned (OpenSpec.upto traceStoresSpec)

/-- 'limekilnlaw36.CensusMore', WHERE WHAT IT READS IS OF BULK AT MOST 1048576: true; the input reads as it did. -/
def censusMoreUptoRow : OpenClaim := { program := "ytfkjbiigciabpaagreat", sum := "e14689032b532ba541af195b885ae7038f64e2fb01e10e563bb217ab0813aef2", func := "limekiln/limekilnlaw36.CensusMore", spec := "censusMore", inPlace := ["slices.overlaps[int]"], unfollowed := true, recurses := true, apart := false, narrowed := true }
def CensusMoreUptoSaid : Prop := censusMoreUptoRow.holds Tryz.pinned (OpenSpec.upto censusMoreSpec)

/-- 'limekilnlaw36.CensusOf', WHERE WHAT IT READS IS OF BULK AT MOST 1048576: true; the input reads as it did. -/
def censusOfUptoRow : OpenClaim := { program := "ytfkjbiigciabpaagreat", sum := "e14689032b532ba541af195b885ae7038f64e2fb01e10e563bb217ab0813aef2", func := "limekiln/limekilnlaw36.CensusOf", spec := "censusOf", inPlace := ["slices.overlaps[int]"], unfollowed := true, recurses := true, apart := false, narrowed := true }
def CensusOfUptoSaid : Prop := censusOfUptoRow.holds Tryz.pinned (OpenSpec.upto censusOfSpec)

end Rows
end Go.Proofs.YtfkjbiigciabpaaGreat
