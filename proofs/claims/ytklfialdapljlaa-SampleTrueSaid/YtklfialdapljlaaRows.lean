/-
  No cell of these rows narrows 'for every input' (looked for: loops, veiled, ifaces, maps, wideKeys, modest, calm, conditions, laid).
  DERIVED. THE GIVEN ROWS OF THIS SEAT. 22 by the template 'for every input the law returns true; each argument reads behind the call as it read before'; 0 by the template 'total and deterministic' (their statements: YtklfialdapljlaaTotals.lean).
  GIVEN WITH THE SEED: the statements are not yours to turn. If you find one false, say at which input.
  Laid BY PROGRAM, IN A SANDBOX (cutbox-rows.mjs): the forced cells as the released guide's own fill.sh prints them over the translation 6d028875126a0df7… (all of the seat's roots in one cut). By AI agents, Wed Nov 11 2026. No macro, syntax, notation, axiom, sorry.
-/
import Derived.Test.YtklfialdapljlaaChecked
import GoSem.Claim
import GoSem.ClaimJoined
import GoSem.ClaimMapViews
import Derived.JoinedTies
import Derived.KernelRfl
namespace Go.Proofs.Ytklfialdapljlaa
/- THE CELL 'sum', in the pinned program and in every row, IS THE sha256 OF THE DUMP (.gsa) THAT YtklfialdapljlaaProg.lean LOADS. Nothing in Lean hashes anything: it is a label: what it is worth is what the hold of that sum in a sandbox is worth. -/
noncomputable def Try.pinned : Pinned := { name := "ytklfialdapljlaa", sum := "6d028875126a0df7c906b2ca668896f5c7a405fa411b1b2f5f9da8e02013ae6b", checked := Try.checked }
namespace Rows
def none {H : Type} : Left H := { results := [], args := [] }

/-- 'analemmalaw09.DriftSpoilt': WHATEVER THE INPUT: true; the input reads as it did. -/
def driftSpoiltSpec : ChangeSpec := { name := "driftSpoilt", fn := fun _ => fun
  | [d1, d2, d3, d4] => { results := [.lit (.bool true)], args := [d1, d2, d3, d4] }
  | _ => none }
def driftSpoiltRow : OpenClaim := { program := "ytklfialdapljlaa", sum := "6d028875126a0df7c906b2ca668896f5c7a405fa411b1b2f5f9da8e02013ae6b", func := "analemma/analemmalaw09.DriftSpoilt", spec := "driftSpoilt", unfollowed := true, recurses := true, apart := false }
def DriftSpoiltSaid : Prop := driftSpoiltRow.holds Try.pinned (OpenSpec.ofChange driftSpoiltSpec)

/-- ITS FALSE NEIGHBOUR: 'it returns false'. Refute it at one input. -/
def driftSpoiltWrong : ChangeSpec := { name := "driftSpoilt", fn := fun _ => fun
  | [d1, d2, d3, d4] => { results := [.lit (.bool false)], args := [d1, d2, d3, d4] }
  | _ => none }
def DriftSpoiltWrongFalsely : Prop := driftSpoiltRow.holds Try.pinned (OpenSpec.ofChange driftSpoiltWrong)

/-- 'analemmalaw09.DriftTurns': WHATEVER THE INPUT: true; the input reads as it did. -/
def driftTurnsSpec : ChangeSpec := { name := "driftTurns", fn := fun _ => fun
  | [d1, d2] => { results := [.lit (.bool true)], args := [d1, d2] }
  | _ => none }
def driftTurnsRow : OpenClaim := { program := "ytklfialdapljlaa", sum := "6d028875126a0df7c906b2ca668896f5c7a405fa411b1b2f5f9da8e02013ae6b", func := "analemma/analemmalaw09.DriftTurns", spec := "driftTurns", unfollowed := true, recurses := true, apart := false }
def DriftTurnsSaid : Prop := driftTurnsRow.holds Try.pinned (OpenSpec.ofChange driftTurnsSpec)

/-- ITS FALSE NEIGHBOUR: 'it returns false'. Refute it at one input. -/
def driftTurnsWrong : ChangeSpec := { name := "driftTurns", fn := fun _ => fun
  | [d1, d2] => { results := [.lit (.bool false)], args := [d1, d2] }
  | _ => none }
def DriftTurnsWrongFalsely : Prop := driftTurnsRow.holds Try.pinned (OpenSpec.ofChange driftTurnsWrong)

/-- 'analemmalaw09.DriftCuts': WHATEVER THE INPUT: true; the input reads as it did. -/
def driftCutsSpec : ChangeSpec := { name := "driftCuts", fn := fun _ => fun
  | [d1, d2, d3, d4] => { results := [.lit (.bool true)], args := [d1, d2, d3, d4] }
  | _ => none }
def driftCutsRow : OpenClaim := { program := "ytklfialdapljlaa", sum := "6d028875126a0df7c906b2ca668896f5c7a405fa411b1b2f5f9da8e02013ae6b", func := "analemma/analemmalaw09.DriftCuts", spec := "driftCuts", unfollowed := true, recurses := true, apart := false }
def DriftCutsSaid : Prop := driftCutsRow.holds Try.pinned (OpenSpec.ofChange driftCutsSpec)

/-- ITS FALSE NEIGHBOUR: 'it returns false'. Refute it at one input. -/
def driftCutsWrong : ChangeSpec := { name := "driftCuts", fn := fun _ => fun
  | [d1, d2, d3, d4] => { results := [.lit (.bool false)], args := [d1, d2, d3, d4] }
  | _ => none }
def DriftCutsWrongFalsely : Prop := driftCutsRow.holds Try.pinned (OpenSpec.ofChange driftCutsWrong)

/-- 'analemmalaw10.SetupChecks': WHATEVER THE INPUT: true; the input reads as it did. -/
def setupChecksSpec : ChangeSpec := { name := "setupChecks", fn := fun _ => fun
  | [d1, d2] => { results := [.lit (.bool true)], args := [d1, d2] }
  | _ => none }
def setupChecksRow : OpenClaim := { program := "ytklfialdapljlaa", sum := "6d028875126a0df7c906b2ca668896f5c7a405fa411b1b2f5f9da8e02013ae6b", func := "analemma/analemmalaw10.SetupChecks", spec := "setupChecks", inPlace := ["math.Float64bits", "math.Float64frombits"], unfollowed := true, recurses := true, apart := false }
def SetupChecksSaid : Prop := setupChecksRow.holds Try.pinned (OpenSpec.ofChange setupChecksSpec)

/-- ITS FALSE NEIGHBOUR: 'it returns false'. Refute it at one input. -/
def setupChecksWrong : ChangeSpec := { name := "setupChecks", fn := fun _ => fun
  | [d1, d2] => { results := [.lit (.bool false)], args := [d1, d2] }
  | _ => none }
def SetupChecksWrongFalsely : Prop := setupChecksRow.holds Try.pinned (OpenSpec.ofChange setupChecksWrong)

/-- 'analemmalaw18.CombineWithin': WHATEVER THE INPUT: true; the input reads as it did. -/
def combineWithinSpec : ChangeSpec := { name := "combineWithin", fn := fun _ => fun
  | [d1, d2, d3, d4, d5, d6] => { results := [.lit (.bool true)], args := [d1, d2, d3, d4, d5, d6] }
  | _ => none }
def combineWithinRow : OpenClaim := { program := "ytklfialdapljlaa", sum := "6d028875126a0df7c906b2ca668896f5c7a405fa411b1b2f5f9da8e02013ae6b", func := "analemma/analemmalaw18.CombineWithin", spec := "combineWithin", unfollowed := true, recurses := true, apart := false }
def CombineWithinSaid : Prop := combineWithinRow.holds Try.pinned (OpenSpec.ofChange combineWithinSpec)

/-- ITS FALSE NEIGHBOUR: 'it returns false'. Refute it at one input. -/
def combineWithinWrong : ChangeSpec := { name := "combineWithin", fn := fun _ => fun
  | [d1, d2, d3, d4, d5, d6] => { results := [.lit (.bool false)], args := [d1, d2, d3, d4, d5, d6] }
  | _ => none }
def CombineWithinWrongFalsely : Prop := combineWithinRow.holds Try.pinned (OpenSpec.ofChange combineWithinWrong)

/-- 'analemmalaw18.CombineNear': WHATEVER THE INPUT: true; the input reads as it did. -/
def combineNearSpec : ChangeSpec := { name := "combineNear", fn := fun _ => fun
  | [d1, d2, d3, d4] => { results := [.lit (.bool true)], args := [d1, d2, d3, d4] }
  | _ => none }
def combineNearRow : OpenClaim := { program := "ytklfialdapljlaa", sum := "6d028875126a0df7c906b2ca668896f5c7a405fa411b1b2f5f9da8e02013ae6b", func := "analemma/analemmalaw18.CombineNear", spec := "combineNear", unfollowed := true, recurses := true, apart := false }
def CombineNearSaid : Prop := combineNearRow.holds Try.pinned (OpenSpec.ofChange combineNearSpec)

/-- ITS FALSE NEIGHBOUR: 'it returns false'. Refute it at one input. -/
def combineNearWrong : ChangeSpec := { name := "combineNear", fn := fun _ => fun
  | [d1, d2, d3, d4] => { results := [.lit (.bool false)], args := [d1, d2, d3, d4] }
  | _ => none }
def CombineNearWrongFalsely : Prop := combineNearRow.holds Try.pinned (OpenSpec.ofChange combineNearWrong)

/-- 'analemmalaw18.CombineMeans': WHATEVER THE INPUT: true; the input reads as it did. -/
def combineMeansSpec : ChangeSpec := { name := "combineMeans", fn := fun _ => fun
  | [d1, d2, d3, d4, d5] => { results := [.lit (.bool true)], args := [d1, d2, d3, d4, d5] }
  | _ => none }
def combineMeansRow : OpenClaim := { program := "ytklfialdapljlaa", sum := "6d028875126a0df7c906b2ca668896f5c7a405fa411b1b2f5f9da8e02013ae6b", func := "analemma/analemmalaw18.CombineMeans", spec := "combineMeans", unfollowed := true, recurses := true, apart := false }
def CombineMeansSaid : Prop := combineMeansRow.holds Try.pinned (OpenSpec.ofChange combineMeansSpec)

/-- ITS FALSE NEIGHBOUR: 'it returns false'. Refute it at one input. -/
def combineMeansWrong : ChangeSpec := { name := "combineMeans", fn := fun _ => fun
  | [d1, d2, d3, d4, d5] => { results := [.lit (.bool false)], args := [d1, d2, d3, d4, d5] }
  | _ => none }
def CombineMeansWrongFalsely : Prop := combineMeansRow.holds Try.pinned (OpenSpec.ofChange combineMeansWrong)

/-- 'analemmalaw12.ChecksForged': WHATEVER THE INPUT: true; the input reads as it did. -/
def checksForgedSpec : ChangeSpec := { name := "checksForged", fn := fun _ => fun
  | [d1, d2, d3] => { results := [.lit (.bool true)], args := [d1, d2, d3] }
  | _ => none }
def checksForgedRow : OpenClaim := { program := "ytklfialdapljlaa", sum := "6d028875126a0df7c906b2ca668896f5c7a405fa411b1b2f5f9da8e02013ae6b", func := "analemma/analemmalaw12.ChecksForged", spec := "checksForged", inPlace := ["math.Float64bits", "math.Float64frombits"], unfollowed := true, recurses := true, apart := false }
def ChecksForgedSaid : Prop := checksForgedRow.holds Try.pinned (OpenSpec.ofChange checksForgedSpec)

/-- ITS FALSE NEIGHBOUR: 'it returns false'. Refute it at one input. -/
def checksForgedWrong : ChangeSpec := { name := "checksForged", fn := fun _ => fun
  | [d1, d2, d3] => { results := [.lit (.bool false)], args := [d1, d2, d3] }
  | _ => none }
def ChecksForgedWrongFalsely : Prop := checksForgedRow.holds Try.pinned (OpenSpec.ofChange checksForgedWrong)

/-- 'analemmalaw12.ChecksTwice': WHATEVER THE INPUT: true; the input reads as it did. -/
def checksTwiceSpec : ChangeSpec := { name := "checksTwice", fn := fun _ => fun
  | [d1, d2, d3, d4] => { results := [.lit (.bool true)], args := [d1, d2, d3, d4] }
  | _ => none }
def checksTwiceRow : OpenClaim := { program := "ytklfialdapljlaa", sum := "6d028875126a0df7c906b2ca668896f5c7a405fa411b1b2f5f9da8e02013ae6b", func := "analemma/analemmalaw12.ChecksTwice", spec := "checksTwice", inPlace := ["math.Float64bits", "math.Float64frombits"], unfollowed := true, recurses := true, apart := false }
def ChecksTwiceSaid : Prop := checksTwiceRow.holds Try.pinned (OpenSpec.ofChange checksTwiceSpec)

/-- ITS FALSE NEIGHBOUR: 'it returns false'. Refute it at one input. -/
def checksTwiceWrong : ChangeSpec := { name := "checksTwice", fn := fun _ => fun
  | [d1, d2, d3, d4] => { results := [.lit (.bool false)], args := [d1, d2, d3, d4] }
  | _ => none }
def ChecksTwiceWrongFalsely : Prop := checksTwiceRow.holds Try.pinned (OpenSpec.ofChange checksTwiceWrong)

/-- 'analemmalaw12.ChecksCounts': WHATEVER THE INPUT: true; the input reads as it did. -/
def checksCountsSpec : ChangeSpec := { name := "checksCounts", fn := fun _ => fun
  | [d] => { results := [.lit (.bool true)], args := [d] }
  | _ => none }
def checksCountsRow : OpenClaim := { program := "ytklfialdapljlaa", sum := "6d028875126a0df7c906b2ca668896f5c7a405fa411b1b2f5f9da8e02013ae6b", func := "analemma/analemmalaw12.ChecksCounts", spec := "checksCounts", inPlace := ["math.Float64bits", "math.Float64frombits"], unfollowed := true, recurses := true, apart := false }
def ChecksCountsSaid : Prop := checksCountsRow.holds Try.pinned (OpenSpec.ofChange checksCountsSpec)

/-- ITS FALSE NEIGHBOUR: 'it returns false'. Refute it at one input. -/
def checksCountsWrong : ChangeSpec := { name := "checksCounts", fn := fun _ => fun
  | [d] => { results := [.lit (.bool false)], args := [d] }
  | _ => none }
def ChecksCountsWrongFalsely : Prop := checksCountsRow.holds Try.pinned (OpenSpec.ofChange checksCountsWrong)

/-- 'analemmalaw12.ChecksOrder': WHATEVER THE INPUT: true; the input reads as it did. -/
def checksOrderSpec : ChangeSpec := { name := "checksOrder", fn := fun _ => fun
  | [d1, d2] => { results := [.lit (.bool true)], args := [d1, d2] }
  | _ => none }
def checksOrderRow : OpenClaim := { program := "ytklfialdapljlaa", sum := "6d028875126a0df7c906b2ca668896f5c7a405fa411b1b2f5f9da8e02013ae6b", func := "analemma/analemmalaw12.ChecksOrder", spec := "checksOrder", inPlace := ["math.Float64bits", "math.Float64frombits"], unfollowed := true, recurses := true, apart := false }
def ChecksOrderSaid : Prop := checksOrderRow.holds Try.pinned (OpenSpec.ofChange checksOrderSpec)

/-- ITS FALSE NEIGHBOUR: 'it returns false'. Refute it at one input. -/
def checksOrderWrong : ChangeSpec := { name := "checksOrder", fn := fun _ => fun
  | [d1, d2] => { results := [.lit (.bool false)], args := [d1, d2] }
  | _ => none }
def ChecksOrderWrongFalsely : Prop := checksOrderRow.holds Try.pinned (OpenSpec.ofChange checksOrderWrong)

/-- 'analemmalaw20.PaceRuns': WHATEVER THE INPUT: true; the input reads as it did. -/
def paceRunsSpec : ChangeSpec := { name := "paceRuns", fn := fun _ => fun
  | [d1, d2, d3] => { results := [.lit (.bool true)], args := [d1, d2, d3] }
  | _ => none }
def paceRunsRow : OpenClaim := { program := "ytklfialdapljlaa", sum := "6d028875126a0df7c906b2ca668896f5c7a405fa411b1b2f5f9da8e02013ae6b", func := "analemma/analemmalaw20.PaceRuns", spec := "paceRuns", inPlace := ["math.Float64bits", "math.Float64frombits"], unfollowed := true, recurses := true, apart := false }
def PaceRunsSaid : Prop := paceRunsRow.holds Try.pinned (OpenSpec.ofChange paceRunsSpec)

/-- ITS FALSE NEIGHBOUR: 'it returns false'. Refute it at one input. -/
def paceRunsWrong : ChangeSpec := { name := "paceRuns", fn := fun _ => fun
  | [d1, d2, d3] => { results := [.lit (.bool false)], args := [d1, d2, d3] }
  | _ => none }
def PaceRunsWrongFalsely : Prop := paceRunsRow.holds Try.pinned (OpenSpec.ofChange paceRunsWrong)

/-- 'analemmalaw11.ReachCounts': WHATEVER THE INPUT: true; the input reads as it did. -/
def reachCountsSpec : ChangeSpec := { name := "reachCounts", fn := fun _ => fun
  | [d1, d2] => { results := [.lit (.bool true)], args := [d1, d2] }
  | _ => none }
def reachCountsRow : OpenClaim := { program := "ytklfialdapljlaa", sum := "6d028875126a0df7c906b2ca668896f5c7a405fa411b1b2f5f9da8e02013ae6b", func := "analemma/analemmalaw11.ReachCounts", spec := "reachCounts", inPlace := ["math.Float64bits", "math.Float64frombits"], unfollowed := true, recurses := true, apart := false }
def ReachCountsSaid : Prop := reachCountsRow.holds Try.pinned (OpenSpec.ofChange reachCountsSpec)

/-- ITS FALSE NEIGHBOUR: 'it returns false'. Refute it at one input. -/
def reachCountsWrong : ChangeSpec := { name := "reachCounts", fn := fun _ => fun
  | [d1, d2] => { results := [.lit (.bool false)], args := [d1, d2] }
  | _ => none }
def ReachCountsWrongFalsely : Prop := reachCountsRow.holds Try.pinned (OpenSpec.ofChange reachCountsWrong)

/-- 'analemmalaw18.CombineTells': WHATEVER THE INPUT: true; the input reads as it did. -/
def combineTellsSpec : ChangeSpec := { name := "combineTells", fn := fun _ => fun
  | [d1, d2, d3, d4, d5, d6, d7] => { results := [.lit (.bool true)], args := [d1, d2, d3, d4, d5, d6, d7] }
  | _ => none }
def combineTellsRow : OpenClaim := { program := "ytklfialdapljlaa", sum := "6d028875126a0df7c906b2ca668896f5c7a405fa411b1b2f5f9da8e02013ae6b", func := "analemma/analemmalaw18.CombineTells", spec := "combineTells", unfollowed := true, recurses := true, apart := false }
def CombineTellsSaid : Prop := combineTellsRow.holds Try.pinned (OpenSpec.ofChange combineTellsSpec)

/-- ITS FALSE NEIGHBOUR: 'it returns false'. Refute it at one input. -/
def combineTellsWrong : ChangeSpec := { name := "combineTells", fn := fun _ => fun
  | [d1, d2, d3, d4, d5, d6, d7] => { results := [.lit (.bool false)], args := [d1, d2, d3, d4, d5, d6, d7] }
  | _ => none }
def CombineTellsWrongFalsely : Prop := combineTellsRow.holds Try.pinned (OpenSpec.ofChange combineTellsWrong)

/-- 'analemmalaw15.RootdTells': WHATEVER THE INPUT: true; the input reads as it did. -/
def rootdTellsSpec : ChangeSpec := { name := "rootdTells", fn := fun _ => fun
  | [d1, d2, d3, d4, d5] => { results := [.lit (.bool true)], args := [d1, d2, d3, d4, d5] }
  | _ => none }
def rootdTellsRow : OpenClaim := { program := "ytklfialdapljlaa", sum := "6d028875126a0df7c906b2ca668896f5c7a405fa411b1b2f5f9da8e02013ae6b", func := "analemma/analemmalaw15.RootdTells", spec := "rootdTells", inPlace := ["math.Float64bits", "math.Float64frombits"], unfollowed := true, recurses := true, apart := false }
def RootdTellsSaid : Prop := rootdTellsRow.holds Try.pinned (OpenSpec.ofChange rootdTellsSpec)

/-- ITS FALSE NEIGHBOUR: 'it returns false'. Refute it at one input. -/
def rootdTellsWrong : ChangeSpec := { name := "rootdTells", fn := fun _ => fun
  | [d1, d2, d3, d4, d5] => { results := [.lit (.bool false)], args := [d1, d2, d3, d4, d5] }
  | _ => none }
def RootdTellsWrongFalsely : Prop := rootdTellsRow.holds Try.pinned (OpenSpec.ofChange rootdTellsWrong)

/-- 'analemmalaw13.SampleMakes': WHATEVER THE INPUT: true; the input reads as it did. -/
def sampleMakesSpec : ChangeSpec := { name := "sampleMakes", fn := fun _ => fun
  | [d1, d2, d3, d4, d5, d6] => { results := [.lit (.bool true)], args := [d1, d2, d3, d4, d5, d6] }
  | _ => none }
def sampleMakesRow : OpenClaim := { program := "ytklfialdapljlaa", sum := "6d028875126a0df7c906b2ca668896f5c7a405fa411b1b2f5f9da8e02013ae6b", func := "analemma/analemmalaw13.SampleMakes", spec := "sampleMakes", inPlace := ["math.Float64bits", "math.Float64frombits"], unfollowed := true, recurses := true, apart := false }
def SampleMakesSaid : Prop := sampleMakesRow.holds Try.pinned (OpenSpec.ofChange sampleMakesSpec)

/-- ITS FALSE NEIGHBOUR: 'it returns false'. Refute it at one input. -/
def sampleMakesWrong : ChangeSpec := { name := "sampleMakes", fn := fun _ => fun
  | [d1, d2, d3, d4, d5, d6] => { results := [.lit (.bool false)], args := [d1, d2, d3, d4, d5, d6] }
  | _ => none }
def SampleMakesWrongFalsely : Prop := sampleMakesRow.holds Try.pinned (OpenSpec.ofChange sampleMakesWrong)

/-- 'analemmalaw13.SampleTrue': WHATEVER THE INPUT: true; the input reads as it did. -/
def sampleTrueSpec : ChangeSpec := { name := "sampleTrue", fn := fun _ => fun
  | [d1, d2, d3, d4, d5, d6] => { results := [.lit (.bool true)], args := [d1, d2, d3, d4, d5, d6] }
  | _ => none }
def sampleTrueRow : OpenClaim := { program := "ytklfialdapljlaa", sum := "6d028875126a0df7c906b2ca668896f5c7a405fa411b1b2f5f9da8e02013ae6b", func := "analemma/analemmalaw13.SampleTrue", spec := "sampleTrue", inPlace := ["math.Float64bits", "math.Float64frombits"], unfollowed := true, recurses := true, apart := false }
def SampleTrueSaid : Prop := sampleTrueRow.holds Try.pinned (OpenSpec.ofChange sampleTrueSpec)

/-- ITS FALSE NEIGHBOUR: 'it returns false'. Refute it at one input. -/
def sampleTrueWrong : ChangeSpec := { name := "sampleTrue", fn := fun _ => fun
  | [d1, d2, d3, d4, d5, d6] => { results := [.lit (.bool false)], args := [d1, d2, d3, d4, d5, d6] }
  | _ => none }
def SampleTrueWrongFalsely : Prop := sampleTrueRow.holds Try.pinned (OpenSpec.ofChange sampleTrueWrong)

/-- 'analemmalaw18.CombineStays': WHATEVER THE INPUT: true; the input reads as it did. -/
def combineStaysSpec : ChangeSpec := { name := "combineStays", fn := fun _ => fun
  | [d1, d2] => { results := [.lit (.bool true)], args := [d1, d2] }
  | _ => none }
def combineStaysRow : OpenClaim := { program := "ytklfialdapljlaa", sum := "6d028875126a0df7c906b2ca668896f5c7a405fa411b1b2f5f9da8e02013ae6b", func := "analemma/analemmalaw18.CombineStays", spec := "combineStays", inPlace := ["math.Float64bits", "math.Float64frombits"], unfollowed := true, recurses := true, apart := false }
def CombineStaysSaid : Prop := combineStaysRow.holds Try.pinned (OpenSpec.ofChange combineStaysSpec)

/-- ITS FALSE NEIGHBOUR: 'it returns false'. Refute it at one input. -/
def combineStaysWrong : ChangeSpec := { name := "combineStays", fn := fun _ => fun
  | [d1, d2] => { results := [.lit (.bool false)], args := [d1, d2] }
  | _ => none }
def CombineStaysWrongFalsely : Prop := combineStaysRow.holds Try.pinned (OpenSpec.ofChange combineStaysWrong)

/-- 'analemmalaw15.RootdSorts': WHATEVER THE INPUT: true; the input reads as it did. -/
def rootdSortsSpec : ChangeSpec := { name := "rootdSorts", fn := fun _ => fun
  | [d1, d2, d3] => { results := [.lit (.bool true)], args := [d1, d2, d3] }
  | _ => none }
def rootdSortsRow : OpenClaim := { program := "ytklfialdapljlaa", sum := "6d028875126a0df7c906b2ca668896f5c7a405fa411b1b2f5f9da8e02013ae6b", func := "analemma/analemmalaw15.RootdSorts", spec := "rootdSorts", inPlace := ["math.Float64bits", "math.Float64frombits"], unfollowed := true, recurses := true, apart := false }
def RootdSortsSaid : Prop := rootdSortsRow.holds Try.pinned (OpenSpec.ofChange rootdSortsSpec)

/-- ITS FALSE NEIGHBOUR: 'it returns false'. Refute it at one input. -/
def rootdSortsWrong : ChangeSpec := { name := "rootdSorts", fn := fun _ => fun
  | [d1, d2, d3] => { results := [.lit (.bool false)], args := [d1, d2, d3] }
  | _ => none }
def RootdSortsWrongFalsely : Prop := rootdSortsRow.holds Try.pinned (OpenSpec.ofChange rootdSortsWrong)

/-- 'analemmalaw14.FilterOnce': WHATEVER THE INPUT: true; the input reads as it did. -/
def filterOnceSpec : ChangeSpec := { name := "filterOnce", fn := fun _ => fun
  | [d1, d2] => { results := [.lit (.bool true)], args := [d1, d2] }
  | _ => none }
def filterOnceRow : OpenClaim := { program := "ytklfialdapljlaa", sum := "6d028875126a0df7c906b2ca668896f5c7a405fa411b1b2f5f9da8e02013ae6b", func := "analemma/analemmalaw14.FilterOnce", spec := "filterOnce", inPlace := ["math.Float64bits", "math.Float64frombits"], unfollowed := true, recurses := true, apart := false }
def FilterOnceSaid : Prop := filterOnceRow.holds Try.pinned (OpenSpec.ofChange filterOnceSpec)

/-- ITS FALSE NEIGHBOUR: 'it returns false'. Refute it at one input. -/
def filterOnceWrong : ChangeSpec := { name := "filterOnce", fn := fun _ => fun
  | [d1, d2] => { results := [.lit (.bool false)], args := [d1, d2] }
  | _ => none }
def FilterOnceWrongFalsely : Prop := filterOnceRow.holds Try.pinned (OpenSpec.ofChange filterOnceWrong)

/-- 'analemmalaw14.FilterLeast': WHATEVER THE INPUT: true; the input reads as it did. -/
def filterLeastSpec : ChangeSpec := { name := "filterLeast", fn := fun _ => fun
  | [d1, d2, d3] => { results := [.lit (.bool true)], args := [d1, d2, d3] }
  | _ => none }
def filterLeastRow : OpenClaim := { program := "ytklfialdapljlaa", sum := "6d028875126a0df7c906b2ca668896f5c7a405fa411b1b2f5f9da8e02013ae6b", func := "analemma/analemmalaw14.FilterLeast", spec := "filterLeast", inPlace := ["math.Float64bits", "math.Float64frombits"], unfollowed := true, recurses := true, apart := false }
def FilterLeastSaid : Prop := filterLeastRow.holds Try.pinned (OpenSpec.ofChange filterLeastSpec)

/-- ITS FALSE NEIGHBOUR: 'it returns false'. Refute it at one input. -/
def filterLeastWrong : ChangeSpec := { name := "filterLeast", fn := fun _ => fun
  | [d1, d2, d3] => { results := [.lit (.bool false)], args := [d1, d2, d3] }
  | _ => none }
def FilterLeastWrongFalsely : Prop := filterLeastRow.holds Try.pinned (OpenSpec.ofChange filterLeastWrong)

/-- 'analemmalaw14.FilterQuiet': WHATEVER THE INPUT: true; the input reads as it did. -/
def filterQuietSpec : ChangeSpec := { name := "filterQuiet", fn := fun _ => fun
  | [d1, d2, d3, d4] => { results := [.lit (.bool true)], args := [d1, d2, d3, d4] }
  | _ => none }
def filterQuietRow : OpenClaim := { program := "ytklfialdapljlaa", sum := "6d028875126a0df7c906b2ca668896f5c7a405fa411b1b2f5f9da8e02013ae6b", func := "analemma/analemmalaw14.FilterQuiet", spec := "filterQuiet", inPlace := ["math.Float64bits", "math.Float64frombits"], unfollowed := true, recurses := true, apart := false }
def FilterQuietSaid : Prop := filterQuietRow.holds Try.pinned (OpenSpec.ofChange filterQuietSpec)

/-- ITS FALSE NEIGHBOUR: 'it returns false'. Refute it at one input. -/
def filterQuietWrong : ChangeSpec := { name := "filterQuiet", fn := fun _ => fun
  | [d1, d2, d3, d4] => { results := [.lit (.bool false)], args := [d1, d2, d3, d4] }
  | _ => none }
def FilterQuietWrongFalsely : Prop := filterQuietRow.holds Try.pinned (OpenSpec.ofChange filterQuietWrong)

/- THE SECOND FORM. 'bulk': how many values and letters a reading holds, each counted each time it is reached (what is shared counts as often as it is met; a slice's spare places count too). A statement '..UptoSaid' is the law's where the arguments, and the package variables that the reading takes, are together of bulk at most 1048576: NARROWER than '..Said'. Prove '..Said' where nothing that the law and all that it calls make is longer than what came in: it says more and counts as full. Else prove '..UptoSaid'. A law counts once. -/
mutual
def uptoBulk {H : Type} : DataW H → Nat
  | .lit (.string bytes) => bytes.length + 1
  | .lit _ => 1
  | .nil => 1
  | .ptr d => uptoBulk d + 1
  | .slice elems spare => uptoBulkAll elems + uptoBulkAll spare + 1
  | .agg parts => uptoBulkAll parts + 1
  | .iface _ d => uptoBulk d + 1
  | .map entries => uptoBulkEntries entries + 1
  | .held _ => 1
def uptoBulkAll {H : Type} : List (DataW H) → Nat
  | [] => 0
  | d :: r => uptoBulk d + uptoBulkAll r
def uptoBulkEntries {H : Type} : List (Lit × DataW H) → Nat
  | [] => 0
  | x :: r => uptoBulkEntry x + uptoBulkEntries r
def uptoBulkEntry {H : Type} : Lit × DataW H → Nat
  | (.string bytes, d) => bytes.length + uptoBulk d + 1
  | (_, d) => uptoBulk d + 1
 end
def uptoSmall : (H : Type) → List (DataW H) → Bool := fun _ ds => decide (uptoBulkAll ds ≤ 1048576)
def OpenSpec.upto (s : _root_.Go.ChangeSpec) : _root_.Go.OpenSpec := { _root_.Go.OpenSpec.ofChange s with cond := some uptoSmall }

/-- 'analemmalaw09.DriftSpoilt', WHERE WHAT IT READS IS OF BULK AT MOST 1048576: true; the input reads as it did. -/
def driftSpoiltUptoRow : OpenClaim := { program := "ytklfialdapljlaa", sum := "6d028875126a0df7c906b2ca668896f5c7a405fa411b1b2f5f9da8e02013ae6b", func := "analemma/analemmalaw09.DriftSpoilt", spec := "driftSpoilt", unfollowed := true, recurses := true, apart := false, narrowed := true }
def DriftSpoiltUptoSaid : Prop := driftSpoiltUptoRow.holds Try.pinned (OpenSpec.upto driftSpoiltSpec)

/-- 'analemmalaw09.DriftTurns', WHERE WHAT IT READS IS OF BULK AT MOST 1048576: true; the input reads as it did. -/
def driftTurnsUptoRow : OpenClaim := { program := "ytklfialdapljlaa", sum := "6d028875126a0df7c906b2ca668896f5c7a405fa411b1b2f5f9da8e02013ae6b", func := "analemma/analemmalaw09.DriftTurns", spec := "driftTurns", unfollowed := true, recurses := true, apart := false, narrowed := true }
def DriftTurnsUptoSaid : Prop := driftTurnsUptoRow.holds Try.pinned (OpenSpec.upto driftTurnsSpec)

/-- 'analemmalaw09.DriftCuts', WHERE WHAT IT READS IS OF BULK AT MOST 1048576: true; the input reads as it did. -/
def driftCutsUptoRow : OpenClaim := { program := "ytklfialdapljlaa", sum := "6d028875126a0df7c906b2ca668896f5c7a405fa411b1b2f5f9da8e02013ae6b", func := "analemma/analemmalaw09.DriftCuts", spec := "driftCuts", unfollowed := true, recurses := true, apart := false, narrowed := true }
def DriftCutsUptoSaid : Prop := driftCutsUptoRow.holds Try.pinned (OpenSpec.upto driftCutsSpec)

/-- 'analemmalaw10.SetupChecks', WHERE WHAT IT READS IS OF BULK AT MOST 1048576: true; the input reads as it did. -/
def setupChecksUptoRow : OpenClaim := { program := "ytklfialdapljlaa", sum := "6d028875126a0df7c906b2ca668896f5c7a405fa411b1b2f5f9da8e02013ae6b", func := "analemma/analemmalaw10.SetupChecks", spec := "setupChecks", inPlace := ["math.Float64bits", "math.Float64frombits"], unfollowed := true, recurses := true, apart := false, narrowed := true }
def SetupChecksUptoSaid : Prop := setupChecksUptoRow.holds Try.pinned (OpenSpec.upto setupChecksSpec)

/-- 'analemmalaw18.CombineWithin', WHERE WHAT IT READS IS OF BULK AT MOST 1048576: true; the input reads as it did. -/
def combineWithinUptoRow : OpenClaim := { program := "ytklfialdapljlaa", sum := "6d028875126a0df7c906b2ca668896f5c7a405fa411b1b2f5f9da8e02013ae6b", func := "analemma/analemmalaw18.CombineWithin", spec := "combineWithin", unfollowed := true, recurses := true, apart := false, narrowed := true }
def CombineWithinUptoSaid : Prop := combineWithinUptoRow.holds Try.pinned (OpenSpec.upto combineWithinSpec)

/-- 'analemmalaw18.CombineNear', WHERE WHAT IT READS IS OF BULK AT MOST 1048576: true; the input reads as it did. -/
def combineNearUptoRow : OpenClaim := { program := "ytklfialdapljlaa", sum := "6d028875126a0df7c906b2ca668896f5c7a405fa411b1b2f5f9da8e02013ae6b", func := "analemma/analemmalaw18.CombineNear", spec := "combineNear", unfollowed := true, recurses := true, apart := false, narrowed := true }
def CombineNearUptoSaid : Prop := combineNearUptoRow.holds Try.pinned (OpenSpec.upto combineNearSpec)

/-- 'analemmalaw18.CombineMeans', WHERE WHAT IT READS IS OF BULK AT MOST 1048576: true; the input reads as it did. -/
def combineMeansUptoRow : OpenClaim := { program := "ytklfialdapljlaa", sum := "6d028875126a0df7c906b2ca668896f5c7a405fa411b1b2f5f9da8e02013ae6b", func := "analemma/analemmalaw18.CombineMeans", spec := "combineMeans", unfollowed := true, recurses := true, apart := false, narrowed := true }
def CombineMeansUptoSaid : Prop := combineMeansUptoRow.holds Try.pinned (OpenSpec.upto combineMeansSpec)

/-- 'analemmalaw12.ChecksForged', WHERE WHAT IT READS IS OF BULK AT MOST 1048576: true; the input reads as it did. -/
def checksForgedUptoRow : OpenClaim := { program := "ytklfialdapljlaa", sum := "6d028875126a0df7c906b2ca668896f5c7a405fa411b1b2f5f9da8e02013ae6b", func := "analemma/analemmalaw12.ChecksForged", spec := "checksForged", inPlace := ["math.Float64bits", "math.Float64frombits"], unfollowed := true, recurses := true, apart := false, narrowed := true }
def ChecksForgedUptoSaid : Prop := checksForgedUptoRow.holds Try.pinned (OpenSpec.upto checksForgedSpec)

/-- 'analemmalaw12.ChecksTwice', WHERE WHAT IT READS IS OF BULK AT MOST 1048576: true; the input reads as it did. -/
def checksTwiceUptoRow : OpenClaim := { program := "ytklfialdapljlaa", sum := "6d028875126a0df7c906b2ca668896f5c7a405fa411b1b2f5f9da8e02013ae6b", func := "analemma/analemmalaw12.ChecksTwice", spec := "checksTwice", inPlace := ["math.Float64bits", "math.Float64frombits"], unfollowed := true, recurses := true, apart := false, narrowed := true }
def ChecksTwiceUptoSaid : Prop := checksTwiceUptoRow.holds Try.pinned (OpenSpec.upto checksTwiceSpec)

/-- 'analemmalaw12.ChecksCounts', WHERE WHAT IT READS IS OF BULK AT MOST 1048576: true; the input reads as it did. -/
def checksCountsUptoRow : OpenClaim := { program := "ytklfialdapljlaa", sum := "6d028875126a0df7c906b2ca668896f5c7a405fa411b1b2f5f9da8e02013ae6b", func := "analemma/analemmalaw12.ChecksCounts", spec := "checksCounts", inPlace := ["math.Float64bits", "math.Float64frombits"], unfollowed := true, recurses := true, apart := false, narrowed := true }
def ChecksCountsUptoSaid : Prop := checksCountsUptoRow.holds Try.pinned (OpenSpec.upto checksCountsSpec)

/-- 'analemmalaw12.ChecksOrder', WHERE WHAT IT READS IS OF BULK AT MOST 1048576: true; the input reads as it did. -/
def checksOrderUptoRow : OpenClaim := { program := "ytklfialdapljlaa", sum := "6d028875126a0df7c906b2ca668896f5c7a405fa411b1b2f5f9da8e02013ae6b", func := "analemma/analemmalaw12.ChecksOrder", spec := "checksOrder", inPlace := ["math.Float64bits", "math.Float64frombits"], unfollowed := true, recurses := true, apart := false, narrowed := true }
def ChecksOrderUptoSaid : Prop := checksOrderUptoRow.holds Try.pinned (OpenSpec.upto checksOrderSpec)

/-- 'analemmalaw20.PaceRuns', WHERE WHAT IT READS IS OF BULK AT MOST 1048576: true; the input reads as it did. -/
def paceRunsUptoRow : OpenClaim := { program := "ytklfialdapljlaa", sum := "6d028875126a0df7c906b2ca668896f5c7a405fa411b1b2f5f9da8e02013ae6b", func := "analemma/analemmalaw20.PaceRuns", spec := "paceRuns", inPlace := ["math.Float64bits", "math.Float64frombits"], unfollowed := true, recurses := true, apart := false, narrowed := true }
def PaceRunsUptoSaid : Prop := paceRunsUptoRow.holds Try.pinned (OpenSpec.upto paceRunsSpec)

/-- 'analemmalaw11.ReachCounts', WHERE WHAT IT READS IS OF BULK AT MOST 1048576: true; the input reads as it did. -/
def reachCountsUptoRow : OpenClaim := { program := "ytklfialdapljlaa", sum := "6d028875126a0df7c906b2ca668896f5c7a405fa411b1b2f5f9da8e02013ae6b", func := "analemma/analemmalaw11.ReachCounts", spec := "reachCounts", inPlace := ["math.Float64bits", "math.Float64frombits"], unfollowed := true, recurses := true, apart := false, narrowed := true }
def ReachCountsUptoSaid : Prop := reachCountsUptoRow.holds Try.pinned (OpenSpec.upto reachCountsSpec)

/-- 'analemmalaw18.CombineTells', WHERE WHAT IT READS IS OF BULK AT MOST 1048576: true; the input reads as it did. -/
def combineTellsUptoRow : OpenClaim := { program := "ytklfialdapljlaa", sum := "6d028875126a0df7c906b2ca668896f5c7a405fa411b1b2f5f9da8e02013ae6b", func := "analemma/analemmalaw18.CombineTells", spec := "combineTells", unfollowed := true, recurses := true, apart := false, narrowed := true }
def CombineTellsUptoSaid : Prop := combineTellsUptoRow.holds Try.pinned (OpenSpec.upto combineTellsSpec)

/-- 'analemmalaw15.RootdTells', WHERE WHAT IT READS IS OF BULK AT MOST 1048576: true; the input reads as it did. -/
def rootdTellsUptoRow : OpenClaim := { program := "ytklfialdapljlaa", sum := "6d028875126a0df7c906b2ca668896f5c7a405fa411b1b2f5f9da8e02013ae6b", func := "analemma/analemmalaw15.RootdTells", spec := "rootdTells", inPlace := ["math.Float64bits", "math.Float64frombits"], unfollowed := true, recurses := true, apart := false, narrowed := true }
def RootdTellsUptoSaid : Prop := rootdTellsUptoRow.holds Try.pinned (OpenSpec.upto rootdTellsSpec)

/-- 'analemmalaw13.SampleMakes', WHERE WHAT IT READS IS OF BULK AT MOST 1048576: true; the input reads as it did. -/
def sampleMakesUptoRow : OpenClaim := { program := "ytklfialdapljlaa", sum := "6d028875126a0df7c906b2ca668896f5c7a405fa411b1b2f5f9da8e02013ae6b", func := "analemma/analemmalaw13.SampleMakes", spec := "sampleMakes", inPlace := ["math.Float64bits", "math.Float64frombits"], unfollowed := true, recurses := true, apart := false, narrowed := true }
def SampleMakesUptoSaid : Prop := sampleMakesUptoRow.holds Try.pinned (OpenSpec.upto sampleMakesSpec)

/-- 'analemmalaw13.SampleTrue', WHERE WHAT IT READS IS OF BULK AT MOST 1048576: true; the input reads as it did. -/
def sampleTrueUptoRow : OpenClaim := { program := "ytklfialdapljlaa", sum := "6d028875126a0df7c906b2ca668896f5c7a405fa411b1b2f5f9da8e02013ae6b", func := "analemma/analemmalaw13.SampleTrue", spec := "sampleTrue", inPlace := ["math.Float64bits", "math.Float64frombits"], unfollowed := true, recurses := true, apart := false, narrowed := true }
def SampleTrueUptoSaid : Prop := sampleTrueUptoRow.holds Try.pinned (OpenSpec.upto sampleTrueSpec)

/-- 'analemmalaw18.CombineStays', WHERE WHAT IT READS IS OF BULK AT MOST 1048576: true; the input reads as it did. -/
def combineStaysUptoRow : OpenClaim := { program := "ytklfialdapljlaa", sum := "6d028875126a0df7c906b2ca668896f5c7a405fa411b1b2f5f9da8e02013ae6b", func := "analemma/analemmalaw18.CombineStays", spec := "combineStays", inPlace := ["math.Float64bits", "math.Float64frombits"], unfollowed := true, recurses := true, apart := false, narrowed := true }
def CombineStaysUptoSaid : Prop := combineStaysUptoRow.holds Try.pinned (OpenSpec.upto combineStaysSpec)

/-- 'analemmalaw15.RootdSorts', WHERE WHAT IT READS IS OF BULK AT MOST 1048576: true; the input reads as it did. -/
def rootdSortsUptoRow : OpenClaim := { program := "ytklfialdapljlaa", sum := "6d028875126a0df7c906b2ca668896f5c7a405fa411b1b2f5f9da8e02013ae6b", func := "analemma/analemmalaw15.RootdSorts", spec := "rootdSorts", inPlace := ["math.Float64bits", "math.Float64frombits"], unfollowed := true, recurses := true, apart := false, narrowed := true }
def RootdSortsUptoSaid : Prop := rootdSortsUptoRow.holds Try.pinned (OpenSpec.upto rootdSortsSpec)

/-- 'analemmalaw14.FilterOnce', WHERE WHAT IT READS IS OF BULK AT MOST 1048576: true; the input reads as it did. -/
def filterOnceUptoRow : OpenClaim := { program := "ytklfialdapljlaa", sum := "6d028875126a0df7c906b2ca668896f5c7a405fa411b1b2f5f9da8e02013ae6b", func := "analemma/analemmalaw14.FilterOnce", spec := "filterOnce", inPlace := ["math.Float64bits", "math.Float64frombits"], unfollowed := true, recurses := true, apart := false, narrowed := true }
def FilterOnceUptoSaid : Prop := filterOnceUptoRow.holds Try.pinned (OpenSpec.upto filterOnceSpec)

/-- 'analemmalaw14.FilterLeast', WHERE WHAT IT READS IS OF BULK AT MOST 1048576: true; the input reads as it did. -/
def filterLeastUptoRow : OpenClaim := { program := "ytklfialdapljlaa", sum := "6d028875126a0df7c906b2ca668896f5c7a405fa411b1b2f5f9da8e02013ae6b", func := "analemma/analemmalaw14.FilterLeast", spec := "filterLeast", inPlace := ["math.Float64bits", "math.Float64frombits"], unfollowed := true, recurses := true, apart := false, narrowed := true }
def FilterLeastUptoSaid : Prop := filterLeastUptoRow.holds Try.pinned (OpenSpec.upto filterLeastSpec)

/-- 'analemmalaw14.FilterQuiet', WHERE WHAT IT READS IS OF BULK AT MOST 1048576: true; the input reads as it did. -/
def filterQuietUptoRow : OpenClaim := { program := "ytklfialdapljlaa", sum := "6d028875126a0df7c906b2ca668896f5c7a405fa411b1b2f5f9da8e02013ae6b", func := "analemma/analemmalaw14.FilterQuiet", spec := "filterQuiet", inPlace := ["math.Float64bits", "math.Float64frombits"], unfollowed := true, recurses := true, apart := false, narrowed := true }
def FilterQuietUptoSaid : Prop := filterQuietUptoRow.holds Try.pinned (OpenSpec.upto filterQuietSpec)

end Rows
end Go.Proofs.Ytklfialdapljlaa
