/-
  No cell of these rows narrows 'for every input' (looked for: loops, veiled, ifaces, maps, wideKeys, modest, calm, conditions, laid).
  DERIVED. THE GIVEN ROWS OF THIS SEAT. 28 by the template 'for every input the law returns true; each argument reads behind the call as it read before'; 0 by the template 'total and deterministic' (their statements: YtgddfmfiiodgbaaTotals.lean).
  GIVEN WITH THE SEED: the statements are not yours to turn. If you find one false, say at which input.
  Laid BY PROGRAM, IN A SANDBOX (cutbox-rows.mjs): the forced cells as the released guide's own fill.sh prints them over the translation 0da0f468d9a80c3b… (all of the seat's roots in one cut). By AI agents, Wed Nov 11 2026. No macro, syntax, notation, axiom, sorry.
-/
import Derived.Test.YtgddfmfiiodgbaaChecked
import GoSem.Claim
import GoSem.ClaimJoined
import GoSem.ClaimMapViews
import Derived.JoinedTies
import Derived.KernelRfl
namespace Go.Proofs.Ytgddfmfiiodgbaa
/- THE CELL 'sum', in the pinned program and in every row, IS THE sha256 OF THE DUMP (.gsa) THAT YtgddfmfiiodgbaaProg.lean LOADS. Nothing in Lean hashes anything: it is a label: what it is worth is what the hold of that sum in a sandbox is worth. -/
noncomputable def Try.pinned : Pinned := { name := "ytgddfmfiiodgbaa", sum := "0da0f468d9a80c3b33001f3bae7e0a7827cbdb0feffd9ee87cff9d946ed1ed9c", checked := Try.checked }
namespace Rows
def none {H : Type} : Left H := { results := [], args := [] }

/-- 'garlandlaw11.SingleLargest': WHATEVER THE INPUT: true; the input reads as it did. -/
def singleLargestSpec : ChangeSpec := { name := "singleLargest", fn := fun _ => fun
  | [d1, d2] => { results := [.lit (.bool true)], args := [d1, d2] }
  | _ => none }
def singleLargestRow : OpenClaim := { program := "ytgddfmfiiodgbaa", sum := "0da0f468d9a80c3b33001f3bae7e0a7827cbdb0feffd9ee87cff9d946ed1ed9c", func := "garland/garlandlaw11.SingleLargest", spec := "singleLargest", unfollowed := true, recurses := true, apart := false }
def SingleLargestSaid : Prop := singleLargestRow.holds Try.pinned (OpenSpec.ofChange singleLargestSpec)

/-- ITS FALSE NEIGHBOUR: 'it returns false'. Refute it at one input. -/
def singleLargestWrong : ChangeSpec := { name := "singleLargest", fn := fun _ => fun
  | [d1, d2] => { results := [.lit (.bool false)], args := [d1, d2] }
  | _ => none }
def SingleLargestWrongFalsely : Prop := singleLargestRow.holds Try.pinned (OpenSpec.ofChange singleLargestWrong)

/-- 'garlandlaw11.SinglePaths': WHATEVER THE INPUT: true; the input reads as it did. -/
def singlePathsSpec : ChangeSpec := { name := "singlePaths", fn := fun _ => fun
  | [d1, d2, d3] => { results := [.lit (.bool true)], args := [d1, d2, d3] }
  | _ => none }
def singlePathsRow : OpenClaim := { program := "ytgddfmfiiodgbaa", sum := "0da0f468d9a80c3b33001f3bae7e0a7827cbdb0feffd9ee87cff9d946ed1ed9c", func := "garland/garlandlaw11.SinglePaths", spec := "singlePaths", unfollowed := true, recurses := true, apart := false }
def SinglePathsSaid : Prop := singlePathsRow.holds Try.pinned (OpenSpec.ofChange singlePathsSpec)

/-- ITS FALSE NEIGHBOUR: 'it returns false'. Refute it at one input. -/
def singlePathsWrong : ChangeSpec := { name := "singlePaths", fn := fun _ => fun
  | [d1, d2, d3] => { results := [.lit (.bool false)], args := [d1, d2, d3] }
  | _ => none }
def SinglePathsWrongFalsely : Prop := singlePathsRow.holds Try.pinned (OpenSpec.ofChange singlePathsWrong)

/-- 'garlandlaw11.SingleRefuses': WHATEVER THE INPUT: true; the input reads as it did. -/
def singleRefusesSpec : ChangeSpec := { name := "singleRefuses", fn := fun _ => fun
  | [d1, d2] => { results := [.lit (.bool true)], args := [d1, d2] }
  | _ => none }
def singleRefusesRow : OpenClaim := { program := "ytgddfmfiiodgbaa", sum := "0da0f468d9a80c3b33001f3bae7e0a7827cbdb0feffd9ee87cff9d946ed1ed9c", func := "garland/garlandlaw11.SingleRefuses", spec := "singleRefuses", unfollowed := true, recurses := true, apart := false }
def SingleRefusesSaid : Prop := singleRefusesRow.holds Try.pinned (OpenSpec.ofChange singleRefusesSpec)

/-- ITS FALSE NEIGHBOUR: 'it returns false'. Refute it at one input. -/
def singleRefusesWrong : ChangeSpec := { name := "singleRefuses", fn := fun _ => fun
  | [d1, d2] => { results := [.lit (.bool false)], args := [d1, d2] }
  | _ => none }
def SingleRefusesWrongFalsely : Prop := singleRefusesRow.holds Try.pinned (OpenSpec.ofChange singleRefusesWrong)

/-- 'garlandlaw11.SingleLong': WHATEVER THE INPUT: true; the input reads as it did. -/
def singleLongSpec : ChangeSpec := { name := "singleLong", fn := fun _ => fun
  | [d1, d2, d3] => { results := [.lit (.bool true)], args := [d1, d2, d3] }
  | _ => none }
def singleLongRow : OpenClaim := { program := "ytgddfmfiiodgbaa", sum := "0da0f468d9a80c3b33001f3bae7e0a7827cbdb0feffd9ee87cff9d946ed1ed9c", func := "garland/garlandlaw11.SingleLong", spec := "singleLong", unfollowed := true, recurses := true, apart := false }
def SingleLongSaid : Prop := singleLongRow.holds Try.pinned (OpenSpec.ofChange singleLongSpec)

/-- ITS FALSE NEIGHBOUR: 'it returns false'. Refute it at one input. -/
def singleLongWrong : ChangeSpec := { name := "singleLong", fn := fun _ => fun
  | [d1, d2, d3] => { results := [.lit (.bool false)], args := [d1, d2, d3] }
  | _ => none }
def SingleLongWrongFalsely : Prop := singleLongRow.holds Try.pinned (OpenSpec.ofChange singleLongWrong)

/-- 'garlandlaw11.SingleLabels': WHATEVER THE INPUT: true; the input reads as it did. -/
def singleLabelsSpec : ChangeSpec := { name := "singleLabels", fn := fun _ => fun
  | [d1, d2, d3, d4] => { results := [.lit (.bool true)], args := [d1, d2, d3, d4] }
  | _ => none }
def singleLabelsRow : OpenClaim := { program := "ytgddfmfiiodgbaa", sum := "0da0f468d9a80c3b33001f3bae7e0a7827cbdb0feffd9ee87cff9d946ed1ed9c", func := "garland/garlandlaw11.SingleLabels", spec := "singleLabels", unfollowed := true, recurses := true, apart := false }
def SingleLabelsSaid : Prop := singleLabelsRow.holds Try.pinned (OpenSpec.ofChange singleLabelsSpec)

/-- ITS FALSE NEIGHBOUR: 'it returns false'. Refute it at one input. -/
def singleLabelsWrong : ChangeSpec := { name := "singleLabels", fn := fun _ => fun
  | [d1, d2, d3, d4] => { results := [.lit (.bool false)], args := [d1, d2, d3, d4] }
  | _ => none }
def SingleLabelsWrongFalsely : Prop := singleLabelsRow.holds Try.pinned (OpenSpec.ofChange singleLabelsWrong)

/-- 'garlandlaw11.SingleStems': WHATEVER THE INPUT: true; the input reads as it did. -/
def singleStemsSpec : ChangeSpec := { name := "singleStems", fn := fun _ => fun
  | [d1, d2, d3] => { results := [.lit (.bool true)], args := [d1, d2, d3] }
  | _ => none }
def singleStemsRow : OpenClaim := { program := "ytgddfmfiiodgbaa", sum := "0da0f468d9a80c3b33001f3bae7e0a7827cbdb0feffd9ee87cff9d946ed1ed9c", func := "garland/garlandlaw11.SingleStems", spec := "singleStems", unfollowed := true, recurses := true, apart := false }
def SingleStemsSaid : Prop := singleStemsRow.holds Try.pinned (OpenSpec.ofChange singleStemsSpec)

/-- ITS FALSE NEIGHBOUR: 'it returns false'. Refute it at one input. -/
def singleStemsWrong : ChangeSpec := { name := "singleStems", fn := fun _ => fun
  | [d1, d2, d3] => { results := [.lit (.bool false)], args := [d1, d2, d3] }
  | _ => none }
def SingleStemsWrongFalsely : Prop := singleStemsRow.holds Try.pinned (OpenSpec.ofChange singleStemsWrong)

/-- 'garlandlaw11.SingleGrows': WHATEVER THE INPUT: true; the input reads as it did. -/
def singleGrowsSpec : ChangeSpec := { name := "singleGrows", fn := fun _ => fun
  | [d1, d2, d3] => { results := [.lit (.bool true)], args := [d1, d2, d3] }
  | _ => none }
def singleGrowsRow : OpenClaim := { program := "ytgddfmfiiodgbaa", sum := "0da0f468d9a80c3b33001f3bae7e0a7827cbdb0feffd9ee87cff9d946ed1ed9c", func := "garland/garlandlaw11.SingleGrows", spec := "singleGrows", unfollowed := true, recurses := true, apart := false }
def SingleGrowsSaid : Prop := singleGrowsRow.holds Try.pinned (OpenSpec.ofChange singleGrowsSpec)

/-- ITS FALSE NEIGHBOUR: 'it returns false'. Refute it at one input. -/
def singleGrowsWrong : ChangeSpec := { name := "singleGrows", fn := fun _ => fun
  | [d1, d2, d3] => { results := [.lit (.bool false)], args := [d1, d2, d3] }
  | _ => none }
def SingleGrowsWrongFalsely : Prop := singleGrowsRow.holds Try.pinned (OpenSpec.ofChange singleGrowsWrong)

/-- 'garlandlaw22.ClassifyLabels': WHATEVER THE INPUT: true; the input reads as it did. -/
def classifyLabelsSpec : ChangeSpec := { name := "classifyLabels", fn := fun _ => fun
  | [d1, d2] => { results := [.lit (.bool true)], args := [d1, d2] }
  | _ => none }
def classifyLabelsRow : OpenClaim := { program := "ytgddfmfiiodgbaa", sum := "0da0f468d9a80c3b33001f3bae7e0a7827cbdb0feffd9ee87cff9d946ed1ed9c", func := "garland/garlandlaw22.ClassifyLabels", spec := "classifyLabels", unfollowed := true, recurses := true, apart := false }
def ClassifyLabelsSaid : Prop := classifyLabelsRow.holds Try.pinned (OpenSpec.ofChange classifyLabelsSpec)

/-- ITS FALSE NEIGHBOUR: 'it returns false'. Refute it at one input. -/
def classifyLabelsWrong : ChangeSpec := { name := "classifyLabels", fn := fun _ => fun
  | [d1, d2] => { results := [.lit (.bool false)], args := [d1, d2] }
  | _ => none }
def ClassifyLabelsWrongFalsely : Prop := classifyLabelsRow.holds Try.pinned (OpenSpec.ofChange classifyLabelsWrong)

/-- 'garlandlaw22.ClassifyLong': WHATEVER THE INPUT: true; the input reads as it did. -/
def classifyLongSpec : ChangeSpec := { name := "classifyLong", fn := fun _ => fun
  | [d1, d2, d3, d4] => { results := [.lit (.bool true)], args := [d1, d2, d3, d4] }
  | _ => none }
def classifyLongRow : OpenClaim := { program := "ytgddfmfiiodgbaa", sum := "0da0f468d9a80c3b33001f3bae7e0a7827cbdb0feffd9ee87cff9d946ed1ed9c", func := "garland/garlandlaw22.ClassifyLong", spec := "classifyLong", unfollowed := true, recurses := true, apart := false }
def ClassifyLongSaid : Prop := classifyLongRow.holds Try.pinned (OpenSpec.ofChange classifyLongSpec)

/-- ITS FALSE NEIGHBOUR: 'it returns false'. Refute it at one input. -/
def classifyLongWrong : ChangeSpec := { name := "classifyLong", fn := fun _ => fun
  | [d1, d2, d3, d4] => { results := [.lit (.bool false)], args := [d1, d2, d3, d4] }
  | _ => none }
def ClassifyLongWrongFalsely : Prop := classifyLongRow.holds Try.pinned (OpenSpec.ofChange classifyLongWrong)

/-- 'garlandlaw22.ClassifyRounds': WHATEVER THE INPUT: true; the input reads as it did. -/
def classifyRoundsSpec : ChangeSpec := { name := "classifyRounds", fn := fun _ => fun
  | [d] => { results := [.lit (.bool true)], args := [d] }
  | _ => none }
def classifyRoundsRow : OpenClaim := { program := "ytgddfmfiiodgbaa", sum := "0da0f468d9a80c3b33001f3bae7e0a7827cbdb0feffd9ee87cff9d946ed1ed9c", func := "garland/garlandlaw22.ClassifyRounds", spec := "classifyRounds", unfollowed := true, recurses := true, apart := false }
def ClassifyRoundsSaid : Prop := classifyRoundsRow.holds Try.pinned (OpenSpec.ofChange classifyRoundsSpec)

/-- ITS FALSE NEIGHBOUR: 'it returns false'. Refute it at one input. -/
def classifyRoundsWrong : ChangeSpec := { name := "classifyRounds", fn := fun _ => fun
  | [d] => { results := [.lit (.bool false)], args := [d] }
  | _ => none }
def ClassifyRoundsWrongFalsely : Prop := classifyRoundsRow.holds Try.pinned (OpenSpec.ofChange classifyRoundsWrong)

/-- 'garlandlaw15.CriticalTells': WHATEVER THE INPUT: true; the input reads as it did. -/
def criticalTellsSpec : ChangeSpec := { name := "criticalTells", fn := fun _ => fun
  | [d1, d2, d3] => { results := [.lit (.bool true)], args := [d1, d2, d3] }
  | _ => none }
def criticalTellsRow : OpenClaim := { program := "ytgddfmfiiodgbaa", sum := "0da0f468d9a80c3b33001f3bae7e0a7827cbdb0feffd9ee87cff9d946ed1ed9c", func := "garland/garlandlaw15.CriticalTells", spec := "criticalTells", unfollowed := true, recurses := true, apart := false }
def CriticalTellsSaid : Prop := criticalTellsRow.holds Try.pinned (OpenSpec.ofChange criticalTellsSpec)

/-- ITS FALSE NEIGHBOUR: 'it returns false'. Refute it at one input. -/
def criticalTellsWrong : ChangeSpec := { name := "criticalTells", fn := fun _ => fun
  | [d1, d2, d3] => { results := [.lit (.bool false)], args := [d1, d2, d3] }
  | _ => none }
def CriticalTellsWrongFalsely : Prop := criticalTellsRow.holds Try.pinned (OpenSpec.ofChange criticalTellsWrong)

/-- 'garlandlaw15.CriticalEars': WHATEVER THE INPUT: true; the input reads as it did. -/
def criticalEarsSpec : ChangeSpec := { name := "criticalEars", fn := fun _ => fun
  | [d1, d2, d3, d4, d5] => { results := [.lit (.bool true)], args := [d1, d2, d3, d4, d5] }
  | _ => none }
def criticalEarsRow : OpenClaim := { program := "ytgddfmfiiodgbaa", sum := "0da0f468d9a80c3b33001f3bae7e0a7827cbdb0feffd9ee87cff9d946ed1ed9c", func := "garland/garlandlaw15.CriticalEars", spec := "criticalEars", unfollowed := true, recurses := true, apart := false }
def CriticalEarsSaid : Prop := criticalEarsRow.holds Try.pinned (OpenSpec.ofChange criticalEarsSpec)

/-- ITS FALSE NEIGHBOUR: 'it returns false'. Refute it at one input. -/
def criticalEarsWrong : ChangeSpec := { name := "criticalEars", fn := fun _ => fun
  | [d1, d2, d3, d4, d5] => { results := [.lit (.bool false)], args := [d1, d2, d3, d4, d5] }
  | _ => none }
def CriticalEarsWrongFalsely : Prop := criticalEarsRow.holds Try.pinned (OpenSpec.ofChange criticalEarsWrong)

/-- 'garlandlaw15.CriticalRefuses': WHATEVER THE INPUT: true; the input reads as it did. -/
def criticalRefusesSpec : ChangeSpec := { name := "criticalRefuses", fn := fun _ => fun
  | [d1, d2] => { results := [.lit (.bool true)], args := [d1, d2] }
  | _ => none }
def criticalRefusesRow : OpenClaim := { program := "ytgddfmfiiodgbaa", sum := "0da0f468d9a80c3b33001f3bae7e0a7827cbdb0feffd9ee87cff9d946ed1ed9c", func := "garland/garlandlaw15.CriticalRefuses", spec := "criticalRefuses", unfollowed := true, recurses := true, apart := false }
def CriticalRefusesSaid : Prop := criticalRefusesRow.holds Try.pinned (OpenSpec.ofChange criticalRefusesSpec)

/-- ITS FALSE NEIGHBOUR: 'it returns false'. Refute it at one input. -/
def criticalRefusesWrong : ChangeSpec := { name := "criticalRefuses", fn := fun _ => fun
  | [d1, d2] => { results := [.lit (.bool false)], args := [d1, d2] }
  | _ => none }
def CriticalRefusesWrongFalsely : Prop := criticalRefusesRow.holds Try.pinned (OpenSpec.ofChange criticalRefusesWrong)

/-- 'garlandlaw15.CriticalBeside': WHATEVER THE INPUT: true; the input reads as it did. -/
def criticalBesideSpec : ChangeSpec := { name := "criticalBeside", fn := fun _ => fun
  | [d1, d2, d3, d4, d5, d6] => { results := [.lit (.bool true)], args := [d1, d2, d3, d4, d5, d6] }
  | _ => none }
def criticalBesideRow : OpenClaim := { program := "ytgddfmfiiodgbaa", sum := "0da0f468d9a80c3b33001f3bae7e0a7827cbdb0feffd9ee87cff9d946ed1ed9c", func := "garland/garlandlaw15.CriticalBeside", spec := "criticalBeside", unfollowed := true, recurses := true, apart := false }
def CriticalBesideSaid : Prop := criticalBesideRow.holds Try.pinned (OpenSpec.ofChange criticalBesideSpec)

/-- ITS FALSE NEIGHBOUR: 'it returns false'. Refute it at one input. -/
def criticalBesideWrong : ChangeSpec := { name := "criticalBeside", fn := fun _ => fun
  | [d1, d2, d3, d4, d5, d6] => { results := [.lit (.bool false)], args := [d1, d2, d3, d4, d5, d6] }
  | _ => none }
def CriticalBesideWrongFalsely : Prop := criticalBesideRow.holds Try.pinned (OpenSpec.ofChange criticalBesideWrong)

/-- 'garlandlaw18.CoarseParts': WHATEVER THE INPUT: true; the input reads as it did. -/
def coarsePartsSpec : ChangeSpec := { name := "coarseParts", fn := fun _ => fun
  | [d1, d2, d3, d4] => { results := [.lit (.bool true)], args := [d1, d2, d3, d4] }
  | _ => none }
def coarsePartsRow : OpenClaim := { program := "ytgddfmfiiodgbaa", sum := "0da0f468d9a80c3b33001f3bae7e0a7827cbdb0feffd9ee87cff9d946ed1ed9c", func := "garland/garlandlaw18.CoarseParts", spec := "coarseParts", unfollowed := true, recurses := true, apart := false }
def CoarsePartsSaid : Prop := coarsePartsRow.holds Try.pinned (OpenSpec.ofChange coarsePartsSpec)

/-- ITS FALSE NEIGHBOUR: 'it returns false'. Refute it at one input. -/
def coarsePartsWrong : ChangeSpec := { name := "coarseParts", fn := fun _ => fun
  | [d1, d2, d3, d4] => { results := [.lit (.bool false)], args := [d1, d2, d3, d4] }
  | _ => none }
def CoarsePartsWrongFalsely : Prop := coarsePartsRow.holds Try.pinned (OpenSpec.ofChange coarsePartsWrong)

/-- 'garlandlaw18.CoarseJoined': WHATEVER THE INPUT: true; the input reads as it did. -/
def coarseJoinedSpec : ChangeSpec := { name := "coarseJoined", fn := fun _ => fun
  | [d1, d2, d3] => { results := [.lit (.bool true)], args := [d1, d2, d3] }
  | _ => none }
def coarseJoinedRow : OpenClaim := { program := "ytgddfmfiiodgbaa", sum := "0da0f468d9a80c3b33001f3bae7e0a7827cbdb0feffd9ee87cff9d946ed1ed9c", func := "garland/garlandlaw18.CoarseJoined", spec := "coarseJoined", unfollowed := true, recurses := true, apart := false }
def CoarseJoinedSaid : Prop := coarseJoinedRow.holds Try.pinned (OpenSpec.ofChange coarseJoinedSpec)

/-- ITS FALSE NEIGHBOUR: 'it returns false'. Refute it at one input. -/
def coarseJoinedWrong : ChangeSpec := { name := "coarseJoined", fn := fun _ => fun
  | [d1, d2, d3] => { results := [.lit (.bool false)], args := [d1, d2, d3] }
  | _ => none }
def CoarseJoinedWrongFalsely : Prop := coarseJoinedRow.holds Try.pinned (OpenSpec.ofChange coarseJoinedWrong)

/-- 'garlandlaw18.CoarseRefuses': WHATEVER THE INPUT: true; the input reads as it did. -/
def coarseRefusesSpec : ChangeSpec := { name := "coarseRefuses", fn := fun _ => fun
  | [d] => { results := [.lit (.bool true)], args := [d] }
  | _ => none }
def coarseRefusesRow : OpenClaim := { program := "ytgddfmfiiodgbaa", sum := "0da0f468d9a80c3b33001f3bae7e0a7827cbdb0feffd9ee87cff9d946ed1ed9c", func := "garland/garlandlaw18.CoarseRefuses", spec := "coarseRefuses", unfollowed := true, recurses := true, apart := false }
def CoarseRefusesSaid : Prop := coarseRefusesRow.holds Try.pinned (OpenSpec.ofChange coarseRefusesSpec)

/-- ITS FALSE NEIGHBOUR: 'it returns false'. Refute it at one input. -/
def coarseRefusesWrong : ChangeSpec := { name := "coarseRefuses", fn := fun _ => fun
  | [d] => { results := [.lit (.bool false)], args := [d] }
  | _ => none }
def CoarseRefusesWrongFalsely : Prop := coarseRefusesRow.holds Try.pinned (OpenSpec.ofChange coarseRefusesWrong)

/-- 'garlandlaw18.CoarseBeside': WHATEVER THE INPUT: true; the input reads as it did. -/
def coarseBesideSpec : ChangeSpec := { name := "coarseBeside", fn := fun _ => fun
  | [d1, d2, d3, d4, d5, d6] => { results := [.lit (.bool true)], args := [d1, d2, d3, d4, d5, d6] }
  | _ => none }
def coarseBesideRow : OpenClaim := { program := "ytgddfmfiiodgbaa", sum := "0da0f468d9a80c3b33001f3bae7e0a7827cbdb0feffd9ee87cff9d946ed1ed9c", func := "garland/garlandlaw18.CoarseBeside", spec := "coarseBeside", unfollowed := true, recurses := true, apart := false }
def CoarseBesideSaid : Prop := coarseBesideRow.holds Try.pinned (OpenSpec.ofChange coarseBesideSpec)

/-- ITS FALSE NEIGHBOUR: 'it returns false'. Refute it at one input. -/
def coarseBesideWrong : ChangeSpec := { name := "coarseBeside", fn := fun _ => fun
  | [d1, d2, d3, d4, d5, d6] => { results := [.lit (.bool false)], args := [d1, d2, d3, d4, d5, d6] }
  | _ => none }
def CoarseBesideWrongFalsely : Prop := coarseBesideRow.holds Try.pinned (OpenSpec.ofChange coarseBesideWrong)

/-- 'garlandlaw22.ClassifyShows': WHATEVER THE INPUT: true; the input reads as it did. -/
def classifyShowsSpec : ChangeSpec := { name := "classifyShows", fn := fun _ => fun
  | [d1, d2, d3, d4] => { results := [.lit (.bool true)], args := [d1, d2, d3, d4] }
  | _ => none }
def classifyShowsRow : OpenClaim := { program := "ytgddfmfiiodgbaa", sum := "0da0f468d9a80c3b33001f3bae7e0a7827cbdb0feffd9ee87cff9d946ed1ed9c", func := "garland/garlandlaw22.ClassifyShows", spec := "classifyShows", unfollowed := true, recurses := true, apart := false }
def ClassifyShowsSaid : Prop := classifyShowsRow.holds Try.pinned (OpenSpec.ofChange classifyShowsSpec)

/-- ITS FALSE NEIGHBOUR: 'it returns false'. Refute it at one input. -/
def classifyShowsWrong : ChangeSpec := { name := "classifyShows", fn := fun _ => fun
  | [d1, d2, d3, d4] => { results := [.lit (.bool false)], args := [d1, d2, d3, d4] }
  | _ => none }
def ClassifyShowsWrongFalsely : Prop := classifyShowsRow.holds Try.pinned (OpenSpec.ofChange classifyShowsWrong)

/-- 'garlandlaw17.KoenigPoor': WHATEVER THE INPUT: true; the input reads as it did. -/
def koenigPoorSpec : ChangeSpec := { name := "koenigPoor", fn := fun _ => fun
  | [d1, d2, d3, d4] => { results := [.lit (.bool true)], args := [d1, d2, d3, d4] }
  | _ => none }
def koenigPoorRow : OpenClaim := { program := "ytgddfmfiiodgbaa", sum := "0da0f468d9a80c3b33001f3bae7e0a7827cbdb0feffd9ee87cff9d946ed1ed9c", func := "garland/garlandlaw17.KoenigPoor", spec := "koenigPoor", unfollowed := true, recurses := true, apart := false }
def KoenigPoorSaid : Prop := koenigPoorRow.holds Try.pinned (OpenSpec.ofChange koenigPoorSpec)

/-- ITS FALSE NEIGHBOUR: 'it returns false'. Refute it at one input. -/
def koenigPoorWrong : ChangeSpec := { name := "koenigPoor", fn := fun _ => fun
  | [d1, d2, d3, d4] => { results := [.lit (.bool false)], args := [d1, d2, d3, d4] }
  | _ => none }
def KoenigPoorWrongFalsely : Prop := koenigPoorRow.holds Try.pinned (OpenSpec.ofChange koenigPoorWrong)

/-- 'garlandlaw17.KoenigHall': WHATEVER THE INPUT: true; the input reads as it did. -/
def koenigHallSpec : ChangeSpec := { name := "koenigHall", fn := fun _ => fun
  | [d1, d2, d3, d4] => { results := [.lit (.bool true)], args := [d1, d2, d3, d4] }
  | _ => none }
def koenigHallRow : OpenClaim := { program := "ytgddfmfiiodgbaa", sum := "0da0f468d9a80c3b33001f3bae7e0a7827cbdb0feffd9ee87cff9d946ed1ed9c", func := "garland/garlandlaw17.KoenigHall", spec := "koenigHall", unfollowed := true, recurses := true, apart := false }
def KoenigHallSaid : Prop := koenigHallRow.holds Try.pinned (OpenSpec.ofChange koenigHallSpec)

/-- ITS FALSE NEIGHBOUR: 'it returns false'. Refute it at one input. -/
def koenigHallWrong : ChangeSpec := { name := "koenigHall", fn := fun _ => fun
  | [d1, d2, d3, d4] => { results := [.lit (.bool false)], args := [d1, d2, d3, d4] }
  | _ => none }
def KoenigHallWrongFalsely : Prop := koenigHallRow.holds Try.pinned (OpenSpec.ofChange koenigHallWrong)

/-- 'garlandlaw17.KoenigLong': WHATEVER THE INPUT: true; the input reads as it did. -/
def koenigLongSpec : ChangeSpec := { name := "koenigLong", fn := fun _ => fun
  | [d1, d2, d3] => { results := [.lit (.bool true)], args := [d1, d2, d3] }
  | _ => none }
def koenigLongRow : OpenClaim := { program := "ytgddfmfiiodgbaa", sum := "0da0f468d9a80c3b33001f3bae7e0a7827cbdb0feffd9ee87cff9d946ed1ed9c", func := "garland/garlandlaw17.KoenigLong", spec := "koenigLong", unfollowed := true, recurses := true, apart := false }
def KoenigLongSaid : Prop := koenigLongRow.holds Try.pinned (OpenSpec.ofChange koenigLongSpec)

/-- ITS FALSE NEIGHBOUR: 'it returns false'. Refute it at one input. -/
def koenigLongWrong : ChangeSpec := { name := "koenigLong", fn := fun _ => fun
  | [d1, d2, d3] => { results := [.lit (.bool false)], args := [d1, d2, d3] }
  | _ => none }
def KoenigLongWrongFalsely : Prop := koenigLongRow.holds Try.pinned (OpenSpec.ofChange koenigLongWrong)

/-- 'garlandlaw17.KoenigCovers': WHATEVER THE INPUT: true; the input reads as it did. -/
def koenigCoversSpec : ChangeSpec := { name := "koenigCovers", fn := fun _ => fun
  | [d1, d2, d3] => { results := [.lit (.bool true)], args := [d1, d2, d3] }
  | _ => none }
def koenigCoversRow : OpenClaim := { program := "ytgddfmfiiodgbaa", sum := "0da0f468d9a80c3b33001f3bae7e0a7827cbdb0feffd9ee87cff9d946ed1ed9c", func := "garland/garlandlaw17.KoenigCovers", spec := "koenigCovers", unfollowed := true, recurses := true, apart := false }
def KoenigCoversSaid : Prop := koenigCoversRow.holds Try.pinned (OpenSpec.ofChange koenigCoversSpec)

/-- ITS FALSE NEIGHBOUR: 'it returns false'. Refute it at one input. -/
def koenigCoversWrong : ChangeSpec := { name := "koenigCovers", fn := fun _ => fun
  | [d1, d2, d3] => { results := [.lit (.bool false)], args := [d1, d2, d3] }
  | _ => none }
def KoenigCoversWrongFalsely : Prop := koenigCoversRow.holds Try.pinned (OpenSpec.ofChange koenigCoversWrong)

/-- 'garlandlaw17.KoenigTells': WHATEVER THE INPUT: true; the input reads as it did. -/
def koenigTellsSpec : ChangeSpec := { name := "koenigTells", fn := fun _ => fun
  | [d1, d2, d3] => { results := [.lit (.bool true)], args := [d1, d2, d3] }
  | _ => none }
def koenigTellsRow : OpenClaim := { program := "ytgddfmfiiodgbaa", sum := "0da0f468d9a80c3b33001f3bae7e0a7827cbdb0feffd9ee87cff9d946ed1ed9c", func := "garland/garlandlaw17.KoenigTells", spec := "koenigTells", unfollowed := true, recurses := true, apart := false }
def KoenigTellsSaid : Prop := koenigTellsRow.holds Try.pinned (OpenSpec.ofChange koenigTellsSpec)

/-- ITS FALSE NEIGHBOUR: 'it returns false'. Refute it at one input. -/
def koenigTellsWrong : ChangeSpec := { name := "koenigTells", fn := fun _ => fun
  | [d1, d2, d3] => { results := [.lit (.bool false)], args := [d1, d2, d3] }
  | _ => none }
def KoenigTellsWrongFalsely : Prop := koenigTellsRow.holds Try.pinned (OpenSpec.ofChange koenigTellsWrong)

/-- 'garlandlaw21.CoverTells': WHATEVER THE INPUT: true; the input reads as it did. -/
def coverTellsSpec : ChangeSpec := { name := "coverTells", fn := fun _ => fun
  | [d1, d2] => { results := [.lit (.bool true)], args := [d1, d2] }
  | _ => none }
def coverTellsRow : OpenClaim := { program := "ytgddfmfiiodgbaa", sum := "0da0f468d9a80c3b33001f3bae7e0a7827cbdb0feffd9ee87cff9d946ed1ed9c", func := "garland/garlandlaw21.CoverTells", spec := "coverTells", unfollowed := true, recurses := true, apart := false }
def CoverTellsSaid : Prop := coverTellsRow.holds Try.pinned (OpenSpec.ofChange coverTellsSpec)

/-- ITS FALSE NEIGHBOUR: 'it returns false'. Refute it at one input. -/
def coverTellsWrong : ChangeSpec := { name := "coverTells", fn := fun _ => fun
  | [d1, d2] => { results := [.lit (.bool false)], args := [d1, d2] }
  | _ => none }
def CoverTellsWrongFalsely : Prop := coverTellsRow.holds Try.pinned (OpenSpec.ofChange coverTellsWrong)

/-- 'garlandlaw21.CoverLeast': WHATEVER THE INPUT: true; the input reads as it did. -/
def coverLeastSpec : ChangeSpec := { name := "coverLeast", fn := fun _ => fun
  | [d1, d2, d3] => { results := [.lit (.bool true)], args := [d1, d2, d3] }
  | _ => none }
def coverLeastRow : OpenClaim := { program := "ytgddfmfiiodgbaa", sum := "0da0f468d9a80c3b33001f3bae7e0a7827cbdb0feffd9ee87cff9d946ed1ed9c", func := "garland/garlandlaw21.CoverLeast", spec := "coverLeast", unfollowed := true, recurses := true, apart := false }
def CoverLeastSaid : Prop := coverLeastRow.holds Try.pinned (OpenSpec.ofChange coverLeastSpec)

/-- ITS FALSE NEIGHBOUR: 'it returns false'. Refute it at one input. -/
def coverLeastWrong : ChangeSpec := { name := "coverLeast", fn := fun _ => fun
  | [d1, d2, d3] => { results := [.lit (.bool false)], args := [d1, d2, d3] }
  | _ => none }
def CoverLeastWrongFalsely : Prop := coverLeastRow.holds Try.pinned (OpenSpec.ofChange coverLeastWrong)

/-- 'garlandlaw21.CoverLong': WHATEVER THE INPUT: true; the input reads as it did. -/
def coverLongSpec : ChangeSpec := { name := "coverLong", fn := fun _ => fun
  | [d1, d2, d3] => { results := [.lit (.bool true)], args := [d1, d2, d3] }
  | _ => none }
def coverLongRow : OpenClaim := { program := "ytgddfmfiiodgbaa", sum := "0da0f468d9a80c3b33001f3bae7e0a7827cbdb0feffd9ee87cff9d946ed1ed9c", func := "garland/garlandlaw21.CoverLong", spec := "coverLong", unfollowed := true, recurses := true, apart := false }
def CoverLongSaid : Prop := coverLongRow.holds Try.pinned (OpenSpec.ofChange coverLongSpec)

/-- ITS FALSE NEIGHBOUR: 'it returns false'. Refute it at one input. -/
def coverLongWrong : ChangeSpec := { name := "coverLong", fn := fun _ => fun
  | [d1, d2, d3] => { results := [.lit (.bool false)], args := [d1, d2, d3] }
  | _ => none }
def CoverLongWrongFalsely : Prop := coverLongRow.holds Try.pinned (OpenSpec.ofChange coverLongWrong)

/-- 'garlandlaw21.CoverCycle': WHATEVER THE INPUT: true; the input reads as it did. -/
def coverCycleSpec : ChangeSpec := { name := "coverCycle", fn := fun _ => fun
  | [d1, d2] => { results := [.lit (.bool true)], args := [d1, d2] }
  | _ => none }
def coverCycleRow : OpenClaim := { program := "ytgddfmfiiodgbaa", sum := "0da0f468d9a80c3b33001f3bae7e0a7827cbdb0feffd9ee87cff9d946ed1ed9c", func := "garland/garlandlaw21.CoverCycle", spec := "coverCycle", unfollowed := true, recurses := true, apart := false }
def CoverCycleSaid : Prop := coverCycleRow.holds Try.pinned (OpenSpec.ofChange coverCycleSpec)

/-- ITS FALSE NEIGHBOUR: 'it returns false'. Refute it at one input. -/
def coverCycleWrong : ChangeSpec := { name := "coverCycle", fn := fun _ => fun
  | [d1, d2] => { results := [.lit (.bool false)], args := [d1, d2] }
  | _ => none }
def CoverCycleWrongFalsely : Prop := coverCycleRow.holds Try.pinned (OpenSpec.ofChange coverCycleWrong)

/- THE SECOND FORM. 'bulk': how many values and letters a reading holds, each counted each time it is reached (what is shared counts as often as it is met; a slice's spare places count too). A statement '..UptoSaid' is the law's where the arguments, and the package variables that the reading takes, are together of bulk at most 1048576: NARROWER than '..Said'. Prove '..Said' where nothing that the law and all that it calls make is longer than what came in: it says more and counts as full. Else prove '..UptoSaid'. A law counts once. -/
mutual
def uptoBulk {H : Type} : DataW H → Nat
  | .lit (.string bytes) => bytes.length + 1
  | .lit _ => 1
  | .nil => 1
  | .ptr d => uptoBulk d + 1
  | .slice elems spare => uptoBulkAll elems + uptoBulkAll spare + 1
  | .agg parts => uptoBulkAll parts + 1
  | .iface _ d => uptoBulk d + 1
  | .map entries => uptoBulkEntries entries + 1
  | .held _ => 1
def uptoBulkAll {H : Type} : List (DataW H) → Nat
  | [] => 0
  | d :: r => uptoBulk d + uptoBulkAll r
def uptoBulkEntries {H : Type} : List (Lit × DataW H) → Nat
  | [] => 0
  | x :: r => uptoBulkEntry x + uptoBulkEntries r
def uptoBulkEntry {H : Type} : Lit × DataW H → Nat
  | (.string bytes, d) => bytes.length + uptoBulk d + 1
  | (_, d) => uptoBulk d + 1
 end
def uptoSmall : (H : Type) → List (DataW H) → Bool := fun _ ds => decide (uptoBulkAll ds ≤ 1048576)
def OpenSpec.upto (s : _root_.Go.ChangeSpec) : _root_.Go.OpenSpec := { _root_.Go.OpenSpec.ofChange s with cond := some uptoSmall }

/-- 'garlandlaw11.SingleLargest', WHERE WHAT IT READS IS OF BULK AT MOST 1048576: true; the input reads as it did. -/
def singleLargestUptoRow : OpenClaim := { program := "ytgddfmfiiodgbaa", sum := "0da0f468d9a80c3b33001f3bae7e0a7827cbdb0feffd9ee87cff9d946ed1ed9c", func := "garland/garlandlaw11.SingleLargest", spec := "singleLargest", unfollowed := true, recurses := true, apart := false, narrowed := true }
def SingleLargestUptoSaid : Prop := singleLargestUptoRow.holds Try.pinned (OpenSpec.upto singleLargestSpec)

/-- 'garlandlaw11.SinglePaths', WHERE WHAT IT READS IS OF BULK AT MOST 1048576: true; the input reads as it did. -/
def singlePathsUptoRow : OpenClaim := { program := "ytgddfmfiiodgbaa", sum := "0da0f468d9a80c3b33001f3bae7e0a7827cbdb0feffd9ee87cff9d946ed1ed9c", func := "garland/garlandlaw11.SinglePaths", spec := "singlePaths", unfollowed := true, recurses := true, apart := false, narrowed := true }
def SinglePathsUptoSaid : Prop := singlePathsUptoRow.holds Try.pinned (OpenSpec.upto singlePathsSpec)

/-- 'garlandlaw11.SingleRefuses', WHERE WHAT IT READS IS OF BULK AT MOST 1048576: true; the input reads as it did. -/
def singleRefusesUptoRow : OpenClaim := { program := "ytgddfmfiiodgbaa", sum := "0da0f468d9a80c3b33001f3bae7e0a7827cbdb0feffd9ee87cff9d946ed1ed9c", func := "garland/garlandlaw11.SingleRefuses", spec := "singleRefuses", unfollowed := true, recurses := true, apart := false, narrowed := true }
def SingleRefusesUptoSaid : Prop := singleRefusesUptoRow.holds Try.pinned (OpenSpec.upto singleRefusesSpec)

/-- 'garlandlaw11.SingleLong', WHERE WHAT IT READS IS OF BULK AT MOST 1048576: true; the input reads as it did. -/
def singleLongUptoRow : OpenClaim := { program := "ytgddfmfiiodgbaa", sum := "0da0f468d9a80c3b33001f3bae7e0a7827cbdb0feffd9ee87cff9d946ed1ed9c", func := "garland/garlandlaw11.SingleLong", spec := "singleLong", unfollowed := true, recurses := true, apart := false, narrowed := true }
def SingleLongUptoSaid : Prop := singleLongUptoRow.holds Try.pinned (OpenSpec.upto singleLongSpec)

/-- 'garlandlaw11.SingleLabels', WHERE WHAT IT READS IS OF BULK AT MOST 1048576: true; the input reads as it did. -/
def singleLabelsUptoRow : OpenClaim := { program := "ytgddfmfiiodgbaa", sum := "0da0f468d9a80c3b33001f3bae7e0a7827cbdb0feffd9ee87cff9d946ed1ed9c", func := "garland/garlandlaw11.SingleLabels", spec := "singleLabels", unfollowed := true, recurses := true, apart := false, narrowed := true }
def SingleLabelsUptoSaid : Prop := singleLabelsUptoRow.holds Try.pinned (OpenSpec.upto singleLabelsSpec)

/-- 'garlandlaw11.SingleStems', WHERE WHAT IT READS IS OF BULK AT MOST 1048576: true; the input reads as it did. -/
def singleStemsUptoRow : OpenClaim := { program := "ytgddfmfiiodgbaa", sum := "0da0f468d9a80c3b33001f3bae7e0a7827cbdb0feffd9ee87cff9d946ed1ed9c", func := "garland/garlandlaw11.SingleStems", spec := "singleStems", unfollowed := true, recurses := true, apart := false, narrowed := true }
def SingleStemsUptoSaid : Prop := singleStemsUptoRow.holds Try.pinned (OpenSpec.upto singleStemsSpec)

/-- 'garlandlaw11.SingleGrows', WHERE WHAT IT READS IS OF BULK AT MOST 1048576: true; the input reads as it did. -/
def singleGrowsUptoRow : OpenClaim := { program := "ytgddfmfiiodgbaa", sum := "0da0f468d9a80c3b33001f3bae7e0a7827cbdb0feffd9ee87cff9d946ed1ed9c", func := "garland/garlandlaw11.SingleGrows", spec := "singleGrows", unfollowed := true, recurses := true, apart := false, narrowed := true }
def SingleGrowsUptoSaid : Prop := singleGrowsUptoRow.holds Try.pinned (OpenSpec.upto singleGrowsSpec)

/-- 'garlandlaw22.ClassifyLabels', WHERE WHAT IT READS IS OF BULK AT MOST 1048576: true; the input reads as it did. -/
def classifyLabelsUptoRow : OpenClaim := { program := "ytgddfmfiiodgbaa", sum := "0da0f468d9a80c3b33001f3bae7e0a7827cbdb0feffd9ee87cff9d946ed1ed9c", func := "garland/garlandlaw22.ClassifyLabels", spec := "classifyLabels", unfollowed := true, recurses := true, apart := false, narrowed := true }
def ClassifyLabelsUptoSaid : Prop := classifyLabelsUptoRow.holds Try.pinned (OpenSpec.upto classifyLabelsSpec)

/-- 'garlandlaw22.ClassifyLong', WHERE WHAT IT READS IS OF BULK AT MOST 1048576: true; the input reads as it did. -/
def classifyLongUptoRow : OpenClaim := { program := "ytgddfmfiiodgbaa", sum := "0da0f468d9a80c3b33001f3bae7e0a7827cbdb0feffd9ee87cff9d946ed1ed9c", func := "garland/garlandlaw22.ClassifyLong", spec := "classifyLong", unfollowed := true, recurses := true, apart := false, narrowed := true }
def ClassifyLongUptoSaid : Prop := classifyLongUptoRow.holds Try.pinned (OpenSpec.upto classifyLongSpec)

/-- 'garlandlaw22.ClassifyRounds', WHERE WHAT IT READS IS OF BULK AT MOST 1048576: true; the input reads as it did. -/
def classifyRoundsUptoRow : OpenClaim := { program := "ytgddfmfiiodgbaa", sum := "0da0f468d9a80c3b33001f3bae7e0a7827cbdb0feffd9ee87cff9d946ed1ed9c", func := "garland/garlandlaw22.ClassifyRounds", spec := "classifyRounds", unfollowed := true, recurses := true, apart := false, narrowed := true }
def ClassifyRoundsUptoSaid : Prop := classifyRoundsUptoRow.holds Try.pinned (OpenSpec.upto classifyRoundsSpec)

/-- 'garlandlaw15.CriticalTells', WHERE WHAT IT READS IS OF BULK AT MOST 1048576: true; the input reads as it did. -/
def criticalTellsUptoRow : OpenClaim := { program := "ytgddfmfiiodgbaa", sum := "0da0f468d9a80c3b33001f3bae7e0a7827cbdb0feffd9ee87cff9d946ed1ed9c", func := "garland/garlandlaw15.CriticalTells", spec := "criticalTells", unfollowed := true, recurses := true, apart := false, narrowed := true }
def CriticalTellsUptoSaid : Prop := criticalTellsUptoRow.holds Try.pinned (OpenSpec.upto criticalTellsSpec)

/-- 'garlandlaw15.CriticalEars', WHERE WHAT IT READS IS OF BULK AT MOST 1048576: true; the input reads as it did. -/
def criticalEarsUptoRow : OpenClaim := { program := "ytgddfmfiiodgbaa", sum := "0da0f468d9a80c3b33001f3bae7e0a7827cbdb0feffd9ee87cff9d946ed1ed9c", func := "garland/garlandlaw15.CriticalEars", spec := "criticalEars", unfollowed := true, recurses := true, apart := false, narrowed := true }
def CriticalEarsUptoSaid : Prop := criticalEarsUptoRow.holds Try.pinned (OpenSpec.upto criticalEarsSpec)

/-- 'garlandlaw15.CriticalRefuses', WHERE WHAT IT READS IS OF BULK AT MOST 1048576: true; the input reads as it did. -/
def criticalRefusesUptoRow : OpenClaim := { program := "ytgddfmfiiodgbaa", sum := "0da0f468d9a80c3b33001f3bae7e0a7827cbdb0feffd9ee87cff9d946ed1ed9c", func := "garland/garlandlaw15.CriticalRefuses", spec := "criticalRefuses", unfollowed := true, recurses := true, apart := false, narrowed := true }
def CriticalRefusesUptoSaid : Prop := criticalRefusesUptoRow.holds Try.pinned (OpenSpec.upto criticalRefusesSpec)

/-- 'garlandlaw15.CriticalBeside', WHERE WHAT IT READS IS OF BULK AT MOST 1048576: true; the input reads as it did. -/
def criticalBesideUptoRow : OpenClaim := { program := "ytgddfmfiiodgbaa", sum := "0da0f468d9a80c3b33001f3bae7e0a7827cbdb0feffd9ee87cff9d946ed1ed9c", func := "garland/garlandlaw15.CriticalBeside", spec := "criticalBeside", unfollowed := true, recurses := true, apart := false, narrowed := true }
def CriticalBesideUptoSaid : Prop := criticalBesideUptoRow.holds Try.pinned (OpenSpec.upto criticalBesideSpec)

/-- 'garlandlaw18.CoarseParts', WHERE WHAT IT READS IS OF BULK AT MOST 1048576: true; the input reads as it did. -/
def coarsePartsUptoRow : OpenClaim := { program := "ytgddfmfiiodgbaa", sum := "0da0f468d9a80c3b33001f3bae7e0a7827cbdb0feffd9ee87cff9d946ed1ed9c", func := "garland/garlandlaw18.CoarseParts", spec := "coarseParts", unfollowed := true, recurses := true, apart := false, narrowed := true }
def CoarsePartsUptoSaid : Prop := coarsePartsUptoRow.holds Try.pinned (OpenSpec.upto coarsePartsSpec)

/-- 'garlandlaw18.CoarseJoined', WHERE WHAT IT READS IS OF BULK AT MOST 1048576: true; the input reads as it did. -/
def coarseJoinedUptoRow : OpenClaim := { program := "ytgddfmfiiodgbaa", sum := "0da0f468d9a80c3b33001f3bae7e0a7827cbdb0feffd9ee87cff9d946ed1ed9c", func := "garland/garlandlaw18.CoarseJoined", spec := "coarseJoined", unfollowed := true, recurses := true, apart := false, narrowed := true }
def CoarseJoinedUptoSaid : Prop := coarseJoinedUptoRow.holds Try.pinned (OpenSpec.upto coarseJoinedSpec)

/-- 'garlandlaw18.CoarseRefuses', WHERE WHAT IT READS IS OF BULK AT MOST 1048576: true; the input reads as it did. -/
def coarseRefusesUptoRow : OpenClaim := { program := "ytgddfmfiiodgbaa", sum := "0da0f468d9a80c3b33001f3bae7e0a7827cbdb0feffd9ee87cff9d946ed1ed9c", func := "garland/garlandlaw18.CoarseRefuses", spec := "coarseRefuses", unfollowed := true, recurses := true, apart := false, narrowed := true }
def CoarseRefusesUptoSaid : Prop := coarseRefusesUptoRow.holds Try.pinned (OpenSpec.upto coarseRefusesSpec)

/-- 'garlandlaw18.CoarseBeside', WHERE WHAT IT READS IS OF BULK AT MOST 1048576: true; the input reads as it did. -/
def coarseBesideUptoRow : OpenClaim := { program := "ytgddfmfiiodgbaa", sum := "0da0f468d9a80c3b33001f3bae7e0a7827cbdb0feffd9ee87cff9d946ed1ed9c", func := "garland/garlandlaw18.CoarseBeside", spec := "coarseBeside", unfollowed := true, recurses := true, apart := false, narrowed := true }
def CoarseBesideUptoSaid : Prop := coarseBesideUptoRow.holds Try.pinned (OpenSpec.upto coarseBesideSpec)

/-- 'garlandlaw22.ClassifyShows', WHERE WHAT IT READS IS OF BULK AT MOST 1048576: true; the input reads as it did. -/
def classifyShowsUptoRow : OpenClaim := { program := "ytgddfmfiiodgbaa", sum := "0da0f468d9a80c3b33001f3bae7e0a7827cbdb0feffd9ee87cff9d946ed1ed9c", func := "garland/garlandlaw22.ClassifyShows", spec := "classifyShows", unfollowed := true, recurses := true, apart := false, narrowed := true }
def ClassifyShowsUptoSaid : Prop := classifyShowsUptoRow.holds Try.pinned (OpenSpec.upto classifyShowsSpec)

/-- 'garlandlaw17.KoenigPoor', WHERE WHAT IT READS IS OF BULK AT MOST 1048576: true; the input reads as it did. -/
def koenigPoorUptoRow : OpenClaim := { program := "ytgddfmfiiodgbaa", sum := "0da0f468d9a80c3b33001f3bae7e0a7827cbdb0feffd9ee87cff9d946ed1ed9c", func := "garland/garlandlaw17.KoenigPoor", spec := "koenigPoor", unfollowed := true, recurses := true, apart := false, narrowed := true }
def KoenigPoorUptoSaid : Prop := koenigPoorUptoRow.holds Try.pinned (OpenSpec.upto koenigPoorSpec)

/-- 'garlandlaw17.KoenigHall', WHERE WHAT IT READS IS OF BULK AT MOST 1048576: true; the input reads as it did. -/
def koenigHallUptoRow : OpenClaim := { program := "ytgddfmfiiodgbaa", sum := "0da0f468d9a80c3b33001f3bae7e0a7827cbdb0feffd9ee87cff9d946ed1ed9c", func := "garland/garlandlaw17.KoenigHall", spec := "koenigHall", unfollowed := true, recurses := true, apart := false, narrowed := true }
def KoenigHallUptoSaid : Prop := koenigHallUptoRow.holds Try.pinned (OpenSpec.upto koenigHallSpec)

/-- 'garlandlaw17.KoenigLong', WHERE WHAT IT READS IS OF BULK AT MOST 1048576: true; the input reads as it did. -/
def koenigLongUptoRow : OpenClaim := { program := "ytgddfmfiiodgbaa", sum := "0da0f468d9a80c3b33001f3bae7e0a7827cbdb0feffd9ee87cff9d946ed1ed9c", func := "garland/garlandlaw17.KoenigLong", spec := "koenigLong", unfollowed := true, recurses := true, apart := false, narrowed := true }
def KoenigLongUptoSaid : Prop := koenigLongUptoRow.holds Try.pinned (OpenSpec.upto koenigLongSpec)

/-- 'garlandlaw17.KoenigCovers', WHERE WHAT IT READS IS OF BULK AT MOST 1048576: true; the input reads as it did. -/
def koenigCoversUptoRow : OpenClaim := { program := "ytgddfmfiiodgbaa", sum := "0da0f468d9a80c3b33001f3bae7e0a7827cbdb0feffd9ee87cff9d946ed1ed9c", func := "garland/garlandlaw17.KoenigCovers", spec := "koenigCovers", unfollowed := true, recurses := true, apart := false, narrowed := true }
def KoenigCoversUptoSaid : Prop := koenigCoversUptoRow.holds Try.pinned (OpenSpec.upto koenigCoversSpec)

/-- 'garlandlaw17.KoenigTells', WHERE WHAT IT READS IS OF BULK AT MOST 1048576: true; the input reads as it did. -/
def koenigTellsUptoRow : OpenClaim := { program := "ytgddfmfiiodgbaa", sum := "0da0f468d9a80c3b33001f3bae7e0a7827cbdb0feffd9ee87cff9d946ed1ed9c", func := "garland/garlandlaw17.KoenigTells", spec := "koenigTells", unfollowed := true, recurses := true, apart := false, narrowed := true }
def KoenigTellsUptoSaid : Prop := koenigTellsUptoRow.holds Try.pinned (OpenSpec.upto koenigTellsSpec)

/-- 'garlandlaw21.CoverTells', WHERE WHAT IT READS IS OF BULK AT MOST 1048576: true; the input reads as it did. -/
def coverTellsUptoRow : OpenClaim := { program := "ytgddfmfiiodgbaa", sum := "0da0f468d9a80c3b33001f3bae7e0a7827cbdb0feffd9ee87cff9d946ed1ed9c", func := "garland/garlandlaw21.CoverTells", spec := "coverTells", unfollowed := true, recurses := true, apart := false, narrowed := true }
def CoverTellsUptoSaid : Prop := coverTellsUptoRow.holds Try.pinned (OpenSpec.upto coverTellsSpec)

/-- 'garlandlaw21.CoverLeast', WHERE WHAT IT READS IS OF BULK AT MOST 1048576: true; the input reads as it did. -/
def coverLeastUptoRow : OpenClaim := { program := "ytgddfmfiiodgbaa", sum := "0da0f468d9a80c3b33001f3bae7e0a7827cbdb0feffd9ee87cff9d946ed1ed9c", func := "garland/garlandlaw21.CoverLeast", spec := "coverLeast", unfollowed := true, recurses := true, apart := false, narrowed := true }
def CoverLeastUptoSaid : Prop := coverLeastUptoRow.holds Try.pinned (OpenSpec.upto coverLeastSpec)

/-- 'garlandlaw21.CoverLong', WHERE WHAT IT READS IS OF BULK AT MOST 1048576: true; the input reads as it did. -/
def coverLongUptoRow : OpenClaim := { program := "ytgddfmfiiodgbaa", sum := "0da0f468d9a80c3b33001f3bae7e0a7827cbdb0feffd9ee87cff9d946ed1ed9c", func := "garland/garlandlaw21.CoverLong", spec := "coverLong", unfollowed := true, recurses := true, apart := false, narrowed := true }
def CoverLongUptoSaid : Prop := coverLongUptoRow.holds Try.pinned (OpenSpec.upto coverLongSpec)

/-- 'garlandlaw21.CoverCycle', WHERE WHAT IT READS IS OF BULK AT MOST 1048576: true; the input reads as it did. -/
def coverCycleUptoRow : OpenClaim := { program := "ytgddfmfiiodgbaa", sum := "0da0f468d9a80c3b33001f3bae7e0a7827cbdb0feffd9ee87cff9d946ed1ed9c", func := "garland/garlandlaw21.CoverCycle", spec := "coverCycle", unfollowed := true, recurses := true, apart := false, narrowed := true }
def CoverCycleUptoSaid : Prop := coverCycleUptoRow.holds Try.pinned (OpenSpec.upto coverCycleSpec)

end Rows
end Go.Proofs.Ytgddfmfiiodgbaa
