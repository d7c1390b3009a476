/-
  No cell of these rows narrows 'for every input' (looked for: loops, veiled, ifaces, maps, wideKeys, modest, calm, conditions, laid).
  DERIVED. THE GIVEN ROWS OF THIS SEAT. 12 by the template 'for every input the law returns true; each argument reads behind the call as it read before'; 0 by the template 'total and deterministic' (their statements: YtglhdoibglafbaaTotals.lean).
  GIVEN WITH THE SEED: the statements are not yours to turn. If you find one false, say at which input.
  Laid BY PROGRAM, IN A SANDBOX (cutbox-rows.mjs): the forced cells as the released guide's own fill.sh prints them over the translation 96dc2444cddd8263… (all of the seat's roots in one cut). By AI agents, Wed Nov 11 2026. No macro, syntax, notation, axiom, sorry.
-/
import Derived.Test.YtglhdoibglafbaaChecked
import GoSem.Claim
import GoSem.ClaimJoined
import GoSem.ClaimMapViews
import Derived.JoinedTies
import Derived.KernelRfl
namespace Go.Proofs.Ytglhdoibglafbaa
/- THE CELL 'sum', in the pinned program and in every row, IS THE sha256 OF THE DUMP (.gsa) THAT YtglhdoibglafbaaProg.lean LOADS. Nothing in Lean hashes anything: it is a label: what it is worth is what the hold of that sum in a sandbox is worth. -/
noncomputable def Try.pinned : Pinned := { name := "ytglhdoibglafbaa", sum := "96dc2444cddd82630334afdff59a5d88d8b2cfc0d561e75244e5e4397bb3f5bc", checked := Try.checked }
namespace Rows
def none {H : Type} : Left H := { results := [], args := [] }

/-- 'garlandlaw24.GadgetLarge': WHATEVER THE INPUT: true; the input reads as it did. -/
def gadgetLargeSpec : ChangeSpec := { name := "gadgetLarge", fn := fun _ => fun
  | [d1, d2] => { results := [.lit (.bool true)], args := [d1, d2] }
  | _ => none }
def gadgetLargeRow : OpenClaim := { program := "ytglhdoibglafbaa", sum := "96dc2444cddd82630334afdff59a5d88d8b2cfc0d561e75244e5e4397bb3f5bc", func := "garland/garlandlaw24.GadgetLarge", spec := "gadgetLarge", unfollowed := true, recurses := true, plainKeys := false, apart := false }
def GadgetLargeSaid : Prop := gadgetLargeRow.holds Try.pinned (OpenSpec.ofChange gadgetLargeSpec)

/-- ITS FALSE NEIGHBOUR: 'it returns false'. Refute it at one input. -/
def gadgetLargeWrong : ChangeSpec := { name := "gadgetLarge", fn := fun _ => fun
  | [d1, d2] => { results := [.lit (.bool false)], args := [d1, d2] }
  | _ => none }
def GadgetLargeWrongFalsely : Prop := gadgetLargeRow.holds Try.pinned (OpenSpec.ofChange gadgetLargeWrong)

/-- 'garlandlaw07.QueueTurns': WHATEVER THE INPUT: true; the input reads as it did. -/
def queueTurnsSpec : ChangeSpec := { name := "queueTurns", fn := fun _ => fun
  | [d1, d2] => { results := [.lit (.bool true)], args := [d1, d2] }
  | _ => none }
def queueTurnsRow : OpenClaim := { program := "ytglhdoibglafbaa", sum := "96dc2444cddd82630334afdff59a5d88d8b2cfc0d561e75244e5e4397bb3f5bc", func := "garland/garlandlaw07.QueueTurns", spec := "queueTurns", unfollowed := true, recurses := true, plainKeys := false, apart := false }
def QueueTurnsSaid : Prop := queueTurnsRow.holds Try.pinned (OpenSpec.ofChange queueTurnsSpec)

/-- ITS FALSE NEIGHBOUR: 'it returns false'. Refute it at one input. -/
def queueTurnsWrong : ChangeSpec := { name := "queueTurns", fn := fun _ => fun
  | [d1, d2] => { results := [.lit (.bool false)], args := [d1, d2] }
  | _ => none }
def QueueTurnsWrongFalsely : Prop := queueTurnsRow.holds Try.pinned (OpenSpec.ofChange queueTurnsWrong)

/-- 'garlandlaw02.GraphMakes': WHATEVER THE INPUT: true; the input reads as it did. -/
def graphMakesSpec : ChangeSpec := { name := "graphMakes", fn := fun _ => fun
  | [d1, d2] => { results := [.lit (.bool true)], args := [d1, d2] }
  | _ => none }
def graphMakesRow : OpenClaim := { program := "ytglhdoibglafbaa", sum := "96dc2444cddd82630334afdff59a5d88d8b2cfc0d561e75244e5e4397bb3f5bc", func := "garland/garlandlaw02.GraphMakes", spec := "graphMakes", unfollowed := true, recurses := true, plainKeys := false, apart := false }
def GraphMakesSaid : Prop := graphMakesRow.holds Try.pinned (OpenSpec.ofChange graphMakesSpec)

/-- ITS FALSE NEIGHBOUR: 'it returns false'. Refute it at one input. -/
def graphMakesWrong : ChangeSpec := { name := "graphMakes", fn := fun _ => fun
  | [d1, d2] => { results := [.lit (.bool false)], args := [d1, d2] }
  | _ => none }
def GraphMakesWrongFalsely : Prop := graphMakesRow.holds Try.pinned (OpenSpec.ofChange graphMakesWrong)

/-- 'garlandlaw02.GraphTells': WHATEVER THE INPUT: true; the input reads as it did. -/
def graphTellsSpec : ChangeSpec := { name := "graphTells", fn := fun _ => fun
  | [d1, d2, d3] => { results := [.lit (.bool true)], args := [d1, d2, d3] }
  | _ => none }
def graphTellsRow : OpenClaim := { program := "ytglhdoibglafbaa", sum := "96dc2444cddd82630334afdff59a5d88d8b2cfc0d561e75244e5e4397bb3f5bc", func := "garland/garlandlaw02.GraphTells", spec := "graphTells", unfollowed := true, recurses := true, plainKeys := false, apart := false }
def GraphTellsSaid : Prop := graphTellsRow.holds Try.pinned (OpenSpec.ofChange graphTellsSpec)

/-- ITS FALSE NEIGHBOUR: 'it returns false'. Refute it at one input. -/
def graphTellsWrong : ChangeSpec := { name := "graphTells", fn := fun _ => fun
  | [d1, d2, d3] => { results := [.lit (.bool false)], args := [d1, d2, d3] }
  | _ => none }
def GraphTellsWrongFalsely : Prop := graphTellsRow.holds Try.pinned (OpenSpec.ofChange graphTellsWrong)

/-- 'garlandlaw02.GraphDegrees': WHATEVER THE INPUT: true; the input reads as it did. -/
def graphDegreesSpec : ChangeSpec := { name := "graphDegrees", fn := fun _ => fun
  | [d1, d2] => { results := [.lit (.bool true)], args := [d1, d2] }
  | _ => none }
def graphDegreesRow : OpenClaim := { program := "ytglhdoibglafbaa", sum := "96dc2444cddd82630334afdff59a5d88d8b2cfc0d561e75244e5e4397bb3f5bc", func := "garland/garlandlaw02.GraphDegrees", spec := "graphDegrees", unfollowed := true, recurses := true, plainKeys := false, apart := false }
def GraphDegreesSaid : Prop := graphDegreesRow.holds Try.pinned (OpenSpec.ofChange graphDegreesSpec)

/-- ITS FALSE NEIGHBOUR: 'it returns false'. Refute it at one input. -/
def graphDegreesWrong : ChangeSpec := { name := "graphDegrees", fn := fun _ => fun
  | [d1, d2] => { results := [.lit (.bool false)], args := [d1, d2] }
  | _ => none }
def GraphDegreesWrongFalsely : Prop := graphDegreesRow.holds Try.pinned (OpenSpec.ofChange graphDegreesWrong)

/-- 'garlandlaw24.GadgetTells': WHATEVER THE INPUT: true; the input reads as it did. -/
def gadgetTellsSpec : ChangeSpec := { name := "gadgetTells", fn := fun _ => fun
  | [d1, d2] => { results := [.lit (.bool true)], args := [d1, d2] }
  | _ => none }
def gadgetTellsRow : OpenClaim := { program := "ytglhdoibglafbaa", sum := "96dc2444cddd82630334afdff59a5d88d8b2cfc0d561e75244e5e4397bb3f5bc", func := "garland/garlandlaw24.GadgetTells", spec := "gadgetTells", unfollowed := true, recurses := true, plainKeys := false, apart := false }
def GadgetTellsSaid : Prop := gadgetTellsRow.holds Try.pinned (OpenSpec.ofChange gadgetTellsSpec)

/-- ITS FALSE NEIGHBOUR: 'it returns false'. Refute it at one input. -/
def gadgetTellsWrong : ChangeSpec := { name := "gadgetTells", fn := fun _ => fun
  | [d1, d2] => { results := [.lit (.bool false)], args := [d1, d2] }
  | _ => none }
def GadgetTellsWrongFalsely : Prop := gadgetTellsRow.holds Try.pinned (OpenSpec.ofChange gadgetTellsWrong)

/-- 'garlandlaw24.GadgetPlaces': WHATEVER THE INPUT: true; the input reads as it did. -/
def gadgetPlacesSpec : ChangeSpec := { name := "gadgetPlaces", fn := fun _ => fun
  | [d1, d2, d3] => { results := [.lit (.bool true)], args := [d1, d2, d3] }
  | _ => none }
def gadgetPlacesRow : OpenClaim := { program := "ytglhdoibglafbaa", sum := "96dc2444cddd82630334afdff59a5d88d8b2cfc0d561e75244e5e4397bb3f5bc", func := "garland/garlandlaw24.GadgetPlaces", spec := "gadgetPlaces", unfollowed := true, recurses := true, plainKeys := false, apart := false }
def GadgetPlacesSaid : Prop := gadgetPlacesRow.holds Try.pinned (OpenSpec.ofChange gadgetPlacesSpec)

/-- ITS FALSE NEIGHBOUR: 'it returns false'. Refute it at one input. -/
def gadgetPlacesWrong : ChangeSpec := { name := "gadgetPlaces", fn := fun _ => fun
  | [d1, d2, d3] => { results := [.lit (.bool false)], args := [d1, d2, d3] }
  | _ => none }
def GadgetPlacesWrongFalsely : Prop := gadgetPlacesRow.holds Try.pinned (OpenSpec.ofChange gadgetPlacesWrong)

/-- 'garlandlaw07.QueueSorts': WHATEVER THE INPUT: true; the input reads as it did. -/
def queueSortsSpec : ChangeSpec := { name := "queueSorts", fn := fun _ => fun
  | [d] => { results := [.lit (.bool true)], args := [d] }
  | _ => none }
def queueSortsRow : OpenClaim := { program := "ytglhdoibglafbaa", sum := "96dc2444cddd82630334afdff59a5d88d8b2cfc0d561e75244e5e4397bb3f5bc", func := "garland/garlandlaw07.QueueSorts", spec := "queueSorts", unfollowed := true, recurses := true, plainKeys := false, apart := false }
def QueueSortsSaid : Prop := queueSortsRow.holds Try.pinned (OpenSpec.ofChange queueSortsSpec)

/-- ITS FALSE NEIGHBOUR: 'it returns false'. Refute it at one input. -/
def queueSortsWrong : ChangeSpec := { name := "queueSorts", fn := fun _ => fun
  | [d] => { results := [.lit (.bool false)], args := [d] }
  | _ => none }
def QueueSortsWrongFalsely : Prop := queueSortsRow.holds Try.pinned (OpenSpec.ofChange queueSortsWrong)

/-- 'garlandlaw02.GraphLimits': WHATEVER THE INPUT: true; the input reads as it did. -/
def graphLimitsSpec : ChangeSpec := { name := "graphLimits", fn := fun _ => fun
  | [d] => { results := [.lit (.bool true)], args := [d] }
  | _ => none }
def graphLimitsRow : OpenClaim := { program := "ytglhdoibglafbaa", sum := "96dc2444cddd82630334afdff59a5d88d8b2cfc0d561e75244e5e4397bb3f5bc", func := "garland/garlandlaw02.GraphLimits", spec := "graphLimits", inPlace := ["slices.overlaps[garland/api.Edge]"], unfollowed := true, recurses := true, plainKeys := false, apart := false }
def GraphLimitsSaid : Prop := graphLimitsRow.holds Try.pinned (OpenSpec.ofChange graphLimitsSpec)

/-- ITS FALSE NEIGHBOUR: 'it returns false'. Refute it at one input. -/
def graphLimitsWrong : ChangeSpec := { name := "graphLimits", fn := fun _ => fun
  | [d] => { results := [.lit (.bool false)], args := [d] }
  | _ => none }
def GraphLimitsWrongFalsely : Prop := graphLimitsRow.holds Try.pinned (OpenSpec.ofChange graphLimitsWrong)

/-- 'garlandlaw02.GraphChanges': WHATEVER THE INPUT: true; the input reads as it did. -/
def graphChangesSpec : ChangeSpec := { name := "graphChanges", fn := fun _ => fun
  | [d1, d2, d3] => { results := [.lit (.bool true)], args := [d1, d2, d3] }
  | _ => none }
def graphChangesRow : OpenClaim := { program := "ytglhdoibglafbaa", sum := "96dc2444cddd82630334afdff59a5d88d8b2cfc0d561e75244e5e4397bb3f5bc", func := "garland/garlandlaw02.GraphChanges", spec := "graphChanges", inPlace := ["slices.overlaps[garland/api.Edge]"], unfollowed := true, recurses := true, plainKeys := false, apart := false }
def GraphChangesSaid : Prop := graphChangesRow.holds Try.pinned (OpenSpec.ofChange graphChangesSpec)

/-- ITS FALSE NEIGHBOUR: 'it returns false'. Refute it at one input. -/
def graphChangesWrong : ChangeSpec := { name := "graphChanges", fn := fun _ => fun
  | [d1, d2, d3] => { results := [.lit (.bool false)], args := [d1, d2, d3] }
  | _ => none }
def GraphChangesWrongFalsely : Prop := graphChangesRow.holds Try.pinned (OpenSpec.ofChange graphChangesWrong)

/-- 'garlandlaw02.GraphWrong': WHATEVER THE INPUT: true; the input reads as it did. -/
def graphWrongSpec : ChangeSpec := { name := "graphWrong", fn := fun _ => fun
  | [d1, d2, d3, d4] => { results := [.lit (.bool true)], args := [d1, d2, d3, d4] }
  | _ => none }
def graphWrongRow : OpenClaim := { program := "ytglhdoibglafbaa", sum := "96dc2444cddd82630334afdff59a5d88d8b2cfc0d561e75244e5e4397bb3f5bc", func := "garland/garlandlaw02.GraphWrong", spec := "graphWrong", inPlace := ["slices.overlaps[garland/api.Edge]"], unfollowed := true, recurses := true, plainKeys := false, apart := false }
def GraphWrongSaid : Prop := graphWrongRow.holds Try.pinned (OpenSpec.ofChange graphWrongSpec)

/-- ITS FALSE NEIGHBOUR: 'it returns false'. Refute it at one input. -/
def graphWrongWrong : ChangeSpec := { name := "graphWrong", fn := fun _ => fun
  | [d1, d2, d3, d4] => { results := [.lit (.bool false)], args := [d1, d2, d3, d4] }
  | _ => none }
def GraphWrongWrongFalsely : Prop := graphWrongRow.holds Try.pinned (OpenSpec.ofChange graphWrongWrong)

/-- 'garlandlaw02.GraphBack': WHATEVER THE INPUT: true; the input reads as it did. -/
def graphBackSpec : ChangeSpec := { name := "graphBack", fn := fun _ => fun
  | [d1, d2, d3, d4, d5] => { results := [.lit (.bool true)], args := [d1, d2, d3, d4, d5] }
  | _ => none }
def graphBackRow : OpenClaim := { program := "ytglhdoibglafbaa", sum := "96dc2444cddd82630334afdff59a5d88d8b2cfc0d561e75244e5e4397bb3f5bc", func := "garland/garlandlaw02.GraphBack", spec := "graphBack", inPlace := ["slices.overlaps[garland/api.Edge]"], unfollowed := true, recurses := true, plainKeys := false, apart := false }
def GraphBackSaid : Prop := graphBackRow.holds Try.pinned (OpenSpec.ofChange graphBackSpec)

/-- ITS FALSE NEIGHBOUR: 'it returns false'. Refute it at one input. -/
def graphBackWrong : ChangeSpec := { name := "graphBack", fn := fun _ => fun
  | [d1, d2, d3, d4, d5] => { results := [.lit (.bool false)], args := [d1, d2, d3, d4, d5] }
  | _ => none }
def GraphBackWrongFalsely : Prop := graphBackRow.holds Try.pinned (OpenSpec.ofChange graphBackWrong)

/- THE SECOND FORM. 'bulk': how many values and letters a reading holds, each counted each time it is reached (what is shared counts as often as it is met; a slice's spare places count too). A statement '..UptoSaid' is the law's where the arguments, and the package variables that the reading takes, are together of bulk at most 1048576: NARROWER than '..Said'. Prove '..Said' where nothing that the law and all that it calls make is longer than what came in: it says more and counts as full. Else prove '..UptoSaid'. A law counts once. -/
mutual
def uptoBulk {H : Type} : DataW H → Nat
  | .lit (.string bytes) => bytes.length + 1
  | .lit _ => 1
  | .nil => 1
  | .ptr d => uptoBulk d + 1
  | .slice elems spare => uptoBulkAll elems + uptoBulkAll spare + 1
  | .agg parts => uptoBulkAll parts + 1
  | .iface _ d => uptoBulk d + 1
  | .map entries => uptoBulkEntries entries + 1
  | .held _ => 1
def uptoBulkAll {H : Type} : List (DataW H) → Nat
  | [] => 0
  | d :: r => uptoBulk d + uptoBulkAll r
def uptoBulkEntries {H : Type} : List (Lit × DataW H) → Nat
  | [] => 0
  | x :: r => uptoBulkEntry x + uptoBulkEntries r
def uptoBulkEntry {H : Type} : Lit × DataW H → Nat
  | (.string bytes, d) => bytes.length + uptoBulk d + 1
  | (_, d) => uptoBulk d + 1
 end
def uptoSmall : (H : Type) → List (DataW H) → Bool := fun _ ds => decide (uptoBulkAll ds ≤ 1048576)
def OpenSpec.upto (s : _root_.Go.ChangeSpec) : _root_.Go.OpenSpec := { _root_.Go.OpenSpec.ofChange s with cond := some uptoSmall }

/-- 'garlandlaw24.GadgetLarge', WHERE WHAT IT READS IS OF BULK AT MOST 1048576: true; the input reads as it did. -/
def gadgetLargeUptoRow : OpenClaim := { program := "ytglhdoibglafbaa", sum := "96dc2444cddd82630334afdff59a5d88d8b2cfc0d561e75244e5e4397bb3f5bc", func := "garland/garlandlaw24.GadgetLarge", spec := "gadgetLarge", unfollowed := true, recurses := true, plainKeys := false, apart := false, narrowed := true }
def GadgetLargeUptoSaid : Prop := gadgetLargeUptoRow.holds Try.pinned (OpenSpec.upto gadgetLargeSpec)

/-- 'garlandlaw07.QueueTurns', WHERE WHAT IT READS IS OF BULK AT MOST 1048576: true; the input reads as it did. -/
def queueTurnsUptoRow : OpenClaim := { program := "ytglhdoibglafbaa", sum := "96dc2444cddd82630334afdff59a5d88d8b2cfc0d561e75244e5e4397bb3f5bc", func := "garland/garlandlaw07.QueueTurns", spec := "queueTurns", unfollowed := true, recurses := true, plainKeys := false, apart := false, narrowed := true }
def QueueTurnsUptoSaid : Prop := queueTurnsUptoRow.holds Try.pinned (OpenSpec.upto queueTurnsSpec)

/-- 'garlandlaw02.GraphMakes', WHERE WHAT IT READS IS OF BULK AT MOST 1048576: true; the input reads as it did. -/
def graphMakesUptoRow : OpenClaim := { program := "ytglhdoibglafbaa", sum := "96dc2444cddd82630334afdff59a5d88d8b2cfc0d561e75244e5e4397bb3f5bc", func := "garland/garlandlaw02.GraphMakes", spec := "graphMakes", unfollowed := true, recurses := true, plainKeys := false, apart := false, narrowed := true }
def GraphMakesUptoSaid : Prop := graphMakesUptoRow.holds Try.pinned (OpenSpec.upto graphMakesSpec)

/-- 'garlandlaw02.GraphTells', WHERE WHAT IT READS IS OF BULK AT MOST 1048576: true; the input reads as it did. -/
def graphTellsUptoRow : OpenClaim := { program := "ytglhdoibglafbaa", sum := "96dc2444cddd82630334afdff59a5d88d8b2cfc0d561e75244e5e4397bb3f5bc", func := "garland/garlandlaw02.GraphTells", spec := "graphTells", unfollowed := true, recurses := true, plainKeys := false, apart := false, narrowed := true }
def GraphTellsUptoSaid : Prop := graphTellsUptoRow.holds Try.pinned (OpenSpec.upto graphTellsSpec)

/-- 'garlandlaw02.GraphDegrees', WHERE WHAT IT READS IS OF BULK AT MOST 1048576: true; the input reads as it did. -/
def graphDegreesUptoRow : OpenClaim := { program := "ytglhdoibglafbaa", sum := "96dc2444cddd82630334afdff59a5d88d8b2cfc0d561e75244e5e4397bb3f5bc", func := "garland/garlandlaw02.GraphDegrees", spec := "graphDegrees", unfollowed := true, recurses := true, plainKeys := false, apart := false, narrowed := true }
def GraphDegreesUptoSaid : Prop := graphDegreesUptoRow.holds Try.pinned (OpenSpec.upto graphDegreesSpec)

/-- 'garlandlaw24.GadgetTells', WHERE WHAT IT READS IS OF BULK AT MOST 1048576: true; the input reads as it did. -/
def gadgetTellsUptoRow : OpenClaim := { program := "ytglhdoibglafbaa", sum := "96dc2444cddd82630334afdff59a5d88d8b2cfc0d561e75244e5e4397bb3f5bc", func := "garland/garlandlaw24.GadgetTells", spec := "gadgetTells", unfollowed := true, recurses := true, plainKeys := false, apart := false, narrowed := true }
def GadgetTellsUptoSaid : Prop := gadgetTellsUptoRow.holds Try.pinned (OpenSpec.upto gadgetTellsSpec)

/-- 'garlandlaw24.GadgetPlaces', WHERE WHAT IT READS IS OF BULK AT MOST 1048576: true; the input reads as it did. -/
def gadgetPlacesUptoRow : OpenClaim := { program := "ytglhdoibglafbaa", sum := "96dc2444cddd82630334afdff59a5d88d8b2cfc0d561e75244e5e4397bb3f5bc", func := "garland/garlandlaw24.GadgetPlaces", spec := "gadgetPlaces", unfollowed := true, recurses := true, plainKeys := false, apart := false, narrowed := true }
def GadgetPlacesUptoSaid : Prop := gadgetPlacesUptoRow.holds Try.pinned (OpenSpec.upto gadgetPlacesSpec)

/-- 'garlandlaw07.QueueSorts', WHERE WHAT IT READS IS OF BULK AT MOST 1048576: true; the input reads as it did. -/
def queueSortsUptoRow : OpenClaim := { program := "ytglhdoibglafbaa", sum := "96dc2444cddd82630334afdff59a5d88d8b2cfc0d561e75244e5e4397bb3f5bc", func := "garland/garlandlaw07.QueueSorts", spec := "queueSorts", unfollowed := true, recurses := true, plainKeys := false, apart := false, narrowed := true }
def QueueSortsUptoSaid : Prop := queueSortsUptoRow.holds Try.pinned (OpenSpec.upto queueSortsSpec)

/-- 'garlandlaw02.GraphLimits', WHERE WHAT IT READS IS OF BULK AT MOST 1048576: true; the input reads as it did. -/
def graphLimitsUptoRow : OpenClaim := { program := "ytglhdoibglafbaa", sum := "96dc2444cddd82630334afdff59a5d88d8b2cfc0d561e75244e5e4397bb3f5bc", func := "garland/garlandlaw02.GraphLimits", spec := "graphLimits", inPlace := ["slices.overlaps[garland/api.Edge]"], unfollowed := true, recurses := true, plainKeys := false, apart := false, narrowed := true }
def GraphLimitsUptoSaid : Prop := graphLimitsUptoRow.holds Try.pinned (OpenSpec.upto graphLimitsSpec)

/-- 'garlandlaw02.GraphChanges', WHERE WHAT IT READS IS OF BULK AT MOST 1048576: true; the input reads as it did. -/
def graphChangesUptoRow : OpenClaim := { program := "ytglhdoibglafbaa", sum := "96dc2444cddd82630334afdff59a5d88d8b2cfc0d561e75244e5e4397bb3f5bc", func := "garland/garlandlaw02.GraphChanges", spec := "graphChanges", inPlace := ["slices.overlaps[garland/api.Edge]"], unfollowed := true, recurses := true, plainKeys := false, apart := false, narrowed := true }
def GraphChangesUptoSaid : Prop := graphChangesUptoRow.holds Try.pinned (OpenSpec.upto graphChangesSpec)

/-- 'garlandlaw02.GraphWrong', WHERE WHAT IT READS IS OF BULK AT MOST 1048576: true; the input reads as it did. -/
def graphWrongUptoRow : OpenClaim := { program := "ytglhdoibglafbaa", sum := "96dc2444cddd82630334afdff59a5d88d8b2cfc0d561e75244e5e4397bb3f5bc", func := "garland/garlandlaw02.GraphWrong", spec := "graphWrong", inPlace := ["slices.overlaps[garland/api.Edge]"], unfollowed := true, recurses := true, plainKeys := false, apart := false, narrowed := true }
def GraphWrongUptoSaid : Prop := graphWrongUptoRow.holds Try.pinned (OpenSpec.upto graphWrongSpec)

/-- 'garlandlaw02.GraphBack', WHERE WHAT IT READS IS OF BULK AT MOST 1048576: true; the input reads as it did. -/
def graphBackUptoRow : OpenClaim := { program := "ytglhdoibglafbaa", sum := "96dc2444cddd82630334afdff59a5d88d8b2cfc0d561e75244e5e4397bb3f5bc", func := "garland/garlandlaw02.GraphBack", spec := "graphBack", inPlace := ["slices.overlaps[garland/api.Edge]"], unfollowed := true, recurses := true, plainKeys := false, apart := false, narrowed := true }
def GraphBackUptoSaid : Prop := graphBackUptoRow.holds Try.pinned (OpenSpec.upto graphBackSpec)

end Rows
end Go.Proofs.Ytglhdoibglafbaa
