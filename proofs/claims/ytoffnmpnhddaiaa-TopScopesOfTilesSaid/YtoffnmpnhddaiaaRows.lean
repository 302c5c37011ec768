/-
  No cell of these rows narrows 'for every input' (looked for: loops, veiled, ifaces, maps, wideKeys, modest, calm, conditions, laid).
  DERIVED. THE GIVEN ROWS OF THIS SEAT. 12 by the template 'for every input the law returns true; each argument reads behind the call as it read before'; 0 by the template 'total and deterministic' (their statements: YtoffnmpnhddaiaaTotals.lean).
  GIVEN WITH THE SEED: the statements are not yours to turn. If you find one false, say at which input.
  Laid BY PROGRAM, IN A SANDBOX (cutbox-rows.mjs): the forced cells as the released guide's own fill.sh prints them over the translation 0c99b991bf3fb914… (all of the seat's roots in one cut). By AI agents, Wed Nov 11 2026. No macro, syntax, notation, axiom, sorry.
-/
import Derived.Test.YtoffnmpnhddaiaaChecked
import GoSem.Claim
import GoSem.ClaimJoined
import GoSem.ClaimMapViews
import Derived.JoinedTies
import Derived.KernelRfl
namespace Go.Proofs.Ytoffnmpnhddaiaa
/- THE CELL 'sum', in the pinned program and in every row, IS THE sha256 OF THE DUMP (.gsa) THAT YtoffnmpnhddaiaaProg.lean LOADS. Nothing in Lean hashes anything: it is a label: what it is worth is what the hold of that sum in a sandbox is worth. -/
noncomputable def Try.pinned : Pinned := { name := "ytoffnmpnhddaiaa", sum := "0c99b991bf3fb91465ddb26e8120e2475f1e9267710792fab37103ddc6ab6e5d", checked := Try.checked }
namespace Rows
def none {H : Type} : Left H := { results := [], args := [] }

/-- 'dyelaw1.ChangesAreBounded': WHATEVER THE INPUT: true; the input reads as it did. -/
def changesAreBoundedSpec : ChangeSpec := { name := "changesAreBounded", fn := fun _ => fun
  | [d1, d2] => { results := [.lit (.bool true)], args := [d1, d2] }
  | _ => none }
def changesAreBoundedRow : OpenClaim := { program := "ytoffnmpnhddaiaa", sum := "0c99b991bf3fb91465ddb26e8120e2475f1e9267710792fab37103ddc6ab6e5d", func := "dyehouse/dyelaw1.ChangesAreBounded", spec := "changesAreBounded", inPlace := ["math.Float32frombits", "math.Float32bits"], unfollowed := true, recurses := true, plainKeys := false, apart := false }
def ChangesAreBoundedSaid : Prop := changesAreBoundedRow.holds Try.pinned (OpenSpec.ofChange changesAreBoundedSpec)

/-- ITS FALSE NEIGHBOUR: 'it returns false'. Refute it at one input. -/
def changesAreBoundedWrong : ChangeSpec := { name := "changesAreBounded", fn := fun _ => fun
  | [d1, d2] => { results := [.lit (.bool false)], args := [d1, d2] }
  | _ => none }
def ChangesAreBoundedWrongFalsely : Prop := changesAreBoundedRow.holds Try.pinned (OpenSpec.ofChange changesAreBoundedWrong)

/-- 'dyelaw1.TotalsMatch': WHATEVER THE INPUT: true; the input reads as it did. -/
def totalsMatchSpec : ChangeSpec := { name := "totalsMatch", fn := fun _ => fun
  | [d] => { results := [.lit (.bool true)], args := [d] }
  | _ => none }
def totalsMatchRow : OpenClaim := { program := "ytoffnmpnhddaiaa", sum := "0c99b991bf3fb91465ddb26e8120e2475f1e9267710792fab37103ddc6ab6e5d", func := "dyehouse/dyelaw1.TotalsMatch", spec := "totalsMatch", inPlace := ["math.Float32frombits", "math.Float32bits"], unfollowed := true, recurses := true, plainKeys := false, apart := false }
def TotalsMatchSaid : Prop := totalsMatchRow.holds Try.pinned (OpenSpec.ofChange totalsMatchSpec)

/-- ITS FALSE NEIGHBOUR: 'it returns false'. Refute it at one input. -/
def totalsMatchWrong : ChangeSpec := { name := "totalsMatch", fn := fun _ => fun
  | [d] => { results := [.lit (.bool false)], args := [d] }
  | _ => none }
def TotalsMatchWrongFalsely : Prop := totalsMatchRow.holds Try.pinned (OpenSpec.ofChange totalsMatchWrong)

/-- 'dyelaw1.PlanesMatch': WHATEVER THE INPUT: true; the input reads as it did. -/
def planesMatchSpec : ChangeSpec := { name := "planesMatch", fn := fun _ => fun
  | [d1, d2, d3, d4] => { results := [.lit (.bool true)], args := [d1, d2, d3, d4] }
  | _ => none }
def planesMatchRow : OpenClaim := { program := "ytoffnmpnhddaiaa", sum := "0c99b991bf3fb91465ddb26e8120e2475f1e9267710792fab37103ddc6ab6e5d", func := "dyehouse/dyelaw1.PlanesMatch", spec := "planesMatch", inPlace := ["math.Float32frombits", "math.Float32bits"], unfollowed := true, recurses := true, plainKeys := false, apart := false }
def PlanesMatchSaid : Prop := planesMatchRow.holds Try.pinned (OpenSpec.ofChange planesMatchSpec)

/-- ITS FALSE NEIGHBOUR: 'it returns false'. Refute it at one input. -/
def planesMatchWrong : ChangeSpec := { name := "planesMatch", fn := fun _ => fun
  | [d1, d2, d3, d4] => { results := [.lit (.bool false)], args := [d1, d2, d3, d4] }
  | _ => none }
def PlanesMatchWrongFalsely : Prop := planesMatchRow.holds Try.pinned (OpenSpec.ofChange planesMatchWrong)

/-- 'dyelaw1.RegionsMatch': WHATEVER THE INPUT: true; the input reads as it did. -/
def regionsMatchSpec : ChangeSpec := { name := "regionsMatch", fn := fun _ => fun
  | [d1, d2, d3, d4] => { results := [.lit (.bool true)], args := [d1, d2, d3, d4] }
  | _ => none }
def regionsMatchRow : OpenClaim := { program := "ytoffnmpnhddaiaa", sum := "0c99b991bf3fb91465ddb26e8120e2475f1e9267710792fab37103ddc6ab6e5d", func := "dyehouse/dyelaw1.RegionsMatch", spec := "regionsMatch", inPlace := ["math.Float32frombits", "math.Float32bits"], unfollowed := true, recurses := true, plainKeys := false, apart := false }
def RegionsMatchSaid : Prop := regionsMatchRow.holds Try.pinned (OpenSpec.ofChange regionsMatchSpec)

/-- ITS FALSE NEIGHBOUR: 'it returns false'. Refute it at one input. -/
def regionsMatchWrong : ChangeSpec := { name := "regionsMatch", fn := fun _ => fun
  | [d1, d2, d3, d4] => { results := [.lit (.bool false)], args := [d1, d2, d3, d4] }
  | _ => none }
def RegionsMatchWrongFalsely : Prop := regionsMatchRow.holds Try.pinned (OpenSpec.ofChange regionsMatchWrong)

/-- 'dyelaw1.FramesMix': WHATEVER THE INPUT: true; the input reads as it did. -/
def framesMixSpec : ChangeSpec := { name := "framesMix", fn := fun _ => fun
  | [d1, d2, d3, d4, d5] => { results := [.lit (.bool true)], args := [d1, d2, d3, d4, d5] }
  | _ => none }
def framesMixRow : OpenClaim := { program := "ytoffnmpnhddaiaa", sum := "0c99b991bf3fb91465ddb26e8120e2475f1e9267710792fab37103ddc6ab6e5d", func := "dyehouse/dyelaw1.FramesMix", spec := "framesMix", inPlace := ["math.Float32frombits", "math.Float32bits"], unfollowed := true, recurses := true, plainKeys := false, apart := false }
def FramesMixSaid : Prop := framesMixRow.holds Try.pinned (OpenSpec.ofChange framesMixSpec)

/-- ITS FALSE NEIGHBOUR: 'it returns false'. Refute it at one input. -/
def framesMixWrong : ChangeSpec := { name := "framesMix", fn := fun _ => fun
  | [d1, d2, d3, d4, d5] => { results := [.lit (.bool false)], args := [d1, d2, d3, d4, d5] }
  | _ => none }
def FramesMixWrongFalsely : Prop := framesMixRow.holds Try.pinned (OpenSpec.ofChange framesMixWrong)

/-- 'dyelaw1.MattesOpen': WHATEVER THE INPUT: true; the input reads as it did. -/
def mattesOpenSpec : ChangeSpec := { name := "mattesOpen", fn := fun _ => fun
  | [d1, d2, d3] => { results := [.lit (.bool true)], args := [d1, d2, d3] }
  | _ => none }
def mattesOpenRow : OpenClaim := { program := "ytoffnmpnhddaiaa", sum := "0c99b991bf3fb91465ddb26e8120e2475f1e9267710792fab37103ddc6ab6e5d", func := "dyehouse/dyelaw1.MattesOpen", spec := "mattesOpen", inPlace := ["math.Float32frombits", "math.Float32bits"], unfollowed := true, recurses := true, plainKeys := false, apart := false }
def MattesOpenSaid : Prop := mattesOpenRow.holds Try.pinned (OpenSpec.ofChange mattesOpenSpec)

/-- ITS FALSE NEIGHBOUR: 'it returns false'. Refute it at one input. -/
def mattesOpenWrong : ChangeSpec := { name := "mattesOpen", fn := fun _ => fun
  | [d1, d2, d3] => { results := [.lit (.bool false)], args := [d1, d2, d3] }
  | _ => none }
def MattesOpenWrongFalsely : Prop := mattesOpenRow.holds Try.pinned (OpenSpec.ofChange mattesOpenWrong)

/-- 'dyelaw1.ColoursMatch': WHATEVER THE INPUT: true; the input reads as it did. -/
def coloursMatchSpec : ChangeSpec := { name := "coloursMatch", fn := fun _ => fun
  | [d1, d2, d3, d4, d5] => { results := [.lit (.bool true)], args := [d1, d2, d3, d4, d5] }
  | _ => none }
def coloursMatchRow : OpenClaim := { program := "ytoffnmpnhddaiaa", sum := "0c99b991bf3fb91465ddb26e8120e2475f1e9267710792fab37103ddc6ab6e5d", func := "dyehouse/dyelaw1.ColoursMatch", spec := "coloursMatch", inPlace := ["math.Float32frombits", "math.Float32bits"], unfollowed := true, recurses := true, plainKeys := false, apart := false }
def ColoursMatchSaid : Prop := coloursMatchRow.holds Try.pinned (OpenSpec.ofChange coloursMatchSpec)

/-- ITS FALSE NEIGHBOUR: 'it returns false'. Refute it at one input. -/
def coloursMatchWrong : ChangeSpec := { name := "coloursMatch", fn := fun _ => fun
  | [d1, d2, d3, d4, d5] => { results := [.lit (.bool false)], args := [d1, d2, d3, d4, d5] }
  | _ => none }
def ColoursMatchWrongFalsely : Prop := coloursMatchRow.holds Try.pinned (OpenSpec.ofChange coloursMatchWrong)

/-- 'dyelaw1.TracksFind': WHATEVER THE INPUT: true; the input reads as it did. -/
def tracksFindSpec : ChangeSpec := { name := "tracksFind", fn := fun _ => fun
  | [d1, d2, d3] => { results := [.lit (.bool true)], args := [d1, d2, d3] }
  | _ => none }
def tracksFindRow : OpenClaim := { program := "ytoffnmpnhddaiaa", sum := "0c99b991bf3fb91465ddb26e8120e2475f1e9267710792fab37103ddc6ab6e5d", func := "dyehouse/dyelaw1.TracksFind", spec := "tracksFind", inPlace := ["math.Float32frombits", "math.Float32bits", "math.Float64bits", "math.Float64frombits"], unfollowed := true, recurses := true, plainKeys := false, apart := false }
def TracksFindSaid : Prop := tracksFindRow.holds Try.pinned (OpenSpec.ofChange tracksFindSpec)

/-- ITS FALSE NEIGHBOUR: 'it returns false'. Refute it at one input. -/
def tracksFindWrong : ChangeSpec := { name := "tracksFind", fn := fun _ => fun
  | [d1, d2, d3] => { results := [.lit (.bool false)], args := [d1, d2, d3] }
  | _ => none }
def TracksFindWrongFalsely : Prop := tracksFindRow.holds Try.pinned (OpenSpec.ofChange tracksFindWrong)

/-- 'dyelaw1.FramesAreCut': WHATEVER THE INPUT: true; the input reads as it did. -/
def framesAreCutSpec : ChangeSpec := { name := "framesAreCut", fn := fun _ => fun
  | [d1, d2, d3, d4, d5, d6] => { results := [.lit (.bool true)], args := [d1, d2, d3, d4, d5, d6] }
  | _ => none }
def framesAreCutRow : OpenClaim := { program := "ytoffnmpnhddaiaa", sum := "0c99b991bf3fb91465ddb26e8120e2475f1e9267710792fab37103ddc6ab6e5d", func := "dyehouse/dyelaw1.FramesAreCut", spec := "framesAreCut", inPlace := ["math.Float32frombits", "math.Float32bits"], unfollowed := true, recurses := true, plainKeys := false, apart := false }
def FramesAreCutSaid : Prop := framesAreCutRow.holds Try.pinned (OpenSpec.ofChange framesAreCutSpec)

/-- ITS FALSE NEIGHBOUR: 'it returns false'. Refute it at one input. -/
def framesAreCutWrong : ChangeSpec := { name := "framesAreCut", fn := fun _ => fun
  | [d1, d2, d3, d4, d5, d6] => { results := [.lit (.bool false)], args := [d1, d2, d3, d4, d5, d6] }
  | _ => none }
def FramesAreCutWrongFalsely : Prop := framesAreCutRow.holds Try.pinned (OpenSpec.ofChange framesAreCutWrong)

/-- 'dyelaw1.FramesJoin': WHATEVER THE INPUT: true; the input reads as it did. -/
def framesJoinSpec : ChangeSpec := { name := "framesJoin", fn := fun _ => fun
  | [d1, d2, d3, d4, d5] => { results := [.lit (.bool true)], args := [d1, d2, d3, d4, d5] }
  | _ => none }
def framesJoinRow : OpenClaim := { program := "ytoffnmpnhddaiaa", sum := "0c99b991bf3fb91465ddb26e8120e2475f1e9267710792fab37103ddc6ab6e5d", func := "dyehouse/dyelaw1.FramesJoin", spec := "framesJoin", inPlace := ["math.Float32frombits", "math.Float32bits"], unfollowed := true, recurses := true, plainKeys := false, apart := false }
def FramesJoinSaid : Prop := framesJoinRow.holds Try.pinned (OpenSpec.ofChange framesJoinSpec)

/-- ITS FALSE NEIGHBOUR: 'it returns false'. Refute it at one input. -/
def framesJoinWrong : ChangeSpec := { name := "framesJoin", fn := fun _ => fun
  | [d1, d2, d3, d4, d5] => { results := [.lit (.bool false)], args := [d1, d2, d3, d4, d5] }
  | _ => none }
def FramesJoinWrongFalsely : Prop := framesJoinRow.holds Try.pinned (OpenSpec.ofChange framesJoinWrong)

/-- 'dyelaw1.NothingChanged': WHATEVER THE INPUT: true; the input reads as it did. -/
def nothingChangedSpec : ChangeSpec := { name := "nothingChanged", fn := fun _ => fun
  | [d] => { results := [.lit (.bool true)], args := [d] }
  | _ => none }
def nothingChangedRow : OpenClaim := { program := "ytoffnmpnhddaiaa", sum := "0c99b991bf3fb91465ddb26e8120e2475f1e9267710792fab37103ddc6ab6e5d", func := "dyehouse/dyelaw1.NothingChanged", spec := "nothingChanged", inPlace := ["math.Float32frombits", "math.Float32bits", "math.Float64bits", "math.Float64frombits"], unfollowed := true, recurses := true, plainKeys := false, apart := false }
def NothingChangedSaid : Prop := nothingChangedRow.holds Try.pinned (OpenSpec.ofChange nothingChangedSpec)

/-- ITS FALSE NEIGHBOUR: 'it returns false'. Refute it at one input. -/
def nothingChangedWrong : ChangeSpec := { name := "nothingChanged", fn := fun _ => fun
  | [d] => { results := [.lit (.bool false)], args := [d] }
  | _ => none }
def NothingChangedWrongFalsely : Prop := nothingChangedRow.holds Try.pinned (OpenSpec.ofChange nothingChangedWrong)

/-- 'dyetop.TopScopesOfTiles': WHATEVER THE INPUT: true; the input reads as it did. -/
def topScopesOfTilesSpec : ChangeSpec := { name := "topScopesOfTiles", fn := fun _ => fun
  | [d1, d2, d3, d4] => { results := [.lit (.bool true)], args := [d1, d2, d3, d4] }
  | _ => none }
def topScopesOfTilesRow : OpenClaim := { program := "ytoffnmpnhddaiaa", sum := "0c99b991bf3fb91465ddb26e8120e2475f1e9267710792fab37103ddc6ab6e5d", func := "dyehouse/dyetop.TopScopesOfTiles", spec := "topScopesOfTiles", inPlace := ["math.Float32frombits", "math.Float32bits", "math.archFloor", "math.Float64bits", "math.Float64frombits", "math.archTrunc"], unfollowed := true, recurses := true, plainKeys := false, apart := false }
def TopScopesOfTilesSaid : Prop := topScopesOfTilesRow.holds Try.pinned (OpenSpec.ofChange topScopesOfTilesSpec)

/-- ITS FALSE NEIGHBOUR: 'it returns false'. Refute it at one input. -/
def topScopesOfTilesWrong : ChangeSpec := { name := "topScopesOfTiles", fn := fun _ => fun
  | [d1, d2, d3, d4] => { results := [.lit (.bool false)], args := [d1, d2, d3, d4] }
  | _ => none }
def TopScopesOfTilesWrongFalsely : Prop := topScopesOfTilesRow.holds Try.pinned (OpenSpec.ofChange topScopesOfTilesWrong)

/- THE SECOND FORM. 'bulk': how many values and letters a reading holds, each counted each time it is reached (what is shared counts as often as it is met; a slice's spare places count too). A statement '..UptoSaid' is the law's where the arguments, and the package variables that the reading takes, are together of bulk at most 1048576: NARROWER than '..Said'. Prove '..Said' where nothing that the law and all that it calls make is longer than what came in: it says more and counts as full. Else prove '..UptoSaid'. A law counts once. -/
mutual
def uptoBulk {H : Type} : DataW H → Nat
  | .lit (.string bytes) => bytes.length + 1
  | .lit _ => 1
  | .nil => 1
  | .ptr d => uptoBulk d + 1
  | .slice elems spare => uptoBulkAll elems + uptoBulkAll spare + 1
  | .agg parts => uptoBulkAll parts + 1
  | .iface _ d => uptoBulk d + 1
  | .map entries => uptoBulkEntries entries + 1
  | .held _ => 1
def uptoBulkAll {H : Type} : List (DataW H) → Nat
  | [] => 0
  | d :: r => uptoBulk d + uptoBulkAll r
def uptoBulkEntries {H : Type} : List (Lit × DataW H) → Nat
  | [] => 0
  | x :: r => uptoBulkEntry x + uptoBulkEntries r
def uptoBulkEntry {H : Type} : Lit × DataW H → Nat
  | (.string bytes, d) => bytes.length + uptoBulk d + 1
  | (_, d) => uptoBulk d + 1
 end
def uptoSmall : (H : Type) → List (DataW H) → Bool := fun _ ds => decide (uptoBulkAll ds ≤ 1048576)
def OpenSpec.upto (s : _root_.Go.ChangeSpec) : _root_.Go.OpenSpec := { _root_.Go.OpenSpec.ofChange s with cond := some uptoSmall }

/-- 'dyelaw1.ChangesAreBounded', WHERE WHAT IT READS IS OF BULK AT MOST 1048576: true; the input reads as it did. -/
def changesAreBoundedUptoRow : OpenClaim := { program := "ytoffnmpnhddaiaa", sum := "0c99b991bf3fb91465ddb26e8120e2475f1e9267710792fab37103ddc6ab6e5d", func := "dyehouse/dyelaw1.ChangesAreBounded", spec := "changesAreBounded", inPlace := ["math.Float32frombits", "math.Float32bits"], unfollowed := true, recurses := true, plainKeys := false, apart := false, narrowed := true }
def ChangesAreBoundedUptoSaid : Prop := changesAreBoundedUptoRow.holds Try.pinned (OpenSpec.upto changesAreBoundedSpec)

/-- 'dyelaw1.TotalsMatch', WHERE WHAT IT READS IS OF BULK AT MOST 1048576: true; the input reads as it did. -/
def totalsMatchUptoRow : OpenClaim := { program := "ytoffnmpnhddaiaa", sum := "0c99b991bf3fb91465ddb26e8120e2475f1e9267710792fab37103ddc6ab6e5d", func := "dyehouse/dyelaw1.TotalsMatch", spec := "totalsMatch", inPlace := ["math.Float32frombits", "math.Float32bits"], unfollowed := true, recurses := true, plainKeys := false, apart := false, narrowed := true }
def TotalsMatchUptoSaid : Prop := totalsMatchUptoRow.holds Try.pinned (OpenSpec.upto totalsMatchSpec)

/-- 'dyelaw1.PlanesMatch', WHERE WHAT IT READS IS OF BULK AT MOST 1048576: true; the input reads as it did. -/
def planesMatchUptoRow : OpenClaim := { program := "ytoffnmpnhddaiaa", sum := "0c99b991bf3fb91465ddb26e8120e2475f1e9267710792fab37103ddc6ab6e5d", func := "dyehouse/dyelaw1.PlanesMatch", spec := "planesMatch", inPlace := ["math.Float32frombits", "math.Float32bits"], unfollowed := true, recurses := true, plainKeys := false, apart := false, narrowed := true }
def PlanesMatchUptoSaid : Prop := planesMatchUptoRow.holds Try.pinned (OpenSpec.upto planesMatchSpec)

/-- 'dyelaw1.RegionsMatch', WHERE WHAT IT READS IS OF BULK AT MOST 1048576: true; the input reads as it did. -/
def regionsMatchUptoRow : OpenClaim := { program := "ytoffnmpnhddaiaa", sum := "0c99b991bf3fb91465ddb26e8120e2475f1e9267710792fab37103ddc6ab6e5d", func := "dyehouse/dyelaw1.RegionsMatch", spec := "regionsMatch", inPlace := ["math.Float32frombits", "math.Float32bits"], unfollowed := true, recurses := true, plainKeys := false, apart := false, narrowed := true }
def RegionsMatchUptoSaid : Prop := regionsMatchUptoRow.holds Try.pinned (OpenSpec.upto regionsMatchSpec)

/-- 'dyelaw1.FramesMix', WHERE WHAT IT READS IS OF BULK AT MOST 1048576: true; the input reads as it did. -/
def framesMixUptoRow : OpenClaim := { program := "ytoffnmpnhddaiaa", sum := "0c99b991bf3fb91465ddb26e8120e2475f1e9267710792fab37103ddc6ab6e5d", func := "dyehouse/dyelaw1.FramesMix", spec := "framesMix", inPlace := ["math.Float32frombits", "math.Float32bits"], unfollowed := true, recurses := true, plainKeys := false, apart := false, narrowed := true }
def FramesMixUptoSaid : Prop := framesMixUptoRow.holds Try.pinned (OpenSpec.upto framesMixSpec)

/-- 'dyelaw1.MattesOpen', WHERE WHAT IT READS IS OF BULK AT MOST 1048576: true; the input reads as it did. -/
def mattesOpenUptoRow : OpenClaim := { program := "ytoffnmpnhddaiaa", sum := "0c99b991bf3fb91465ddb26e8120e2475f1e9267710792fab37103ddc6ab6e5d", func := "dyehouse/dyelaw1.MattesOpen", spec := "mattesOpen", inPlace := ["math.Float32frombits", "math.Float32bits"], unfollowed := true, recurses := true, plainKeys := false, apart := false, narrowed := true }
def MattesOpenUptoSaid : Prop := mattesOpenUptoRow.holds Try.pinned (OpenSpec.upto mattesOpenSpec)

/-- 'dyelaw1.ColoursMatch', WHERE WHAT IT READS IS OF BULK AT MOST 1048576: true; the input reads as it did. -/
def coloursMatchUptoRow : OpenClaim := { program := "ytoffnmpnhddaiaa", sum := "0c99b991bf3fb91465ddb26e8120e2475f1e9267710792fab37103ddc6ab6e5d", func := "dyehouse/dyelaw1.ColoursMatch", spec := "coloursMatch", inPlace := ["math.Float32frombits", "math.Float32bits"], unfollowed := true, recurses := true, plainKeys := false, apart := false, narrowed := true }
def ColoursMatchUptoSaid : Prop := coloursMatchUptoRow.holds Try.pinned (OpenSpec.upto coloursMatchSpec)

/-- 'dyelaw1.TracksFind', WHERE WHAT IT READS IS OF BULK AT MOST 1048576: true; the input reads as it did. -/
def tracksFindUptoRow : OpenClaim := { program := "ytoffnmpnhddaiaa", sum := "0c99b991bf3fb91465ddb26e8120e2475f1e9267710792fab37103ddc6ab6e5d", func := "dyehouse/dyelaw1.TracksFind", spec := "tracksFind", inPlace := ["math.Float32frombits", "math.Float32bits", "math.Float64bits", "math.Float64frombits"], unfollowed := true, recurses := true, plainKeys := false, apart := false, narrowed := true }
def TracksFindUptoSaid : Prop := tracksFindUptoRow.holds Try.pinned (OpenSpec.upto tracksFindSpec)

/-- 'dyelaw1.FramesAreCut', WHERE WHAT IT READS IS OF BULK AT MOST 1048576: true; the input reads as it did. -/
def framesAreCutUptoRow : OpenClaim := { program := "ytoffnmpnhddaiaa", sum := "0c99b991bf3fb91465ddb26e8120e2475f1e9267710792fab37103ddc6ab6e5d", func := "dyehouse/dyelaw1.FramesAreCut", spec := "framesAreCut", inPlace := ["math.Float32frombits", "math.Float32bits"], unfollowed := true, recurses := true, plainKeys := false, apart := false, narrowed := true }
def FramesAreCutUptoSaid : Prop := framesAreCutUptoRow.holds Try.pinned (OpenSpec.upto framesAreCutSpec)

/-- 'dyelaw1.FramesJoin', WHERE WHAT IT READS IS OF BULK AT MOST 1048576: true; the input reads as it did. -/
def framesJoinUptoRow : OpenClaim := { program := "ytoffnmpnhddaiaa", sum := "0c99b991bf3fb91465ddb26e8120e2475f1e9267710792fab37103ddc6ab6e5d", func := "dyehouse/dyelaw1.FramesJoin", spec := "framesJoin", inPlace := ["math.Float32frombits", "math.Float32bits"], unfollowed := true, recurses := true, plainKeys := false, apart := false, narrowed := true }
def FramesJoinUptoSaid : Prop := framesJoinUptoRow.holds Try.pinned (OpenSpec.upto framesJoinSpec)

/-- 'dyelaw1.NothingChanged', WHERE WHAT IT READS IS OF BULK AT MOST 1048576: true; the input reads as it did. -/
def nothingChangedUptoRow : OpenClaim := { program := "ytoffnmpnhddaiaa", sum := "0c99b991bf3fb91465ddb26e8120e2475f1e9267710792fab37103ddc6ab6e5d", func := "dyehouse/dyelaw1.NothingChanged", spec := "nothingChanged", inPlace := ["math.Float32frombits", "math.Float32bits", "math.Float64bits", "math.Float64frombits"], unfollowed := true, recurses := true, plainKeys := false, apart := false, narrowed := true }
def NothingChangedUptoSaid : Prop := nothingChangedUptoRow.holds Try.pinned (OpenSpec.upto nothingChangedSpec)

/-- 'dyetop.TopScopesOfTiles', WHERE WHAT IT READS IS OF BULK AT MOST 1048576: true; the input reads as it did. -/
def topScopesOfTilesUptoRow : OpenClaim := { program := "ytoffnmpnhddaiaa", sum := "0c99b991bf3fb91465ddb26e8120e2475f1e9267710792fab37103ddc6ab6e5d", func := "dyehouse/dyetop.TopScopesOfTiles", spec := "topScopesOfTiles", inPlace := ["math.Float32frombits", "math.Float32bits", "math.archFloor", "math.Float64bits", "math.Float64frombits", "math.archTrunc"], unfollowed := true, recurses := true, plainKeys := false, apart := false, narrowed := true }
def TopScopesOfTilesUptoSaid : Prop := topScopesOfTilesUptoRow.holds Try.pinned (OpenSpec.upto topScopesOfTilesSpec)

end Rows
end Go.Proofs.Ytoffnmpnhddaiaa
