/-
  No cell of these rows narrows 'for every input' (looked for: loops, veiled, ifaces, maps, wideKeys, modest, calm, conditions, laid).
  DERIVED. THE GIVEN ROWS OF THIS SEAT. 11 by the template 'for every input the law returns true; each argument reads behind the call as it read before'; 0 by the template 'total and deterministic' (their statements: YthhhecidogcmjaaTotals.lean).
  GIVEN WITH THE SEED: the statements are not yours to turn. If you find one false, say at which input.
  Laid BY PROGRAM, IN A SANDBOX (cutbox-rows.mjs): the forced cells as the released guide's own fill.sh prints them over the translation dfc8be07c787369f… (all of the seat's roots in one cut). By AI agents, Wed Nov 11 2026. No macro, syntax, notation, axiom, sorry.
-/
import Derived.Test.YthhhecidogcmjaaChecked
import GoSem.Claim
import GoSem.ClaimJoined
import GoSem.ClaimMapViews
import Derived.JoinedTies
import Derived.KernelRfl
namespace Go.Proofs.Ythhhecidogcmjaa
/- THE CELL 'sum', in the pinned program and in every row, IS THE sha256 OF THE DUMP (.gsa) THAT YthhhecidogcmjaaProg.lean LOADS. Nothing in Lean hashes anything: it is a label: what it is worth is what the hold of that sum in a sandbox is worth. -/
noncomputable def Try.pinned : Pinned := { name := "ythhhecidogcmjaa", sum := "dfc8be07c787369fc7f349848a03f93d5b76b8204797a5a6dcf137b42939bf8e", checked := Try.checked }
namespace Rows
def none {H : Type} : Left H := { results := [], args := [] }

/-- 'radomelaw01.BeamDirections': WHATEVER THE INPUT: true; the input reads as it did. -/
def beamDirectionsSpec : ChangeSpec := { name := "beamDirections", fn := fun _ => fun
  | [d1, d2, d3] => { results := [.lit (.bool true)], args := [d1, d2, d3] }
  | _ => none }
def beamDirectionsRow : OpenClaim := { program := "ythhhecidogcmjaa", sum := "dfc8be07c787369fc7f349848a03f93d5b76b8204797a5a6dcf137b42939bf8e", func := "radome/radomelaw01.BeamDirections", spec := "beamDirections", inPlace := ["internal/bytealg.IndexByteString", "internal/bytealg.IndexString"], unfollowed := true, recurses := true, named := ["internal/bytealg.MaxLen"], apart := false }
def BeamDirectionsSaid : Prop := beamDirectionsRow.holds Try.pinned (OpenSpec.ofChange beamDirectionsSpec)

/-- ITS FALSE NEIGHBOUR: 'it returns false'. Refute it at one input. -/
def beamDirectionsWrong : ChangeSpec := { name := "beamDirections", fn := fun _ => fun
  | [d1, d2, d3] => { results := [.lit (.bool false)], args := [d1, d2, d3] }
  | _ => none }
def BeamDirectionsWrongFalsely : Prop := beamDirectionsRow.holds Try.pinned (OpenSpec.ofChange beamDirectionsWrong)

/-- 'radomelaw01.BeamUnit': WHATEVER THE INPUT: true; the input reads as it did. -/
def beamUnitSpec : ChangeSpec := { name := "beamUnit", fn := fun _ => fun
  | [d1, d2, d3] => { results := [.lit (.bool true)], args := [d1, d2, d3] }
  | _ => none }
def beamUnitRow : OpenClaim := { program := "ythhhecidogcmjaa", sum := "dfc8be07c787369fc7f349848a03f93d5b76b8204797a5a6dcf137b42939bf8e", func := "radome/radomelaw01.BeamUnit", spec := "beamUnit", inPlace := ["internal/bytealg.IndexByteString", "internal/bytealg.IndexString"], unfollowed := true, recurses := true, named := ["internal/bytealg.MaxLen"], apart := false }
def BeamUnitSaid : Prop := beamUnitRow.holds Try.pinned (OpenSpec.ofChange beamUnitSpec)

/-- ITS FALSE NEIGHBOUR: 'it returns false'. Refute it at one input. -/
def beamUnitWrong : ChangeSpec := { name := "beamUnit", fn := fun _ => fun
  | [d1, d2, d3] => { results := [.lit (.bool false)], args := [d1, d2, d3] }
  | _ => none }
def BeamUnitWrongFalsely : Prop := beamUnitRow.holds Try.pinned (OpenSpec.ofChange beamUnitWrong)

/-- 'radomelaw01.BeamChecks': WHATEVER THE INPUT: true; the input reads as it did. -/
def beamChecksSpec : ChangeSpec := { name := "beamChecks", fn := fun _ => fun
  | [d1, d2] => { results := [.lit (.bool true)], args := [d1, d2] }
  | _ => none }
def beamChecksRow : OpenClaim := { program := "ythhhecidogcmjaa", sum := "dfc8be07c787369fc7f349848a03f93d5b76b8204797a5a6dcf137b42939bf8e", func := "radome/radomelaw01.BeamChecks", spec := "beamChecks", inPlace := ["internal/bytealg.IndexByteString", "internal/bytealg.IndexString"], unfollowed := true, recurses := true, named := ["internal/bytealg.MaxLen"], apart := false }
def BeamChecksSaid : Prop := beamChecksRow.holds Try.pinned (OpenSpec.ofChange beamChecksSpec)

/-- ITS FALSE NEIGHBOUR: 'it returns false'. Refute it at one input. -/
def beamChecksWrong : ChangeSpec := { name := "beamChecks", fn := fun _ => fun
  | [d1, d2] => { results := [.lit (.bool false)], args := [d1, d2] }
  | _ => none }
def BeamChecksWrongFalsely : Prop := beamChecksRow.holds Try.pinned (OpenSpec.ofChange beamChecksWrong)

/-- 'radomelaw01.BeamRanges': WHATEVER THE INPUT: true; the input reads as it did. -/
def beamRangesSpec : ChangeSpec := { name := "beamRanges", fn := fun _ => fun
  | [d1, d2, d3, d4] => { results := [.lit (.bool true)], args := [d1, d2, d3, d4] }
  | _ => none }
def beamRangesRow : OpenClaim := { program := "ythhhecidogcmjaa", sum := "dfc8be07c787369fc7f349848a03f93d5b76b8204797a5a6dcf137b42939bf8e", func := "radome/radomelaw01.BeamRanges", spec := "beamRanges", inPlace := ["internal/bytealg.IndexByteString", "internal/bytealg.IndexString"], unfollowed := true, recurses := true, named := ["internal/bytealg.MaxLen"], apart := false }
def BeamRangesSaid : Prop := beamRangesRow.holds Try.pinned (OpenSpec.ofChange beamRangesSpec)

/-- ITS FALSE NEIGHBOUR: 'it returns false'. Refute it at one input. -/
def beamRangesWrong : ChangeSpec := { name := "beamRanges", fn := fun _ => fun
  | [d1, d2, d3, d4] => { results := [.lit (.bool false)], args := [d1, d2, d3, d4] }
  | _ => none }
def BeamRangesWrongFalsely : Prop := beamRangesRow.holds Try.pinned (OpenSpec.ofChange beamRangesWrong)

/-- 'radomelaw01.BeamBounds': WHATEVER THE INPUT: true; the input reads as it did. -/
def beamBoundsSpec : ChangeSpec := { name := "beamBounds", fn := fun _ => fun
  | [d1, d2, d3, d4, d5, d6, d7] => { results := [.lit (.bool true)], args := [d1, d2, d3, d4, d5, d6, d7] }
  | _ => none }
def beamBoundsRow : OpenClaim := { program := "ythhhecidogcmjaa", sum := "dfc8be07c787369fc7f349848a03f93d5b76b8204797a5a6dcf137b42939bf8e", func := "radome/radomelaw01.BeamBounds", spec := "beamBounds", inPlace := ["internal/bytealg.IndexByteString", "internal/bytealg.IndexString"], unfollowed := true, recurses := true, named := ["internal/bytealg.MaxLen"], apart := false }
def BeamBoundsSaid : Prop := beamBoundsRow.holds Try.pinned (OpenSpec.ofChange beamBoundsSpec)

/-- ITS FALSE NEIGHBOUR: 'it returns false'. Refute it at one input. -/
def beamBoundsWrong : ChangeSpec := { name := "beamBounds", fn := fun _ => fun
  | [d1, d2, d3, d4, d5, d6, d7] => { results := [.lit (.bool false)], args := [d1, d2, d3, d4, d5, d6, d7] }
  | _ => none }
def BeamBoundsWrongFalsely : Prop := beamBoundsRow.holds Try.pinned (OpenSpec.ofChange beamBoundsWrong)

/-- 'radomelaw01.BeamSectors': WHATEVER THE INPUT: true; the input reads as it did. -/
def beamSectorsSpec : ChangeSpec := { name := "beamSectors", fn := fun _ => fun
  | [d1, d2, d3, d4] => { results := [.lit (.bool true)], args := [d1, d2, d3, d4] }
  | _ => none }
def beamSectorsRow : OpenClaim := { program := "ythhhecidogcmjaa", sum := "dfc8be07c787369fc7f349848a03f93d5b76b8204797a5a6dcf137b42939bf8e", func := "radome/radomelaw01.BeamSectors", spec := "beamSectors", inPlace := ["internal/bytealg.IndexByteString", "internal/bytealg.IndexString"], unfollowed := true, recurses := true, named := ["internal/bytealg.MaxLen"], apart := false }
def BeamSectorsSaid : Prop := beamSectorsRow.holds Try.pinned (OpenSpec.ofChange beamSectorsSpec)

/-- ITS FALSE NEIGHBOUR: 'it returns false'. Refute it at one input. -/
def beamSectorsWrong : ChangeSpec := { name := "beamSectors", fn := fun _ => fun
  | [d1, d2, d3, d4] => { results := [.lit (.bool false)], args := [d1, d2, d3, d4] }
  | _ => none }
def BeamSectorsWrongFalsely : Prop := beamSectorsRow.holds Try.pinned (OpenSpec.ofChange beamSectorsWrong)

/-- 'radomelaw01.BeamBlocks': WHATEVER THE INPUT: true; the input reads as it did. -/
def beamBlocksSpec : ChangeSpec := { name := "beamBlocks", fn := fun _ => fun
  | [d1, d2, d3, d4, d5] => { results := [.lit (.bool true)], args := [d1, d2, d3, d4, d5] }
  | _ => none }
def beamBlocksRow : OpenClaim := { program := "ythhhecidogcmjaa", sum := "dfc8be07c787369fc7f349848a03f93d5b76b8204797a5a6dcf137b42939bf8e", func := "radome/radomelaw01.BeamBlocks", spec := "beamBlocks", inPlace := ["internal/bytealg.IndexByteString", "internal/bytealg.IndexString"], unfollowed := true, recurses := true, named := ["internal/bytealg.MaxLen"], apart := false }
def BeamBlocksSaid : Prop := beamBlocksRow.holds Try.pinned (OpenSpec.ofChange beamBlocksSpec)

/-- ITS FALSE NEIGHBOUR: 'it returns false'. Refute it at one input. -/
def beamBlocksWrong : ChangeSpec := { name := "beamBlocks", fn := fun _ => fun
  | [d1, d2, d3, d4, d5] => { results := [.lit (.bool false)], args := [d1, d2, d3, d4, d5] }
  | _ => none }
def BeamBlocksWrongFalsely : Prop := beamBlocksRow.holds Try.pinned (OpenSpec.ofChange beamBlocksWrong)

/-- 'radomelaw01.BeamGrows': WHATEVER THE INPUT: true; the input reads as it did. -/
def beamGrowsSpec : ChangeSpec := { name := "beamGrows", fn := fun _ => fun
  | [d1, d2, d3, d4, d5, d6, d7] => { results := [.lit (.bool true)], args := [d1, d2, d3, d4, d5, d6, d7] }
  | _ => none }
def beamGrowsRow : OpenClaim := { program := "ythhhecidogcmjaa", sum := "dfc8be07c787369fc7f349848a03f93d5b76b8204797a5a6dcf137b42939bf8e", func := "radome/radomelaw01.BeamGrows", spec := "beamGrows", inPlace := ["internal/bytealg.IndexByteString", "internal/bytealg.IndexString"], unfollowed := true, recurses := true, named := ["internal/bytealg.MaxLen"], apart := false }
def BeamGrowsSaid : Prop := beamGrowsRow.holds Try.pinned (OpenSpec.ofChange beamGrowsSpec)

/-- ITS FALSE NEIGHBOUR: 'it returns false'. Refute it at one input. -/
def beamGrowsWrong : ChangeSpec := { name := "beamGrows", fn := fun _ => fun
  | [d1, d2, d3, d4, d5, d6, d7] => { results := [.lit (.bool false)], args := [d1, d2, d3, d4, d5, d6, d7] }
  | _ => none }
def BeamGrowsWrongFalsely : Prop := beamGrowsRow.holds Try.pinned (OpenSpec.ofChange beamGrowsWrong)

/-- 'radomelaw01.BeamPlaces': WHATEVER THE INPUT: true; the input reads as it did. -/
def beamPlacesSpec : ChangeSpec := { name := "beamPlaces", fn := fun _ => fun
  | [d1, d2, d3, d4, d5, d6, d7] => { results := [.lit (.bool true)], args := [d1, d2, d3, d4, d5, d6, d7] }
  | _ => none }
def beamPlacesRow : OpenClaim := { program := "ythhhecidogcmjaa", sum := "dfc8be07c787369fc7f349848a03f93d5b76b8204797a5a6dcf137b42939bf8e", func := "radome/radomelaw01.BeamPlaces", spec := "beamPlaces", inPlace := ["internal/bytealg.IndexByteString", "internal/bytealg.IndexString"], unfollowed := true, recurses := true, named := ["internal/bytealg.MaxLen"], apart := false }
def BeamPlacesSaid : Prop := beamPlacesRow.holds Try.pinned (OpenSpec.ofChange beamPlacesSpec)

/-- ITS FALSE NEIGHBOUR: 'it returns false'. Refute it at one input. -/
def beamPlacesWrong : ChangeSpec := { name := "beamPlaces", fn := fun _ => fun
  | [d1, d2, d3, d4, d5, d6, d7] => { results := [.lit (.bool false)], args := [d1, d2, d3, d4, d5, d6, d7] }
  | _ => none }
def BeamPlacesWrongFalsely : Prop := beamPlacesRow.holds Try.pinned (OpenSpec.ofChange beamPlacesWrong)

/-- 'radomelaw01.BeamViews': WHATEVER THE INPUT: true; the input reads as it did. -/
def beamViewsSpec : ChangeSpec := { name := "beamViews", fn := fun _ => fun
  | [d1, d2, d3] => { results := [.lit (.bool true)], args := [d1, d2, d3] }
  | _ => none }
def beamViewsRow : OpenClaim := { program := "ythhhecidogcmjaa", sum := "dfc8be07c787369fc7f349848a03f93d5b76b8204797a5a6dcf137b42939bf8e", func := "radome/radomelaw01.BeamViews", spec := "beamViews", inPlace := ["internal/bytealg.IndexByteString", "internal/bytealg.IndexString"], unfollowed := true, recurses := true, named := ["internal/bytealg.MaxLen"], apart := false }
def BeamViewsSaid : Prop := beamViewsRow.holds Try.pinned (OpenSpec.ofChange beamViewsSpec)

/-- ITS FALSE NEIGHBOUR: 'it returns false'. Refute it at one input. -/
def beamViewsWrong : ChangeSpec := { name := "beamViews", fn := fun _ => fun
  | [d1, d2, d3] => { results := [.lit (.bool false)], args := [d1, d2, d3] }
  | _ => none }
def BeamViewsWrongFalsely : Prop := beamViewsRow.holds Try.pinned (OpenSpec.ofChange beamViewsWrong)

/-- 'radomelaw01.BeamKnown': WHATEVER THE INPUT: true; the input reads as it did. -/
def beamKnownSpec : ChangeSpec := { name := "beamKnown", fn := fun _ => fun
  | [] => { results := [.lit (.bool true)], args := [] }
  | _ => none }
def beamKnownRow : OpenClaim := { program := "ythhhecidogcmjaa", sum := "dfc8be07c787369fc7f349848a03f93d5b76b8204797a5a6dcf137b42939bf8e", func := "radome/radomelaw01.BeamKnown", spec := "beamKnown", inPlace := ["internal/bytealg.IndexByteString", "internal/bytealg.IndexString"], unfollowed := true, recurses := true, named := ["internal/bytealg.MaxLen"], apart := false }
def BeamKnownSaid : Prop := beamKnownRow.holds Try.pinned (OpenSpec.ofChange beamKnownSpec)

/-- ITS FALSE NEIGHBOUR: 'it returns false'. Refute it at one input. -/
def beamKnownWrong : ChangeSpec := { name := "beamKnown", fn := fun _ => fun
  | [] => { results := [.lit (.bool false)], args := [] }
  | _ => none }
def BeamKnownWrongFalsely : Prop := beamKnownRow.holds Try.pinned (OpenSpec.ofChange beamKnownWrong)

/- THE SECOND FORM. 'bulk': how many values and letters a reading holds, each counted each time it is reached (what is shared counts as often as it is met; a slice's spare places count too). A statement '..UptoSaid' is the law's where the arguments, and the package variables that the reading takes, are together of bulk at most 1048576: NARROWER than '..Said'. Prove '..Said' where nothing that the law and all that it calls make is longer than what came in: it says more and counts as full. Else prove '..UptoSaid'. A law counts once. -/
mutual
def uptoBulk {H : Type} : DataW H → Nat
  | .lit (.string bytes) => bytes.length + 1
  | .lit _ => 1
  | .nil => 1
  | .ptr d => uptoBulk d + 1
  | .slice elems spare => uptoBulkAll elems + uptoBulkAll spare + 1
  | .agg parts => uptoBulkAll parts + 1
  | .iface _ d => uptoBulk d + 1
  | .map entries => uptoBulkEntries entries + 1
  | .held _ => 1
def uptoBulkAll {H : Type} : List (DataW H) → Nat
  | [] => 0
  | d :: r => uptoBulk d + uptoBulkAll r
def uptoBulkEntries {H : Type} : List (Lit × DataW H) → Nat
  | [] => 0
  | x :: r => uptoBulkEntry x + uptoBulkEntries r
def uptoBulkEntry {H : Type} : Lit × DataW H → Nat
  | (.string bytes, d) => bytes.length + uptoBulk d + 1
  | (_, d) => uptoBulk d + 1
 end
def uptoSmall : (H : Type) → List (DataW H) → Bool := fun _ ds => decide (uptoBulkAll ds ≤ 1048576)
def OpenSpec.upto (s : _root_.Go.ChangeSpec) : _root_.Go.OpenSpec := { _root_.Go.OpenSpec.ofChange s with cond := some uptoSmall }

/-- 'radomelaw01.BeamDirections', WHERE WHAT IT READS IS OF BULK AT MOST 1048576: true; the input reads as it did. -/
def beamDirectionsUptoRow : OpenClaim := { program := "ythhhecidogcmjaa", sum := "dfc8be07c787369fc7f349848a03f93d5b76b8204797a5a6dcf137b42939bf8e", func := "radome/radomelaw01.BeamDirections", spec := "beamDirections", inPlace := ["internal/bytealg.IndexByteString", "internal/bytealg.IndexString"], unfollowed := true, recurses := true, named := ["internal/bytealg.MaxLen"], apart := false, narrowed := true }
def BeamDirectionsUptoSaid : Prop := beamDirectionsUptoRow.holds Try.pinned (OpenSpec.upto beamDirectionsSpec)

/-- 'radomelaw01.BeamUnit', WHERE WHAT IT READS IS OF BULK AT MOST 1048576: true; the input reads as it did. -/
def beamUnitUptoRow : OpenClaim := { program := "ythhhecidogcmjaa", sum := "dfc8be07c787369fc7f349848a03f93d5b76b8204797a5a6dcf137b42939bf8e", func := "radome/radomelaw01.BeamUnit", spec := "beamUnit", inPlace := ["internal/bytealg.IndexByteString", "internal/bytealg.IndexString"], unfollowed := true, recurses := true, named := ["internal/bytealg.MaxLen"], apart := false, narrowed := true }
def BeamUnitUptoSaid : Prop := beamUnitUptoRow.holds Try.pinned (OpenSpec.upto beamUnitSpec)

/-- 'radomelaw01.BeamChecks', WHERE WHAT IT READS IS OF BULK AT MOST 1048576: true; the input reads as it did. -/
def beamChecksUptoRow : OpenClaim := { program := "ythhhecidogcmjaa", sum := "dfc8be07c787369fc7f349848a03f93d5b76b8204797a5a6dcf137b42939bf8e", func := "radome/radomelaw01.BeamChecks", spec := "beamChecks", inPlace := ["internal/bytealg.IndexByteString", "internal/bytealg.IndexString"], unfollowed := true, recurses := true, named := ["internal/bytealg.MaxLen"], apart := false, narrowed := true }
def BeamChecksUptoSaid : Prop := beamChecksUptoRow.holds Try.pinned (OpenSpec.upto beamChecksSpec)

/-- 'radomelaw01.BeamRanges', WHERE WHAT IT READS IS OF BULK AT MOST 1048576: true; the input reads as it did. -/
def beamRangesUptoRow : OpenClaim := { program := "ythhhecidogcmjaa", sum := "dfc8be07c787369fc7f349848a03f93d5b76b8204797a5a6dcf137b42939bf8e", func := "radome/radomelaw01.BeamRanges", spec := "beamRanges", inPlace := ["internal/bytealg.IndexByteString", "internal/bytealg.IndexString"], unfollowed := true, recurses := true, named := ["internal/bytealg.MaxLen"], apart := false, narrowed := true }
def BeamRangesUptoSaid : Prop := beamRangesUptoRow.holds Try.pinned (OpenSpec.upto beamRangesSpec)

/-- 'radomelaw01.BeamBounds', WHERE WHAT IT READS IS OF BULK AT MOST 1048576: true; the input reads as it did. -/
def beamBoundsUptoRow : OpenClaim := { program := "ythhhecidogcmjaa", sum := "dfc8be07c787369fc7f349848a03f93d5b76b8204797a5a6dcf137b42939bf8e", func := "radome/radomelaw01.BeamBounds", spec := "beamBounds", inPlace := ["internal/bytealg.IndexByteString", "internal/bytealg.IndexString"], unfollowed := true, recurses := true, named := ["internal/bytealg.MaxLen"], apart := false, narrowed := true }
def BeamBoundsUptoSaid : Prop := beamBoundsUptoRow.holds Try.pinned (OpenSpec.upto beamBoundsSpec)

/-- 'radomelaw01.BeamSectors', WHERE WHAT IT READS IS OF BULK AT MOST 1048576: true; the input reads as it did. -/
def beamSectorsUptoRow : OpenClaim := { program := "ythhhecidogcmjaa", sum := "dfc8be07c787369fc7f349848a03f93d5b76b8204797a5a6dcf137b42939bf8e", func := "radome/radomelaw01.BeamSectors", spec := "beamSectors", inPlace := ["internal/bytealg.IndexByteString", "internal/bytealg.IndexString"], unfollowed := true, recurses := true, named := ["internal/bytealg.MaxLen"], apart := false, narrowed := true }
def BeamSectorsUptoSaid : Prop := beamSectorsUptoRow.holds Try.pinned (OpenSpec.upto beamSectorsSpec)

/-- 'radomelaw01.BeamBlocks', WHERE WHAT IT READS IS OF BULK AT MOST 1048576: true; the input reads as it did. -/
def beamBlocksUptoRow : OpenClaim := { program := "ythhhecidogcmjaa", sum := "dfc8be07c787369fc7f349848a03f93d5b76b8204797a5a6dcf137b42939bf8e", func := "radome/radomelaw01.BeamBlocks", spec := "beamBlocks", inPlace := ["internal/bytealg.IndexByteString", "internal/bytealg.IndexString"], unfollowed := true, recurses := true, named := ["internal/bytealg.MaxLen"], apart := false, narrowed := true }
def BeamBlocksUptoSaid : Prop := beamBlocksUptoRow.holds Try.pinned (OpenSpec.upto beamBlocksSpec)

/-- 'radomelaw01.BeamGrows', WHERE WHAT IT READS IS OF BULK AT MOST 1048576: true; the input reads as it did. -/
def beamGrowsUptoRow : OpenClaim := { program := "ythhhecidogcmjaa", sum := "dfc8be07c787369fc7f349848a03f93d5b76b8204797a5a6dcf137b42939bf8e", func := "radome/radomelaw01.BeamGrows", spec := "beamGrows", inPlace := ["internal/bytealg.IndexByteString", "internal/bytealg.IndexString"], unfollowed := true, recurses := true, named := ["internal/bytealg.MaxLen"], apart := false, narrowed := true }
def BeamGrowsUptoSaid : Prop := beamGrowsUptoRow.holds Try.pinned (OpenSpec.upto beamGrowsSpec)

/-- 'radomelaw01.BeamPlaces', WHERE WHAT IT READS IS OF BULK AT MOST 1048576: true; the input reads as it did. -/
def beamPlacesUptoRow : OpenClaim := { program := "ythhhecidogcmjaa", sum := "dfc8be07c787369fc7f349848a03f93d5b76b8204797a5a6dcf137b42939bf8e", func := "radome/radomelaw01.BeamPlaces", spec := "beamPlaces", inPlace := ["internal/bytealg.IndexByteString", "internal/bytealg.IndexString"], unfollowed := true, recurses := true, named := ["internal/bytealg.MaxLen"], apart := false, narrowed := true }
def BeamPlacesUptoSaid : Prop := beamPlacesUptoRow.holds Try.pinned (OpenSpec.upto beamPlacesSpec)

/-- 'radomelaw01.BeamViews', WHERE WHAT IT READS IS OF BULK AT MOST 1048576: true; the input reads as it did. -/
def beamViewsUptoRow : OpenClaim := { program := "ythhhecidogcmjaa", sum := "dfc8be07c787369fc7f349848a03f93d5b76b8204797a5a6dcf137b42939bf8e", func := "radome/radomelaw01.BeamViews", spec := "beamViews", inPlace := ["internal/bytealg.IndexByteString", "internal/bytealg.IndexString"], unfollowed := true, recurses := true, named := ["internal/bytealg.MaxLen"], apart := false, narrowed := true }
def BeamViewsUptoSaid : Prop := beamViewsUptoRow.holds Try.pinned (OpenSpec.upto beamViewsSpec)

/-- 'radomelaw01.BeamKnown', WHERE WHAT IT READS IS OF BULK AT MOST 1048576: true; the input reads as it did. -/
def beamKnownUptoRow : OpenClaim := { program := "ythhhecidogcmjaa", sum := "dfc8be07c787369fc7f349848a03f93d5b76b8204797a5a6dcf137b42939bf8e", func := "radome/radomelaw01.BeamKnown", spec := "beamKnown", inPlace := ["internal/bytealg.IndexByteString", "internal/bytealg.IndexString"], unfollowed := true, recurses := true, named := ["internal/bytealg.MaxLen"], apart := false, narrowed := true }
def BeamKnownUptoSaid : Prop := beamKnownUptoRow.holds Try.pinned (OpenSpec.upto beamKnownSpec)

end Rows
end Go.Proofs.Ythhhecidogcmjaa
