/-
  No cell of these rows narrows 'for every input' (looked for: loops, veiled, ifaces, maps, wideKeys, modest, calm, conditions, laid).
  DERIVED. THE GIVEN ROWS OF THIS SEAT. 9 by the template 'for every input the law returns true; each argument reads behind the call as it read before'; 0 by the template 'total and deterministic' (their statements: YtllpffkifleigaaTotals.lean).
  GIVEN WITH THE SEED: the statements are not yours to turn. If you find one false, say at which input.
  Laid BY PROGRAM, IN A SANDBOX (cutbox-rows.mjs): the forced cells as the released guide's own fill.sh prints them over the translation a92d0bb6b1c62231… (all of the seat's roots in one cut). By AI agents, Wed Nov 11 2026. No macro, syntax, notation, axiom, sorry.
-/
import Derived.Test.YtllpffkifleigaaChecked
import GoSem.Claim
import GoSem.ClaimJoined
import GoSem.ClaimMapViews
import Derived.JoinedTies
import Derived.KernelRfl
namespace Go.Proofs.Ytllpffkifleigaa
/- THE CELL 'sum', in the pinned program and in every row, IS THE sha256 OF THE DUMP (.gsa) THAT YtllpffkifleigaaProg.lean LOADS. Nothing in Lean hashes anything: it is a label: what it is worth is what the hold of that sum in a sandbox is worth. -/
noncomputable def Try.pinned : Pinned := { name := "ytllpffkifleigaa", sum := "a92d0bb6b1c62231ae25bd2c315689076c42f8d52378e3f2a85da78a845ecbfa", checked := Try.checked }
namespace Rows
def none {H : Type} : Left H := { results := [], args := [] }

/-- 'radomelaw10.WindBounds': WHATEVER THE INPUT: true; the input reads as it did. -/
def windBoundsSpec : ChangeSpec := { name := "windBounds", fn := fun _ => fun
  | [d1, d2, d3, d4, d5, d6] => { results := [.lit (.bool true)], args := [d1, d2, d3, d4, d5, d6] }
  | _ => none }
def windBoundsRow : OpenClaim := { program := "ytllpffkifleigaa", sum := "a92d0bb6b1c62231ae25bd2c315689076c42f8d52378e3f2a85da78a845ecbfa", func := "radome/radomelaw10.WindBounds", spec := "windBounds", inPlace := ["math/bits.Add64", "math/bits.Sub64", "internal/bytealg.IndexByteString", "internal/bytealg.IndexString"], unfollowed := true, recurses := true, named := ["math/bits.divideError", "math/bits.overflowError", "internal/bytealg.MaxLen"], apart := false }
def WindBoundsSaid : Prop := windBoundsRow.holds Try.pinned (OpenSpec.ofChange windBoundsSpec)

/-- ITS FALSE NEIGHBOUR: 'it returns false'. Refute it at one input. -/
def windBoundsWrong : ChangeSpec := { name := "windBounds", fn := fun _ => fun
  | [d1, d2, d3, d4, d5, d6] => { results := [.lit (.bool false)], args := [d1, d2, d3, d4, d5, d6] }
  | _ => none }
def WindBoundsWrongFalsely : Prop := windBoundsRow.holds Try.pinned (OpenSpec.ofChange windBoundsWrong)

/-- 'radomelaw10.WindConflicts': WHATEVER THE INPUT: true; the input reads as it did. -/
def windConflictsSpec : ChangeSpec := { name := "windConflicts", fn := fun _ => fun
  | [d] => { results := [.lit (.bool true)], args := [d] }
  | _ => none }
def windConflictsRow : OpenClaim := { program := "ytllpffkifleigaa", sum := "a92d0bb6b1c62231ae25bd2c315689076c42f8d52378e3f2a85da78a845ecbfa", func := "radome/radomelaw10.WindConflicts", spec := "windConflicts", inPlace := ["math/bits.Add64", "math/bits.Sub64", "internal/bytealg.IndexByteString", "internal/bytealg.IndexString"], unfollowed := true, recurses := true, named := ["math/bits.divideError", "math/bits.overflowError", "internal/bytealg.MaxLen"], apart := false }
def WindConflictsSaid : Prop := windConflictsRow.holds Try.pinned (OpenSpec.ofChange windConflictsSpec)

/-- ITS FALSE NEIGHBOUR: 'it returns false'. Refute it at one input. -/
def windConflictsWrong : ChangeSpec := { name := "windConflicts", fn := fun _ => fun
  | [d] => { results := [.lit (.bool false)], args := [d] }
  | _ => none }
def WindConflictsWrongFalsely : Prop := windConflictsRow.holds Try.pinned (OpenSpec.ofChange windConflictsWrong)

/-- 'radomelaw10.WindParts': WHATEVER THE INPUT: true; the input reads as it did. -/
def windPartsSpec : ChangeSpec := { name := "windParts", fn := fun _ => fun
  | [d1, d2] => { results := [.lit (.bool true)], args := [d1, d2] }
  | _ => none }
def windPartsRow : OpenClaim := { program := "ytllpffkifleigaa", sum := "a92d0bb6b1c62231ae25bd2c315689076c42f8d52378e3f2a85da78a845ecbfa", func := "radome/radomelaw10.WindParts", spec := "windParts", inPlace := ["math/bits.Add64", "math/bits.Sub64", "internal/bytealg.IndexByteString", "internal/bytealg.IndexString"], unfollowed := true, recurses := true, named := ["math/bits.divideError", "math/bits.overflowError", "internal/bytealg.MaxLen"], apart := false }
def WindPartsSaid : Prop := windPartsRow.holds Try.pinned (OpenSpec.ofChange windPartsSpec)

/-- ITS FALSE NEIGHBOUR: 'it returns false'. Refute it at one input. -/
def windPartsWrong : ChangeSpec := { name := "windParts", fn := fun _ => fun
  | [d1, d2] => { results := [.lit (.bool false)], args := [d1, d2] }
  | _ => none }
def WindPartsWrongFalsely : Prop := windPartsRow.holds Try.pinned (OpenSpec.ofChange windPartsWrong)

/-- 'radomelaw10.WindReached': WHATEVER THE INPUT: true; the input reads as it did. -/
def windReachedSpec : ChangeSpec := { name := "windReached", fn := fun _ => fun
  | [d1, d2, d3, d4, d5] => { results := [.lit (.bool true)], args := [d1, d2, d3, d4, d5] }
  | _ => none }
def windReachedRow : OpenClaim := { program := "ytllpffkifleigaa", sum := "a92d0bb6b1c62231ae25bd2c315689076c42f8d52378e3f2a85da78a845ecbfa", func := "radome/radomelaw10.WindReached", spec := "windReached", inPlace := ["math/bits.Add64", "math/bits.Sub64", "internal/bytealg.IndexByteString", "internal/bytealg.IndexString"], unfollowed := true, recurses := true, named := ["math/bits.divideError", "math/bits.overflowError", "internal/bytealg.MaxLen"], apart := false }
def WindReachedSaid : Prop := windReachedRow.holds Try.pinned (OpenSpec.ofChange windReachedSpec)

/-- ITS FALSE NEIGHBOUR: 'it returns false'. Refute it at one input. -/
def windReachedWrong : ChangeSpec := { name := "windReached", fn := fun _ => fun
  | [d1, d2, d3, d4, d5] => { results := [.lit (.bool false)], args := [d1, d2, d3, d4, d5] }
  | _ => none }
def WindReachedWrongFalsely : Prop := windReachedRow.holds Try.pinned (OpenSpec.ofChange windReachedWrong)

/-- 'radomelaw10.WindBlames': WHATEVER THE INPUT: true; the input reads as it did. -/
def windBlamesSpec : ChangeSpec := { name := "windBlames", fn := fun _ => fun
  | [d1, d2, d3, d4, d5, d6] => { results := [.lit (.bool true)], args := [d1, d2, d3, d4, d5, d6] }
  | _ => none }
def windBlamesRow : OpenClaim := { program := "ytllpffkifleigaa", sum := "a92d0bb6b1c62231ae25bd2c315689076c42f8d52378e3f2a85da78a845ecbfa", func := "radome/radomelaw10.WindBlames", spec := "windBlames", inPlace := ["math/bits.Add64", "math/bits.Sub64", "internal/bytealg.IndexByteString", "internal/bytealg.IndexString"], unfollowed := true, recurses := true, named := ["math/bits.divideError", "math/bits.overflowError", "internal/bytealg.MaxLen"], apart := false }
def WindBlamesSaid : Prop := windBlamesRow.holds Try.pinned (OpenSpec.ofChange windBlamesSpec)

/-- ITS FALSE NEIGHBOUR: 'it returns false'. Refute it at one input. -/
def windBlamesWrong : ChangeSpec := { name := "windBlames", fn := fun _ => fun
  | [d1, d2, d3, d4, d5, d6] => { results := [.lit (.bool false)], args := [d1, d2, d3, d4, d5, d6] }
  | _ => none }
def WindBlamesWrongFalsely : Prop := windBlamesRow.holds Try.pinned (OpenSpec.ofChange windBlamesWrong)

/-- 'radomelaw10.WindOutliers': WHATEVER THE INPUT: true; the input reads as it did. -/
def windOutliersSpec : ChangeSpec := { name := "windOutliers", fn := fun _ => fun
  | [d1, d2, d3, d4, d5, d6, d7] => { results := [.lit (.bool true)], args := [d1, d2, d3, d4, d5, d6, d7] }
  | _ => none }
def windOutliersRow : OpenClaim := { program := "ytllpffkifleigaa", sum := "a92d0bb6b1c62231ae25bd2c315689076c42f8d52378e3f2a85da78a845ecbfa", func := "radome/radomelaw10.WindOutliers", spec := "windOutliers", inPlace := ["math/bits.Add64", "math/bits.Sub64", "internal/bytealg.IndexByteString", "internal/bytealg.IndexString"], unfollowed := true, recurses := true, named := ["math/bits.divideError", "math/bits.overflowError", "internal/bytealg.MaxLen"], apart := false }
def WindOutliersSaid : Prop := windOutliersRow.holds Try.pinned (OpenSpec.ofChange windOutliersSpec)

/-- ITS FALSE NEIGHBOUR: 'it returns false'. Refute it at one input. -/
def windOutliersWrong : ChangeSpec := { name := "windOutliers", fn := fun _ => fun
  | [d1, d2, d3, d4, d5, d6, d7] => { results := [.lit (.bool false)], args := [d1, d2, d3, d4, d5, d6, d7] }
  | _ => none }
def WindOutliersWrongFalsely : Prop := windOutliersRow.holds Try.pinned (OpenSpec.ofChange windOutliersWrong)

/-- 'radomelaw10.WindFewer': WHATEVER THE INPUT: true; the input reads as it did. -/
def windFewerSpec : ChangeSpec := { name := "windFewer", fn := fun _ => fun
  | [d1, d2, d3, d4, d5, d6] => { results := [.lit (.bool true)], args := [d1, d2, d3, d4, d5, d6] }
  | _ => none }
def windFewerRow : OpenClaim := { program := "ytllpffkifleigaa", sum := "a92d0bb6b1c62231ae25bd2c315689076c42f8d52378e3f2a85da78a845ecbfa", func := "radome/radomelaw10.WindFewer", spec := "windFewer", inPlace := ["math/bits.Add64", "math/bits.Sub64", "internal/bytealg.IndexByteString", "internal/bytealg.IndexString"], unfollowed := true, recurses := true, named := ["math/bits.divideError", "math/bits.overflowError", "internal/bytealg.MaxLen"], apart := false }
def WindFewerSaid : Prop := windFewerRow.holds Try.pinned (OpenSpec.ofChange windFewerSpec)

/-- ITS FALSE NEIGHBOUR: 'it returns false'. Refute it at one input. -/
def windFewerWrong : ChangeSpec := { name := "windFewer", fn := fun _ => fun
  | [d1, d2, d3, d4, d5, d6] => { results := [.lit (.bool false)], args := [d1, d2, d3, d4, d5, d6] }
  | _ => none }
def WindFewerWrongFalsely : Prop := windFewerRow.holds Try.pinned (OpenSpec.ofChange windFewerWrong)

/-- 'radomelaw10.WindSights': WHATEVER THE INPUT: true; the input reads as it did. -/
def windSightsSpec : ChangeSpec := { name := "windSights", fn := fun _ => fun
  | [d1, d2, d3, d4, d5, d6, d7, d8, d9] => { results := [.lit (.bool true)], args := [d1, d2, d3, d4, d5, d6, d7, d8, d9] }
  | _ => none }
def windSightsRow : OpenClaim := { program := "ytllpffkifleigaa", sum := "a92d0bb6b1c62231ae25bd2c315689076c42f8d52378e3f2a85da78a845ecbfa", func := "radome/radomelaw10.WindSights", spec := "windSights", inPlace := ["math/bits.Add64", "math/bits.Sub64", "internal/bytealg.IndexByteString", "internal/bytealg.IndexString"], unfollowed := true, recurses := true, named := ["math/bits.divideError", "math/bits.overflowError", "internal/bytealg.MaxLen"], apart := false }
def WindSightsSaid : Prop := windSightsRow.holds Try.pinned (OpenSpec.ofChange windSightsSpec)

/-- ITS FALSE NEIGHBOUR: 'it returns false'. Refute it at one input. -/
def windSightsWrong : ChangeSpec := { name := "windSights", fn := fun _ => fun
  | [d1, d2, d3, d4, d5, d6, d7, d8, d9] => { results := [.lit (.bool false)], args := [d1, d2, d3, d4, d5, d6, d7, d8, d9] }
  | _ => none }
def WindSightsWrongFalsely : Prop := windSightsRow.holds Try.pinned (OpenSpec.ofChange windSightsWrong)

/-- 'radomelaw10.WindTruth': WHATEVER THE INPUT: true; the input reads as it did. -/
def windTruthSpec : ChangeSpec := { name := "windTruth", fn := fun _ => fun
  | [d1, d2, d3, d4, d5, d6, d7, d8, d9, d10] => { results := [.lit (.bool true)], args := [d1, d2, d3, d4, d5, d6, d7, d8, d9, d10] }
  | _ => none }
def windTruthRow : OpenClaim := { program := "ytllpffkifleigaa", sum := "a92d0bb6b1c62231ae25bd2c315689076c42f8d52378e3f2a85da78a845ecbfa", func := "radome/radomelaw10.WindTruth", spec := "windTruth", inPlace := ["math/bits.Add64", "math/bits.Sub64", "internal/bytealg.IndexByteString", "internal/bytealg.IndexString"], unfollowed := true, recurses := true, named := ["math/bits.divideError", "math/bits.overflowError", "internal/bytealg.MaxLen"], apart := false }
def WindTruthSaid : Prop := windTruthRow.holds Try.pinned (OpenSpec.ofChange windTruthSpec)

/-- ITS FALSE NEIGHBOUR: 'it returns false'. Refute it at one input. -/
def windTruthWrong : ChangeSpec := { name := "windTruth", fn := fun _ => fun
  | [d1, d2, d3, d4, d5, d6, d7, d8, d9, d10] => { results := [.lit (.bool false)], args := [d1, d2, d3, d4, d5, d6, d7, d8, d9, d10] }
  | _ => none }
def WindTruthWrongFalsely : Prop := windTruthRow.holds Try.pinned (OpenSpec.ofChange windTruthWrong)

/- THE SECOND FORM. 'bulk': how many values and letters a reading holds, each counted each time it is reached (what is shared counts as often as it is met; a slice's spare places count too). A statement '..UptoSaid' is the law's where the arguments, and the package variables that the reading takes, are together of bulk at most 1048576: NARROWER than '..Said'. Prove '..Said' where nothing that the law and all that it calls make is longer than what came in: it says more and counts as full. Else prove '..UptoSaid'. A law counts once. -/
mutual
def uptoBulk {H : Type} : DataW H → Nat
  | .lit (.string bytes) => bytes.length + 1
  | .lit _ => 1
  | .nil => 1
  | .ptr d => uptoBulk d + 1
  | .slice elems spare => uptoBulkAll elems + uptoBulkAll spare + 1
  | .agg parts => uptoBulkAll parts + 1
  | .iface _ d => uptoBulk d + 1
  | .map entries => uptoBulkEntries entries + 1
  | .held _ => 1
def uptoBulkAll {H : Type} : List (DataW H) → Nat
  | [] => 0
  | d :: r => uptoBulk d + uptoBulkAll r
def uptoBulkEntries {H : Type} : List (Lit × DataW H) → Nat
  | [] => 0
  | x :: r => uptoBulkEntry x + uptoBulkEntries r
def uptoBulkEntry {H : Type} : Lit × DataW H → Nat
  | (.string bytes, d) => bytes.length + uptoBulk d + 1
  | (_, d) => uptoBulk d + 1
 end
def uptoSmall : (H : Type) → List (DataW H) → Bool := fun _ ds => decide (uptoBulkAll ds ≤ 1048576)
def OpenSpec.upto (s : _root_.Go.ChangeSpec) : _root_.Go.OpenSpec := { _root_.Go.OpenSpec.ofChange s with cond := some uptoSmall }

/-- 'radomelaw10.WindBounds', WHERE WHAT IT READS IS OF BULK AT MOST 1048576: true; the input reads as it did. -/
def windBoundsUptoRow : OpenClaim := { program := "ytllpffkifleigaa", sum := "a92d0bb6b1c62231ae25bd2c315689076c42f8d52378e3f2a85da78a845ecbfa", func := "radome/radomelaw10.WindBounds", spec := "windBounds", inPlace := ["math/bits.Add64", "math/bits.Sub64", "internal/bytealg.IndexByteString", "internal/bytealg.IndexString"], unfollowed := true, recurses := true, named := ["math/bits.divideError", "math/bits.overflowError", "internal/bytealg.MaxLen"], apart := false, narrowed := true }
def WindBoundsUptoSaid : Prop := windBoundsUptoRow.holds Try.pinned (OpenSpec.upto windBoundsSpec)

/-- 'radomelaw10.WindConflicts', WHERE WHAT IT READS IS OF BULK AT MOST 1048576: true; the input reads as it did. -/
def windConflictsUptoRow : OpenClaim := { program := "ytllpffkifleigaa", sum := "a92d0bb6b1c62231ae25bd2c315689076c42f8d52378e3f2a85da78a845ecbfa", func := "radome/radomelaw10.WindConflicts", spec := "windConflicts", inPlace := ["math/bits.Add64", "math/bits.Sub64", "internal/bytealg.IndexByteString", "internal/bytealg.IndexString"], unfollowed := true, recurses := true, named := ["math/bits.divideError", "math/bits.overflowError", "internal/bytealg.MaxLen"], apart := false, narrowed := true }
def WindConflictsUptoSaid : Prop := windConflictsUptoRow.holds Try.pinned (OpenSpec.upto windConflictsSpec)

/-- 'radomelaw10.WindParts', WHERE WHAT IT READS IS OF BULK AT MOST 1048576: true; the input reads as it did. -/
def windPartsUptoRow : OpenClaim := { program := "ytllpffkifleigaa", sum := "a92d0bb6b1c62231ae25bd2c315689076c42f8d52378e3f2a85da78a845ecbfa", func := "radome/radomelaw10.WindParts", spec := "windParts", inPlace := ["math/bits.Add64", "math/bits.Sub64", "internal/bytealg.IndexByteString", "internal/bytealg.IndexString"], unfollowed := true, recurses := true, named := ["math/bits.divideError", "math/bits.overflowError", "internal/bytealg.MaxLen"], apart := false, narrowed := true }
def WindPartsUptoSaid : Prop := windPartsUptoRow.holds Try.pinned (OpenSpec.upto windPartsSpec)

/-- 'radomelaw10.WindReached', WHERE WHAT IT READS IS OF BULK AT MOST 1048576: true; the input reads as it did. -/
def windReachedUptoRow : OpenClaim := { program := "ytllpffkifleigaa", sum := "a92d0bb6b1c62231ae25bd2c315689076c42f8d52378e3f2a85da78a845ecbfa", func := "radome/radomelaw10.WindReached", spec := "windReached", inPlace := ["math/bits.Add64", "math/bits.Sub64", "internal/bytealg.IndexByteString", "internal/bytealg.IndexString"], unfollowed := true, recurses := true, named := ["math/bits.divideError", "math/bits.overflowError", "internal/bytealg.MaxLen"], apart := false, narrowed := true }
def WindReachedUptoSaid : Prop := windReachedUptoRow.holds Try.pinned (OpenSpec.upto windReachedSpec)

/-- 'radomelaw10.WindBlames', WHERE WHAT IT READS IS OF BULK AT MOST 1048576: true; the input reads as it did. -/
def windBlamesUptoRow : OpenClaim := { program := "ytllpffkifleigaa", sum := "a92d0bb6b1c62231ae25bd2c315689076c42f8d52378e3f2a85da78a845ecbfa", func := "radome/radomelaw10.WindBlames", spec := "windBlames", inPlace := ["math/bits.Add64", "math/bits.Sub64", "internal/bytealg.IndexByteString", "internal/bytealg.IndexString"], unfollowed := true, recurses := true, named := ["math/bits.divideError", "math/bits.overflowError", "internal/bytealg.MaxLen"], apart := false, narrowed := true }
def WindBlamesUptoSaid : Prop := windBlamesUptoRow.holds Try.pinned (OpenSpec.upto windBlamesSpec)

/-- 'radomelaw10.WindOutliers', WHERE WHAT IT READS IS OF BULK AT MOST 1048576: true; the input reads as it did. -/
def windOutliersUptoRow : OpenClaim := { program := "ytllpffkifleigaa", sum := "a92d0bb6b1c62231ae25bd2c315689076c42f8d52378e3f2a85da78a845ecbfa", func := "radome/radomelaw10.WindOutliers", spec := "windOutliers", inPlace := ["math/bits.Add64", "math/bits.Sub64", "internal/bytealg.IndexByteString", "internal/bytealg.IndexString"], unfollowed := true, recurses := true, named := ["math/bits.divideError", "math/bits.overflowError", "internal/bytealg.MaxLen"], apart := false, narrowed := true }
def WindOutliersUptoSaid : Prop := windOutliersUptoRow.holds Try.pinned (OpenSpec.upto windOutliersSpec)

/-- 'radomelaw10.WindFewer', WHERE WHAT IT READS IS OF BULK AT MOST 1048576: true; the input reads as it did. -/
def windFewerUptoRow : OpenClaim := { program := "ytllpffkifleigaa", sum := "a92d0bb6b1c62231ae25bd2c315689076c42f8d52378e3f2a85da78a845ecbfa", func := "radome/radomelaw10.WindFewer", spec := "windFewer", inPlace := ["math/bits.Add64", "math/bits.Sub64", "internal/bytealg.IndexByteString", "internal/bytealg.IndexString"], unfollowed := true, recurses := true, named := ["math/bits.divideError", "math/bits.overflowError", "internal/bytealg.MaxLen"], apart := false, narrowed := true }
def WindFewerUptoSaid : Prop := windFewerUptoRow.holds Try.pinned (OpenSpec.upto windFewerSpec)

/-- 'radomelaw10.WindSights', WHERE WHAT IT READS IS OF BULK AT MOST 1048576: true; the input reads as it did. -/
def windSightsUptoRow : OpenClaim := { program := "ytllpffkifleigaa", sum := "a92d0bb6b1c62231ae25bd2c315689076c42f8d52378e3f2a85da78a845ecbfa", func := "radome/radomelaw10.WindSights", spec := "windSights", inPlace := ["math/bits.Add64", "math/bits.Sub64", "internal/bytealg.IndexByteString", "internal/bytealg.IndexString"], unfollowed := true, recurses := true, named := ["math/bits.divideError", "math/bits.overflowError", "internal/bytealg.MaxLen"], apart := false, narrowed := true }
def WindSightsUptoSaid : Prop := windSightsUptoRow.holds Try.pinned (OpenSpec.upto windSightsSpec)

/-- 'radomelaw10.WindTruth', WHERE WHAT IT READS IS OF BULK AT MOST 1048576: true; the input reads as it did. -/
def windTruthUptoRow : OpenClaim := { program := "ytllpffkifleigaa", sum := "a92d0bb6b1c62231ae25bd2c315689076c42f8d52378e3f2a85da78a845ecbfa", func := "radome/radomelaw10.WindTruth", spec := "windTruth", inPlace := ["math/bits.Add64", "math/bits.Sub64", "internal/bytealg.IndexByteString", "internal/bytealg.IndexString"], unfollowed := true, recurses := true, named := ["math/bits.divideError", "math/bits.overflowError", "internal/bytealg.MaxLen"], apart := false, narrowed := true }
def WindTruthUptoSaid : Prop := windTruthUptoRow.holds Try.pinned (OpenSpec.upto windTruthSpec)

end Rows
end Go.Proofs.Ytllpffkifleigaa
