/-
  No cell of these rows narrows 'for every input' (looked for: loops, veiled, ifaces, maps, wideKeys, modest, calm, conditions, laid).
  DERIVED. THE GIVEN ROWS OF THIS SEAT. 9 by the template 'for every input the law returns true; each argument reads behind the call as it read before'; 0 by the template 'total and deterministic' (their statements: YtmglgahagbfbkaaTotals.lean).
  GIVEN WITH THE SEED: the statements are not yours to turn. If you find one false, say at which input.
  Laid BY PROGRAM, IN A SANDBOX (cutbox-rows.mjs): the forced cells as the released guide's own fill.sh prints them over the translation f3051c39fa9cc61e… (all of the seat's roots in one cut). By AI agents, Wed Nov 11 2026. No macro, syntax, notation, axiom, sorry.
-/
import Derived.Test.YtmglgahagbfbkaaChecked
import GoSem.Claim
import GoSem.ClaimJoined
import GoSem.ClaimMapViews
import Derived.JoinedTies
import Derived.KernelRfl
namespace Go.Proofs.Ytmglgahagbfbkaa
/- THE CELL 'sum', in the pinned program and in every row, IS THE sha256 OF THE DUMP (.gsa) THAT YtmglgahagbfbkaaProg.lean LOADS. Nothing in Lean hashes anything: it is a label: what it is worth is what the hold of that sum in a sandbox is worth. -/
noncomputable def Try.pinned : Pinned := { name := "ytmglgahagbfbkaa", sum := "f3051c39fa9cc61e3da5c61496c80ce78bc64fed61ed70b17707c1697962f48f", checked := Try.checked }
namespace Rows
def none {H : Type} : Left H := { results := [], args := [] }

/-- 'radomelaw05.RainTables': WHATEVER THE INPUT: true; the input reads as it did. -/
def rainTablesSpec : ChangeSpec := { name := "rainTables", fn := fun _ => fun
  | [d1, d2, d3] => { results := [.lit (.bool true)], args := [d1, d2, d3] }
  | _ => none }
def rainTablesRow : OpenClaim := { program := "ytmglgahagbfbkaa", sum := "f3051c39fa9cc61e3da5c61496c80ce78bc64fed61ed70b17707c1697962f48f", func := "radome/radomelaw05.RainTables", spec := "rainTables", unfollowed := true, recurses := true, apart := false }
def RainTablesSaid : Prop := rainTablesRow.holds Try.pinned (OpenSpec.ofChange rainTablesSpec)

/-- ITS FALSE NEIGHBOUR: 'it returns false'. Refute it at one input. -/
def rainTablesWrong : ChangeSpec := { name := "rainTables", fn := fun _ => fun
  | [d1, d2, d3] => { results := [.lit (.bool false)], args := [d1, d2, d3] }
  | _ => none }
def RainTablesWrongFalsely : Prop := rainTablesRow.holds Try.pinned (OpenSpec.ofChange rainTablesWrong)

/-- 'radomelaw05.RainSums': WHATEVER THE INPUT: true; the input reads as it did. -/
def rainSumsSpec : ChangeSpec := { name := "rainSums", fn := fun _ => fun
  | [d1, d2, d3] => { results := [.lit (.bool true)], args := [d1, d2, d3] }
  | _ => none }
def rainSumsRow : OpenClaim := { program := "ytmglgahagbfbkaa", sum := "f3051c39fa9cc61e3da5c61496c80ce78bc64fed61ed70b17707c1697962f48f", func := "radome/radomelaw05.RainSums", spec := "rainSums", unfollowed := true, recurses := true, apart := false }
def RainSumsSaid : Prop := rainSumsRow.holds Try.pinned (OpenSpec.ofChange rainSumsSpec)

/-- ITS FALSE NEIGHBOUR: 'it returns false'. Refute it at one input. -/
def rainSumsWrong : ChangeSpec := { name := "rainSums", fn := fun _ => fun
  | [d1, d2, d3] => { results := [.lit (.bool false)], args := [d1, d2, d3] }
  | _ => none }
def RainSumsWrongFalsely : Prop := rainSumsRow.holds Try.pinned (OpenSpec.ofChange rainSumsWrong)

/-- 'radomelaw05.RainAdds': WHATEVER THE INPUT: true; the input reads as it did. -/
def rainAddsSpec : ChangeSpec := { name := "rainAdds", fn := fun _ => fun
  | [d1, d2, d3, d4, d5, d6] => { results := [.lit (.bool true)], args := [d1, d2, d3, d4, d5, d6] }
  | _ => none }
def rainAddsRow : OpenClaim := { program := "ytmglgahagbfbkaa", sum := "f3051c39fa9cc61e3da5c61496c80ce78bc64fed61ed70b17707c1697962f48f", func := "radome/radomelaw05.RainAdds", spec := "rainAdds", unfollowed := true, recurses := true, apart := false }
def RainAddsSaid : Prop := rainAddsRow.holds Try.pinned (OpenSpec.ofChange rainAddsSpec)

/-- ITS FALSE NEIGHBOUR: 'it returns false'. Refute it at one input. -/
def rainAddsWrong : ChangeSpec := { name := "rainAdds", fn := fun _ => fun
  | [d1, d2, d3, d4, d5, d6] => { results := [.lit (.bool false)], args := [d1, d2, d3, d4, d5, d6] }
  | _ => none }
def RainAddsWrongFalsely : Prop := rainAddsRow.holds Try.pinned (OpenSpec.ofChange rainAddsWrong)

/-- 'radomelaw05.RainZones': WHATEVER THE INPUT: true; the input reads as it did. -/
def rainZonesSpec : ChangeSpec := { name := "rainZones", fn := fun _ => fun
  | [d1, d2] => { results := [.lit (.bool true)], args := [d1, d2] }
  | _ => none }
def rainZonesRow : OpenClaim := { program := "ytmglgahagbfbkaa", sum := "f3051c39fa9cc61e3da5c61496c80ce78bc64fed61ed70b17707c1697962f48f", func := "radome/radomelaw05.RainZones", spec := "rainZones", unfollowed := true, recurses := true, apart := false }
def RainZonesSaid : Prop := rainZonesRow.holds Try.pinned (OpenSpec.ofChange rainZonesSpec)

/-- ITS FALSE NEIGHBOUR: 'it returns false'. Refute it at one input. -/
def rainZonesWrong : ChangeSpec := { name := "rainZones", fn := fun _ => fun
  | [d1, d2] => { results := [.lit (.bool false)], args := [d1, d2] }
  | _ => none }
def RainZonesWrongFalsely : Prop := rainZonesRow.holds Try.pinned (OpenSpec.ofChange rainZonesWrong)

/-- 'radomelaw05.RainGauges': WHATEVER THE INPUT: true; the input reads as it did. -/
def rainGaugesSpec : ChangeSpec := { name := "rainGauges", fn := fun _ => fun
  | [d] => { results := [.lit (.bool true)], args := [d] }
  | _ => none }
def rainGaugesRow : OpenClaim := { program := "ytmglgahagbfbkaa", sum := "f3051c39fa9cc61e3da5c61496c80ce78bc64fed61ed70b17707c1697962f48f", func := "radome/radomelaw05.RainGauges", spec := "rainGauges", unfollowed := true, recurses := true, apart := false }
def RainGaugesSaid : Prop := rainGaugesRow.holds Try.pinned (OpenSpec.ofChange rainGaugesSpec)

/-- ITS FALSE NEIGHBOUR: 'it returns false'. Refute it at one input. -/
def rainGaugesWrong : ChangeSpec := { name := "rainGauges", fn := fun _ => fun
  | [d] => { results := [.lit (.bool false)], args := [d] }
  | _ => none }
def RainGaugesWrongFalsely : Prop := rainGaugesRow.holds Try.pinned (OpenSpec.ofChange rainGaugesWrong)

/-- 'radomelaw05.RainFits': WHATEVER THE INPUT: true; the input reads as it did. -/
def rainFitsSpec : ChangeSpec := { name := "rainFits", fn := fun _ => fun
  | [d1, d2, d3] => { results := [.lit (.bool true)], args := [d1, d2, d3] }
  | _ => none }
def rainFitsRow : OpenClaim := { program := "ytmglgahagbfbkaa", sum := "f3051c39fa9cc61e3da5c61496c80ce78bc64fed61ed70b17707c1697962f48f", func := "radome/radomelaw05.RainFits", spec := "rainFits", unfollowed := true, recurses := true, apart := false }
def RainFitsSaid : Prop := rainFitsRow.holds Try.pinned (OpenSpec.ofChange rainFitsSpec)

/-- ITS FALSE NEIGHBOUR: 'it returns false'. Refute it at one input. -/
def rainFitsWrong : ChangeSpec := { name := "rainFits", fn := fun _ => fun
  | [d1, d2, d3] => { results := [.lit (.bool false)], args := [d1, d2, d3] }
  | _ => none }
def RainFitsWrongFalsely : Prop := rainFitsRow.holds Try.pinned (OpenSpec.ofChange rainFitsWrong)

/-- 'radomelaw05.RainBack': WHATEVER THE INPUT: true; the input reads as it did. -/
def rainBackSpec : ChangeSpec := { name := "rainBack", fn := fun _ => fun
  | [d1, d2, d3, d4] => { results := [.lit (.bool true)], args := [d1, d2, d3, d4] }
  | _ => none }
def rainBackRow : OpenClaim := { program := "ytmglgahagbfbkaa", sum := "f3051c39fa9cc61e3da5c61496c80ce78bc64fed61ed70b17707c1697962f48f", func := "radome/radomelaw05.RainBack", spec := "rainBack", unfollowed := true, recurses := true, apart := false }
def RainBackSaid : Prop := rainBackRow.holds Try.pinned (OpenSpec.ofChange rainBackSpec)

/-- ITS FALSE NEIGHBOUR: 'it returns false'. Refute it at one input. -/
def rainBackWrong : ChangeSpec := { name := "rainBack", fn := fun _ => fun
  | [d1, d2, d3, d4] => { results := [.lit (.bool false)], args := [d1, d2, d3, d4] }
  | _ => none }
def RainBackWrongFalsely : Prop := rainBackRow.holds Try.pinned (OpenSpec.ofChange rainBackWrong)

/-- 'radomelaw05.RainPasses': WHATEVER THE INPUT: true; the input reads as it did. -/
def rainPassesSpec : ChangeSpec := { name := "rainPasses", fn := fun _ => fun
  | [d1, d2, d3, d4, d5] => { results := [.lit (.bool true)], args := [d1, d2, d3, d4, d5] }
  | _ => none }
def rainPassesRow : OpenClaim := { program := "ytmglgahagbfbkaa", sum := "f3051c39fa9cc61e3da5c61496c80ce78bc64fed61ed70b17707c1697962f48f", func := "radome/radomelaw05.RainPasses", spec := "rainPasses", unfollowed := true, recurses := true, apart := false }
def RainPassesSaid : Prop := rainPassesRow.holds Try.pinned (OpenSpec.ofChange rainPassesSpec)

/-- ITS FALSE NEIGHBOUR: 'it returns false'. Refute it at one input. -/
def rainPassesWrong : ChangeSpec := { name := "rainPasses", fn := fun _ => fun
  | [d1, d2, d3, d4, d5] => { results := [.lit (.bool false)], args := [d1, d2, d3, d4, d5] }
  | _ => none }
def RainPassesWrongFalsely : Prop := rainPassesRow.holds Try.pinned (OpenSpec.ofChange rainPassesWrong)

/-- 'radomelaw05.RainKnown': WHATEVER THE INPUT: true; the input reads as it did. -/
def rainKnownSpec : ChangeSpec := { name := "rainKnown", fn := fun _ => fun
  | [] => { results := [.lit (.bool true)], args := [] }
  | _ => none }
def rainKnownRow : OpenClaim := { program := "ytmglgahagbfbkaa", sum := "f3051c39fa9cc61e3da5c61496c80ce78bc64fed61ed70b17707c1697962f48f", func := "radome/radomelaw05.RainKnown", spec := "rainKnown", unfollowed := true, recurses := true, apart := false }
def RainKnownSaid : Prop := rainKnownRow.holds Try.pinned (OpenSpec.ofChange rainKnownSpec)

/-- ITS FALSE NEIGHBOUR: 'it returns false'. Refute it at one input. -/
def rainKnownWrong : ChangeSpec := { name := "rainKnown", fn := fun _ => fun
  | [] => { results := [.lit (.bool false)], args := [] }
  | _ => none }
def RainKnownWrongFalsely : Prop := rainKnownRow.holds Try.pinned (OpenSpec.ofChange rainKnownWrong)

/- THE SECOND FORM. 'bulk': how many values and letters a reading holds, each counted each time it is reached (what is shared counts as often as it is met; a slice's spare places count too). A statement '..UptoSaid' is the law's where the arguments, and the package variables that the reading takes, are together of bulk at most 1048576: NARROWER than '..Said'. Prove '..Said' where nothing that the law and all that it calls make is longer than what came in: it says more and counts as full. Else prove '..UptoSaid'. A law counts once. -/
mutual
def uptoBulk {H : Type} : DataW H → Nat
  | .lit (.string bytes) => bytes.length + 1
  | .lit _ => 1
  | .nil => 1
  | .ptr d => uptoBulk d + 1
  | .slice elems spare => uptoBulkAll elems + uptoBulkAll spare + 1
  | .agg parts => uptoBulkAll parts + 1
  | .iface _ d => uptoBulk d + 1
  | .map entries => uptoBulkEntries entries + 1
  | .held _ => 1
def uptoBulkAll {H : Type} : List (DataW H) → Nat
  | [] => 0
  | d :: r => uptoBulk d + uptoBulkAll r
def uptoBulkEntries {H : Type} : List (Lit × DataW H) → Nat
  | [] => 0
  | x :: r => uptoBulkEntry x + uptoBulkEntries r
def uptoBulkEntry {H : Type} : Lit × DataW H → Nat
  | (.string bytes, d) => bytes.length + uptoBulk d + 1
  | (_, d) => uptoBulk d + 1
 end
def uptoSmall : (H : Type) → List (DataW H) → Bool := fun _ ds => decide (uptoBulkAll ds ≤ 1048576)
def OpenSpec.upto (s : _root_.Go.ChangeSpec) : _root_.Go.OpenSpec := { _root_.Go.OpenSpec.ofChange s with cond := some uptoSmall }

/-- 'radomelaw05.RainTables', WHERE WHAT IT READS IS OF BULK AT MOST 1048576: true; the input reads as it did. -/
def rainTablesUptoRow : OpenClaim := { program := "ytmglgahagbfbkaa", sum := "f3051c39fa9cc61e3da5c61496c80ce78bc64fed61ed70b17707c1697962f48f", func := "radome/radomelaw05.RainTables", spec := "rainTables", unfollowed := true, recurses := true, apart := false, narrowed := true }
def RainTablesUptoSaid : Prop := rainTablesUptoRow.holds Try.pinned (OpenSpec.upto rainTablesSpec)

/-- 'radomelaw05.RainSums', WHERE WHAT IT READS IS OF BULK AT MOST 1048576: true; the input reads as it did. -/
def rainSumsUptoRow : OpenClaim := { program := "ytmglgahagbfbkaa", sum := "f3051c39fa9cc61e3da5c61496c80ce78bc64fed61ed70b17707c1697962f48f", func := "radome/radomelaw05.RainSums", spec := "rainSums", unfollowed := true, recurses := true, apart := false, narrowed := true }
def RainSumsUptoSaid : Prop := rainSumsUptoRow.holds Try.pinned (OpenSpec.upto rainSumsSpec)

/-- 'radomelaw05.RainAdds', WHERE WHAT IT READS IS OF BULK AT MOST 1048576: true; the input reads as it did. -/
def rainAddsUptoRow : OpenClaim := { program := "ytmglgahagbfbkaa", sum := "f3051c39fa9cc61e3da5c61496c80ce78bc64fed61ed70b17707c1697962f48f", func := "radome/radomelaw05.RainAdds", spec := "rainAdds", unfollowed := true, recurses := true, apart := false, narrowed := true }
def RainAddsUptoSaid : Prop := rainAddsUptoRow.holds Try.pinned (OpenSpec.upto rainAddsSpec)

/-- 'radomelaw05.RainZones', WHERE WHAT IT READS IS OF BULK AT MOST 1048576: true; the input reads as it did. -/
def rainZonesUptoRow : OpenClaim := { program := "ytmglgahagbfbkaa", sum := "f3051c39fa9cc61e3da5c61496c80ce78bc64fed61ed70b17707c1697962f48f", func := "radome/radomelaw05.RainZones", spec := "rainZones", unfollowed := true, recurses := true, apart := false, narrowed := true }
def RainZonesUptoSaid : Prop := rainZonesUptoRow.holds Try.pinned (OpenSpec.upto rainZonesSpec)

/-- 'radomelaw05.RainGauges', WHERE WHAT IT READS IS OF BULK AT MOST 1048576: true; the input reads as it did. -/
def rainGaugesUptoRow : OpenClaim := { program := "ytmglgahagbfbkaa", sum := "f3051c39fa9cc61e3da5c61496c80ce78bc64fed61ed70b17707c1697962f48f", func := "radome/radomelaw05.RainGauges", spec := "rainGauges", unfollowed := true, recurses := true, apart := false, narrowed := true }
def RainGaugesUptoSaid : Prop := rainGaugesUptoRow.holds Try.pinned (OpenSpec.upto rainGaugesSpec)

/-- 'radomelaw05.RainFits', WHERE WHAT IT READS IS OF BULK AT MOST 1048576: true; the input reads as it did. -/
def rainFitsUptoRow : OpenClaim := { program := "ytmglgahagbfbkaa", sum := "f3051c39fa9cc61e3da5c61496c80ce78bc64fed61ed70b17707c1697962f48f", func := "radome/radomelaw05.RainFits", spec := "rainFits", unfollowed := true, recurses := true, apart := false, narrowed := true }
def RainFitsUptoSaid : Prop := rainFitsUptoRow.holds Try.pinned (OpenSpec.upto rainFitsSpec)

/-- 'radomelaw05.RainBack', WHERE WHAT IT READS IS OF BULK AT MOST 1048576: true; the input reads as it did. -/
def rainBackUptoRow : OpenClaim := { program := "ytmglgahagbfbkaa", sum := "f3051c39fa9cc61e3da5c61496c80ce78bc64fed61ed70b17707c1697962f48f", func := "radome/radomelaw05.RainBack", spec := "rainBack", unfollowed := true, recurses := true, apart := false, narrowed := true }
def RainBackUptoSaid : Prop := rainBackUptoRow.holds Try.pinned (OpenSpec.upto rainBackSpec)

/-- 'radomelaw05.RainPasses', WHERE WHAT IT READS IS OF BULK AT MOST 1048576: true; the input reads as it did. -/
def rainPassesUptoRow : OpenClaim := { program := "ytmglgahagbfbkaa", sum := "f3051c39fa9cc61e3da5c61496c80ce78bc64fed61ed70b17707c1697962f48f", func := "radome/radomelaw05.RainPasses", spec := "rainPasses", unfollowed := true, recurses := true, apart := false, narrowed := true }
def RainPassesUptoSaid : Prop := rainPassesUptoRow.holds Try.pinned (OpenSpec.upto rainPassesSpec)

/-- 'radomelaw05.RainKnown', WHERE WHAT IT READS IS OF BULK AT MOST 1048576: true; the input reads as it did. -/
def rainKnownUptoRow : OpenClaim := { program := "ytmglgahagbfbkaa", sum := "f3051c39fa9cc61e3da5c61496c80ce78bc64fed61ed70b17707c1697962f48f", func := "radome/radomelaw05.RainKnown", spec := "rainKnown", unfollowed := true, recurses := true, apart := false, narrowed := true }
def RainKnownUptoSaid : Prop := rainKnownUptoRow.holds Try.pinned (OpenSpec.upto rainKnownSpec)

end Rows
end Go.Proofs.Ytmglgahagbfbkaa
