/-
  A map whose keys are strings, told by a function: what stands at each key, and how many entries there are. Over any program.
-/
import Derived.Maps.OwnSet
set_option linter.unusedSimpArgs false
set_option linter.unusedVariables false
namespace Go.Proofs.Ytepgpihobmjbdaa
open Go Go.RowKit Go.WideShapes
open Go.Maps (Keyed IsMap Tidy)
section
variable {P : Program} {k t e : TypeId} {w : World} {b c : Nat} {f : ByteArray → Option Value}
end
end Go.Proofs.Ytepgpihobmjbdaa
