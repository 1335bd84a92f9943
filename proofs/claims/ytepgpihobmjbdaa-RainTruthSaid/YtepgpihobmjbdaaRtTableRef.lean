/-
  The reference's CheckTable: the contract, for every slice of points.
-/
import Derived.Test.YtepgpihobmjbdaaLoopsOf
import Derived.Handy
import Derived.BigQuiet
set_option linter.unusedSimpArgs false
set_option linter.unusedVariables false
namespace Go.Proofs.Ytepgpihobmjbdaa
open Go.RowKit
end Go.Proofs.Ytepgpihobmjbdaa
