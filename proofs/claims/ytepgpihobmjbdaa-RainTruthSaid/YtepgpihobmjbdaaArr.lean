/-
  Whether two arrays of two integers are equal: the run of the comparison. Over any program.
-/
import Derived.Test.YtepgpihobmjbdaaLoopsOf
import Derived.ChangeKeysEq
set_option linter.unusedSimpArgs false
set_option linter.unusedVariables false
namespace Go.Proofs.Ytepgpihobmjbdaa
open Go Go.RowKit
end Go.Proofs.Ytepgpihobmjbdaa
