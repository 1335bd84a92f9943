/-
  Whether two arrays of two integers are equal: the run of the comparison. Over any program.
-/
import Derived.Test.YtepgpihobmjbdaaGreatLoopsOf
import Derived.ChangeKeysEq
set_option linter.unusedSimpArgs false
set_option linter.unusedVariables false
namespace Go.Proofs.YtepgpihobmjbdaaGreat
open Go Go.RowKit
end Go.Proofs.YtepgpihobmjbdaaGreat
