/-
  Two books have the same values and gains.
-/
import Derived.Test.YtiggefmckomilaaRegC
import Derived.BigQuiet
set_option linter.unusedSimpArgs false
set_option linter.unusedVariables false
namespace Go.Proofs.Ytiggefmckomilaa
open Go Go.RowKit

end Go.Proofs.Ytiggefmckomilaa
