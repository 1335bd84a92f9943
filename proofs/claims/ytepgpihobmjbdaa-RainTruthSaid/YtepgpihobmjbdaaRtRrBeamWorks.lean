/-
  The law's works(): a direction and a ground range of the example's site.
-/
import Derived.Test.YtepgpihobmjbdaaRegQ
import Derived.Test.YtepgpihobmjbdaaShelf
import Derived.LoopN
set_option linter.unusedSimpArgs false
set_option linter.unusedVariables false
namespace Go.Proofs.Ytepgpihobmjbdaa
open Go.RowKit
end Go.Proofs.Ytepgpihobmjbdaa
