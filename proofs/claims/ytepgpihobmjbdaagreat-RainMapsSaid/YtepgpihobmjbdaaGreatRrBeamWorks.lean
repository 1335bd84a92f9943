/-
  The law's works(): a direction and a ground range of the example's site.
-/
import Derived.Test.YtepgpihobmjbdaaGreatRegQ
import Derived.Test.YtepgpihobmjbdaaGreatShelf
import Derived.LoopN
set_option linter.unusedSimpArgs false
set_option linter.unusedVariables false
namespace Go.Proofs.YtepgpihobmjbdaaGreat
open Go.RowKit
end Go.Proofs.YtepgpihobmjbdaaGreat
