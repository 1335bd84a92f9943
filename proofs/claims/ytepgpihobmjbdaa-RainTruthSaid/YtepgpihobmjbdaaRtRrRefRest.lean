/-
  radomeref05.restore and Restore: the contracts.
-/
import Derived.Test.YtepgpihobmjbdaaRtRrPdo
import Derived.Test.YtepgpihobmjbdaaRtRrGauge
import Derived.Test.YtepgpihobmjbdaaBeam2Math
import Derived.Deep.Cut
set_option linter.unusedSimpArgs false
set_option linter.unusedVariables false
namespace Go.Proofs.Ytepgpihobmjbdaa
open Go.RowKit
end Go.Proofs.Ytepgpihobmjbdaa
