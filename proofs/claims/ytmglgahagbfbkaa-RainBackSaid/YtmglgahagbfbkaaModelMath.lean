/-
  Models; no program in sight.
-/
import Derived.Test.YtmglgahagbfbkaaRainMath
namespace Go.Proofs.Ytmglgahagbfbkaa
/-- What CheckModel returns. -/
def chkModel (l m : List (Int × Int)) (melt inn above : Int × Int) : Int :=
  if chk l 32768 ≠ 0 then chk l 32768 else if chk m 1000000 ≠ 0 then chk m 1000000 else if (ins melt.1 melt.2 20000 && ins inn.1 inn.2 100000 && ins above.1 above.2 100000) = false then 3 else 0
end Go.Proofs.Ytmglgahagbfbkaa
