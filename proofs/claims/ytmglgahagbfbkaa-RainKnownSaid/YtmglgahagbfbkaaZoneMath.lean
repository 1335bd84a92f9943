/-
  Factors in plain Lean: what a band of heights meets, one factor after the other.
-/
import Derived.Test.YtmglgahagbfbkaaModelMath
namespace Go.Proofs.Ytmglgahagbfbkaa

/-- One factor more, if it is met. -/
def meetF (is : Bool) (f o : Int × Int) : Int × Int := if is then (min o.1 f.1, max o.2 f.2) else o

def met1 (melt band : Int × Int) : Bool := decide (band.1 < melt.1)
def met2 (melt band : Int × Int) : Bool := decide (max band.1 melt.1 ≤ min band.2 melt.2)
def met3 (melt band : Int × Int) : Bool := decide (melt.2 < band.2)

/-- The factor of a band. -/
def facS (melt inn above band : Int × Int) : Int × Int :=
  meetF (met3 melt band) above (meetF (met2 melt band) inn (meetF (met1 melt band) (1000, 1000) (100000, 0)))

/-- What Factor answers. -/
def facR (l m : List (Int × Int)) (melt inn above band : Int × Int) : (Int × Int) × Int :=
  if chkModel l m melt inn above ≠ 0 then ((0, 0), chkModel l m melt inn above)
  else if band.2 < band.1 then ((0, 0), 3)
  else (facS melt inn above band, 0)
end Go.Proofs.Ytmglgahagbfbkaa
