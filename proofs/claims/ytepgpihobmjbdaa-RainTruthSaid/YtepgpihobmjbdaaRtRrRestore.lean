/-
  rain.Restore: what was measured goes through the passage alone.
-/
import Derived.Test.YtepgpihobmjbdaaRtRrPdo
import Derived.Test.YtepgpihobmjbdaaRtRrRefRest
import Derived.LoopN
set_option linter.unusedSimpArgs false
set_option linter.unusedVariables false
namespace Go.Proofs.Ytepgpihobmjbdaa
open Go.RowKit
theorem belowg {g : Nat} {w w1 w2 : World} (h : Below g w w1) (hl : Later w1 w2) (hg : g < w1.heap.size) : Below g w w2 := h.trans (Below.mono hl (by omega))
theorem belowg_own {g base : Nat} {w w1 w2 : World} {e : TypeId} {size n : Nat} {v : Value} {xs : List Value} {w0 : World} (h : Below g w w1) (hg : w1.grownBy w2 v.ownBlock) (ho : w0.ownsRow base e size v n xs) (hl : g < base ∧ g < w1.heap.size) : Below g w w2 :=
 h.trans ⟨hg.os, hg.tape, hg.output, hg.size, fun k hk => hg.block k (by omega) (fun e1 => by have := (ho.lt k e1.symm).1; omega)⟩
end Go.Proofs.Ytepgpihobmjbdaa
