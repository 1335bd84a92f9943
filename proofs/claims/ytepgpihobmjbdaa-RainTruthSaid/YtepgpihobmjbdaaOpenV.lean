/-
  Arguments opened whose cells are of several kinds: integers, strings, structs, arrays and slices of such. Over any program.
-/
import Derived.Test.YtepgpihobmjbdaaOpenM
import Derived.OpenShut
set_option linter.unusedSimpArgs false
set_option linter.unusedVariables false
namespace Go.Proofs.Ytepgpihobmjbdaa
open Go Go.RowKit Go.ChangeShapes Go.WideShapes Go.Deep
def Rows_ (w : World) (B : Nat) (A : Option Addr) (n size : Nat) (f : Nat → List Value) : Prop :=
 0 < n → ∃ b off, A = some ⟨b, off, none⟩ ∧ b < B ∧ ∀ i, i < n → ∀ j v, (f i)[j]? = some v → w.cell? ⟨b, off + i * size + j, none⟩ = some v
theorem Rows_.below {w w' : World} {B n size : Nat} {A : Option Addr} {f : Nat → List Value} (h : Rows_ w B A n size f) (hb : Below B w w') : Rows_ w' B A n size f := fun hn => by
 obtain ⟨b, off, e, hl, hc⟩ := h hn
 exact ⟨b, off, e, hl, fun i hi j v hv => (hb.cell hl).trans (hc i hi j v hv)⟩
theorem Rows_.more {w : World} {B B' n size : Nat} {A : Option Addr} {f : Nat → List Value} (h : Rows_ w B A n size f) (hB : B ≤ B') : Rows_ w B' A n size f := fun hn => by
 obtain ⟨b, off, e, hl, hc⟩ := h hn
 exact ⟨b, off, e, by omega, hc⟩
section
variable {H : Type} {enc : TypeId × Value → H} {P : Program} {w : World} {base : Nat} {spare : Nat → Bool} {held : Bool}
theorem len1 {l : List Value} {n : Nat} (h : l.length = n + 1) : ∃ x r, l = x :: r ∧ r.length = n := by
 cases l with
 | nil => simp at h
 | cons x r => exact ⟨x, r, rfl, by simpa using h⟩
end
end Go.Proofs.Ytepgpihobmjbdaa
