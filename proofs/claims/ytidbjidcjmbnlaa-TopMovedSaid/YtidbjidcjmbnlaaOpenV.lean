/-
  Arguments opened whose cells are of several kinds: integers, strings, structs, arrays and slices of such. Over any program.
-/
import Derived.Test.YtidbjidcjmbnlaaOpen
import Derived.OpenShut
set_option linter.unusedSimpArgs false
set_option linter.unusedVariables false
namespace Go.Proofs.Ytidbjidcjmbnlaa
open Go Go.RowKit Go.ChangeShapes Go.WideShapes Go.Deep

/-- The slice value `.slice A n c` reads as `n` elements of `size` cells, those of `f`, all below block `B`. -/
def Rows_ (w : World) (B : Nat) (A : Option Addr) (n size : Nat) (f : Nat → List Value) : Prop :=
  0 < n → ∃ b off, A = some ⟨b, off, none⟩ ∧ b < B ∧ ∀ i, i < n → ∀ j v, (f i)[j]? = some v → w.cell? ⟨b, off + i * size + j, none⟩ = some v
theorem Rows_.below {w w' : World} {B n size : Nat} {A : Option Addr} {f : Nat → List Value} (h : Rows_ w B A n size f) (hb : Below B w w') : Rows_ w' B A n size f := fun hn => by
  obtain ⟨b, off, e, hl, hc⟩ := h hn
  exact ⟨b, off, e, hl, fun i hi j v hv => (hb.cell hl).trans (hc i hi j v hv)⟩
theorem Rows_.more {w : World} {B B' n size : Nat} {A : Option Addr} {f : Nat → List Value} (h : Rows_ w B A n size f) (hB : B ≤ B') : Rows_ w B' A n size f := fun hn => by
  obtain ⟨b, off, e, hl, hc⟩ := h hn
  exact ⟨b, off, e, by omega, hc⟩

section
variable {H : Type} {enc : TypeId × Value → H} {P : Program} {w : World} {base : Nat} {spare : Nat → Bool} {held : Bool}
/-- A type whose values are so many cells, of which `Q` is known. -/
def AllV (P : Program) (t : TypeId) (size : Nat) (Q : List Value → Prop) : Prop :=
  P.cellsOf t = size ∧ ∀ (H : Type) (enc : TypeId × Value → H) (w : World) (base : Nat) (spare : Nat → Bool) (held : Bool) (n : Nat) (cs : List Value) (y : DataW H × List MemPlace), DataW.trod enc P w base spare held n t cs = some y → cs.length = size ∧ Q cs
theorem read_sliceV {t e : TypeId} {size n : Nat} {Q : List Value → Prop} {cs : List Value} {y : DataW H × List MemPlace} (ht : P.underlying t = some (.slice e)) (hQ : AllV P e size Q) (hs : 0 < size) (h : DataW.trod enc P w base spare held n t cs = some y) :
    ∃ (A : Option Addr) (len cap : Nat) (f : Nat → List Value), cs = [.slice A len cap] ∧ len ≤ cap ∧ cap ≤ maxLen ∧ (∀ i, i < len → (f i).length = size ∧ Q (f i)) ∧ Rows_ w w.heap.size A len size f := by
  rcases open_slice ht h with ⟨hcs, _⟩ | ⟨a, len, cap, m, n', D, Pl, hcs, _, hl, hm, hmm, _, hi⟩
  · exact ⟨none, 0, 0, fun _ => [], hcs, Nat.le_refl _, by simp [maxLen], fun i hi => absurd hi (by omega), fun h => absurd h (by omega)⟩
  · have hlm : len ≤ m := by rw [hmm]; split <;> omega
    have each : ∀ i, i < len → ∃ l : List Value, (l.length = size ∧ Q l) ∧ ∀ j v, l[j]? = some v → w.cell? ((a.add (i * size)).add j) = some v := fun i hil => by
      obtain ⟨cs', hc, ht'⟩ := hi i (by omega)
      rw [hQ.1] at hc
      obtain ⟨_, hlen, hat⟩ := World.cells?_some hc
      have hq := hQ.2 _ _ _ _ _ _ _ _ _ ht'
      refine ⟨cs', hq, fun j v hj => ?_⟩
      have hjl := (List.getElem?_eq_some_iff.1 hj).1
      rw [hat j (by omega)]
      exact hj
    obtain ⟨f, hf⟩ := choose_lt each
    refine ⟨some a, len, cap, f, hcs, hl, hm, fun i hi => (hf i hi).1, fun hpos => ?_⟩
    have hex : ∃ v, (f 0)[0]? = some v := ⟨(f 0)[0]'(by have := (hf 0 hpos).1.1; omega), List.getElem?_eq_getElem _⟩
    obtain ⟨v0, hv0⟩ := hex
    have h0 := (hf 0 hpos).2 0 v0 hv0
    obtain ⟨b, off, spot⟩ := a
    have hspot : spot = none := by
      have := World.cell?_spot h0
      simpa [Addr.add] using this
    subst hspot
    refine ⟨b, off, rfl, World.block_lt_of_cell? w _ (by simpa [Addr.add] using h0), fun i hi j v hv => ?_⟩
    have h1 := (hf i hi).2 j v hv
    rw [Go.Deep.add_add, Go.WideShapes.add_plain] at h1
    rw [Nat.add_assoc]
    exact h1
theorem len1 {l : List Value} {n : Nat} (h : l.length = n + 1) : ∃ x r, l = x :: r ∧ r.length = n := by
  cases l with
  | nil => simp at h
  | cons x r => exact ⟨x, r, rfl, by simpa using h⟩
theorem len0 {l : List Value} (h : l.length = 0) : l = [] := List.eq_nil_of_length_eq_zero h
end
end Go.Proofs.Ytidbjidcjmbnlaa
