/-
  An argument that is an array of three integers, opened.
-/
import Derived.Test.YtmglgahagbfbkaaOpenU
import Derived.OpenShut
namespace Go.Proofs.Ytmglgahagbfbkaa
open Go Go.RowKit Go.ChangeShapes Go.WideShapes Go.Deep

section
variable {H : Type} {enc : TypeId × Value → H} {P : Program} {w : World} {base : Nat} {spare : Nat → Bool} {held : Bool}
theorem open_arr3 {t e : TypeId} {k : IntKind} {r : Reach} {b0 : Nat} {v : Value} {d : DataW H} {ps : List MemPlace} (ht : P.underlying t = some (.array 3 e)) (he : P.underlying e = some (.int k)) (hct : P.cellsOf t = 3) (hce : P.cellsOf e = 1)
    (hv : Value.okWide P w r b0 t v) (h : DataW.Trod enc P w base spare held t v d ps) :
    ∃ x y z : Int, v = .agg #[.int k x, .int k y, .int k z] ∧ (Lit.int k x).wf = true ∧ (Lit.int k y).wf = true ∧ (Lit.int k z).wf = true := by
  have hv' : ∃ cs, v = .agg cs := by
    simp only [Value.okWide, ht] at hv
    obtain ⟨cs, h1, _⟩ := hv
    exact ⟨cs, h1⟩
  obtain ⟨cs, rfl⟩ := hv'
  obtain ⟨fuel, hf⟩ := h
  obtain ⟨xs, m, _, _, hl, hx, hg⟩ := DataW.trod_array ht hf
  simp only [Value.cells] at hl hg
  rw [hct] at hl
  rw [hce] at hg
  obtain ⟨l⟩ := cs
  simp only at hl hg
  match l, hl with
  | [c0, c1, c2], _ =>
    have get : ∀ i, i < 3 → ∃ a : Int, ([c0, c1, c2].drop (i * 1)).take 1 = [.int k a] ∧ (Lit.int k a).wf = true := fun i hi => by
      have h1 := hg i hi
      rw [List.getElem?_eq_getElem (by omega)] at h1
      obtain ⟨a, e0, _, wa⟩ := DataW.trod_int he h1
      exact ⟨a, e0, wa⟩
    obtain ⟨a, ha, wa⟩ := get 0 (by omega)
    obtain ⟨b, hb, wb⟩ := get 1 (by omega)
    obtain ⟨c, hc, wc⟩ := get 2 (by omega)
    simp at ha hb hc
    subst ha hb hc
    exact ⟨a, b, c, rfl, wa, wb, wc⟩
end
end Go.Proofs.Ytmglgahagbfbkaa
