/-
  The arguments of the laws about rain, opened: pairs.
-/
import Derived.Test.YtmglgahagbfbkaaOpenRain
namespace Go.Proofs.Ytmglgahagbfbkaa
open Go Go.RowKit Go.ChangeShapes Go.WideShapes Go.Deep

section
variable {H : Type} {enc : TypeId × Value → H} {w : World} {base : Nat} {spare : Nat → Bool} {held : Bool}
theorem aiGauge : AllInts Try.prog 64 .i64 2 := allInts_struct Try.underlying64 (by kernel_rfl) (fun c hc => by
  match c, hc with
  | 0, _ => exact ⟨0, _, 1, rfl, aiInt, by simp, by simp⟩
  | 1, _ => exact ⟨1, _, 1, rfl, aiInt, by simp, by simp⟩)
theorem aiPair : AllInts Try.prog 66 .i64 4 := allInts_struct Try.underlying66 (by kernel_rfl) (fun c hc => by
  match c, hc with
  | 0, _ => exact ⟨0, _, 2, rfl, aiSpan, by simp, by simp⟩
  | 1, _ => exact ⟨0, _, 2, rfl, aiSpan, by simp, by simp⟩
  | 2, _ => exact ⟨1, _, 2, rfl, aiGauge, by simp, by simp⟩
  | 3, _ => exact ⟨1, _, 2, rfl, aiGauge, by simp, by simp⟩)
set_option maxRecDepth 100000 in
theorem open_sl4 {r : Reach} {b0 : Nat} {v : Value} {d : DataW H} {ps : List MemPlace} (hv : Value.okWide Try.prog w r b0 61 v) (h : DataW.Trod enc Try.prog w base spare held 61 v d ps) :
    ∃ (A : Option Addr) (n c : Nat) (zs : List Int), v = .slice A n c ∧ zs.length = n * 4 ∧ n ≤ maxLen ∧ n ≤ c ∧ c ≤ maxLen ∧ Ints w w.heap.size .i64 A zs := by
  obtain ⟨A, n, c, zs, h1, h2, h3, h4, h5, _⟩ := open_sl Try.underlying61 aiPair (by decide) hv h
  exact ⟨A, n, c, zs, h1, h2, Nat.le_trans h3 h4, h3, h4, h5⟩
end
end Go.Proofs.Ytmglgahagbfbkaa
