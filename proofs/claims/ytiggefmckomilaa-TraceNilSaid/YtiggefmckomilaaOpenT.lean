/-
  The arguments of the laws about traces, opened.
-/
import Derived.Test.YtiggefmckomilaaOpen
import Derived.Test.YtiggefmckomilaaRows
namespace Go.Proofs.Ytiggefmckomilaa
open Go Go.RowKit Go.ChangeShapes Go.WideShapes Go.Deep

section
variable {H : Type} {enc : TypeId × Value → H} {w : World} {base : Nat} {spare : Nat → Bool} {held : Bool}
theorem aiInt : AllInts Try.prog 3 .i64 1 := allInts_int Try.underlying3 (by kernel_rfl)
theorem aiSpan : AllInts Try.prog 23 .i64 2 := allInts_struct Try.underlying23 (by kernel_rfl) (fun c hc => by
  match c, hc with
  | 0, _ => exact ⟨0, _, 1, rfl, aiInt, by simp, by simp⟩
  | 1, _ => exact ⟨1, _, 1, rfl, aiInt, by simp, by simp⟩)
set_option maxRecDepth 100000 in
theorem open_span {r : Reach} {b0 : Nat} {v : Value} {d : DataW H} {ps : List MemPlace} (hv : Value.okWide Try.prog w r b0 23 v) (h : DataW.Trod enc Try.prog w base spare held 23 v d ps) :
    ∃ a b : Int, v = .agg #[.int .i64 a, .int .i64 b] := by
  obtain ⟨zs, h1, h2, _⟩ := open_struct Try.underlying23 aiSpan hv h
  match zs, h2 with
  | [a, b], _ => exact ⟨a, b, h1⟩
end
end Go.Proofs.Ytiggefmckomilaa
