/-
  Arguments that are slices of small unsigned integers, opened.
-/
import Derived.Test.YthhhecidogcmjaaOpenS
import Derived.Test.YthhhecidogcmjaaOpenB
namespace Go.Proofs.Ythhhecidogcmjaa
open Go Go.RowKit Go.ChangeShapes Go.WideShapes Go.Deep

section
variable {H : Type} {enc : TypeId × Value → H} {w : World} {base : Nat} {spare : Nat → Bool} {held : Bool}
set_option maxRecDepth 100000 in
theorem open_u32s {r : Reach} {b0 : Nat} {v : Value} {d : DataW H} {ps : List MemPlace} (hv : Value.okWide Try.prog w r b0 65 v) (h : DataW.Trod enc Try.prog w base spare held 65 v d ps) :
    ∃ (A : Option Addr) (n c : Nat) (zs : List Int), v = .slice A n c ∧ zs.length = n ∧ n ≤ maxLen ∧ Ints w w.heap.size .u32 A zs ∧ ∀ z ∈ zs, 0 ≤ z ∧ z ≤ 4294967295 := by
  obtain ⟨A, n, c, zs, h1, h2, h3, h4, h5, h6⟩ := open_sl Try.underlying65 (allInts_int Try.underlying28 (by kernel_rfl)) (by decide) hv h
  exact ⟨A, n, c, zs, h1, by rw [h2, Nat.mul_one], Nat.le_trans h3 h4, h5, fun z hz => wf_u32 (h6 z hz)⟩
set_option maxRecDepth 100000 in
theorem open_u8s {r : Reach} {b0 : Nat} {v : Value} {d : DataW H} {ps : List MemPlace} (hv : Value.okWide Try.prog w r b0 66 v) (h : DataW.Trod enc Try.prog w base spare held 66 v d ps) :
    ∃ (A : Option Addr) (n c : Nat) (zs : List Int), v = .slice A n c ∧ zs.length = n ∧ n ≤ maxLen ∧ Ints w w.heap.size .u8 A zs ∧ ∀ z ∈ zs, 0 ≤ z ∧ z ≤ 255 := by
  obtain ⟨A, n, c, zs, h1, h2, h3, h4, h5, h6⟩ := open_sl Try.underlying66 (allInts_int Try.underlying5 (by kernel_rfl)) (by decide) hv h
  exact ⟨A, n, c, zs, h1, by rw [h2, Nat.mul_one], Nat.le_trans h3 h4, h5, fun z hz => wf_u8 (h6 z hz)⟩
end
end Go.Proofs.Ythhhecidogcmjaa
