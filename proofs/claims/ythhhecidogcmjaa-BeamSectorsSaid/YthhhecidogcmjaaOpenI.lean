/-
  Bounds of the 32-bit integers of the rows' arguments.
-/
import Derived.Test.YthhhecidogcmjaaOpen
namespace Go.Proofs.Ythhhecidogcmjaa
open Go Go.RowKit

theorem wf_i32 {n : Int} (h : (Lit.int .i32 n).wf = true) : -2147483648 ≤ n ∧ n ≤ 2147483647 := by
  simp only [Lit.wf, Bool.and_eq_true, decide_eq_true_eq] at h
  exact ⟨h.1, h.2⟩
end Go.Proofs.Ythhhecidogcmjaa
