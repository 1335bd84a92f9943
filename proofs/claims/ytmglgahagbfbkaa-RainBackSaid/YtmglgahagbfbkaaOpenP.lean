/-
  The arguments of the laws about what passes, opened: tables, powers, spans.
-/
import Derived.Test.YtmglgahagbfbkaaOpenRain
namespace Go.Proofs.Ytmglgahagbfbkaa
open Go Go.RowKit Go.ChangeShapes Go.WideShapes Go.Deep

section
variable {H : Type} {enc : TypeId × Value → H} {w : World} {base : Nat} {spare : Nat → Bool} {held : Bool}
set_option maxRecDepth 100000 in
theorem open_pts {r : Reach} {b0 : Nat} {v : Value} {d : DataW H} {ps : List MemPlace} (hv : Value.okWide Try.prog w r b0 22 v) (h : DataW.Trod enc Try.prog w base spare held 22 v d ps) :
    ∃ (A : Option Addr) (n c : Nat) (l : List (Int × Int)), v = .slice A n c ∧ l.length = n ∧ n ≤ maxLen ∧ Ints w w.heap.size .i64 A (flat2 l) := by
  obtain ⟨A, n, c, zs, h1, h2, h3, h4, h5, _⟩ := open_sl Try.underlying22 aiPoint (by decide) hv h
  obtain ⟨l, k1, k2⟩ := unflat2 n zs h2
  exact ⟨A, n, c, l, h1, k2, Nat.le_trans h3 h4, by rw [k1]; exact h5⟩
set_option maxRecDepth 100000 in
theorem open_spans {r : Reach} {b0 : Nat} {v : Value} {d : DataW H} {ps : List MemPlace} (hv : Value.okWide Try.prog w r b0 82 v) (h : DataW.Trod enc Try.prog w base spare held 82 v d ps) :
    ∃ (A : Option Addr) (n c : Nat) (l : List (Int × Int)), v = .slice A n c ∧ l.length = n ∧ n ≤ maxLen ∧ Ints w w.heap.size .i64 A (flat2 l) := by
  obtain ⟨A, n, c, zs, h1, h2, h3, h4, h5, _⟩ := open_sl Try.underlying82 aiSpan (by decide) hv h
  obtain ⟨l, k1, k2⟩ := unflat2 n zs h2
  exact ⟨A, n, c, l, h1, k2, Nat.le_trans h3 h4, by rw [k1]; exact h5⟩
set_option maxRecDepth 100000 in
theorem open_nums {r : Reach} {b0 : Nat} {v : Value} {d : DataW H} {ps : List MemPlace} (hv : Value.okWide Try.prog w r b0 81 v) (h : DataW.Trod enc Try.prog w base spare held 81 v d ps) :
    ∃ (A : Option Addr) (n c : Nat) (zs : List Int), v = .slice A n c ∧ zs.length = n ∧ n ≤ maxLen ∧ Ints w w.heap.size .i64 A zs := by
  obtain ⟨A, n, c, zs, h1, h2, h3, h4, h5, _⟩ := open_sl Try.underlying81 aiInt (by decide) hv h
  exact ⟨A, n, c, zs, h1, by rw [h2, Nat.mul_one], Nat.le_trans h3 h4, h5⟩
end
end Go.Proofs.Ytmglgahagbfbkaa
