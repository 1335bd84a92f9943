/-
  Contracts of the small functions of package rain and of the reference: bounds, quotients rounded down and up.
-/
import Derived.Test.YtmglgahagbfbkaaProg
import Derived.Test.YtmglgahagbfbkaaWords
import Derived.Test.YtmglgahagbfbkaaRainMath
namespace Go.Proofs.Ytmglgahagbfbkaa
open Go.RowKit

theorem within_any (n lo hi : Int) (w : World) :
    Calls Try.prog 43 #[.int .i64 n, .int .i64 lo, .int .i64 hi] w fun e w' => e = .returned (.bool (win n lo hi)) ∧ w = w' := by
  by_cases h1 : lo ≤ n <;> by_cases h2 : n ≤ hi
  all_goals
    go_enter Try.func43, Try.ntmps43
    go_wp2
    go_ret
    exact ⟨by simp [win, *], rfl⟩

theorem In_any (n lo hi : Int) (w : World) :
    Calls Try.prog 44 #[.int .i64 n, .int .i64 lo, .int .i64 hi] w fun e w' => e = .returned (.bool (win n lo hi)) ∧ w = w' := by
  by_cases h1 : lo ≤ n <;> by_cases h2 : n ≤ hi
  all_goals
    go_enter Try.func44, Try.ntmps44
    go_wp2
    go_ret
    exact ⟨by simp [win, *], rfl⟩

theorem inside_any (a b most : Int) (w : World) :
    Calls Try.prog 45 #[.agg #[.int .i64 a, .int .i64 b], .int .i64 most] w fun e w' => e = .returned (.bool (ins a b most)) ∧ Below w.heap.size w w' := by
  by_cases h1 : 0 ≤ a <;> by_cases h2 : a ≤ b <;> by_cases h3 : b ≤ most
  all_goals
    go_enter Try.func45, Try.ntmps45
    go_wp2
    go_ret
    exact ⟨by simp [ins, *], (Below.refl _ _).alloc (Nat.le_refl _) _⟩

theorem Ints.pt {w : World} {B : Nat} {A : Option Addr} {l : List (Int × Int)} (h : Ints w B .i64 A (flat2 l)) (hn : 0 < l.length) : ∃ b off, A = some ⟨b, off, none⟩ ∧ b < B ∧
    ∀ k, k < l.length → w.cell? ⟨b, off + k * 2, none⟩ = some (.int .i64 (l.getD k (0, 0)).1) ∧ w.cell? ⟨b, off + k * 2 + 1, none⟩ = some (.int .i64 (l.getD k (0, 0)).2) := by
  obtain ⟨b, off, e, hb, hc⟩ := h (by rw [flat2_length]; omega)
  refine ⟨b, off, e, hb, fun k hk => ⟨?_, ?_⟩⟩
  · rw [hc _ (by rw [flat2_length]; omega), flat2_0]
  · rw [Nat.add_assoc, hc _ (by rw [flat2_length]; omega), flat2_1]

end Go.Proofs.Ytmglgahagbfbkaa
