/-
  Whether two arrays of two integers are equal: the run of the comparison. Over any program.
-/
import Derived.Test.YtiggefmckomilaaWords
import Derived.ChangeKeysEq
namespace Go.Proofs.Ytiggefmckomilaa
open Go Go.RowKit

theorem run_equalIn_arr2 {P : Program} {t e : TypeId} {k : IntKind} (ht : P.underlying t = some (.array 2 e)) (he : P.underlying e = some (.int k)) (hs : P.cellsOf e = 1) (n : Nat) (a b a' b' : Int) (w : World) :
    (Op.equalIn (n + 2) t (.agg #[.int k a, .int k b]) (.agg #[.int k a', .int k b'])).run P w = .ok (a == a' && b == b') w := by
  obtain ⟨i, hi⟩ := info_of_underlying he
  rw [run_equalIn_array w (n + 1) _ _ ht hi, hs]
  have hp : P.plainKey e = true := by unfold Program.plainKey; rw [he]
  have h0 : ∀ x y : Int, (part e #[Value.int k x, .int k y] 0).run P w = .ok (.int k x) w := fun x y => run_part_plain w hp rfl
  have h1 : ∀ x y : Int, (part e #[Value.int k x, .int k y] 1).run P w = .ok (.int k y) w := fun x y => run_part_plain w hp rfl
  have hq : ∀ x y : Int, (Op.equalIn (n + 1) e (.int k x) (.int k y)).run P w = .ok (x == y) w := fun x y => run_equalIn_int w n e k k x y he
  show (Op.eqItems (n + 1) e 1 _ _ [0, 1]).run P w = _
  simp only [Op.eqItems, Sem.run_bind, Nat.zero_mul, Nat.one_mul, h0, h1, hq, Result.andThen_ok]
  by_cases c0 : a = a' <;> by_cases c1 : b = b' <;> simp [c0, c1, h0, h1, hq, Sem.run_bind]
end Go.Proofs.Ytiggefmckomilaa
