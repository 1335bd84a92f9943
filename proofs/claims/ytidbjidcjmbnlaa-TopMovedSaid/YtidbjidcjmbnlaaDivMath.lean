/-
  Quotients rounded down and up; no program in sight.
-/

set_option linter.unusedSimpArgs false
set_option linter.unusedVariables false
namespace Go.Proofs.Ytidbjidcjmbnlaa

/-- The quotient rounded up. -/
def cdiv (a b : Int) : Int := -((-a) / b)
/-- Go's quotient, turned down where the remainder is below 0. -/
theorem tdiv_floor {a b : Int} (hb : 0 < b) : a / b = if Int.tmod a b < 0 then Int.tdiv a b - 1 else Int.tdiv a b := by
  have h1 := Int.mul_tdiv_add_tmod a b
  have h4 : (a.tmod b).natAbs < b.natAbs := by rw [Int.natAbs_tmod]; exact Nat.mod_lt _ (by omega)
  generalize Int.tdiv a b = q at *
  generalize Int.tmod a b = r at *
  split
  · have e : a = (r + b) + b * (q - 1) := by rw [Int.mul_sub]; omega
    rw [e, Int.add_mul_ediv_left _ _ (Int.ne_of_gt hb), Int.ediv_eq_zero_of_lt (by omega) (by omega)]; omega
  · have e : a = r + b * q := by omega
    rw [e, Int.add_mul_ediv_left _ _ (Int.ne_of_gt hb), Int.ediv_eq_zero_of_lt (by omega) (by omega)]; omega
end Go.Proofs.Ytidbjidcjmbnlaa
