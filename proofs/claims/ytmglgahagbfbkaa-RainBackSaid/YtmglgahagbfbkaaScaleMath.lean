/-
  The scales that suit pairs of a sum and a gauge: what rain and the reference compute; no program in sight.
-/
import Derived.Test.YtmglgahagbfbkaaGaugeMath
import Derived.Test.YtmglgahagbfbkaaSumMath2
namespace Go.Proofs.Ytmglgahagbfbkaa

/-- rain's scales of a pair: none, if the first is above the second. -/
def scS (lo hi t s : Int) : Int × Int :=
  if 0 < hi then (max 1 (cdiv (1000 * (fellS t s).1) hi), if 0 < lo then min 100000 (1000 * (fellS t s).2 / lo) else 100000) else if 0 < (fellS t s).1 then (1, 0) else (1, 100000)
/-- The reference's. -/
def scR (lo hi t s : Int) : Int × Int :=
  (if hi = 0 ∧ 0 < (fellS t s).1 then 100001 else if 0 < hi then max 1 (cdiv (1000 * (fellS t s).1) hi) else 1, if 0 < lo then min 100000 (1000 * (fellS t s).2 / lo) else 100000)
def okP4 (lo hi t s : Int) : Bool := ins lo hi 2147483648 && okG t s
theorem okP4_iff {lo hi t s : Int} (h : okP4 lo hi t s = true) : 0 ≤ lo ∧ lo ≤ hi ∧ hi ≤ 2147483648 ∧ okG t s = true := by
  simp [okP4, ins] at h
  exact ⟨h.1.1, h.1.2.1, h.1.2.2, h.2⟩
theorem fell_bd {t s : Int} (h : okG t s = true) : 0 ≤ (fellS t s).1 ∧ (fellS t s).1 ≤ 10000000001 ∧ 0 ≤ (fellS t s).2 ∧ (fellS t s).2 ≤ 10000010000 := by
  obtain ⟨a1, a2, a3, a4, a5, a6, a7, a8⟩ := gauge_bd h
  have e : (t + 1) * s = t * s + s := by rw [Int.add_mul]; omega
  have g : 0 ≤ t * s := Int.mul_nonneg a1 (by omega)
  simp only [fellS]
  omega
/-- Either a pair has no scale at all, in both; or both have the same. -/
theorem sc_cases {lo hi t s : Int} (h : okP4 lo hi t s = true) : (scS lo hi t s = (1, 0) ∧ scR lo hi t s = (100001, 100000)) ∨ (scS lo hi t s = scR lo hi t s ∧ 1 ≤ (scS lo hi t s).1 ∧ (scS lo hi t s).2 ≤ 100000) := by
  obtain ⟨h1, h2, h3, h4⟩ := okP4_iff h
  by_cases hh : 0 < hi
  · right
    unfold scS scR
    rw [if_pos hh, if_neg (show ¬ (hi = 0 ∧ 0 < (fellS t s).1) from fun h => by omega), if_pos hh]
    refine ⟨rfl, by simp only; omega, ?_⟩
    simp only
    split <;> omega
  · by_cases hg : 0 < (fellS t s).1
    · left
      unfold scS scR
      rw [if_neg hh, if_pos hg, if_pos (show hi = 0 ∧ 0 < (fellS t s).1 from ⟨by omega, hg⟩), if_neg (show ¬ 0 < lo by omega)]
      exact ⟨rfl, rfl⟩
    · right
      unfold scS scR
      rw [if_neg hh, if_neg hg, if_neg (show ¬ (hi = 0 ∧ 0 < (fellS t s).1) from fun h => hg h.2), if_neg hh, if_neg (show ¬ 0 < lo by omega)]
      exact ⟨rfl, by simp, by simp⟩
theorem cdiv_bd' {a b : Int} (ha : 0 ≤ a) (hb : 1 ≤ b) : 0 ≤ cdiv a b ∧ cdiv a b ≤ a := by
  rw [cdiv_eq (by omega)]
  refine ⟨Int.ediv_nonneg (by omega) (by omega), ?_⟩
  have : (a + b - 1) / b < a + 1 := Int.ediv_lt_of_lt_mul (by omega) (by
    have : a * 1 ≤ a * b := Int.mul_le_mul_of_nonneg_left hb ha
    rw [Int.add_mul]; omega)
  omega
def meetS (a b : Int × Int) : Int × Int := (max a.1 b.1, min a.2 b.2)
end Go.Proofs.Ytmglgahagbfbkaa
