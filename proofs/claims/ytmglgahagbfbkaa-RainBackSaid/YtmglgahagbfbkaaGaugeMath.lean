/-
  Gauges: what fell; no program in sight.
-/
import Derived.Test.YtmglgahagbfbkaaRainMath
namespace Go.Proofs.Ytmglgahagbfbkaa
def okG (t s : Int) : Bool := win t 0 1000000 && win s 1 10000
def fellS (t s : Int) : Int × Int := (max 0 ((t - 1) * s + 1), (t + 1) * s - 1)
/-- What Fell returns. -/
def fellR (t s : Int) : (Int × Int) × Int := if okG t s = true then (fellS t s, 0) else ((0, 0), 3)
theorem gauge_bd {t s : Int} (h : okG t s = true) : 0 ≤ t ∧ t ≤ 1000000 ∧ 1 ≤ s ∧ s ≤ 10000 ∧ -10000 ≤ (t - 1) * s ∧ (t - 1) * s ≤ 10000000000 ∧ 0 ≤ (t + 1) * s ∧ (t + 1) * s ≤ 10000010000 := by
  simp only [okG, Bool.and_eq_true] at h
  obtain ⟨h1, h2⟩ := h
  obtain ⟨a, b⟩ := win_iff.1 h1
  obtain ⟨c, d⟩ := win_iff.1 h2
  have e : (t - 1) * s = t * s - s := by rw [Int.sub_mul]; omega
  have f : (t + 1) * s = t * s + s := by rw [Int.add_mul]; omega
  have g : 0 ≤ t * s := Int.mul_nonneg a (by omega)
  have i : t * s ≤ 1000000 * 10000 := Int.mul_le_mul b d (by omega) (by omega)
  omega
end Go.Proofs.Ytmglgahagbfbkaa
