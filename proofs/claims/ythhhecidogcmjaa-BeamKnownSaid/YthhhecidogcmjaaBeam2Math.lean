/-
  Quotients rounded down and up, sites, ground ranges: plain functions; no program in sight.
-/
import Derived.Test.YthhhecidogcmjaaBeamMath
namespace Go.Proofs.Ythhhecidogcmjaa

theorem down_floor {a b : Int} (hb : 0 < b) : a / b = if a < a.tdiv b * b then a.tdiv b - 1 else a.tdiv b := by
  have h1 := Int.mul_tdiv_add_tmod a b
  rw [Int.mul_comm] at h1
  rw [tdiv_floor hb]
  by_cases h : Int.tmod a b < 0
  · rw [if_pos h, if_pos (by omega)]
  · rw [if_neg h, if_neg (by omega)]
theorem up_ceil {a b : Int} (hb : 0 < b) : cdiv a b = if a.tdiv b * b < a then a.tdiv b + 1 else a.tdiv b := by
  have h1 := Int.mul_tdiv_add_tmod a b
  rw [Int.mul_comm] at h1
  unfold cdiv
  rw [tdiv_floor hb, Int.neg_tdiv]
  have h2 : Int.tmod (-a) b = -Int.tmod a b := Int.neg_tmod a b
  rw [h2]
  by_cases h : 0 < Int.tmod a b
  · rw [if_pos (by omega), if_pos (by omega)]; omega
  · rw [if_neg (by omega), if_neg (by omega)]; omega
/-- Bounds of Go's quotient and its product. -/
theorem tdiv_bds {a b : Int} (hb : 1 ≤ b) (h1 : -4611686018427387903 ≤ a) (h2 : a ≤ 4611686018427387903) :
    -4611686018427387903 ≤ a.tdiv b ∧ a.tdiv b ≤ 4611686018427387903 ∧ -4611686018427387903 ≤ a.tdiv b * b ∧ a.tdiv b * b ≤ 4611686018427387903 := by
  by_cases h : 0 ≤ a
  · rw [Int.tdiv_eq_ediv_of_nonneg h]
    have a1 := Int.ediv_nonneg h (show 0 ≤ b by omega)
    have a2 := Int.ediv_le_self b h
    have a3 := Int.mul_nonneg a1 (show 0 ≤ b by omega)
    have a4 := Int.ediv_mul_le a (show b ≠ 0 by omega)
    omega
  · have e : a.tdiv b = -(-a / b) := by rw [← Int.neg_neg a, Int.neg_tdiv, Int.neg_neg, Int.tdiv_eq_ediv_of_nonneg (by omega)]
    have a1 := Int.ediv_nonneg (show 0 ≤ -a by omega) (show 0 ≤ b by omega)
    have a2 := Int.ediv_le_self b (show 0 ≤ -a by omega)
    have a3 := Int.mul_nonneg a1 (show 0 ≤ b by omega)
    have a4 := Int.ediv_mul_le (-a) (show b ≠ 0 by omega)
    rw [e, Int.neg_mul]
    omega
def siteE (nb : Bool) (x y z r g st wd : Int) : Int :=
  if nb = false then 10 else if (winB x (-1048576) 1048576 && winB y (-1048576) 1048576 && winB z 0 20000 && winB r 1 90 && winB g 1 200 && winB st 50 2000 && winB wd 0 8) = true then 0 else 3
end Go.Proofs.Ythhhecidogcmjaa
