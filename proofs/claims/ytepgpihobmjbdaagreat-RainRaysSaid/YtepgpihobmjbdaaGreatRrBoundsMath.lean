/-
  With a narrower earth heights are narrower; heights between both edges of a beam meet its band: no program in sight.
-/
import Derived.Test.YtepgpihobmjbdaaGreatNameMath
set_option linter.unusedSimpArgs false
set_option linter.unusedVariables false
namespace Go.Proofs.YtepgpihobmjbdaaGreat

theorem div_le_div2 {a b a' b' : Int} (h0 : 0 ≤ a) (h : a ≤ a') (hb : 1 ≤ b') (hbb : b' ≤ b) : a / b ≤ a' / b' := by
  rw [Int.le_ediv_iff_mul_le (by omega)]
  have h1 : 0 ≤ a / b := Int.ediv_nonneg h0 (by omega)
  have h2 : a / b * b' ≤ a / b * b := Int.mul_le_mul_of_nonneg_left hbb h1
  have h3 := Int.ediv_mul_le a (show b ≠ 0 by omega)
  omega
theorem le_cdiv_mul {a b : Int} (hb : 1 ≤ b) : a ≤ cdiv a b * b := by
  rw [cdiv_eq (by omega)]
  have := Int.lt_ediv_add_one_mul_self (a + b - 1) (show 0 < b by omega)
  rw [Int.add_mul] at this
  omega
theorem cdiv_le {a b c : Int} (hb : 1 ≤ b) (h : a ≤ c * b) : cdiv a b ≤ c := by
  rw [cdiv_eq (by omega)]
  have : (a + b - 1) / b < c + 1 := Int.ediv_lt_of_lt_mul (by omega) (by rw [Int.add_mul]; omega)
  omega
theorem cdiv_nonneg {a b : Int} (h : 0 ≤ a) (hb : 1 ≤ b) : 0 ≤ cdiv a b := by
  rw [cdiv_eq (by omega)]; exact Int.ediv_nonneg (by omega) (by omega)
theorem cdiv_le_cdiv2 {a b a' b' : Int} (h0 : 0 ≤ a) (h : a ≤ a') (hb : 1 ≤ b') (hbb : b' ≤ b) : cdiv a b ≤ cdiv a' b' := by
  refine cdiv_le (by omega) ?_
  have h1 : a' ≤ cdiv a' b' * b' := le_cdiv_mul hb
  have h2 : cdiv a' b' * b' ≤ cdiv a' b' * b := Int.mul_le_mul_of_nonneg_left hbb (cdiv_nonneg (by omega) hb)
  omega
theorem riseD_anti {z st gate t e e' : Int} (h1 : 1 ≤ e) (h : e ≤ e') : riseD z st gate t e' ≤ riseD z st gate t e := by
  unfold riseD
  have := div_le_div2 (a := rD st gate t * rD st gate t) (b := 2 * e') (b' := 2 * e) (by by_cases c : 0 ≤ rD st gate t; exact Int.mul_nonneg c c; exact Int.mul_nonneg_of_nonpos_of_nonpos (by omega) (by omega)) (Int.le_refl _) (by omega) (by omega)
  omega
theorem riseU_anti {z st gate t e e' : Int} (h1 : 1 ≤ e) (h : e ≤ e') : riseU z st gate t e' ≤ riseU z st gate t e := by
  unfold riseU
  have := cdiv_le_cdiv2 (a := rU st gate t * rU st gate t) (b := 2 * e') (b' := 2 * e) (by by_cases c : 0 ≤ rU st gate t; exact Int.mul_nonneg c c; exact Int.mul_nonneg_of_nonpos_of_nonpos (by omega) (by omega)) (Int.le_refl _) (by omega) (by omega)
  omega
/-- The heart: of numbers alone. p1, u1, v1: rounded down at the tilt a; p2, u2, v2: rounded up at the tilt b. -/
theorem meet_core {A a b E p1 p2 u1 u2 v1 v2 D1 D2 : Int} (hA0 : 0 ≤ A) (hA : A ≤ 798000) (ha : -8 ≤ a) (hab : a ≤ b) (hb : b ≤ 264) (hE : 2000000 ≤ E)
    (eD1 : D1 = 2 * (262144 + a * a)) (eD2 : D2 = 2 * (262144 + b * b)) (q1 : p1 * D1 ≤ A * (1024 * a)) (q2 : A * (1024 * b) ≤ p2 * D2) (r1 : u1 * D1 ≤ A * (262144 - a * a)) (r2 : A * (262144 - b * b) ≤ u2 * D2) (hu1 : 0 ≤ u1) (hu2 : 0 ≤ u2)
    (s1 : v1 * E ≤ u1 * u1) (s2 : u2 * u2 ≤ v2 * E) : p1 + v1 ≤ p2 + v2 := by
  obtain ⟨aa0, aa1⟩ := tilt_bd ha (by omega)
  obtain ⟨bb0, bb1⟩ := tilt_bd (show -8 ≤ b by omega) hb
  have hD1 : 524288 ≤ D1 := by omega
  have hD2 : 524288 ≤ D2 := by omega
  -- a * b and the two differences
  have hab2 : a * b ≤ 69696 := by
    by_cases c : 0 ≤ a
    · have := Int.mul_le_mul (show a ≤ 264 by omega) hb (by omega) (show (0 : Int) ≤ 264 by omega); omega
    · by_cases c2 : 0 ≤ b
      · have : a * b ≤ 0 := Int.mul_nonpos_of_nonpos_of_nonneg (by omega) c2
        omega
      · have : a * b = -a * -b := by rw [Int.neg_mul_neg]
        have := Int.mul_le_mul (show -a ≤ 8 by omega) (show -b ≤ 8 by omega) (by omega) (show (0 : Int) ≤ 8 by omega); omega
  have d0 : 0 ≤ b - a := by omega
  -- the sines
  have P : 2048 * (A * ((b - a) * (262144 - a * b))) ≤ (p2 - p1) * (D1 * D2) := by
    have x1 := Int.mul_le_mul_of_nonneg_right q1 (show 0 ≤ D2 by omega)
    have x2 := Int.mul_le_mul_of_nonneg_right q2 (show 0 ≤ D1 by omega)
    have e1 : A * (1024 * b) * D1 - A * (1024 * a) * D2 = 2048 * (A * ((b - a) * (262144 - a * b))) := by rw [eD1, eD2]; grind
    have e2 : p2 * D2 * D1 - p1 * D1 * D2 = (p2 - p1) * (D1 * D2) := by grind
    omega
  have hDD : 0 < D1 * D2 := Int.mul_pos (by omega) (by omega)
  have hP0 : 0 ≤ 2048 * (A * ((b - a) * (262144 - a * b))) := by
    have := Int.mul_nonneg hA0 (Int.mul_nonneg d0 (show 0 ≤ 262144 - a * b by omega)); omega
  have hp : p1 ≤ p2 := by
    refine Int.not_lt.1 fun hlt => ?_
    have := Int.mul_pos_of_neg_of_neg (a := -(p1 - p2)) (b := -(D1 * D2)) (by omega) (by omega)
    have e : -(p1 - p2) * -(D1 * D2) = -((p2 - p1) * (D1 * D2)) := by grind
    have h3 : (p2 - p1) * (D1 * D2) < 0 := by omega
    omega
  by_cases hu : u1 ≤ u2
  · have h1 : u1 * u1 ≤ u2 * u2 := Int.mul_le_mul hu hu hu1 hu2
    have : v1 ≤ v2 := Int.le_of_mul_le_mul_right (show v1 * E ≤ v2 * E by omega) (by omega)
    omega
  refine Int.not_lt.1 fun hlt => ?_
  have R : (u1 - u2) * (D1 * D2) ≤ 4 * (A * (262144 * ((b - a) * (b + a)))) := by
    have x1 := Int.mul_le_mul_of_nonneg_right r1 (show 0 ≤ D2 by omega)
    have x2 := Int.mul_le_mul_of_nonneg_right r2 (show 0 ≤ D1 by omega)
    have e1 : A * (262144 - a * a) * D2 - A * (262144 - b * b) * D1 = 4 * (A * (262144 * ((b - a) * (b + a)))) := by rw [eD1, eD2]; grind
    have e2 : u1 * D1 * D2 - u2 * D2 * D1 = (u1 - u2) * (D1 * D2) := by grind
    omega
  have U : 2 * u1 ≤ A := by
    have x1 : u1 * 524288 ≤ u1 * D1 := Int.mul_le_mul_of_nonneg_left hD1 hu1
    have x2 : A * (262144 - a * a) ≤ A * 262144 := Int.mul_le_mul_of_nonneg_left (by omega) hA0
    omega
  -- squares
  have S : E * (p2 - p1 + 1) ≤ (u1 - u2) * A := by
    have y1 : (v1 - v2) * E = v1 * E - v2 * E := Int.sub_mul _ _ _
    have y2 : (p2 - p1 + 1) * E ≤ (v1 - v2) * E := Int.mul_le_mul_of_nonneg_right (by omega) (by omega)
    have y3 : u1 * u1 - u2 * u2 = (u1 - u2) * (u1 + u2) := by grind
    have y4 : (u1 - u2) * (u1 + u2) ≤ (u1 - u2) * A := Int.mul_le_mul_of_nonneg_left (by omega) (by omega)
    have y5 : E * (p2 - p1 + 1) = (p2 - p1 + 1) * E := Int.mul_comm _ _
    omega
  have T : E * (p2 - p1 + 1) * (D1 * D2) ≤ 4 * (A * (262144 * ((b - a) * (b + a)))) * A := by
    have z1 := Int.mul_le_mul_of_nonneg_right S (show 0 ≤ D1 * D2 by omega)
    have z2 : (u1 - u2) * A * (D1 * D2) = (u1 - u2) * (D1 * D2) * A := by grind
    have z3 := Int.mul_le_mul_of_nonneg_right R hA0
    omega
  have V : E * (2048 * (A * ((b - a) * (262144 - a * b)))) ≤ E * (p2 - p1) * (D1 * D2) := by
    have z1 := Int.mul_le_mul_of_nonneg_left P (show 0 ≤ E by omega)
    have z2 : E * ((p2 - p1) * (D1 * D2)) = E * (p2 - p1) * (D1 * D2) := by grind
    omega
  have X : 4 * (A * (262144 * ((b - a) * (b + a)))) * A ≤ E * (2048 * (A * ((b - a) * (262144 - a * b)))) := by
    have k0 := Int.mul_nonneg hA0 d0
    have k1 : A * (b + a) ≤ 798000 * 528 := by
      by_cases c : 0 ≤ b + a
      · exact Int.mul_le_mul hA (by omega) c (by omega)
      · have : A * (b + a) ≤ 0 := Int.mul_nonpos_of_nonneg_of_nonpos hA0 (by omega)
        omega
    have k2 : 2000000 * 192448 ≤ E * (262144 - a * b) := Int.mul_le_mul hE (by omega) (by omega) (by omega)
    have k3 : A * (b - a) * (4 * 262144 * (A * (b + a))) ≤ A * (b - a) * (2048 * (E * (262144 - a * b))) := Int.mul_le_mul_of_nonneg_left (by omega) k0
    have e1 : A * (b - a) * (4 * 262144 * (A * (b + a))) = 4 * (A * (262144 * ((b - a) * (b + a)))) * A := by grind
    have e2 : A * (b - a) * (2048 * (E * (262144 - a * b))) = E * (2048 * (A * ((b - a) * (262144 - a * b)))) := by grind
    omega
  have Y : E * (p2 - p1 + 1) * (D1 * D2) = E * (p2 - p1) * (D1 * D2) + E * (D1 * D2) := by grind
  have Z : 0 < E * (D1 * D2) := Int.mul_pos (by omega) hDD
  omega
/-- A height at a tilt, rounded down, is not above one at a greater tilt, rounded up. -/
theorem rise_meet {z st gate a b e e' : Int} (ha : -8 ≤ a) (hab : a ≤ b) (hb : b ≤ 264) (h3 : 0 ≤ gate) (h4 : gate ≤ 199) (h5 : 0 ≤ st) (h6 : st ≤ 2000) (he : 1000000 ≤ e) (hee : e ≤ e') : riseD z st gate a e' ≤ riseU z st gate b e := by
  obtain ⟨a1, a2, a3, a4, a5, a6⟩ := reach_bd ha (show a ≤ 264 by omega) h3 h4 h5 h6
  obtain ⟨c1, c2, c3, c4, c5, c6⟩ := reach_bd (show -8 ≤ b by omega) hb h3 h4 h5 h6
  obtain ⟨b1, b2, b3, b4, b5⟩ := r_bd ha (show a ≤ 264 by omega) h3 h4 h5 h6
  obtain ⟨f1, f2, f3, f4, f5⟩ := r_bd (show -8 ≤ b by omega) hb h3 h4 h5 h6
  have k1 := Int.ediv_mul_le (sineN st gate a) (show reachD a ≠ 0 by unfold reachD; omega)
  have k2 := le_cdiv_mul (a := sineN st gate b) (b := reachD b) (by unfold reachD; omega)
  have k3 := Int.ediv_mul_le (reachN st gate a) (show reachD a ≠ 0 by unfold reachD; omega)
  have k4 := le_cdiv_mul (a := reachN st gate b) (b := reachD b) (by unfold reachD; omega)
  have k5 := Int.ediv_mul_le (rD st gate a * rD st gate a) (show 2 * e' ≠ 0 by omega)
  have k6 := le_cdiv_mul (a := rU st gate b * rU st gate b) (b := 2 * e) (by omega)
  have k7 : 0 ≤ cdiv (rU st gate b * rU st gate b) (2 * e) := cdiv_nonneg (Int.mul_nonneg f3 f3) (by omega)
  have k8 : cdiv (rU st gate b * rU st gate b) (2 * e) * (2 * e) ≤ cdiv (rU st gate b * rU st gate b) (2 * e) * (2 * e') := Int.mul_le_mul_of_nonneg_left (by omega) k7
  have := meet_core (A := (2 * gate + 1) * st) (a := a) (b := b) (E := 2 * e') (p1 := sineN st gate a / reachD a) (p2 := cdiv (sineN st gate b) (reachD b)) (u1 := rD st gate a) (u2 := rU st gate b) (v1 := rD st gate a * rD st gate a / (2 * e')) (v2 := cdiv (rU st gate b * rU st gate b) (2 * e)) a3 a4 ha hab hb (by omega) rfl rfl k1 k2 k3 k4 b1 f3 k5 (Int.le_trans k6 k8)
  unfold riseD riseU
  omega
end Go.Proofs.YtepgpihobmjbdaaGreat
