/-
  Directions of a rose: lengths, quarter turns, order. No program in sight.
-/
import Derived.Test.YthhhecidogcmjaaBeamMath
namespace Go.Proofs.Ythhhecidogcmjaa

theorem dir_of {n q j a : Int} (hn : 1 ≤ n) (h0 : 0 ≤ j) (h1 : j < n) (ha : a = q * n + j) : dirV n a = quarter q (2 * n * j) (n * n - j * j) (n * n + j * j) := by
  have h := (Int.ediv_emod_unique (a := a) (b := n) (r := j) (q := q) (by omega)).2 ⟨by rw [ha, Int.mul_comm]; omega, h0, h1⟩
  unfold dirV
  rw [h.1, h.2]
theorem abs_mul {a b A B : Int} (h1 : -A ≤ a) (h2 : a ≤ A) (h3 : -B ≤ b) (h4 : b ≤ B) : -(A * B) ≤ a * b ∧ a * b ≤ A * B := by
  have h : (a * b).natAbs ≤ (A * B).natAbs := by
    rw [Int.natAbs_mul, Int.natAbs_mul]
    exact Nat.mul_le_mul (by omega) (by omega)
  have hA : 0 ≤ A * B := Int.mul_nonneg (by omega) (by omega)
  omega
/-- What BeamUnit says of a direction, the one a quarter turn further, the next one, and that of a rose of twice the order. -/
structure UnitOk (a b c d : Vec) : Prop where
  l1 : 1 ≤ a.l
  len : a.x * a.x + a.y * a.y = a.l * a.l
  tx : b = ⟨a.y, -a.x, a.l⟩
  cw : 0 < a.y * c.x - a.x * c.y
  dx : d = ⟨4 * a.x, 4 * a.y, 4 * a.l⟩
  bx : -16200 ≤ a.x ∧ a.x ≤ 16200
  by_ : -16200 ≤ a.y ∧ a.y ≤ 16200
  bl : a.l ≤ 16200
  cx : -16200 ≤ c.x ∧ c.x ≤ 16200
  cy : -16200 ≤ c.y ∧ c.y ≤ 16200
theorem quarter_bd {q n j : Int} (hn : 1 ≤ n) (h90 : n ≤ 90) (h0 : 0 ≤ j) (h1 : j < n) : -16200 ≤ (quarter q (2 * n * j) (n * n - j * j) (n * n + j * j)).x ∧ (quarter q (2 * n * j) (n * n - j * j) (n * n + j * j)).x ≤ 16200 ∧ -16200 ≤ (quarter q (2 * n * j) (n * n - j * j) (n * n + j * j)).y ∧ (quarter q (2 * n * j) (n * n - j * j) (n * n + j * j)).y ≤ 16200 ∧ 1 ≤ (quarter q (2 * n * j) (n * n - j * j) (n * n + j * j)).l ∧ (quarter q (2 * n * j) (n * n - j * j) (n * n + j * j)).l ≤ 16200 ∧ 0 < n * n - j * j := by
  obtain ⟨c1, c2⟩ := mul_bdB (a := 2 * n) (b := j) (A := 180) (B := 90) (by omega) (by omega) h0 (by omega)
  obtain ⟨d1, d2⟩ := mul_bdB (a := n) (b := n) (A := 90) (B := 90) (by omega) (by omega) (by omega) (by omega)
  obtain ⟨e1, e2⟩ := mul_bdB (a := j) (b := j) (A := 90) (B := 90) (by omega) (by omega) (by omega) (by omega)
  have f1 : 1 * 1 ≤ n * n := Int.mul_le_mul hn hn (by omega) (by omega)
  have f2 : j * j < n * n := by
    have g1 := Int.mul_le_mul_of_nonneg_left (show j ≤ n by omega) h0
    have g2 := Int.mul_lt_mul_of_pos_right h1 (show 0 < n by omega)
    omega
  unfold quarter
  split
  · simp only; omega
  · split
    · simp only; omega
    · split
      · simp only; omega
      · simp only; omega
theorem unit_ok {n k : Int} (hn : 1 ≤ n) (h90 : n ≤ 90) (h0 : 0 ≤ k) (h4 : k < 4 * n) : UnitOk (dirV n k) (dirV n ((k + n) % (4 * n))) (dirV n ((k + 1) % (4 * n))) (dirV (2 * n) (2 * k)) := by
  obtain ⟨q, j, hq, hj0, hj1, hk⟩ : ∃ q j : Int, (q = 0 ∨ q = 1 ∨ q = 2 ∨ q = 3) ∧ 0 ≤ j ∧ j < n ∧ k = q * n + j := by
    have a := Int.mul_ediv_add_emod k n
    have b := Int.emod_nonneg k (show n ≠ 0 by omega)
    have c := Int.emod_lt_of_pos k (show 0 < n by omega)
    have d : 0 ≤ k / n := Int.ediv_nonneg h0 (by omega)
    have e : k / n < 4 := Int.ediv_lt_of_lt_mul (by omega) (by omega)
    exact ⟨k / n, k % n, by omega, b, c, by rw [Int.mul_comm]; omega⟩
  have v1 := dir_of (q := q) hn hj0 hj1 hk
  have bd := quarter_bd (q := q) hn h90 hj0 hj1
  obtain ⟨b1, b2, b3, b4, b5, b6, b7⟩ := bd
  have v4 : dirV (2 * n) (2 * k) = quarter q (4 * (2 * n * j)) (4 * (n * n - j * j)) (4 * (n * n + j * j)) := by
    rw [dir_of (n := 2 * n) (q := q) (j := 2 * j) (by omega) (by omega) (by omega) (by rw [hk]; grind)]
    congr 1 <;> grind
  -- the quarter turn
  have v2 : dirV n ((k + n) % (4 * n)) = quarter (if q = 3 then 0 else q + 1) (2 * n * j) (n * n - j * j) (n * n + j * j) := by
    rcases hq with rfl | rfl | rfl | rfl
    · rw [Int.emod_eq_of_lt (by omega) (by omega)]; exact dir_of hn hj0 hj1 (by simp; omega)
    · rw [Int.emod_eq_of_lt (by omega) (by omega)]; exact dir_of hn hj0 hj1 (by simp; omega)
    · rw [Int.emod_eq_of_lt (by omega) (by omega)]; exact dir_of hn hj0 hj1 (by simp; omega)
    · rw [show k + n = j + 4 * n * 1 by omega, Int.add_mul_emod_self_left, Int.emod_eq_of_lt (by omega) (by omega)]
      exact dir_of hn hj0 hj1 (by simp)
  have v3 : ∃ q' j' : Int, dirV n ((k + 1) % (4 * n)) = quarter q' (2 * n * j') (n * n - j' * j') (n * n + j' * j') ∧ 0 ≤ j' ∧ j' < n ∧ ((q' = q ∧ j' = j + 1) ∨ (q' = (if q = 3 then 0 else q + 1) ∧ j' = 0 ∧ j + 1 = n)) := by
    by_cases hl : j + 1 < n
    · refine ⟨q, j + 1, ?_, by omega, hl, .inl ⟨rfl, rfl⟩⟩
      have : (k + 1) % (4 * n) = k + 1 := Int.emod_eq_of_lt (by omega) (by rcases hq with rfl | rfl | rfl | rfl <;> omega)
      rw [this]
      exact dir_of hn (by omega) hl (by omega)
    · refine ⟨if q = 3 then 0 else q + 1, 0, ?_, by omega, by omega, .inr ⟨rfl, rfl, by omega⟩⟩
      rcases hq with rfl | rfl | rfl | rfl
      · rw [Int.emod_eq_of_lt (by omega) (by omega)]; exact dir_of hn (by omega) (by omega) (by simp; omega)
      · rw [Int.emod_eq_of_lt (by omega) (by omega)]; exact dir_of hn (by omega) (by omega) (by simp; omega)
      · rw [Int.emod_eq_of_lt (by omega) (by omega)]; exact dir_of hn (by omega) (by omega) (by simp; omega)
      · rw [show k + 1 = 0 + 4 * n * 1 by omega, Int.add_mul_emod_self_left, Int.emod_eq_of_lt (by omega) (by omega)]
        exact dir_of hn (by omega) (by omega) (by simp)
  obtain ⟨q', j', v3, j0, j1, hqj⟩ := v3
  obtain ⟨e1, e2, e3, e4, e5, e6, e7⟩ := quarter_bd (q := q') hn h90 j0 j1
  rw [v1, v2, v3, v4]
  have pos1 : 0 < 2 * n * (n * n + j * (j + 1)) := Int.mul_pos (by omega) (by have := Int.mul_nonneg hj0 (show 0 ≤ j + 1 by omega); have := Int.mul_pos (show 0 < n by omega) (show 0 < n by omega); omega)
  have pos2 : 0 < (n * n - j * j) * (n * n) := Int.mul_pos b7 (Int.mul_pos (by omega) (by omega))
  have id1 : (n * n - j * j) * (2 * n * (j + 1)) - 2 * n * j * (n * n - (j + 1) * (j + 1)) = 2 * n * (n * n + j * (j + 1)) := by grind
  refine ⟨b5, ?_, ?_, ?_, ?_, ⟨b1, b2⟩, ⟨b3, b4⟩, b6, ⟨e1, e2⟩, ⟨e3, e4⟩⟩
  · rcases hq with rfl | rfl | rfl | rfl <;> simp only [quarter] <;> grind
  · rcases hq with rfl | rfl | rfl | rfl <;> simp [quarter]
  · rcases hqj with ⟨rfl, rfl⟩ | ⟨rfl, rfl, hj⟩
    · rcases hq with rfl | rfl | rfl | rfl <;> simp [quarter] <;> grind
    · rcases hq with rfl | rfl | rfl | rfl <;> simp [quarter] <;> grind
  · rcases hq with rfl | rfl | rfl | rfl <;> simp [quarter] <;> omega
/-- A slant's length. -/
theorem slant_ok {t : Int} (h1 : -8 ≤ t) (h2 : t ≤ 264) : (slantV t).x * (slantV t).x + (slantV t).y * (slantV t).y = (slantV t).l * (slantV t).l ∧ 0 < (slantV t).x ∧ (0 < (slantV t).y ↔ 0 < t) ∧ (slantV t).x ≤ 262144 ∧ -8192 ≤ (slantV t).y ∧ (slantV t).y ≤ 270336 ∧ 0 ≤ (slantV t).l ∧ (slantV t).l ≤ 331840 := by
  obtain ⟨a, b⟩ := tilt_bd h1 h2
  unfold slantV
  simp only
  refine ⟨by grind, by omega, by omega, by omega, by omega, by omega, by omega, by omega⟩
end Go.Proofs.Ythhhecidogcmjaa
