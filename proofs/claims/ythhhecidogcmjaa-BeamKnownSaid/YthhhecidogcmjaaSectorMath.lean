/-
  Sectors and gates: a vector lies in exactly one sector of a rose, a distance between the borders of at most one gate; no program in sight.
-/
import Derived.Test.YthhhecidogcmjaaBeamMath
namespace Go.Proofs.Ythhhecidogcmjaa

/-- A direction of the first quarter: (dP n k, dQ n k). -/
def dP (n k : Int) : Int := 2 * n * k
def dQ (n k : Int) : Int := n * n - k * k
theorem cross_dir (n k j : Int) : dQ n k * dP n j - dP n k * dQ n j = 2 * n * ((j - k) * (n * n + k * j)) := by
  unfold dP dQ; grind
theorem dP_nonneg {n k : Int} (hn : 1 ≤ n) (hk : 0 ≤ k) : 0 ≤ dP n k := Int.mul_nonneg (by omega) hk
theorem dQ_nonneg {n k : Int} (_hn : 1 ≤ n) (hk : 0 ≤ k) (h : k ≤ n) : 0 ≤ dQ n k := by
  have : k * k ≤ n * n := Int.mul_le_mul h h hk (by omega)
  unfold dQ; omega
theorem cross_pos {n k j : Int} (hn : 1 ≤ n) (hk : 0 ≤ k) (hkj : k < j) : 0 < dQ n k * dP n j - dP n k * dQ n j := by
  rw [cross_dir]
  have h1 : 0 < n * n := Int.mul_pos (by omega) (by omega)
  have h2 : 0 ≤ k * j := Int.mul_nonneg hk (by omega)
  exact Int.mul_pos (by omega) (Int.mul_pos (by omega) (by omega))
/-- A direction is at a vector of the first quarter, or behind it. -/
def aheadB (n k x y : Int) : Bool := decide (dP n k * y ≤ dQ n k * x)
theorem ahead_zero {n x y : Int} (hx : 0 ≤ x) : aheadB n 0 x y = true := by
  unfold aheadB dP dQ
  have : 0 ≤ n * n * x := Int.mul_nonneg (by by_cases h : 0 ≤ n; exact Int.mul_nonneg h h; exact Int.mul_nonneg_of_nonpos_of_nonpos (by omega) (by omega)) hx
  exact decide_eq_true (by simpa using this)
theorem ahead_end {n x y : Int} (hn : 1 ≤ n) (hy : 0 < y) : aheadB n n x y = false := by
  unfold aheadB dP dQ
  have h1 : 0 < 2 * n * n * y := Int.mul_pos (Int.mul_pos (by omega) (by omega)) hy
  exact decide_eq_false (by rw [Int.sub_self, Int.zero_mul]; omega)
/-- Behind a direction that is not there, none is. -/
theorem ahead_mono {n k j x y : Int} (hn : 1 ≤ n) (hk : 0 ≤ k) (hkj : k ≤ j) (hj : j ≤ n) (hx : 0 ≤ x) (hy : 0 < y) (h : aheadB n k x y = false) : aheadB n j x y = false := by
  by_cases e : k = j
  · subst e; exact h
  have h1 : dQ n k * x < dP n k * y := by have := of_decide_eq_false h; omega
  refine decide_eq_false ?_
  intro h2
  have c := cross_pos hn hk (show k < j by omega)
  have pk := dP_nonneg hn hk
  have qk := dQ_nonneg hn hk (show k ≤ n by omega)
  have pj := dP_nonneg hn (show 0 ≤ j by omega)
  have qx : 0 ≤ dQ n k * x := Int.mul_nonneg qk hx
  -- dP j * y * dP k <= dQ j * x * dP k <= x * dQ k * dP j < dP k * y * dP j
  have a1 : dP n j * y * dP n k ≤ dQ n j * x * dP n k := Int.mul_le_mul_of_nonneg_right h2 pk
  have a2 : x * (dP n k * dQ n j) ≤ x * (dQ n k * dP n j) := Int.mul_le_mul_of_nonneg_left (by omega) hx
  have a3 : dQ n k * x * dP n j ≤ (dP n k * y - 1) * dP n j := Int.mul_le_mul_of_nonneg_right (by omega) pj
  have pj0 : 0 < dP n j := by
    rcases Int.lt_or_eq_of_le pj with h | h
    · exact h
    · rw [← h] at c
      have : dP n k * dQ n j ≥ 0 := Int.mul_nonneg pk (dQ_nonneg hn (by omega) hj)
      omega
  have e1 : dP n j * y * dP n k = dP n k * y * dP n j := by grind
  have e2 : dQ n j * x * dP n k = x * (dP n k * dQ n j) := by grind
  have e3 : x * (dQ n k * dP n j) = dQ n k * x * dP n j := by grind
  have e4 : (dP n k * y - 1) * dP n j = dP n k * y * dP n j - dP n j := by grind
  omega

/-- A vector, turned q quarters. -/
def rotN (X Y : Int) : Nat → Int × Int
  | 0 => (X, Y)
  | q + 1 => (-(rotN X Y q).2, (rotN X Y q).1)
def quad (X Y : Int) : Nat := if 0 ≤ X ∧ 0 < Y then 0 else if 0 ≤ -Y ∧ 0 < X then 1 else if 0 ≤ -X ∧ 0 < -Y then 2 else 3
theorem quad_le (X Y : Int) : quad X Y ≤ 3 := by
  unfold quad
  repeat' split
  all_goals omega
theorem quad_at {X Y : Int} (h : ¬ (X = 0 ∧ Y = 0)) : 0 ≤ (rotN X Y (quad X Y)).1 ∧ 0 < (rotN X Y (quad X Y)).2 := by
  unfold quad
  repeat' split
  all_goals
    simp only [rotN]
    omega
theorem quad_not {X Y : Int} {q : Nat} (h : q < quad X Y) : (rotN X Y q).1 < 0 ∨ (rotN X Y q).2 ≤ 0 := by
  have h3 := quad_le X Y
  have : q = 0 ∨ q = 1 ∨ q = 2 := by omega
  unfold quad at h
  rcases this with rfl | rfl | rfl <;> simp only [rotN] <;> (repeat' split at h) <;> omega
theorem quad_uniq {X Y : Int} {q : Nat} (hq : q ≤ 3) (h1 : 0 ≤ (rotN X Y q).1) (h2 : 0 < (rotN X Y q).2) : q = quad X Y := by
  unfold quad
  have : q = 0 ∨ q = 1 ∨ q = 2 ∨ q = 3 := by omega
  rcases this with rfl | rfl | rfl | rfl <;> simp only [rotN] at h1 h2 <;> (repeat' split) <;> omega
theorem rot_bd {X Y M : Int} (hx : -M ≤ X ∧ X ≤ M) (hy : -M ≤ Y ∧ Y ≤ M) : ∀ q, (-M ≤ (rotN X Y q).1 ∧ (rotN X Y q).1 ≤ M) ∧ (-M ≤ (rotN X Y q).2 ∧ (rotN X Y q).2 ≤ M)
  | 0 => ⟨hx, hy⟩
  | q + 1 => by
    have := rot_bd hx hy q
    simp only [rotN]
    omega

/-- Whether a vector is in the sector of a ray. -/
def sectorB (rose a X Y : Int) : Bool := decide (0 ≤ (dirV rose a).y * X - (dirV rose a).x * Y) && decide (0 < Y * (dirV rose ((a + 1) % (4 * rose))).x - X * (dirV rose ((a + 1) % (4 * rose))).y)
theorem div_add {n : Int} {q : Nat} {k : Int} (hn : 1 ≤ n) (hk : 0 ≤ k) (hkn : k < n) : ((q : Int) * n + k) / n = q ∧ ((q : Int) * n + k) % n = k := by
  constructor
  · rw [Int.add_comm, Int.add_mul_ediv_right _ _ (by omega), Int.ediv_eq_zero_of_lt hk hkn]; omega
  · rw [Int.add_comm, Int.add_mul_emod_self_right, Int.emod_eq_of_lt hk hkn]
/-- The direction of ray q * n + k against a vector, in the turned frame. -/
theorem dir_turn {n : Int} {q : Nat} {k : Int} (hn : 1 ≤ n) (hk : 0 ≤ k) (hkn : k < n) (hq : q ≤ 3) (X Y : Int) :
    (dirV n ((q : Int) * n + k)).y * X - (dirV n ((q : Int) * n + k)).x * Y = dQ n k * (rotN X Y q).1 - dP n k * (rotN X Y q).2 := by
  unfold dirV
  obtain ⟨e1, e2⟩ := div_add (q := q) hn hk hkn
  rw [e1, e2]
  have : q = 0 ∨ q = 1 ∨ q = 2 ∨ q = 3 := by omega
  rcases this with rfl | rfl | rfl | rfl <;> simp [quarter, rotN, dP, dQ] <;> grind
theorem next_turn {n : Int} {q : Nat} {k : Int} (hn : 1 ≤ n) (hk : 0 ≤ k) (hkn : k < n) (hq : q ≤ 3) (X Y : Int) :
    0 < Y * (dirV n (((q : Int) * n + k + 1) % (4 * n))).x - X * (dirV n (((q : Int) * n + k + 1) % (4 * n))).y ↔ aheadB n (k + 1) (rotN X Y q).1 (rotN X Y q).2 = false := by
  have hA : aheadB n (k + 1) (rotN X Y q).1 (rotN X Y q).2 = false ↔ 0 < dP n (k + 1) * (rotN X Y q).2 - dQ n (k + 1) * (rotN X Y q).1 := by
    unfold aheadB; rw [decide_eq_false_iff_not]; omega
  rw [hA]
  by_cases h : k + 1 < n
  · have e : ((q : Int) * n + k + 1) % (4 * n) = (q : Int) * n + (k + 1) := by
      have : (q : Int) * n ≤ 3 * n := Int.mul_le_mul_of_nonneg_right (by omega) (by omega)
      have : 0 ≤ (q : Int) * n := Int.mul_nonneg (by omega) (by omega)
      rw [Int.emod_eq_of_lt (by omega) (by omega)]; omega
    rw [e]
    have := dir_turn (q := q) (k := k + 1) hn (by omega) h hq X Y
    have c1 : Y * (dirV n ((q : Int) * n + (k + 1))).x = (dirV n ((q : Int) * n + (k + 1))).x * Y := Int.mul_comm _ _
    have c2 : X * (dirV n ((q : Int) * n + (k + 1))).y = (dirV n ((q : Int) * n + (k + 1))).y * X := Int.mul_comm _ _
    omega
  · obtain rfl : k = n - 1 := by omega
    have nn : 0 < n * n := Int.mul_pos (by omega) (by omega)
    have e0 : dP n (n - 1 + 1) = 2 * (n * n) := by unfold dP; rw [Int.sub_add_cancel]; grind
    have e1 : dQ n (n - 1 + 1) = 0 := by unfold dQ; rw [Int.sub_add_cancel]; omega
    rw [e0, e1]
    have hd : ∀ b : Nat, b ≤ 3 → dirV n ((b : Int) * n) = quarter b 0 (n * n) (n * n) := fun b hb => by
      have := div_add (q := b) (k := 0) hn (Int.le_refl _) (by omega)
      rw [Int.add_zero] at this
      unfold dirV
      rw [this.1, this.2]; simp
    have hc : q = 0 ∨ q = 1 ∨ q = 2 ∨ q = 3 := by omega
    have key : ∀ z : Int, (0 < 2 * (n * n) * z - 0 * (rotN X Y q).1 ↔ 0 < z) := fun z => by
      rw [Int.zero_mul, Int.sub_zero]
      constructor
      · intro h; refine Int.not_le.1 fun hz => ?_
        have := Int.mul_nonpos_of_nonneg_of_nonpos (show 0 ≤ 2 * (n * n) by omega) hz; omega
      · intro h; exact Int.mul_pos (by omega) h
    rw [key]
    have key2 : ∀ z : Int, (0 < n * n * z ↔ 0 < z) := fun z => by
      constructor
      · intro h; refine Int.not_le.1 fun hz => ?_
        have := Int.mul_nonpos_of_nonneg_of_nonpos (show 0 ≤ n * n by omega) hz; omega
      · intro h; exact Int.mul_pos nn h
    rcases hc with rfl | rfl | rfl | rfl
    · have e : (((0 : Nat) : Int) * n + (n - 1) + 1) % (4 * n) = ((1 : Nat) : Int) * n := by rw [Int.emod_eq_of_lt (by omega) (by omega)]; omega
      rw [e, hd 1 (by omega)]
      have := key2 Y
      have c : Y * (n * n) = n * n * Y := Int.mul_comm _ _
      simp [quarter, rotN]; omega
    · have e : (((1 : Nat) : Int) * n + (n - 1) + 1) % (4 * n) = ((2 : Nat) : Int) * n := by rw [Int.emod_eq_of_lt (by omega) (by omega)]; omega
      rw [e, hd 2 (by omega)]
      have := key2 X
      have c : X * (n * n) = n * n * X := Int.mul_comm _ _
      have c2 : X * -(n * n) = -(X * (n * n)) := Int.mul_neg _ _
      simp [quarter, rotN]; omega
    · have e : (((2 : Nat) : Int) * n + (n - 1) + 1) % (4 * n) = ((3 : Nat) : Int) * n := by rw [Int.emod_eq_of_lt (by omega) (by omega)]; omega
      rw [e, hd 3 (by omega)]
      have := key2 (-Y)
      have c : Y * (n * n) = n * n * Y := Int.mul_comm _ _
      have c2 : Y * -(n * n) = -(Y * (n * n)) := Int.mul_neg _ _
      have c3 : n * n * -Y = -(n * n * Y) := Int.mul_neg _ _
      simp [quarter, rotN]; omega
    · have e : (((3 : Nat) : Int) * n + (n - 1) + 1) % (4 * n) = ((0 : Nat) : Int) * n := by
        have : ((3 : Nat) : Int) * n + (n - 1) + 1 = 4 * n := by omega
        rw [this, Int.emod_self]; simp
      rw [e, hd 0 (by omega)]
      have := key2 (-X)
      have c : X * (n * n) = n * n * X := Int.mul_comm _ _
      have c3 : n * n * -X = -(n * n * X) := Int.mul_neg _ _
      simp [quarter, rotN]; omega
theorem sector_turn {n : Int} {q : Nat} {k : Int} (hn : 1 ≤ n) (hk : 0 ≤ k) (hkn : k < n) (hq : q ≤ 3) (X Y : Int) :
    sectorB n ((q : Int) * n + k) X Y = (aheadB n k (rotN X Y q).1 (rotN X Y q).2 && !aheadB n (k + 1) (rotN X Y q).1 (rotN X Y q).2) := by
  unfold sectorB
  rw [dir_turn hn hk hkn hq X Y]
  have h2 := next_turn hn hk hkn hq X Y
  rw [Bool.eq_iff_iff]
  simp only [Bool.and_eq_true, Bool.not_eq_true', decide_eq_true_eq]
  have h3 : aheadB n k (rotN X Y q).1 (rotN X Y q).2 = true ↔ 0 ≤ dQ n k * (rotN X Y q).1 - dP n k * (rotN X Y q).2 := by
    unfold aheadB; rw [decide_eq_true_eq]; omega
  rw [h2, h3]
end Go.Proofs.Ythhhecidogcmjaa
