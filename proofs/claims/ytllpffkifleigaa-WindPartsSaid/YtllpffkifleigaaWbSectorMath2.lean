/-
  Quotients rounded down and up; no program in sight.
  Directions of a rose and slants: plain functions and their bounds; no program in sight.
  Quotients rounded down and up, sites, ground ranges: plain functions; no program in sight.
  Sectors and gates: a vector lies in exactly one sector of a rose, a distance between the borders of at most one gate; no program in sight.
  A vector lies in exactly one sector, a distance between the borders of at most one gate: which ones; no program in sight.
-/

set_option linter.unusedSimpArgs false
set_option linter.unusedVariables false
section
namespace Go.Proofs.Ytllpffkifleigaa

/-- The quotient rounded up. -/
def cdiv (a b : Int) : Int := -((-a) / b)
theorem cdiv_eq {a b : Int} (hb : 0 < b) : cdiv a b = (a + b - 1) / b := by
  unfold cdiv
  have h1 := Int.mul_ediv_add_emod (a + b - 1) b
  have h2 := Int.emod_nonneg (a + b - 1) (Int.ne_of_gt hb)
  have h3 := Int.emod_lt_of_pos (a + b - 1) hb
  generalize (a + b - 1) / b = q at *
  generalize (a + b - 1) % b = r at *
  have : (-a) / b = -q := by
    have e : -a = (b - 1 - r) + b * (-q) := by rw [Int.mul_neg]; omega
    rw [e, Int.add_mul_ediv_left _ _ (Int.ne_of_gt hb), Int.ediv_eq_zero_of_lt (by omega) (by omega)]
    omega
  rw [this, Int.neg_neg]
/-- Go's quotient, turned down where the remainder is below 0. -/
theorem tdiv_floor {a b : Int} (hb : 0 < b) : a / b = if Int.tmod a b < 0 then Int.tdiv a b - 1 else Int.tdiv a b := by
  have h1 := Int.mul_tdiv_add_tmod a b
  have h4 : (a.tmod b).natAbs < b.natAbs := by rw [Int.natAbs_tmod]; exact Nat.mod_lt _ (by omega)
  generalize Int.tdiv a b = q at *
  generalize Int.tmod a b = r at *
  split
  · have e : a = (r + b) + b * (q - 1) := by rw [Int.mul_sub]; omega
    rw [e, Int.add_mul_ediv_left _ _ (Int.ne_of_gt hb), Int.ediv_eq_zero_of_lt (by omega) (by omega)]; omega
  · have e : a = r + b * q := by omega
    rw [e, Int.add_mul_ediv_left _ _ (Int.ne_of_gt hb), Int.ediv_eq_zero_of_lt (by omega) (by omega)]; omega
theorem tdiv_nonneg_eq {a b : Int} (ha : 0 ≤ a) : Int.tdiv a b = a / b := Int.tdiv_eq_ediv_of_nonneg ha
end Go.Proofs.Ytllpffkifleigaa
end
section
namespace Go.Proofs.Ytllpffkifleigaa

def winBQ (n lo hi : Int) : Bool := decide (lo ≤ n ∧ n ≤ hi)
theorem winB_iff {n lo hi : Int} : winBQ n lo hi = true ↔ lo ≤ n ∧ n ≤ hi := by simp [winBQ]
/-- A direction, and its length. -/
structure Vec where
  x : Int
  y : Int
  l : Int
def quarter (q p r l : Int) : Vec := if q = 0 then ⟨p, r, l⟩ else if q = 1 then ⟨r, -p, l⟩ else if q = 2 then ⟨-p, -r, l⟩ else ⟨-r, p, l⟩
def dirV (rose a : Int) : Vec := quarter (a / rose) (2 * rose * (a % rose)) (rose * rose - a % rose * (a % rose)) (rose * rose + a % rose * (a % rose))
def okD (rose a : Int) : Bool := winBQ rose 1 180 && winBQ a 0 (4 * rose - 1)
def dirR (rose a : Int) : Vec × Int := if okD rose a = true then (dirV rose a, 0) else (⟨0, 0, 0⟩, 3)
def slantV (t : Int) : Vec := ⟨262144 - t * t, 1024 * t, 262144 + t * t⟩
def slantR (t : Int) : Vec × Int := if winBQ t (-8) 264 = true then (slantV t, 0) else (⟨0, 0, 0⟩, 3)
theorem mul_bdB {a b A B : Int} (ha : 0 ≤ a) (haA : a ≤ A) (hb : 0 ≤ b) (hbB : b ≤ B) : 0 ≤ a * b ∧ a * b ≤ A * B :=
  ⟨Int.mul_nonneg ha hb, Int.le_trans (Int.mul_le_mul_of_nonneg_right haA hb) (Int.mul_le_mul_of_nonneg_left hbB (by omega))⟩
/-- What the walk needs of a direction. -/
theorem dir_bd {rose a : Int} (h1 : 1 ≤ rose) (h2 : rose ≤ 180) (h3 : 0 ≤ a) (h4 : a ≤ 4 * rose - 1) :
    (a / rose = 0 ∨ a / rose = 1 ∨ a / rose = 2 ∨ a / rose = 3) ∧ 0 ≤ a % rose ∧ a % rose < rose ∧ 0 ≤ 2 * rose * (a % rose) ∧ 2 * rose * (a % rose) ≤ 64800 ∧ 0 ≤ rose * rose ∧ rose * rose ≤ 32400 ∧ 0 ≤ a % rose * (a % rose) ∧ a % rose * (a % rose) ≤ 32400 := by
  have a1 := Int.emod_nonneg a (show rose ≠ 0 by omega)
  have a2 := Int.emod_lt_of_pos a (show 0 < rose by omega)
  have b1 : 0 ≤ a / rose := Int.ediv_nonneg h3 (by omega)
  have b2 : a / rose < 4 := Int.ediv_lt_of_lt_mul (by omega) (by omega)
  obtain ⟨c1, c2⟩ := mul_bdB (a := 2 * rose) (b := a % rose) (A := 360) (B := 180) (by omega) (by omega) a1 (by omega)
  obtain ⟨d1, d2⟩ := mul_bdB (a := rose) (b := rose) (A := 180) (B := 180) (by omega) (by omega) (by omega) (by omega)
  obtain ⟨e1, e2⟩ := mul_bdB (a := a % rose) (b := a % rose) (A := 180) (B := 180) a1 (by omega) a1 (by omega)
  exact ⟨by omega, a1, a2, c1, by omega, d1, by omega, e1, by omega⟩
theorem tilt_bd {t : Int} (h1 : -8 ≤ t) (h2 : t ≤ 264) : 0 ≤ t * t ∧ t * t ≤ 69696 := by
  by_cases h : 0 ≤ t
  · obtain ⟨a, b⟩ := mul_bdB h h2 h h2
    exact ⟨a, by omega⟩
  · have e : t * t = -t * -t := by rw [Int.neg_mul_neg]
    obtain ⟨a, b⟩ := mul_bdB (a := -t) (b := -t) (A := 8) (B := 8) (by omega) (by omega) (by omega) (by omega)
    rw [e]; exact ⟨a, by omega⟩
end Go.Proofs.Ytllpffkifleigaa
end
section
namespace Go.Proofs.Ytllpffkifleigaa

theorem down_floor {a b : Int} (hb : 0 < b) : a / b = if a < a.tdiv b * b then a.tdiv b - 1 else a.tdiv b := by
  have h1 := Int.mul_tdiv_add_tmod a b
  rw [Int.mul_comm] at h1
  rw [tdiv_floor hb]
  by_cases h : Int.tmod a b < 0
  · rw [if_pos h, if_pos (by omega)]
  · rw [if_neg h, if_neg (by omega)]
theorem up_ceil {a b : Int} (hb : 0 < b) : cdiv a b = if a.tdiv b * b < a then a.tdiv b + 1 else a.tdiv b := by
  have h1 := Int.mul_tdiv_add_tmod a b
  rw [Int.mul_comm] at h1
  unfold cdiv
  rw [tdiv_floor hb, Int.neg_tdiv]
  have h2 : Int.tmod (-a) b = -Int.tmod a b := Int.neg_tmod a b
  rw [h2]
  by_cases h : 0 < Int.tmod a b
  · rw [if_pos (by omega), if_pos (by omega)]; omega
  · rw [if_neg (by omega), if_neg (by omega)]; omega
/-- Bounds of Go's quotient and its product. -/
theorem tdiv_bds {a b : Int} (hb : 1 ≤ b) (h1 : -4611686018427387903 ≤ a) (h2 : a ≤ 4611686018427387903) :
    -4611686018427387903 ≤ a.tdiv b ∧ a.tdiv b ≤ 4611686018427387903 ∧ -4611686018427387903 ≤ a.tdiv b * b ∧ a.tdiv b * b ≤ 4611686018427387903 := by
  by_cases h : 0 ≤ a
  · rw [Int.tdiv_eq_ediv_of_nonneg h]
    have a1 := Int.ediv_nonneg h (show 0 ≤ b by omega)
    have a2 := Int.ediv_le_self b h
    have a3 := Int.mul_nonneg a1 (show 0 ≤ b by omega)
    have a4 := Int.ediv_mul_le a (show b ≠ 0 by omega)
    omega
  · have e : a.tdiv b = -(-a / b) := by rw [← Int.neg_neg a, Int.neg_tdiv, Int.neg_neg, Int.tdiv_eq_ediv_of_nonneg (by omega)]
    have a1 := Int.ediv_nonneg (show 0 ≤ -a by omega) (show 0 ≤ b by omega)
    have a2 := Int.ediv_le_self b (show 0 ≤ -a by omega)
    have a3 := Int.mul_nonneg a1 (show 0 ≤ b by omega)
    have a4 := Int.ediv_mul_le (-a) (show b ≠ 0 by omega)
    rw [e, Int.neg_mul]
    omega
def siteE (nb : Bool) (x y z r g st wd : Int) : Int :=
  if nb = false then 10 else if (winBQ x (-1048576) 1048576 && winBQ y (-1048576) 1048576 && winBQ z 0 20000 && winBQ r 1 90 && winBQ g 1 200 && winBQ st 50 2000 && winBQ wd 0 8) = true then 0 else 3
end Go.Proofs.Ytllpffkifleigaa
end
section
namespace Go.Proofs.Ytllpffkifleigaa

/-- A direction of the first quarter: (dP n k, dQ n k). -/
def dP (n k : Int) : Int := 2 * n * k
def dQ (n k : Int) : Int := n * n - k * k
theorem cross_dir (n k j : Int) : dQ n k * dP n j - dP n k * dQ n j = 2 * n * ((j - k) * (n * n + k * j)) := by
  unfold dP dQ; grind
theorem dP_nonneg {n k : Int} (hn : 1 ≤ n) (hk : 0 ≤ k) : 0 ≤ dP n k := Int.mul_nonneg (by omega) hk
theorem dQ_nonneg {n k : Int} (_hn : 1 ≤ n) (hk : 0 ≤ k) (h : k ≤ n) : 0 ≤ dQ n k := by
  have : k * k ≤ n * n := Int.mul_le_mul h h hk (by omega)
  unfold dQ; omega
theorem cross_pos {n k j : Int} (hn : 1 ≤ n) (hk : 0 ≤ k) (hkj : k < j) : 0 < dQ n k * dP n j - dP n k * dQ n j := by
  rw [cross_dir]
  have h1 : 0 < n * n := Int.mul_pos (by omega) (by omega)
  have h2 : 0 ≤ k * j := Int.mul_nonneg hk (by omega)
  exact Int.mul_pos (by omega) (Int.mul_pos (by omega) (by omega))
/-- A direction is at a vector of the first quarter, or behind it. -/
def aheadB (n k x y : Int) : Bool := decide (dP n k * y ≤ dQ n k * x)
theorem ahead_zero {n x y : Int} (hx : 0 ≤ x) : aheadB n 0 x y = true := by
  unfold aheadB dP dQ
  have : 0 ≤ n * n * x := Int.mul_nonneg (by by_cases h : 0 ≤ n; exact Int.mul_nonneg h h; exact Int.mul_nonneg_of_nonpos_of_nonpos (by omega) (by omega)) hx
  exact decide_eq_true (by simpa using this)
theorem ahead_end {n x y : Int} (hn : 1 ≤ n) (hy : 0 < y) : aheadB n n x y = false := by
  unfold aheadB dP dQ
  have h1 : 0 < 2 * n * n * y := Int.mul_pos (Int.mul_pos (by omega) (by omega)) hy
  exact decide_eq_false (by rw [Int.sub_self, Int.zero_mul]; omega)
/-- Behind a direction that is not there, none is. -/
theorem ahead_mono {n k j x y : Int} (hn : 1 ≤ n) (hk : 0 ≤ k) (hkj : k ≤ j) (hj : j ≤ n) (hx : 0 ≤ x) (hy : 0 < y) (h : aheadB n k x y = false) : aheadB n j x y = false := by
  by_cases e : k = j
  · subst e; exact h
  have h1 : dQ n k * x < dP n k * y := by have := of_decide_eq_false h; omega
  refine decide_eq_false ?_
  intro h2
  have c := cross_pos hn hk (show k < j by omega)
  have pk := dP_nonneg hn hk
  have qk := dQ_nonneg hn hk (show k ≤ n by omega)
  have pj := dP_nonneg hn (show 0 ≤ j by omega)
  have qx : 0 ≤ dQ n k * x := Int.mul_nonneg qk hx
  -- dP j * y * dP k <= dQ j * x * dP k <= x * dQ k * dP j < dP k * y * dP j
  have a1 : dP n j * y * dP n k ≤ dQ n j * x * dP n k := Int.mul_le_mul_of_nonneg_right h2 pk
  have a2 : x * (dP n k * dQ n j) ≤ x * (dQ n k * dP n j) := Int.mul_le_mul_of_nonneg_left (by omega) hx
  have a3 : dQ n k * x * dP n j ≤ (dP n k * y - 1) * dP n j := Int.mul_le_mul_of_nonneg_right (by omega) pj
  have pj0 : 0 < dP n j := by
    rcases Int.lt_or_eq_of_le pj with h | h
    · exact h
    · rw [← h] at c
      have : dP n k * dQ n j ≥ 0 := Int.mul_nonneg pk (dQ_nonneg hn (by omega) hj)
      omega
  have e1 : dP n j * y * dP n k = dP n k * y * dP n j := by grind
  have e2 : dQ n j * x * dP n k = x * (dP n k * dQ n j) := by grind
  have e3 : x * (dQ n k * dP n j) = dQ n k * x * dP n j := by grind
  have e4 : (dP n k * y - 1) * dP n j = dP n k * y * dP n j - dP n j := by grind
  omega

/-- A vector, turned q quarters. -/
def rotN (X Y : Int) : Nat → Int × Int
  | 0 => (X, Y)
  | q + 1 => (-(rotN X Y q).2, (rotN X Y q).1)
def quad (X Y : Int) : Nat := if 0 ≤ X ∧ 0 < Y then 0 else if 0 ≤ -Y ∧ 0 < X then 1 else if 0 ≤ -X ∧ 0 < -Y then 2 else 3
theorem quad_le (X Y : Int) : quad X Y ≤ 3 := by
  unfold quad
  repeat' split
  all_goals omega
theorem quad_at {X Y : Int} (h : ¬ (X = 0 ∧ Y = 0)) : 0 ≤ (rotN X Y (quad X Y)).1 ∧ 0 < (rotN X Y (quad X Y)).2 := by
  unfold quad
  repeat' split
  all_goals
    simp only [rotN]
    omega
theorem quad_not {X Y : Int} {q : Nat} (h : q < quad X Y) : (rotN X Y q).1 < 0 ∨ (rotN X Y q).2 ≤ 0 := by
  have h3 := quad_le X Y
  have : q = 0 ∨ q = 1 ∨ q = 2 := by omega
  unfold quad at h
  rcases this with rfl | rfl | rfl <;> simp only [rotN] <;> (repeat' split at h) <;> omega
theorem quad_uniq {X Y : Int} {q : Nat} (hq : q ≤ 3) (h1 : 0 ≤ (rotN X Y q).1) (h2 : 0 < (rotN X Y q).2) : q = quad X Y := by
  unfold quad
  have : q = 0 ∨ q = 1 ∨ q = 2 ∨ q = 3 := by omega
  rcases this with rfl | rfl | rfl | rfl <;> simp only [rotN] at h1 h2 <;> (repeat' split) <;> omega
theorem rot_bd {X Y M : Int} (hx : -M ≤ X ∧ X ≤ M) (hy : -M ≤ Y ∧ Y ≤ M) : ∀ q, (-M ≤ (rotN X Y q).1 ∧ (rotN X Y q).1 ≤ M) ∧ (-M ≤ (rotN X Y q).2 ∧ (rotN X Y q).2 ≤ M)
  | 0 => ⟨hx, hy⟩
  | q + 1 => by
    have := rot_bd hx hy q
    simp only [rotN]
    omega

/-- Whether a vector is in the sector of a ray. -/
def sectorB (rose a X Y : Int) : Bool := decide (0 ≤ (dirV rose a).y * X - (dirV rose a).x * Y) && decide (0 < Y * (dirV rose ((a + 1) % (4 * rose))).x - X * (dirV rose ((a + 1) % (4 * rose))).y)
theorem div_add {n : Int} {q : Nat} {k : Int} (hn : 1 ≤ n) (hk : 0 ≤ k) (hkn : k < n) : ((q : Int) * n + k) / n = q ∧ ((q : Int) * n + k) % n = k := by
  constructor
  · rw [Int.add_comm, Int.add_mul_ediv_right _ _ (by omega), Int.ediv_eq_zero_of_lt hk hkn]; omega
  · rw [Int.add_comm, Int.add_mul_emod_self_right, Int.emod_eq_of_lt hk hkn]
/-- The direction of ray q * n + k against a vector, in the turned frame. -/
theorem dir_turn {n : Int} {q : Nat} {k : Int} (hn : 1 ≤ n) (hk : 0 ≤ k) (hkn : k < n) (hq : q ≤ 3) (X Y : Int) :
    (dirV n ((q : Int) * n + k)).y * X - (dirV n ((q : Int) * n + k)).x * Y = dQ n k * (rotN X Y q).1 - dP n k * (rotN X Y q).2 := by
  unfold dirV
  obtain ⟨e1, e2⟩ := div_add (q := q) hn hk hkn
  rw [e1, e2]
  have : q = 0 ∨ q = 1 ∨ q = 2 ∨ q = 3 := by omega
  rcases this with rfl | rfl | rfl | rfl <;> simp [quarter, rotN, dP, dQ] <;> grind
theorem next_turn {n : Int} {q : Nat} {k : Int} (hn : 1 ≤ n) (hk : 0 ≤ k) (hkn : k < n) (hq : q ≤ 3) (X Y : Int) :
    0 < Y * (dirV n (((q : Int) * n + k + 1) % (4 * n))).x - X * (dirV n (((q : Int) * n + k + 1) % (4 * n))).y ↔ aheadB n (k + 1) (rotN X Y q).1 (rotN X Y q).2 = false := by
  have hA : aheadB n (k + 1) (rotN X Y q).1 (rotN X Y q).2 = false ↔ 0 < dP n (k + 1) * (rotN X Y q).2 - dQ n (k + 1) * (rotN X Y q).1 := by
    unfold aheadB; rw [decide_eq_false_iff_not]; omega
  rw [hA]
  by_cases h : k + 1 < n
  · have e : ((q : Int) * n + k + 1) % (4 * n) = (q : Int) * n + (k + 1) := by
      have : (q : Int) * n ≤ 3 * n := Int.mul_le_mul_of_nonneg_right (by omega) (by omega)
      have : 0 ≤ (q : Int) * n := Int.mul_nonneg (by omega) (by omega)
      rw [Int.emod_eq_of_lt (by omega) (by omega)]; omega
    rw [e]
    have := dir_turn (q := q) (k := k + 1) hn (by omega) h hq X Y
    have c1 : Y * (dirV n ((q : Int) * n + (k + 1))).x = (dirV n ((q : Int) * n + (k + 1))).x * Y := Int.mul_comm _ _
    have c2 : X * (dirV n ((q : Int) * n + (k + 1))).y = (dirV n ((q : Int) * n + (k + 1))).y * X := Int.mul_comm _ _
    omega
  · obtain rfl : k = n - 1 := by omega
    have nn : 0 < n * n := Int.mul_pos (by omega) (by omega)
    have e0 : dP n (n - 1 + 1) = 2 * (n * n) := by unfold dP; rw [Int.sub_add_cancel]; grind
    have e1 : dQ n (n - 1 + 1) = 0 := by unfold dQ; rw [Int.sub_add_cancel]; omega
    rw [e0, e1]
    have hd : ∀ b : Nat, b ≤ 3 → dirV n ((b : Int) * n) = quarter b 0 (n * n) (n * n) := fun b hb => by
      have := div_add (q := b) (k := 0) hn (Int.le_refl _) (by omega)
      rw [Int.add_zero] at this
      unfold dirV
      rw [this.1, this.2]; simp
    have hc : q = 0 ∨ q = 1 ∨ q = 2 ∨ q = 3 := by omega
    have key : ∀ z : Int, (0 < 2 * (n * n) * z - 0 * (rotN X Y q).1 ↔ 0 < z) := fun z => by
      rw [Int.zero_mul, Int.sub_zero]
      constructor
      · intro h; refine Int.not_le.1 fun hz => ?_
        have := Int.mul_nonpos_of_nonneg_of_nonpos (show 0 ≤ 2 * (n * n) by omega) hz; omega
      · intro h; exact Int.mul_pos (by omega) h
    rw [key]
    have key2 : ∀ z : Int, (0 < n * n * z ↔ 0 < z) := fun z => by
      constructor
      · intro h; refine Int.not_le.1 fun hz => ?_
        have := Int.mul_nonpos_of_nonneg_of_nonpos (show 0 ≤ n * n by omega) hz; omega
      · intro h; exact Int.mul_pos nn h
    rcases hc with rfl | rfl | rfl | rfl
    · have e : (((0 : Nat) : Int) * n + (n - 1) + 1) % (4 * n) = ((1 : Nat) : Int) * n := by rw [Int.emod_eq_of_lt (by omega) (by omega)]; omega
      rw [e, hd 1 (by omega)]
      have := key2 Y
      have c : Y * (n * n) = n * n * Y := Int.mul_comm _ _
      simp [quarter, rotN]; omega
    · have e : (((1 : Nat) : Int) * n + (n - 1) + 1) % (4 * n) = ((2 : Nat) : Int) * n := by rw [Int.emod_eq_of_lt (by omega) (by omega)]; omega
      rw [e, hd 2 (by omega)]
      have := key2 X
      have c : X * (n * n) = n * n * X := Int.mul_comm _ _
      have c2 : X * -(n * n) = -(X * (n * n)) := Int.mul_neg _ _
      simp [quarter, rotN]; omega
    · have e : (((2 : Nat) : Int) * n + (n - 1) + 1) % (4 * n) = ((3 : Nat) : Int) * n := by rw [Int.emod_eq_of_lt (by omega) (by omega)]; omega
      rw [e, hd 3 (by omega)]
      have := key2 (-Y)
      have c : Y * (n * n) = n * n * Y := Int.mul_comm _ _
      have c2 : Y * -(n * n) = -(Y * (n * n)) := Int.mul_neg _ _
      have c3 : n * n * -Y = -(n * n * Y) := Int.mul_neg _ _
      simp [quarter, rotN]; omega
    · have e : (((3 : Nat) : Int) * n + (n - 1) + 1) % (4 * n) = ((0 : Nat) : Int) * n := by
        have : ((3 : Nat) : Int) * n + (n - 1) + 1 = 4 * n := by omega
        rw [this, Int.emod_self]; simp
      rw [e, hd 0 (by omega)]
      have := key2 (-X)
      have c : X * (n * n) = n * n * X := Int.mul_comm _ _
      have c3 : n * n * -X = -(n * n * X) := Int.mul_neg _ _
      simp [quarter, rotN]; omega
theorem sector_turn {n : Int} {q : Nat} {k : Int} (hn : 1 ≤ n) (hk : 0 ≤ k) (hkn : k < n) (hq : q ≤ 3) (X Y : Int) :
    sectorB n ((q : Int) * n + k) X Y = (aheadB n k (rotN X Y q).1 (rotN X Y q).2 && !aheadB n (k + 1) (rotN X Y q).1 (rotN X Y q).2) := by
  unfold sectorB
  rw [dir_turn hn hk hkn hq X Y]
  have h2 := next_turn hn hk hkn hq X Y
  rw [Bool.eq_iff_iff]
  simp only [Bool.and_eq_true, Bool.not_eq_true', decide_eq_true_eq]
  have h3 : aheadB n k (rotN X Y q).1 (rotN X Y q).2 = true ↔ 0 ≤ dQ n k * (rotN X Y q).1 - dP n k * (rotN X Y q).2 := by
    unfold aheadB; rw [decide_eq_true_eq]; omega
  rw [h2, h3]
end Go.Proofs.Ytllpffkifleigaa
end
section
namespace Go.Proofs.Ytllpffkifleigaa

theorem ahead_first {n k x y : Int} (hn : 1 ≤ n) (hk : 0 ≤ k) (hkn : k < n) (h1 : aheadB n k x y = true) (h2 : aheadB n (k + 1) x y = false) : 0 ≤ x ∧ 0 < y := by
  have a1 : dP n k * y ≤ dQ n k * x := of_decide_eq_true h1
  have a2 : dQ n (k + 1) * x < dP n (k + 1) * y := by have := of_decide_eq_false h2; omega
  have c := cross_pos hn hk (show k < k + 1 by omega)
  have pk := dP_nonneg hn hk
  have qk := dQ_nonneg hn hk (show k ≤ n by omega)
  have pj := dP_nonneg hn (show 0 ≤ k + 1 by omega)
  have qj := dQ_nonneg hn (show 0 ≤ k + 1 by omega) (show k + 1 ≤ n by omega)
  have hy : 0 < y := by
    refine Int.not_le.1 fun hy => ?_
    have b1 : dP n (k + 1) * y ≤ 0 := Int.mul_nonpos_of_nonneg_of_nonpos pj hy
    have hx : x < 0 := by
      refine Int.not_le.1 fun hx => ?_
      have := Int.mul_nonneg qj hx
      omega
    -- with a = -x, b = -y
    have m1 : dP n k * y * dP n (k + 1) ≤ dQ n k * x * dP n (k + 1) := Int.mul_le_mul_of_nonneg_right a1 pj
    have m2 : dQ n (k + 1) * x * dP n k ≤ dP n (k + 1) * y * dP n k := Int.mul_le_mul_of_nonneg_right (by omega) pk
    have e1 : dP n k * y * dP n (k + 1) = dP n (k + 1) * y * dP n k := by grind
    have e2 : dQ n k * x * dP n (k + 1) - dQ n (k + 1) * x * dP n k = (dQ n k * dP n (k + 1) - dP n k * dQ n (k + 1)) * x := by grind
    have e3 : (dQ n k * dP n (k + 1) - dP n k * dQ n (k + 1)) * x < 0 := Int.mul_neg_of_pos_of_neg c hx
    omega
  refine ⟨?_, hy⟩
  refine Int.not_lt.1 fun hx => ?_
  have qk0 : 0 < dQ n k := by
    unfold dQ
    have : k * k < n * n := by
      have e1 : k * k ≤ k * n := Int.mul_le_mul_of_nonneg_left (by omega) hk
      have e2 : k * n < n * n := Int.mul_lt_mul_of_pos_right hkn (by omega)
      omega
    omega
  have m1 := Int.mul_nonneg pk (show 0 ≤ y by omega)
  have m2 : dQ n k * x < 0 := Int.mul_neg_of_pos_of_neg qk0 hx
  omega
theorem split_ray {n a : Int} (hn : 1 ≤ n) (h0 : 0 ≤ a) (h1 : a < 4 * n) : ∃ (q : Nat) (k : Int), q ≤ 3 ∧ 0 ≤ k ∧ k < n ∧ a = (q : Int) * n + k := by
  have b1 : 0 ≤ a / n := Int.ediv_nonneg h0 (by omega)
  have b2 : a / n < 4 := Int.ediv_lt_of_lt_mul (by omega) (by omega)
  refine ⟨(a / n).toNat, a % n, by omega, Int.emod_nonneg _ (by omega), Int.emod_lt_of_pos _ (by omega), ?_⟩
  have := Int.mul_ediv_add_emod a n
  rw [Int.toNat_of_nonneg b1, Int.mul_comm]
  omega
theorem sector_parts {n a X Y : Int} (hn : 1 ≤ n) (h0 : 0 ≤ a) (h1 : a < 4 * n) (h : sectorB n a X Y = true) : ∃ k : Int, 0 ≤ k ∧ k < n ∧ a = (quad X Y : Int) * n + k ∧ aheadB n k (rotN X Y (quad X Y)).1 (rotN X Y (quad X Y)).2 = true ∧ aheadB n (k + 1) (rotN X Y (quad X Y)).1 (rotN X Y (quad X Y)).2 = false := by
  obtain ⟨q, k, hq, hk, hkn, rfl⟩ := split_ray hn h0 h1
  rw [sector_turn hn hk hkn hq, Bool.and_eq_true, Bool.not_eq_true'] at h
  obtain ⟨x0, y0⟩ := ahead_first hn hk hkn h.1 h.2
  obtain rfl := quad_uniq hq x0 y0
  exact ⟨k, hk, hkn, rfl, h.1, h.2⟩
theorem sector_uniq {n a b X Y : Int} (hn : 1 ≤ n) (a0 : 0 ≤ a) (a1 : a < 4 * n) (b0 : 0 ≤ b) (b1 : b < 4 * n) (ha : sectorB n a X Y = true) (hb : sectorB n b X Y = true) : a = b := by
  obtain ⟨k, k0, k1, rfl, h1, h2⟩ := sector_parts hn a0 a1 ha
  obtain ⟨j, j0, j1, rfl, g1, g2⟩ := sector_parts hn b0 b1 hb
  obtain ⟨x0, y0⟩ := ahead_first hn k0 k1 h1 h2
  rcases Int.lt_trichotomy k j with h | h | h
  · have := ahead_mono hn (show 0 ≤ k + 1 by omega) (show k + 1 ≤ j by omega) (by omega) x0 y0 h2
    rw [g1] at this; cases this
  · subst h; rfl
  · have := ahead_mono hn (show 0 ≤ j + 1 by omega) (show j + 1 ≤ k by omega) (by omega) x0 y0 g2
    rw [h1] at this; cases this
theorem sector_of {n k X Y : Int} (hn : 1 ≤ n) (hk : 0 ≤ k) (hkn : k < n) (h1 : aheadB n k (rotN X Y (quad X Y)).1 (rotN X Y (quad X Y)).2 = true) (h2 : aheadB n (k + 1) (rotN X Y (quad X Y)).1 (rotN X Y (quad X Y)).2 = false) :
    sectorB n ((quad X Y : Int) * n + k) X Y = true ∧ 0 ≤ (quad X Y : Int) * n + k ∧ (quad X Y : Int) * n + k < 4 * n := by
  have hq := quad_le X Y
  have m1 : 0 ≤ (quad X Y : Int) * n := Int.mul_nonneg (by omega) (by omega)
  have m2 : (quad X Y : Int) * n ≤ 3 * n := Int.mul_le_mul_of_nonneg_right (by omega) (by omega)
  refine ⟨?_, by omega, by omega⟩
  rw [sector_turn hn hk hkn hq, h1, h2]; rfl
theorem step_down (f : Nat → Bool) : ∀ m : Nat, f 0 = true → f m = false → ∃ k, k < m ∧ f k = true ∧ f (k + 1) = false
  | 0, h0, h1 => by rw [h0] at h1; cases h1
  | m + 1, h0, h1 => by
    cases h : f m with
    | true => exact ⟨m, by omega, h, h1⟩
    | false =>
      obtain ⟨k, a, b, c⟩ := step_down f m h0 h
      exact ⟨k, by omega, b, c⟩
theorem sector_ex {n X Y : Int} (hn : 1 ≤ n) (h : ¬ (X = 0 ∧ Y = 0)) : ∃ a : Int, 0 ≤ a ∧ a < 4 * n ∧ sectorB n a X Y = true := by
  obtain ⟨x0, y0⟩ := quad_at h
  obtain ⟨m, hm⟩ : ∃ m : Nat, n = m := ⟨n.toNat, by omega⟩
  obtain ⟨k, hk, h1, h2⟩ := step_down (fun k => aheadB n k (rotN X Y (quad X Y)).1 (rotN X Y (quad X Y)).2) m (by simpa using ahead_zero x0) (by rw [← hm]; exact ahead_end hn y0)
  have := sector_of (X := X) (Y := Y) hn (show 0 ≤ (k : Int) by omega) (by omega) h1 (by simpa using h2)
  exact ⟨_, this.2.1, this.2.2, this.1⟩

/-- The ray in whose sector a vector is. -/
def rayZ (n X Y : Int) : Int := match (List.range (4 * n).toNat).find? (fun a : Nat => sectorB n a X Y) with | some a => a | none => 0
theorem ray_is {n a X Y : Int} (hn : 1 ≤ n) (a0 : 0 ≤ a) (a1 : a < 4 * n) (ha : sectorB n a X Y = true) : rayZ n X Y = a := by
  unfold rayZ
  obtain ⟨m, rfl⟩ : ∃ m : Nat, a = m := ⟨a.toNat, by omega⟩
  cases h : (List.range (4 * n).toNat).find? (fun a : Nat => sectorB n a X Y) with
  | none =>
    have := List.find?_eq_none.1 h m (List.mem_range.2 (by omega))
    exact absurd ha this
  | some b =>
    have h1 := List.find?_some h
    have h2 := List.mem_range.1 (List.mem_of_find?_eq_some h)
    show (b : Int) = m
    exact sector_uniq hn (by omega) (by omega) a0 a1 h1 ha
theorem ray_spec {n X Y : Int} (hn : 1 ≤ n) (h : ¬ (X = 0 ∧ Y = 0)) : 0 ≤ rayZ n X Y ∧ rayZ n X Y < 4 * n ∧ sectorB n (rayZ n X Y) X Y = true := by
  obtain ⟨a, a0, a1, ha⟩ := sector_ex hn h
  rw [ray_is hn a0 a1 ha]
  exact ⟨a0, a1, ha⟩

/-! ### Gates -/
def bord (st t j : Int) : Int := j * st * (262144 - t * t) / (262144 + t * t)
theorem bord_nonneg {st t j : Int} (h1 : 0 ≤ st) (h2 : 0 ≤ t) (h3 : t ≤ 256) (h4 : 0 ≤ j) : 0 ≤ bord st t j := by
  obtain ⟨a, b⟩ := tilt_bd (show -8 ≤ t by omega) (show t ≤ 264 by omega)
  exact Int.ediv_nonneg (Int.mul_nonneg (Int.mul_nonneg h4 h1) (by omega)) (by omega)
theorem bord_mono {st t j k : Int} (h1 : 0 ≤ st) (h2 : 0 ≤ t) (h3 : t ≤ 256) (h : j ≤ k) : bord st t j ≤ bord st t k := by
  obtain ⟨a, b⟩ := tilt_bd (show -8 ≤ t by omega) (show t ≤ 264 by omega)
  exact Int.ediv_le_ediv (by omega) (Int.mul_le_mul_of_nonneg_right (Int.mul_le_mul_of_nonneg_right h h1) (by omega))
theorem bord_bd {st t j : Int} (h1 : 0 ≤ st) (h1' : st ≤ 2000) (h2 : 0 ≤ t) (h3 : t ≤ 256) (h4 : 0 ≤ j) (h5 : j ≤ 200) : 0 ≤ j * st ∧ j * st ≤ 400000 ∧ 0 ≤ j * st * (262144 - t * t) ∧ j * st * (262144 - t * t) ≤ 104857600000 ∧ 0 ≤ bord st t j ∧ bord st t j ≤ 400000 := by
  obtain ⟨a, b⟩ := tilt_bd (show -8 ≤ t by omega) (show t ≤ 264 by omega)
  obtain ⟨c1, c2⟩ := mul_bdB (a := j) (b := st) (A := 200) (B := 2000) h4 h5 h1 h1'
  obtain ⟨d1, d2⟩ := mul_bdB (a := j * st) (b := 262144 - t * t) (A := 400000) (B := 262144) c1 (by omega) (by omega) (by omega)
  refine ⟨c1, by omega, d1, by omega, bord_nonneg h1 h2 h3 h4, ?_⟩
  unfold bord
  have hm : j * st * (262144 - t * t) ≤ 400000 * (262144 + t * t) := Int.mul_le_mul (by omega) (by omega) (by omega) (by omega)
  have : j * st * (262144 - t * t) / (262144 + t * t) < 400000 + 1 := Int.ediv_lt_of_lt_mul (by omega) (by rw [Int.add_mul]; omega)
  omega
/-- Whether a distance with this square is between the borders of a gate. -/
def gateB (st t w j : Int) : Bool := decide (bord st t j * bord st t j ≤ w) && decide (w < bord st t (j + 1) * bord st t (j + 1))
theorem bord_sq {st t j k : Int} (h1 : 0 ≤ st) (h2 : 0 ≤ t) (h3 : t ≤ 256) (h4 : 0 ≤ j) (h : j ≤ k) : bord st t j * bord st t j ≤ bord st t k * bord st t k :=
  Int.mul_le_mul (bord_mono h1 h2 h3 h) (bord_mono h1 h2 h3 h) (bord_nonneg h1 h2 h3 h4) (bord_nonneg h1 h2 h3 (by omega))
theorem gate_uniq {st t w j k : Int} (h1 : 0 ≤ st) (h2 : 0 ≤ t) (h3 : t ≤ 256) (hj : 0 ≤ j) (hk : 0 ≤ k) (a : gateB st t w j = true) (b : gateB st t w k = true) : j = k := by
  unfold gateB at a b
  simp only [Bool.and_eq_true, decide_eq_true_eq] at a b
  rcases Int.lt_trichotomy j k with h | h | h
  · have := bord_sq (st := st) (t := t) h1 h2 h3 (show 0 ≤ j + 1 by omega) (show j + 1 ≤ k by omega); omega
  · exact h
  · have := bord_sq (st := st) (t := t) h1 h2 h3 (show 0 ≤ k + 1 by omega) (show k + 1 ≤ j by omega); omega
/-- The gate to which a distance with this square belongs; -1: none. -/
def gateZ (st t g w : Int) : Int := match (List.range g.toNat).find? (fun j : Nat => gateB st t w j) with | some j => j | none => -1
theorem gate_is {st t g w j : Int} (h1 : 0 ≤ st) (h2 : 0 ≤ t) (h3 : t ≤ 256) (hj : 0 ≤ j) (hg : j < g) (a : gateB st t w j = true) : gateZ st t g w = j := by
  unfold gateZ
  obtain ⟨m, rfl⟩ : ∃ m : Nat, j = m := ⟨j.toNat, by omega⟩
  cases h : (List.range g.toNat).find? (fun j : Nat => gateB st t w j) with
  | none => exact absurd a (List.find?_eq_none.1 h m (List.mem_range.2 (by omega)))
  | some b =>
    have e1 := List.find?_some h
    show (b : Int) = m
    exact gate_uniq h1 h2 h3 (by omega) hj e1 a
theorem gate_no {st t g w : Int} (h1 : 0 ≤ st) (h2 : 0 ≤ t) (h3 : t ≤ 256) (h : bord st t g * bord st t g ≤ w) : gateZ st t g w = -1 := by
  unfold gateZ
  cases e : (List.range g.toNat).find? (fun j : Nat => gateB st t w j) with
  | none => rfl
  | some b =>
    exfalso
    have e1 : gateB st t w b = true := List.find?_some (p := fun j : Nat => gateB st t w j) e
    have e2 := List.mem_range.1 (List.mem_of_find?_eq_some e)
    unfold gateB at e1
    simp only [Bool.and_eq_true, decide_eq_true_eq] at e1
    have := bord_sq (st := st) (t := t) h1 h2 h3 (show 0 ≤ (b : Int) + 1 by omega) (show (b : Int) + 1 ≤ g by omega)
    omega
theorem gate_none {st t g w j : Int} (h : gateZ st t g w = -1) (hj : 0 ≤ j) (hg : j < g) : gateB st t w j = false := by
  unfold gateZ at h
  cases e : (List.range g.toNat).find? (fun j : Nat => gateB st t w j) with
  | some b => rw [e] at h; simp only at h; omega
  | none =>
    have := List.find?_eq_none.1 e j.toNat (List.mem_range.2 (by omega))
    rw [Int.toNat_of_nonneg hj] at this
    simpa using this
theorem gate_cases {st t g w : Int} : gateZ st t g w = -1 ∨ (0 ≤ gateZ st t g w ∧ gateZ st t g w < g ∧ gateB st t w (gateZ st t g w) = true) := by
  unfold gateZ
  cases e : (List.range g.toNat).find? (fun j : Nat => gateB st t w j) with
  | none => exact .inl rfl
  | some b =>
    have e1 : gateB st t w b = true := List.find?_some (p := fun j : Nat => gateB st t w j) e
    have e2 := List.mem_range.1 (List.mem_of_find?_eq_some e)
    exact .inr ⟨by simp only; omega, by simp only; omega, e1⟩
end Go.Proofs.Ytllpffkifleigaa
end
