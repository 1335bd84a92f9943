/-
  Directions of a rose and slants: plain functions and their bounds; no program in sight.
-/
import Derived.Test.YtiggefmckomilaaDivMath
namespace Go.Proofs.Ytiggefmckomilaa

def winB (n lo hi : Int) : Bool := decide (lo ≤ n ∧ n ≤ hi)
theorem winB_iff {n lo hi : Int} : winB n lo hi = true ↔ lo ≤ n ∧ n ≤ hi := by simp [winB]
/-- A direction, and its length. -/
structure Vec where
  x : Int
  y : Int
  l : Int
def quarter (q p r l : Int) : Vec := if q = 0 then ⟨p, r, l⟩ else if q = 1 then ⟨r, -p, l⟩ else if q = 2 then ⟨-p, -r, l⟩ else ⟨-r, p, l⟩
def dirV (rose a : Int) : Vec := quarter (a / rose) (2 * rose * (a % rose)) (rose * rose - a % rose * (a % rose)) (rose * rose + a % rose * (a % rose))
def okD (rose a : Int) : Bool := winB rose 1 180 && winB a 0 (4 * rose - 1)
def dirR (rose a : Int) : Vec × Int := if okD rose a = true then (dirV rose a, 0) else (⟨0, 0, 0⟩, 3)
def slantV (t : Int) : Vec := ⟨262144 - t * t, 1024 * t, 262144 + t * t⟩
def slantR (t : Int) : Vec × Int := if winB t (-8) 264 = true then (slantV t, 0) else (⟨0, 0, 0⟩, 3)
theorem mul_bdB {a b A B : Int} (ha : 0 ≤ a) (haA : a ≤ A) (hb : 0 ≤ b) (hbB : b ≤ B) : 0 ≤ a * b ∧ a * b ≤ A * B :=
  ⟨Int.mul_nonneg ha hb, Int.le_trans (Int.mul_le_mul_of_nonneg_right haA hb) (Int.mul_le_mul_of_nonneg_left hbB (by omega))⟩
/-- What the walk needs of a direction. -/
theorem dir_bd {rose a : Int} (h1 : 1 ≤ rose) (h2 : rose ≤ 180) (h3 : 0 ≤ a) (h4 : a ≤ 4 * rose - 1) :
    (a / rose = 0 ∨ a / rose = 1 ∨ a / rose = 2 ∨ a / rose = 3) ∧ 0 ≤ a % rose ∧ a % rose < rose ∧ 0 ≤ 2 * rose * (a % rose) ∧ 2 * rose * (a % rose) ≤ 64800 ∧ 0 ≤ rose * rose ∧ rose * rose ≤ 32400 ∧ 0 ≤ a % rose * (a % rose) ∧ a % rose * (a % rose) ≤ 32400 := by
  have a1 := Int.emod_nonneg a (show rose ≠ 0 by omega)
  have a2 := Int.emod_lt_of_pos a (show 0 < rose by omega)
  have b1 : 0 ≤ a / rose := Int.ediv_nonneg h3 (by omega)
  have b2 : a / rose < 4 := Int.ediv_lt_of_lt_mul (by omega) (by omega)
  obtain ⟨c1, c2⟩ := mul_bdB (a := 2 * rose) (b := a % rose) (A := 360) (B := 180) (by omega) (by omega) a1 (by omega)
  obtain ⟨d1, d2⟩ := mul_bdB (a := rose) (b := rose) (A := 180) (B := 180) (by omega) (by omega) (by omega) (by omega)
  obtain ⟨e1, e2⟩ := mul_bdB (a := a % rose) (b := a % rose) (A := 180) (B := 180) a1 (by omega) a1 (by omega)
  exact ⟨by omega, a1, a2, c1, by omega, d1, by omega, e1, by omega⟩
theorem tilt_bd {t : Int} (h1 : -8 ≤ t) (h2 : t ≤ 264) : 0 ≤ t * t ∧ t * t ≤ 69696 := by
  by_cases h : 0 ≤ t
  · obtain ⟨a, b⟩ := mul_bdB h h2 h h2
    exact ⟨a, by omega⟩
  · have e : t * t = -t * -t := by rw [Int.neg_mul_neg]
    obtain ⟨a, b⟩ := mul_bdB (a := -t) (b := -t) (A := 8) (B := 8) (by omega) (by omega) (by omega) (by omega)
    rw [e]; exact ⟨a, by omega⟩
end Go.Proofs.Ytiggefmckomilaa
