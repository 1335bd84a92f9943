/-
  Heights of gates: plain functions and their bounds; no program in sight.
-/
import Derived.Test.YthhhecidogcmjaaBeam3
namespace Go.Proofs.Ythhhecidogcmjaa

theorem q_bd {a b C : Int} (hb : 1 ≤ b) (h1 : -C ≤ a) (h2 : a ≤ C) (hC : 0 ≤ C) : -C ≤ a / b ∧ a / b ≤ C ∧ -C ≤ cdiv a b ∧ cdiv a b ≤ C := by
  have e := fun x : Int => Int.le_ediv_iff_mul_le (a := x) (b := a) (c := b) (by omega)
  have m : C ≤ C * b := by have := Int.mul_le_mul_of_nonneg_left hb hC; omega
  have l1 : -C ≤ a / b := (e (-C)).2 (by rw [Int.neg_mul]; omega)
  have l2 : a / b ≤ C := by
    have : a / b < C + 1 := Int.ediv_lt_of_lt_mul (by omega) (by rw [Int.add_mul]; omega)
    omega
  have l3 : -C ≤ -a / b := (Int.le_ediv_iff_mul_le (by omega)).2 (by rw [Int.neg_mul]; omega)
  have l4 : -a / b ≤ C := by
    have : -a / b < C + 1 := Int.ediv_lt_of_lt_mul (by omega) (by rw [Int.add_mul]; omega)
    omega
  unfold cdiv
  omega
def sineN (st gate t : Int) : Int := (2 * gate + 1) * st * (1024 * t)
theorem sine_bd {st gate t : Int} (h1 : -8 ≤ t) (h2 : t ≤ 264) (h3 : 0 ≤ (2 * gate + 1) * st) (h4 : (2 * gate + 1) * st ≤ 798000) : -215728128000 ≤ (2 * gate + 1) * st * (1024 * t) ∧ (2 * gate + 1) * st * (1024 * t) ≤ 215728128000 := by
  generalize (2 * gate + 1) * st = a at *
  have a1 : a * (1024 * t) ≤ a * 270336 := Int.mul_le_mul_of_nonneg_left (by omega) h3
  have a2 : a * (-8192) ≤ a * (1024 * t) := Int.mul_le_mul_of_nonneg_left (by omega) h3
  omega
/-- A ground range, rounded down and up. -/
def rD (st gate t : Int) : Int := reachN st gate t / reachD t
def rU (st gate t : Int) : Int := cdiv (reachN st gate t) (reachD t)
theorem r_bd {st gate t : Int} (h1 : -8 ≤ t) (h2 : t ≤ 264) (h3 : 0 ≤ gate) (h4 : gate ≤ 199) (h5 : 0 ≤ st) (h6 : st ≤ 2000) : 0 ≤ rD st gate t ∧ rD st gate t ≤ 400000 ∧ 0 ≤ rU st gate t ∧ rU st gate t ≤ 400000 ∧ rD st gate t ≤ rU st gate t := by
  obtain ⟨a1, a2, a3, a4, a5, a6⟩ := reach_bd h1 h2 h3 h4 h5 h6
  unfold rD rU reachN reachD
  have hd : 524288 ≤ 2 * (262144 + t * t) := by omega
  rw [cdiv_eq (by omega)]
  generalize 2 * (262144 + t * t) = d at *
  generalize (2 * gate + 1) * st * (262144 - t * t) = n at *
  have hm : 400000 * 524288 ≤ 400000 * d := Int.mul_le_mul_of_nonneg_left hd (by omega)
  refine ⟨Int.ediv_nonneg a5 (by omega), ?_, Int.ediv_nonneg (by omega) (by omega), ?_, Int.ediv_le_ediv (by omega) (by omega)⟩
  · have : n / d < 400000 + 1 := Int.ediv_lt_of_lt_mul (by omega) (by rw [Int.add_mul]; omega)
    omega
  · have : (n + d - 1) / d < 400000 + 1 := Int.ediv_lt_of_lt_mul (by omega) (by rw [Int.add_mul]; omega)
    omega
theorem sq_bd {r : Int} (h : 0 ≤ r) (h2 : r ≤ 400000) : 0 ≤ r * r ∧ r * r ≤ 160000000000 := by
  obtain ⟨a, b⟩ := mul_bdB h h2 h h2
  exact ⟨a, by omega⟩
def riseD (z st gate t e : Int) : Int := z + sineN st gate t / reachD t + rD st gate t * rD st gate t / (2 * e)
def riseU (z st gate t e : Int) : Int := z + cdiv (sineN st gate t) (reachD t) + cdiv (rU st gate t * rU st gate t) (2 * e)
def okE (lo hi : Int) : Bool := decide (1000000 ≤ lo ∧ lo ≤ hi ∧ hi ≤ 100000000)
theorem okE_iff {lo hi : Int} (h : okE lo hi = true) : 1000000 ≤ lo ∧ lo ≤ hi ∧ hi ≤ 100000000 := of_decide_eq_true h
/-- What Height and Band answer. -/
def heightR (e t gate z g st elo ehi : Int) : (Int × Int) × Int :=
  if e ≠ 0 then ((0, 0), e) else if (winB t (-8) 264 && okE elo ehi && winB gate 0 (g - 1)) = true then ((riseD z st gate t ehi, riseU z st gate t elo), 0) else ((0, 0), 3)
def bandR (e t gate z g st wd elo ehi : Int) : (Int × Int) × Int :=
  if e ≠ 0 then ((0, 0), e) else if (winB t 0 256 && okE elo ehi && winB gate 0 (g - 1)) = true then ((riseD z st gate (t - wd) ehi, riseU z st gate (t + wd) elo), 0) else ((0, 0), 3)
end Go.Proofs.Ythhhecidogcmjaa
