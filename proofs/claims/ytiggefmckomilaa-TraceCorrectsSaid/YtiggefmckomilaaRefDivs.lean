/-
  Quotients of the reference, rounded down and up: its contracts.
-/
import Derived.Test.YtiggefmckomilaaProg
import Derived.Test.YtiggefmckomilaaBeamMath
import Derived.Test.YtiggefmckomilaaRegP
namespace Go.Proofs.Ytiggefmckomilaa
open Go.RowKit

theorem Down_any (a b : Int) (w : World) (ha1 : -4611686018427387903 ≤ a) (hb : 1 ≤ b) (ha2 : a ≤ 4611686018427387903) (_hb2 : b ≤ 4611686018427387903) :
    Calls Try.prog 56 #[.int .i64 a, .int .i64 b] w fun e w' => e = .returned (.int .i64 (a / b)) ∧ w = w' := by
  have hq := tdiv_floor (a := a) (b := b) (by omega)
  by_cases ha : 0 ≤ a
  · have h1 : 0 ≤ a / b := Int.ediv_nonneg ha (by omega)
    have h2 : a / b ≤ a := Int.ediv_le_self b ha
    have h3 : 0 ≤ a % b := Int.emod_nonneg _ (by omega)
    clear hq
    go_enter Try.func56, Try.ntmps56
    go_wp2
    go_ret
    exact ⟨rfl, rfl⟩
  · have h2 : -a / b ≤ -a := Int.ediv_le_self b (by omega)
    have h3 : 0 ≤ -a / b := Int.ediv_nonneg (by omega) (by omega)
    have e1 : a.tdiv b = -(-a / b) := by rw [← Int.neg_neg a, Int.neg_tdiv, Int.neg_neg, Int.tdiv_eq_ediv_of_nonneg (by omega)]
    have h4 : -4611686018427387903 ≤ a.tdiv b := by omega
    have h5 : a.tdiv b ≤ 0 := by omega
    clear e1 h2 h3
    have Hq := hide hq
    clear hq
    go_enter Try.func56, Try.ntmps56
    go_wp2
    all_goals
      go_ret
      exact ⟨ret_int (by rw [Hq.out]; first | rw [if_pos (by assumption)] | rw [if_neg (by omega)]), rfl⟩

theorem Up_any (a b : Int) (w : World) (ha1 : -4611686018427387903 ≤ a) (hb : 1 ≤ b) (ha2 : a ≤ 4611686018427387903) (hb2 : b ≤ 4611686018427387903) :
    Calls Try.prog 57 #[.int .i64 a, .int .i64 b] w fun e w' => e = .returned (.int .i64 (cdiv a b)) ∧ w = w' := by
  have h1 : -4611686018427387903 ≤ -a / b ∧ -a / b ≤ 4611686018427387903 := by
    constructor
    · have := (Int.le_ediv_iff_mul_le (a := -4611686018427387903) (b := -a) (c := b) (by omega)).2 (by omega)
      exact this
    · by_cases h : 0 ≤ -a
      · have := Int.ediv_le_self b h; omega
      · have : -a / b ≤ 0 := by
          have := Int.ediv_lt_of_lt_mul (a := -a) (b := 1) (c := b) (by omega) (by omega)
          omega
        omega
  obtain ⟨h2, h3⟩ := h1
  go_enter Try.func57, Try.ntmps57
  go_wp2_with (go_at_call 56; refine (Down_any _ _ _ (by omega) hb (by omega) hb2).mono ?_; rintro e w' ⟨rfl, rfl⟩)
  go_ret
  exact ⟨rfl, rfl⟩
end Go.Proofs.Ytiggefmckomilaa
