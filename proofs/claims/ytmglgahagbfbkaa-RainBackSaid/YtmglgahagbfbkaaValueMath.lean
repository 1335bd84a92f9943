/-
  Tables and their values; no program in sight.
-/
import Derived.Test.YtmglgahagbfbkaaRainMath
import Derived.Test.YtmglgahagbfbkaaDivMath
namespace Go.Proofs.Ytmglgahagbfbkaa

abbrev P0 : Int × Int := (0, 0)
structure Tab (l : List (Int × Int)) (most : Int) : Prop where
  len : 2 ≤ l.length ∧ l.length ≤ 32
  z0 : (l.getD 0 P0).1 = 0
  rng : ∀ k, k < l.length → 0 ≤ (l.getD k P0).1 ∧ (l.getD k P0).1 ≤ 1073741824 ∧ 0 ≤ (l.getD k P0).2 ∧ (l.getD k P0).2 ≤ most
  mono : ∀ k, k + 1 < l.length → (l.getD k P0).1 < (l.getD (k + 1) P0).1 ∧ (l.getD k P0).2 ≤ (l.getD (k + 1) P0).2

theorem chkGo_ok (most : Int) : ∀ (l : List (Int × Int)) (k : Nat) (bz br : Int), chkGo most k bz br l = 0 →
    (∀ i, i < l.length → 0 ≤ (l.getD i P0).1 ∧ (l.getD i P0).1 ≤ 1073741824 ∧ 0 ≤ (l.getD i P0).2 ∧ (l.getD i P0).2 ≤ most) ∧
    (∀ i, i + 1 < l.length → (l.getD i P0).1 < (l.getD (i + 1) P0).1 ∧ (l.getD i P0).2 ≤ (l.getD (i + 1) P0).2) ∧
    (0 < l.length → bz < (l.getD 0 P0).1 ∧ br ≤ (l.getD 0 P0).2 ∧ (k = 0 → (l.getD 0 P0).1 ≤ 0)) := by
  intro l
  induction l with
  | nil => intro k bz br _; exact ⟨fun i hi => by simp at hi, fun i hi => by simp at hi, fun h => by simp at h⟩
  | cons p t ih =>
    intro k bz br h
    rw [chkGo] at h
    by_cases hw : win p.1 0 1073741824 = true ∧ win p.2 0 most = true
    · rw [if_neg (by simpa using hw)] at h
      by_cases ho : (k = 0 ∧ 0 < p.1) ∨ p.1 ≤ bz ∨ p.2 < br
      · rw [if_pos ho] at h; omega
      · rw [if_neg ho] at h
        obtain ⟨h1, h2, h3⟩ := ih _ _ _ h
        have w1 := win_iff.1 hw.1
        have w2 := win_iff.1 hw.2
        refine ⟨fun i hi => ?_, fun i hi => ?_, fun _ => ?_⟩
        · cases i with
          | zero => simp; omega
          | succ i => simpa using h1 i (by simpa using hi)
        · cases i with
          | zero =>
            have := h3 (by simpa using hi)
            simpa using ⟨this.1, this.2.1⟩
          | succ i => simpa using h2 i (by simpa using hi)
        · simp; omega
    · rw [if_pos hw] at h; omega
theorem tab_of {l : List (Int × Int)} {most : Int} (h : chk l most = 0) : Tab l most := by
  unfold chk at h
  by_cases h1 : l.length < 2
  · rw [if_pos h1] at h; omega
  rw [if_neg h1] at h
  by_cases h2 : 32 < l.length
  · rw [if_pos h2] at h; omega
  rw [if_neg h2] at h
  obtain ⟨a, b, c⟩ := chkGo_ok most l 0 _ _ h
  have := c (by omega)
  exact ⟨by omega, by have := a 0 (by omega); have := this.1; have := (c (by omega)).2.2 rfl; omega, a, b⟩

/-- The value of a table at a power, rounded down and up. -/
def valGo (z : Int) : List (Int × Int) → Int × Int
  | [] => (0, 0)
  | [p] => (p.2, p.2)
  | p :: q :: t => if z < q.1 then (p.2 + (q.2 - p.2) * (z - p.1) / (q.1 - p.1), p.2 + cdiv ((q.2 - p.2) * (z - p.1)) (q.1 - p.1)) else valGo z (q :: t)
theorem val_drop {l : List (Int × Int)} {k : Nat} (z : Int) (h : k + 1 < l.length) : valGo z (l.drop k) = if z < (l.getD (k + 1) P0).1 then
    ((l.getD k P0).2 + ((l.getD (k + 1) P0).2 - (l.getD k P0).2) * (z - (l.getD k P0).1) / ((l.getD (k + 1) P0).1 - (l.getD k P0).1), (l.getD k P0).2 + cdiv (((l.getD (k + 1) P0).2 - (l.getD k P0).2) * (z - (l.getD k P0).1)) ((l.getD (k + 1) P0).1 - (l.getD k P0).1))
    else valGo z (l.drop (k + 1)) := by
  have e1 : l.drop k = l.getD k P0 :: l.getD (k + 1) P0 :: l.drop (k + 2) := by
    rw [List.drop_eq_getElem_cons (by omega), List.drop_eq_getElem_cons (i := k + 1) (by omega)]
    simp [List.getD, h, show k < l.length by omega]
  have e2 : l.drop (k + 1) = l.getD (k + 1) P0 :: l.drop (k + 2) := by
    rw [List.drop_eq_getElem_cons (i := k + 1) (by omega)]
    simp [List.getD, h]
  rw [e1, e2, valGo]
theorem val_last {l : List (Int × Int)} {k : Nat} (z : Int) (h : k + 1 = l.length) : valGo z (l.drop k) = ((l.getD k P0).2, (l.getD k P0).2) := by
  have e1 : l.drop k = [l.getD k P0] := by
    rw [List.drop_eq_getElem_cons (by omega), List.drop_eq_nil_of_le (by omega)]
    simp [List.getD, show k < l.length by omega]
  rw [e1, valGo]

/-- A product of two numbers within bounds. -/
theorem mul_bd {a b A B : Int} (ha : 0 ≤ a) (haA : a ≤ A) (hb : 0 ≤ b) (hbB : b ≤ B) : 0 ≤ a * b ∧ a * b ≤ A * B :=
  ⟨Int.mul_nonneg ha hb, Int.mul_le_mul haA hbB hb (by omega)⟩

theorem tab_le {l : List (Int × Int)} {most : Int} (hT : Tab l most) {i j : Nat} (h : i ≤ j) (hj : j < l.length) : (l.getD i P0).1 ≤ (l.getD j P0).1 := by
  induction j with
  | zero =>
    obtain rfl : i = 0 := by omega
    exact Int.le_refl _
  | succ j ih =>
    rcases Nat.lt_or_ge i (j + 1) with h1 | h1
    · have := ih (by omega) (by omega); have := (hT.mono j hj).1; omega
    · obtain rfl : i = j + 1 := by omega
      exact Int.le_refl _
/-- From a point on whose power is not above the one that is asked for. -/
theorem val_from {l : List (Int × Int)} {most : Int} (hT : Tab l most) {z : Int} : ∀ k, k < l.length → (l.getD k P0).1 ≤ z → valGo z l = valGo z (l.drop k) := by
  intro k
  induction k with
  | zero => intro _ _; rw [List.drop_zero]
  | succ k ih =>
    intro hk hz
    rw [ih (by omega) (by have := (hT.mono k hk).1; omega), val_drop z hk, if_neg (by omega)]
theorem cdiv_zero (b : Int) : cdiv 0 b = 0 := by simp [cdiv]
theorem val_hit {l : List (Int × Int)} {most : Int} (hT : Tab l most) {z : Int} {i : Nat} (hi : i < l.length) (h : (l.getD i P0).1 = z) : valGo z l = ((l.getD i P0).2, (l.getD i P0).2) := by
  rw [val_from hT i hi (by omega)]
  by_cases hl : i + 1 < l.length
  · rw [val_drop z hl, if_pos (by have := (hT.mono i hl).1; omega), h, Int.sub_self, Int.mul_zero, cdiv_zero]
    simp
  · exact val_last z (by omega)
theorem val_end {l : List (Int × Int)} {most : Int} (hT : Tab l most) {z : Int} {i : Nat} (hi : i + 1 = l.length) (h : (l.getD i P0).1 ≤ z) : valGo z l = ((l.getD i P0).2, (l.getD i P0).2) := by
  rw [val_from hT i (by omega) h]
  exact val_last z hi
theorem val_mid {l : List (Int × Int)} {most : Int} (hT : Tab l most) {z : Int} {i : Nat} (hi : i + 1 < l.length) (h : (l.getD i P0).1 ≤ z) (h2 : z < (l.getD (i + 1) P0).1) : valGo z l =
    ((l.getD i P0).2 + ((l.getD (i + 1) P0).2 - (l.getD i P0).2) * (z - (l.getD i P0).1) / ((l.getD (i + 1) P0).1 - (l.getD i P0).1), (l.getD i P0).2 + cdiv (((l.getD (i + 1) P0).2 - (l.getD i P0).2) * (z - (l.getD i P0).1)) ((l.getD (i + 1) P0).1 - (l.getD i P0).1)) := by
  rw [val_from hT i (by omega) h, val_drop z hi, if_pos h2]
end Go.Proofs.Ytmglgahagbfbkaa
