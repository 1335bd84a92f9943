/-
  A vector lies in exactly one sector, a distance between the borders of at most one gate: which ones; no program in sight.
-/
import Derived.Test.YthhhecidogcmjaaSectorMath
namespace Go.Proofs.Ythhhecidogcmjaa

theorem ahead_first {n k x y : Int} (hn : 1 ≤ n) (hk : 0 ≤ k) (hkn : k < n) (h1 : aheadB n k x y = true) (h2 : aheadB n (k + 1) x y = false) : 0 ≤ x ∧ 0 < y := by
  have a1 : dP n k * y ≤ dQ n k * x := of_decide_eq_true h1
  have a2 : dQ n (k + 1) * x < dP n (k + 1) * y := by have := of_decide_eq_false h2; omega
  have c := cross_pos hn hk (show k < k + 1 by omega)
  have pk := dP_nonneg hn hk
  have qk := dQ_nonneg hn hk (show k ≤ n by omega)
  have pj := dP_nonneg hn (show 0 ≤ k + 1 by omega)
  have qj := dQ_nonneg hn (show 0 ≤ k + 1 by omega) (show k + 1 ≤ n by omega)
  have hy : 0 < y := by
    refine Int.not_le.1 fun hy => ?_
    have b1 : dP n (k + 1) * y ≤ 0 := Int.mul_nonpos_of_nonneg_of_nonpos pj hy
    have hx : x < 0 := by
      refine Int.not_le.1 fun hx => ?_
      have := Int.mul_nonneg qj hx
      omega
    -- with a = -x, b = -y
    have m1 : dP n k * y * dP n (k + 1) ≤ dQ n k * x * dP n (k + 1) := Int.mul_le_mul_of_nonneg_right a1 pj
    have m2 : dQ n (k + 1) * x * dP n k ≤ dP n (k + 1) * y * dP n k := Int.mul_le_mul_of_nonneg_right (by omega) pk
    have e1 : dP n k * y * dP n (k + 1) = dP n (k + 1) * y * dP n k := by grind
    have e2 : dQ n k * x * dP n (k + 1) - dQ n (k + 1) * x * dP n k = (dQ n k * dP n (k + 1) - dP n k * dQ n (k + 1)) * x := by grind
    have e3 : (dQ n k * dP n (k + 1) - dP n k * dQ n (k + 1)) * x < 0 := Int.mul_neg_of_pos_of_neg c hx
    omega
  refine ⟨?_, hy⟩
  refine Int.not_lt.1 fun hx => ?_
  have qk0 : 0 < dQ n k := by
    unfold dQ
    have : k * k < n * n := by
      have e1 : k * k ≤ k * n := Int.mul_le_mul_of_nonneg_left (by omega) hk
      have e2 : k * n < n * n := Int.mul_lt_mul_of_pos_right hkn (by omega)
      omega
    omega
  have m1 := Int.mul_nonneg pk (show 0 ≤ y by omega)
  have m2 : dQ n k * x < 0 := Int.mul_neg_of_pos_of_neg qk0 hx
  omega
theorem split_ray {n a : Int} (hn : 1 ≤ n) (h0 : 0 ≤ a) (h1 : a < 4 * n) : ∃ (q : Nat) (k : Int), q ≤ 3 ∧ 0 ≤ k ∧ k < n ∧ a = (q : Int) * n + k := by
  have b1 : 0 ≤ a / n := Int.ediv_nonneg h0 (by omega)
  have b2 : a / n < 4 := Int.ediv_lt_of_lt_mul (by omega) (by omega)
  refine ⟨(a / n).toNat, a % n, by omega, Int.emod_nonneg _ (by omega), Int.emod_lt_of_pos _ (by omega), ?_⟩
  have := Int.mul_ediv_add_emod a n
  rw [Int.toNat_of_nonneg b1, Int.mul_comm]
  omega
theorem sector_parts {n a X Y : Int} (hn : 1 ≤ n) (h0 : 0 ≤ a) (h1 : a < 4 * n) (h : sectorB n a X Y = true) : ∃ k : Int, 0 ≤ k ∧ k < n ∧ a = (quad X Y : Int) * n + k ∧ aheadB n k (rotN X Y (quad X Y)).1 (rotN X Y (quad X Y)).2 = true ∧ aheadB n (k + 1) (rotN X Y (quad X Y)).1 (rotN X Y (quad X Y)).2 = false := by
  obtain ⟨q, k, hq, hk, hkn, rfl⟩ := split_ray hn h0 h1
  rw [sector_turn hn hk hkn hq, Bool.and_eq_true, Bool.not_eq_true'] at h
  obtain ⟨x0, y0⟩ := ahead_first hn hk hkn h.1 h.2
  obtain rfl := quad_uniq hq x0 y0
  exact ⟨k, hk, hkn, rfl, h.1, h.2⟩
theorem sector_uniq {n a b X Y : Int} (hn : 1 ≤ n) (a0 : 0 ≤ a) (a1 : a < 4 * n) (b0 : 0 ≤ b) (b1 : b < 4 * n) (ha : sectorB n a X Y = true) (hb : sectorB n b X Y = true) : a = b := by
  obtain ⟨k, k0, k1, rfl, h1, h2⟩ := sector_parts hn a0 a1 ha
  obtain ⟨j, j0, j1, rfl, g1, g2⟩ := sector_parts hn b0 b1 hb
  obtain ⟨x0, y0⟩ := ahead_first hn k0 k1 h1 h2
  rcases Int.lt_trichotomy k j with h | h | h
  · have := ahead_mono hn (show 0 ≤ k + 1 by omega) (show k + 1 ≤ j by omega) (by omega) x0 y0 h2
    rw [g1] at this; cases this
  · subst h; rfl
  · have := ahead_mono hn (show 0 ≤ j + 1 by omega) (show j + 1 ≤ k by omega) (by omega) x0 y0 g2
    rw [h1] at this; cases this
theorem sector_of {n k X Y : Int} (hn : 1 ≤ n) (hk : 0 ≤ k) (hkn : k < n) (h1 : aheadB n k (rotN X Y (quad X Y)).1 (rotN X Y (quad X Y)).2 = true) (h2 : aheadB n (k + 1) (rotN X Y (quad X Y)).1 (rotN X Y (quad X Y)).2 = false) :
    sectorB n ((quad X Y : Int) * n + k) X Y = true ∧ 0 ≤ (quad X Y : Int) * n + k ∧ (quad X Y : Int) * n + k < 4 * n := by
  have hq := quad_le X Y
  have m1 : 0 ≤ (quad X Y : Int) * n := Int.mul_nonneg (by omega) (by omega)
  have m2 : (quad X Y : Int) * n ≤ 3 * n := Int.mul_le_mul_of_nonneg_right (by omega) (by omega)
  refine ⟨?_, by omega, by omega⟩
  rw [sector_turn hn hk hkn hq, h1, h2]; rfl
theorem step_down (f : Nat → Bool) : ∀ m : Nat, f 0 = true → f m = false → ∃ k, k < m ∧ f k = true ∧ f (k + 1) = false
  | 0, h0, h1 => by rw [h0] at h1; cases h1
  | m + 1, h0, h1 => by
    cases h : f m with
    | true => exact ⟨m, by omega, h, h1⟩
    | false =>
      obtain ⟨k, a, b, c⟩ := step_down f m h0 h
      exact ⟨k, by omega, b, c⟩
theorem sector_ex {n X Y : Int} (hn : 1 ≤ n) (h : ¬ (X = 0 ∧ Y = 0)) : ∃ a : Int, 0 ≤ a ∧ a < 4 * n ∧ sectorB n a X Y = true := by
  obtain ⟨x0, y0⟩ := quad_at h
  obtain ⟨m, hm⟩ : ∃ m : Nat, n = m := ⟨n.toNat, by omega⟩
  obtain ⟨k, hk, h1, h2⟩ := step_down (fun k => aheadB n k (rotN X Y (quad X Y)).1 (rotN X Y (quad X Y)).2) m (by simpa using ahead_zero x0) (by rw [← hm]; exact ahead_end hn y0)
  have := sector_of (X := X) (Y := Y) hn (show 0 ≤ (k : Int) by omega) (by omega) h1 (by simpa using h2)
  exact ⟨_, this.2.1, this.2.2, this.1⟩

/-- The ray in whose sector a vector is. -/
def rayZ (n X Y : Int) : Int := match (List.range (4 * n).toNat).find? (fun a : Nat => sectorB n a X Y) with | some a => a | none => 0
theorem ray_is {n a X Y : Int} (hn : 1 ≤ n) (a0 : 0 ≤ a) (a1 : a < 4 * n) (ha : sectorB n a X Y = true) : rayZ n X Y = a := by
  unfold rayZ
  obtain ⟨m, rfl⟩ : ∃ m : Nat, a = m := ⟨a.toNat, by omega⟩
  cases h : (List.range (4 * n).toNat).find? (fun a : Nat => sectorB n a X Y) with
  | none =>
    have := List.find?_eq_none.1 h m (List.mem_range.2 (by omega))
    exact absurd ha this
  | some b =>
    have h1 := List.find?_some h
    have h2 := List.mem_range.1 (List.mem_of_find?_eq_some h)
    show (b : Int) = m
    exact sector_uniq hn (by omega) (by omega) a0 a1 h1 ha
theorem ray_spec {n X Y : Int} (hn : 1 ≤ n) (h : ¬ (X = 0 ∧ Y = 0)) : 0 ≤ rayZ n X Y ∧ rayZ n X Y < 4 * n ∧ sectorB n (rayZ n X Y) X Y = true := by
  obtain ⟨a, a0, a1, ha⟩ := sector_ex hn h
  rw [ray_is hn a0 a1 ha]
  exact ⟨a0, a1, ha⟩

/-! ### Gates -/
def bord (st t j : Int) : Int := j * st * (262144 - t * t) / (262144 + t * t)
theorem bord_nonneg {st t j : Int} (h1 : 0 ≤ st) (h2 : 0 ≤ t) (h3 : t ≤ 256) (h4 : 0 ≤ j) : 0 ≤ bord st t j := by
  obtain ⟨a, b⟩ := tilt_bd (show -8 ≤ t by omega) (show t ≤ 264 by omega)
  exact Int.ediv_nonneg (Int.mul_nonneg (Int.mul_nonneg h4 h1) (by omega)) (by omega)
theorem bord_mono {st t j k : Int} (h1 : 0 ≤ st) (h2 : 0 ≤ t) (h3 : t ≤ 256) (h : j ≤ k) : bord st t j ≤ bord st t k := by
  obtain ⟨a, b⟩ := tilt_bd (show -8 ≤ t by omega) (show t ≤ 264 by omega)
  exact Int.ediv_le_ediv (by omega) (Int.mul_le_mul_of_nonneg_right (Int.mul_le_mul_of_nonneg_right h h1) (by omega))
theorem bord_bd {st t j : Int} (h1 : 0 ≤ st) (h1' : st ≤ 2000) (h2 : 0 ≤ t) (h3 : t ≤ 256) (h4 : 0 ≤ j) (h5 : j ≤ 200) : 0 ≤ j * st ∧ j * st ≤ 400000 ∧ 0 ≤ j * st * (262144 - t * t) ∧ j * st * (262144 - t * t) ≤ 104857600000 ∧ 0 ≤ bord st t j ∧ bord st t j ≤ 400000 := by
  obtain ⟨a, b⟩ := tilt_bd (show -8 ≤ t by omega) (show t ≤ 264 by omega)
  obtain ⟨c1, c2⟩ := mul_bdB (a := j) (b := st) (A := 200) (B := 2000) h4 h5 h1 h1'
  obtain ⟨d1, d2⟩ := mul_bdB (a := j * st) (b := 262144 - t * t) (A := 400000) (B := 262144) c1 (by omega) (by omega) (by omega)
  refine ⟨c1, by omega, d1, by omega, bord_nonneg h1 h2 h3 h4, ?_⟩
  unfold bord
  have hm : j * st * (262144 - t * t) ≤ 400000 * (262144 + t * t) := Int.mul_le_mul (by omega) (by omega) (by omega) (by omega)
  have : j * st * (262144 - t * t) / (262144 + t * t) < 400000 + 1 := Int.ediv_lt_of_lt_mul (by omega) (by rw [Int.add_mul]; omega)
  omega
/-- Whether a distance with this square is between the borders of a gate. -/
def gateB (st t w j : Int) : Bool := decide (bord st t j * bord st t j ≤ w) && decide (w < bord st t (j + 1) * bord st t (j + 1))
theorem bord_sq {st t j k : Int} (h1 : 0 ≤ st) (h2 : 0 ≤ t) (h3 : t ≤ 256) (h4 : 0 ≤ j) (h : j ≤ k) : bord st t j * bord st t j ≤ bord st t k * bord st t k :=
  Int.mul_le_mul (bord_mono h1 h2 h3 h) (bord_mono h1 h2 h3 h) (bord_nonneg h1 h2 h3 h4) (bord_nonneg h1 h2 h3 (by omega))
theorem gate_uniq {st t w j k : Int} (h1 : 0 ≤ st) (h2 : 0 ≤ t) (h3 : t ≤ 256) (hj : 0 ≤ j) (hk : 0 ≤ k) (a : gateB st t w j = true) (b : gateB st t w k = true) : j = k := by
  unfold gateB at a b
  simp only [Bool.and_eq_true, decide_eq_true_eq] at a b
  rcases Int.lt_trichotomy j k with h | h | h
  · have := bord_sq (st := st) (t := t) h1 h2 h3 (show 0 ≤ j + 1 by omega) (show j + 1 ≤ k by omega); omega
  · exact h
  · have := bord_sq (st := st) (t := t) h1 h2 h3 (show 0 ≤ k + 1 by omega) (show k + 1 ≤ j by omega); omega
/-- The gate to which a distance with this square belongs; -1: none. -/
def gateZ (st t g w : Int) : Int := match (List.range g.toNat).find? (fun j : Nat => gateB st t w j) with | some j => j | none => -1
theorem gate_is {st t g w j : Int} (h1 : 0 ≤ st) (h2 : 0 ≤ t) (h3 : t ≤ 256) (hj : 0 ≤ j) (hg : j < g) (a : gateB st t w j = true) : gateZ st t g w = j := by
  unfold gateZ
  obtain ⟨m, rfl⟩ : ∃ m : Nat, j = m := ⟨j.toNat, by omega⟩
  cases h : (List.range g.toNat).find? (fun j : Nat => gateB st t w j) with
  | none => exact absurd a (List.find?_eq_none.1 h m (List.mem_range.2 (by omega)))
  | some b =>
    have e1 := List.find?_some h
    show (b : Int) = m
    exact gate_uniq h1 h2 h3 (by omega) hj e1 a
theorem gate_no {st t g w : Int} (h1 : 0 ≤ st) (h2 : 0 ≤ t) (h3 : t ≤ 256) (h : bord st t g * bord st t g ≤ w) : gateZ st t g w = -1 := by
  unfold gateZ
  cases e : (List.range g.toNat).find? (fun j : Nat => gateB st t w j) with
  | none => rfl
  | some b =>
    exfalso
    have e1 : gateB st t w b = true := List.find?_some (p := fun j : Nat => gateB st t w j) e
    have e2 := List.mem_range.1 (List.mem_of_find?_eq_some e)
    unfold gateB at e1
    simp only [Bool.and_eq_true, decide_eq_true_eq] at e1
    have := bord_sq (st := st) (t := t) h1 h2 h3 (show 0 ≤ (b : Int) + 1 by omega) (show (b : Int) + 1 ≤ g by omega)
    omega
theorem gate_none {st t g w j : Int} (h : gateZ st t g w = -1) (hj : 0 ≤ j) (hg : j < g) : gateB st t w j = false := by
  unfold gateZ at h
  cases e : (List.range g.toNat).find? (fun j : Nat => gateB st t w j) with
  | some b => rw [e] at h; simp only at h; omega
  | none =>
    have := List.find?_eq_none.1 e j.toNat (List.mem_range.2 (by omega))
    rw [Int.toNat_of_nonneg hj] at this
    simpa using this
theorem gate_cases {st t g w : Int} : gateZ st t g w = -1 ∨ (0 ≤ gateZ st t g w ∧ gateZ st t g w < g ∧ gateB st t w (gateZ st t g w) = true) := by
  unfold gateZ
  cases e : (List.range g.toNat).find? (fun j : Nat => gateB st t w j) with
  | none => exact .inl rfl
  | some b =>
    have e1 : gateB st t w b = true := List.find?_some (p := fun j : Nat => gateB st t w j) e
    have e2 := List.mem_range.1 (List.mem_of_find?_eq_some e)
    exact .inr ⟨by simp only; omega, by simp only; omega, e1⟩
end Go.Proofs.Ythhhecidogcmjaa
