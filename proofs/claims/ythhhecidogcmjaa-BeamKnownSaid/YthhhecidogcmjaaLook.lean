/-
  Quarter turns of places found; the law's own small functions.
-/
import Derived.Test.YthhhecidogcmjaaFinds
namespace Go.Proofs.Ythhhecidogcmjaa
open Go Go.RowKit

theorem sector_quarter {n a X Y : Int} (hn : 1 ≤ n) (h0 : 0 ≤ a) (h1 : a < 4 * n) (h : sectorB n a X Y = true) : sectorB n ((a + n) % (4 * n)) Y (-X) = true ∧ 0 ≤ (a + n) % (4 * n) ∧ (a + n) % (4 * n) < 4 * n := by
  obtain ⟨q, k, hq, hk, hkn, rfl⟩ := split_ray hn h0 h1
  refine ⟨?_, Int.emod_nonneg _ (by omega), Int.emod_lt_of_pos _ (by omega)⟩
  rw [sector_turn hn hk hkn hq] at h
  have c : q = 0 ∨ q = 1 ∨ q = 2 ∨ q = 3 := by omega
  rcases c with rfl | rfl | rfl | rfl
  · have e : (((0 : Nat) : Int) * n + k + n) % (4 * n) = ((1 : Nat) : Int) * n + k := by rw [Int.emod_eq_of_lt (by omega) (by omega)]; omega
    rw [e, sector_turn hn hk hkn (by omega)]
    simpa [rotN] using h
  · have e : (((1 : Nat) : Int) * n + k + n) % (4 * n) = ((2 : Nat) : Int) * n + k := by rw [Int.emod_eq_of_lt (by omega) (by omega)]; omega
    rw [e, sector_turn hn hk hkn (by omega)]
    simpa [rotN] using h
  · have e : (((2 : Nat) : Int) * n + k + n) % (4 * n) = ((3 : Nat) : Int) * n + k := by rw [Int.emod_eq_of_lt (by omega) (by omega)]; omega
    rw [e, sector_turn hn hk hkn (by omega)]
    simpa [rotN] using h
  · have e : (((3 : Nat) : Int) * n + k + n) % (4 * n) = ((0 : Nat) : Int) * n + k := by
      rw [show ((3 : Nat) : Int) * n + k + n = k + (4 * n) by omega, Int.add_emod_right, Int.emod_eq_of_lt (by omega) (by omega)]; omega
    rw [e, sector_turn hn hk hkn (by omega)]
    simpa [rotN] using h
theorem ray_quarter {n X Y : Int} (hn : 1 ≤ n) (h : ¬ (X = 0 ∧ Y = 0)) : rayZ n Y (-X) = (rayZ n X Y + n) % (4 * n) := by
  obtain ⟨h0, h1, h2⟩ := ray_spec hn h
  obtain ⟨g1, g2, g3⟩ := sector_quarter hn h0 h1 h2
  exact ray_is hn g2 g3 g1
theorem find_quarter {n st t g X Y : Int} (hn : 1 ≤ n) (h : ¬ (X = 0 ∧ Y = 0)) : findZ n st t g Y (-X) = if (findZ n st t g X Y).2 = true then ((((findZ n st t g X Y).1.1 + n) % (4 * n), (findZ n st t g X Y).1.2), true) else ((0, 0), false) := by
  have e : Y * Y + -X * -X = X * X + Y * Y := by rw [Int.neg_mul_neg]; omega
  unfold findZ
  rw [if_neg (show ¬ (Y = 0 ∧ -X = 0) by omega), if_neg h, e, ray_quarter hn h]
  by_cases c : gateZ st t g (X * X + Y * Y) < 0
  · simp [c]
  · simp [c]

set_option maxHeartbeats 2000000 in
set_option maxRecDepth 100000 in
theorem few_any (s : ByteArray) (x y z r g st wd gx gy gs wi hi : Int) (w : World) (hs : s.size ≤ 9223372036854775807) :
    Calls Try.prog 38 #[siteV s x y z r g st wd, .agg #[.int .i64 gx, .int .i64 gy, .int .i64 gs, .int .i64 wi, .int .i64 hi]] w fun e w' => e = .returned (.bool (decide (r ≤ 20 ∧ g ≤ 60 ∧ wi ≤ 16 ∧ hi ≤ 16 ∧ (s.size : Int) ≤ 20))) ∧ Below w.heap.size w w' := by
  unfold siteV
  by_cases h1 : r ≤ 20
  by_cases h2 : g ≤ 60
  by_cases h3 : wi ≤ 16
  by_cases h4 : hi ≤ 16
  by_cases h6 : (s.size : Int) ≤ 20
  all_goals
    go_enter Try.func38, Try.ntmps38
    go_wp2
    go_ret
    exact ⟨by simp [*] <;> omega, ((Below.refl _ _).alloc (Nat.le_refl _) _).alloc (by simp) _⟩

theorem dirV_bd {n a : Int} (h1 : 1 ≤ n) (h2 : n ≤ 180) (h3 : 0 ≤ a) (h4 : a < 4 * n) : (-64800 ≤ (dirV n a).x ∧ (dirV n a).x ≤ 64800) ∧ (-64800 ≤ (dirV n a).y ∧ (dirV n a).y ≤ 64800) ∧ 1 ≤ (dirV n a).l ∧ (dirV n a).l ≤ 64800 := by
  obtain ⟨q, b1, b2, b3, b4, b5, b6, b7, b8⟩ := dir_bd h1 h2 h3 (show a ≤ 4 * n - 1 by omega)
  have b9 : 1 ≤ n * n := Int.mul_pos (by omega) (by omega)
  unfold dirV
  generalize 2 * n * (a % n) = p at *
  generalize n * n = m at *
  generalize a % n * (a % n) = k at *
  generalize a / n = c at *
  clear h1 h2 h3 h4 b1 b2
  unfold quarter
  split
  · exact ⟨⟨by show -64800 ≤ p; omega, by show p ≤ 64800; omega⟩, ⟨by show -64800 ≤ m - k; omega, by show m - k ≤ 64800; omega⟩, by show 1 ≤ m + k; omega, by show m + k ≤ 64800; omega⟩
  · split
    · exact ⟨⟨by show -64800 ≤ m - k; omega, by show m - k ≤ 64800; omega⟩, ⟨by show -64800 ≤ -p; omega, by show -p ≤ 64800; omega⟩, by show 1 ≤ m + k; omega, by show m + k ≤ 64800; omega⟩
    · split
      · exact ⟨⟨by show -64800 ≤ -p; omega, by show -p ≤ 64800; omega⟩, ⟨by show -64800 ≤ -(m - k); omega, by show -(m - k) ≤ 64800; omega⟩, by show 1 ≤ m + k; omega, by show m + k ≤ 64800; omega⟩
      · exact ⟨⟨by show -64800 ≤ -(m - k); omega, by show -(m - k) ≤ 64800; omega⟩, ⟨by show -64800 ≤ p; omega, by show p ≤ 64800; omega⟩, by show 1 ≤ m + k; omega, by show m + k ≤ 64800; omega⟩

set_option maxHeartbeats 2000000 in
set_option maxRecDepth 100000 in
theorem sector_any (n a X Y : Int) (w : World) (h1 : 1 ≤ n) (h2 : n ≤ 180) (h3 : 0 ≤ a) (h4 : a < 4 * n) (hX : -6000000 ≤ X ∧ X ≤ 6000000) (hY : -6000000 ≤ Y ∧ Y ≤ 6000000) :
    Calls Try.prog 40 #[.int .i64 n, .int .i64 a, .int .i64 X, .int .i64 Y] w fun e w' => e = .returned (.bool (sectorB n a X Y)) ∧ Below w.heap.size w w' := by
  have hd := fun W => Direction_any n a W
  have m0 := Int.emod_nonneg (a + 1) (show 4 * n ≠ 0 by omega)
  have m1 := Int.emod_lt_of_pos (a + 1) (show 0 < 4 * n by omega)
  have hd2 := fun W => Direction_any n ((a + 1) % (4 * n)) W
  have ok : ∀ b, 0 ≤ b → b < 4 * n → okD n b = true := fun b b0 b1 => by unfold okD; rw [winB_iff.2 ⟨h1, h2⟩, winB_iff.2 ⟨b0, by omega⟩]; rfl
  unfold dirR at hd hd2
  rw [if_pos (ok a h3 h4)] at hd
  rw [if_pos (ok _ m0 m1)] at hd2
  have bd1 := dirV_bd h1 h2 h3 h4
  have bd2 := dirV_bd h1 h2 m0 m1
  unfold vecE at hd hd2
  unfold sectorB
  obtain ⟨b, hb⟩ : ∃ b, (a + 1) % (4 * n) = b := ⟨_, rfl⟩
  have n0 : 4 * n ≠ 0 := by omega
  have n1 : 0 < 4 * n := by omega
  rw [hb] at hd2 bd2 m0 m1
  rw [hb]
  generalize dirV n a = u at *
  generalize dirV n b = v at *
  obtain ⟨p1, p2, p3⟩ := u
  obtain ⟨r1, r2, r3⟩ := v
  simp only at *
  obtain ⟨⟨u1, u2⟩, ⟨u3, u4⟩, -, -⟩ := bd1
  obtain ⟨⟨v1, v2⟩, ⟨v3, v4⟩, -, -⟩ := bd2
  obtain ⟨k1, k2⟩ := prod_bd (A := 64800) (B := 6000000) (by omega) (by omega) ⟨u3, u4⟩ hX
  obtain ⟨k3, k4⟩ := prod_bd (A := 64800) (B := 6000000) (by omega) (by omega) ⟨u1, u2⟩ hY
  obtain ⟨k5, k6⟩ := prod_bd (A := 6000000) (B := 64800) (by omega) (by omega) hY ⟨v1, v2⟩
  obtain ⟨k7, k8⟩ := prod_bd (A := 6000000) (B := 64800) (by omega) (by omega) hX ⟨v3, v4⟩
  clear ok
  by_cases g1 : 0 ≤ p2 * X - p1 * Y <;> by_cases g2 : 0 < Y * r1 - X * r2
  all_goals
    have g3 := g1
    have g4 := g2
    have Hd := hide hd
    have Hd2 := hide hd2
    have G3 := hide g3
    have G4 := hide g4
    clear hd hd2 g3 g4
    go_enter Try.func40, Try.ntmps40
    have HB := hide (Below.refl w.heap.size w)
    go_wp2_with fail
    refine (Hd.out _).mono ?_
    rintro e w1 ⟨rfl, hb⟩
    replace HB := hide (onward HB.out hb)
    clear hb
    go_wp2_with fail
    refine (Hd2.out _).mono ?_
    rintro e w2 ⟨rfl, hb⟩
    replace HB := hide (onward HB.out hb)
    clear hb
    go_wp2
    go_ret
    refine ⟨?_, HB.out⟩
    have a3 := G3.out
    have a4 := G4.out
    simp
    omega
end Go.Proofs.Ythhhecidogcmjaa
