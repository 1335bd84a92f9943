/-
  The law BeamUnit.
-/
import Derived.Test.YthhhecidogcmjaaBeamLaw1
import Derived.Test.YthhhecidogcmjaaBeamUnitMath
namespace Go.Proofs.Ythhhecidogcmjaa
open Go.RowKit

theorem turn_any (a m : Int) (w : World) (h1 : 0 ≤ a) (h2 : a ≤ 4294967295) (h3 : 1 ≤ m) (h4 : m ≤ 4294967295) :
    Calls Try.prog 19 #[.int .u32 a, .int .i64 m] w fun e w' => e = .returned (.int .i64 (a % m)) ∧ w = w' := by
  have a1 := Int.emod_nonneg a (show m ≠ 0 by omega)
  have a2 := Int.emod_lt_of_pos a (show 0 < m by omega)
  go_enter Try.func19, Try.ntmps19
  go_wp2
  go_ret
  exact ⟨rfl, rfl⟩
theorem dirR_ok {n k : Int} (h1 : 1 ≤ n) (h2 : n ≤ 180) (h3 : 0 ≤ k) (h4 : k ≤ 4 * n - 1) : dirR n k = (dirV n k, 0) := by
  unfold dirR
  rw [if_pos]
  simp only [okD, Bool.and_eq_true, winB_iff]
  exact ⟨⟨h1, h2⟩, h3, h4⟩
set_option maxHeartbeats 2000000 in
set_option maxRecDepth 100000 in
theorem BeamUnit_any (o a t : Int) (w : World) (o1 : 0 ≤ o) (o2 : o ≤ 255) (a1 : 0 ≤ a) (a2 : a ≤ 4294967295) (t1 : 0 ≤ t) (t2 : t ≤ 65535) :
    Calls Try.prog 4 #[.int .u8 o, .int .u32 a, .int .u16 t] w fun e w' => e = .returned (.bool true) ∧ Below w.heap.size w w' := by
  obtain ⟨n, hn⟩ : ∃ n, 1 + o % 90 = n := ⟨_, rfl⟩
  have n1 : 1 ≤ n ∧ n ≤ 90 := by omega
  obtain ⟨n1, n2⟩ := n1
  obtain ⟨k, hk⟩ : ∃ k, a % (4 * n) = k := ⟨_, rfl⟩
  have k1 : 0 ≤ k := by rw [← hk]; exact Int.emod_nonneg a (by omega)
  have k2 : k < 4 * n := by rw [← hk]; exact Int.emod_lt_of_pos a (by omega)
  obtain ⟨k3, hk3⟩ : ∃ k3, (k + n) % (4 * n) = k3 := ⟨_, rfl⟩
  have k31 : 0 ≤ k3 := by rw [← hk3]; exact Int.emod_nonneg _ (by omega)
  have k32 : k3 < 4 * n := by rw [← hk3]; exact Int.emod_lt_of_pos _ (by omega)
  obtain ⟨k4, hk4⟩ : ∃ k4, (k + 1) % (4 * n) = k4 := ⟨_, rfl⟩
  have k41 : 0 ≤ k4 := by rw [← hk4]; exact Int.emod_nonneg _ (by omega)
  have k42 : k4 < 4 * n := by rw [← hk4]; exact Int.emod_lt_of_pos _ (by omega)
  have hU := unit_ok n1 n2 k1 k2
  rw [hk3, hk4] at hU
  have hturn := fun W => turn_any a (4 * n) W a1 a2 (by omega) (by omega)
  have hd1 := fun W => Direction_any n k W
  have hd2 := fun W => Direction_any n k3 W
  have hd3 := fun W => Direction_any n k4 W
  have hd4 := fun W => Direction_any (2 * n) (2 * k) W
  rw [dirR_ok n1 (by omega) k1 (by omega)] at hd1
  rw [dirR_ok n1 (by omega) k31 (by omega)] at hd2
  rw [dirR_ok n1 (by omega) k41 (by omega)] at hd3
  rw [dirR_ok (by omega) (by omega) (by omega) (by omega)] at hd4
  rw [hk] at hturn
  rw [hU.tx] at hd2
  rw [hU.dx] at hd4
  obtain ⟨u1, u2, -, u4, -, u6, u7, u8, u9, u10⟩ := hU
  generalize dirV n k = V1 at *
  generalize dirV n k4 = V3 at *
  obtain ⟨x, y, l⟩ := V1
  obtain ⟨u, v, l3⟩ := V3
  simp only at u1 u2 u4 u6 u7 u8 u9 u10 hd1 hd2 hd3 hd4
  obtain ⟨b, hb⟩ : ∃ b, 4 * x = b := ⟨_, rfl⟩
  obtain ⟨c, hc⟩ : ∃ c, 4 * y = c := ⟨_, rfl⟩
  obtain ⟨d, hd⟩ : ∃ d, 4 * l = d := ⟨_, rfl⟩
  have i1 : b * l = x * d := by subst hb; subst hd; grind
  have i2 : c * l = y * d := by subst hc; subst hd; grind
  have b1 : -64800 ≤ b ∧ b ≤ 64800 := by omega
  have c1 : -64800 ≤ c ∧ c ≤ 64800 := by omega
  have d1 : 1 ≤ d ∧ d ≤ 64800 := by omega
  obtain ⟨m1, m2⟩ := abs_mul (a := x) (b := x) (A := 16200) (B := 16200) (by omega) (by omega) (by omega) (by omega)
  obtain ⟨m3, m4⟩ := abs_mul (a := y) (b := y) (A := 16200) (B := 16200) (by omega) (by omega) (by omega) (by omega)
  obtain ⟨m5, m6⟩ := abs_mul (a := l) (b := l) (A := 16200) (B := 16200) (by omega) (by omega) (by omega) (by omega)
  obtain ⟨m7, m8⟩ := abs_mul (a := y) (b := u) (A := 16200) (B := 16200) (by omega) (by omega) (by omega) (by omega)
  obtain ⟨m9, m10⟩ := abs_mul (a := x) (b := v) (A := 16200) (B := 16200) (by omega) (by omega) (by omega) (by omega)
  obtain ⟨m11, m12⟩ := abs_mul (a := b) (b := l) (A := 64800) (B := 16200) (by omega) (by omega) (by omega) (by omega)
  obtain ⟨m13, m14⟩ := abs_mul (a := x) (b := d) (A := 16200) (B := 64800) (by omega) (by omega) (by omega) (by omega)
  obtain ⟨m15, m16⟩ := abs_mul (a := c) (b := l) (A := 64800) (B := 16200) (by omega) (by omega) (by omega) (by omega)
  obtain ⟨m17, m18⟩ := abs_mul (a := y) (b := d) (A := 16200) (B := 64800) (by omega) (by omega) (by omega) (by omega)
  obtain ⟨tl, htl⟩ : ∃ tl, t % 273 - 8 = tl := ⟨_, rfl⟩
  have tl1 : -8 ≤ tl ∧ tl ≤ 264 := by omega
  obtain ⟨tl1, tl2⟩ := tl1
  have hS := slant_ok tl1 tl2
  have hs := fun W => Slant_any tl W
  rw [show slantR tl = (slantV tl, 0) by unfold slantR; rw [if_pos (winB_iff.2 ⟨tl1, tl2⟩)]] at hs
  generalize slantV tl = S at *
  obtain ⟨s1, s2, s3⟩ := S
  simp only at hS
  obtain ⟨v1, v2, v3, v4, v5, v6, v7, v8⟩ := hS
  obtain ⟨r1, r2⟩ := abs_mul (a := s1) (b := s1) (A := 331840) (B := 331840) (by omega) (by omega) (by omega) (by omega)
  obtain ⟨r3, r4⟩ := abs_mul (a := s2) (b := s2) (A := 331840) (B := 331840) (by omega) (by omega) (by omega) (by omega)
  obtain ⟨r5, r6⟩ := abs_mul (a := s3) (b := s3) (A := 331840) (B := 331840) (by omega) (by omega) (by omega) (by omega)
  rw [hb, hc, hd] at hd4
  unfold vecE at hd1 hd2 hd3 hd4 hs
  simp only at hd1 hd2 hd3 hd4 hs
  have q1 : (x * x + y * y != l * l) = false := by rw [u2]; simp
  have q2 : (b * l != x * d) = false := by rw [i1]; simp
  have q3 : (c * l != y * d) = false := by rw [i2]; simp
  have q4 : (s1 * s1 + s2 * s2 == s3 * s3) = true := by rw [v1]; simp
  obtain ⟨u6a, u6b⟩ := u6
  obtain ⟨u7a, u7b⟩ := u7
  obtain ⟨b1a, b1b⟩ := b1
  obtain ⟨c1a, c1b⟩ := c1
  obtain ⟨d1a, d1b⟩ := d1
  have Hd1 := hide hd1
  have Hd2 := hide hd2
  have Hd3 := hide hd3
  have Hd4 := hide hd4
  have Hs := hide hs
  have Hturn := hide hturn
  clear hd1 hd2 hd3 hd4 hs hturn
  clear u2 i1 i2 v1 hb hc hd hk
  by_cases ht : 0 < tl
  · have hs2 : 0 < s2 := v3.2 ht
    have e1 : decide (0 < s2) = true := decide_eq_true hs2
    have e2 : decide (0 < tl) = true := decide_eq_true ht
    clear v3
    go_enter Try.func4, Try.ntmps4
    have HB := hide (Below.refl w.heap.size w)
    go_wp2_with fail
    refine (Hturn.out _).mono ?_
    rintro e w' ⟨rfl, rfl⟩
    go_wp2_with fail
    refine (Hd1.out _).mono ?_
    rintro e w1 ⟨rfl, hb⟩
    replace HB := hide (onward HB.out hb)
    clear hb
    go_wp2_with fail
    refine (Hd2.out _).mono ?_
    rintro e w2 ⟨rfl, hb⟩
    replace HB := hide (onward HB.out hb)
    clear hb
    go_wp2_with fail
    refine (Hd3.out _).mono ?_
    rintro e w3 ⟨rfl, hb⟩
    replace HB := hide (onward HB.out hb)
    clear hb
    go_wp2_with fail
    refine (Hd4.out _).mono ?_
    rintro e w4 ⟨rfl, hb⟩
    replace HB := hide (onward HB.out hb)
    clear hb
    go_wp2_with fail
    refine (Hs.out _).mono ?_
    rintro e w5 ⟨rfl, hb⟩
    replace HB := hide (onward HB.out hb)
    clear hb
    go_wp2_with fail
    refine (works_any _).mono ?_
    rintro e w6 ⟨rfl, hb⟩
    replace HB := hide (onward HB.out hb)
    clear hb
    go_wp2
    go_ret
    exact ⟨rfl, HB.out⟩
  · have hs2 : ¬ 0 < s2 := fun h => ht (v3.1 h)
    have e1 : decide (0 < s2) = false := decide_eq_false hs2
    have e2 : decide (0 < tl) = false := decide_eq_false ht
    clear v3
    go_enter Try.func4, Try.ntmps4
    have HB := hide (Below.refl w.heap.size w)
    go_wp2_with fail
    refine (Hturn.out _).mono ?_
    rintro e w' ⟨rfl, rfl⟩
    go_wp2_with fail
    refine (Hd1.out _).mono ?_
    rintro e w1 ⟨rfl, hb⟩
    replace HB := hide (onward HB.out hb)
    clear hb
    go_wp2_with fail
    refine (Hd2.out _).mono ?_
    rintro e w2 ⟨rfl, hb⟩
    replace HB := hide (onward HB.out hb)
    clear hb
    go_wp2_with fail
    refine (Hd3.out _).mono ?_
    rintro e w3 ⟨rfl, hb⟩
    replace HB := hide (onward HB.out hb)
    clear hb
    go_wp2_with fail
    refine (Hd4.out _).mono ?_
    rintro e w4 ⟨rfl, hb⟩
    replace HB := hide (onward HB.out hb)
    clear hb
    go_wp2_with fail
    refine (Hs.out _).mono ?_
    rintro e w5 ⟨rfl, hb⟩
    replace HB := hide (onward HB.out hb)
    clear hb
    go_wp2_with fail
    refine (works_any _).mono ?_
    rintro e w6 ⟨rfl, hb⟩
    replace HB := hide (onward HB.out hb)
    clear hb
    go_wp2
    go_ret
    exact ⟨rfl, HB.out⟩
end Go.Proofs.Ythhhecidogcmjaa
