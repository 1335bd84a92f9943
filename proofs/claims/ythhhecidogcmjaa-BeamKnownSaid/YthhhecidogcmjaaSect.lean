/-
  The ray in whose sector a vector is: the program's contract.
-/
import Derived.Test.YthhhecidogcmjaaSectorMath2
import Derived.Test.YthhhecidogcmjaaBeam3
namespace Go.Proofs.Ythhhecidogcmjaa
open Go Go.RowKit

theorem ahead_any (a b l x y : Int) (w : World) (ha : -64800 ≤ a ∧ a ≤ 64800) (hb : -64800 ≤ b ∧ b ≤ 64800) (hx : -6000000 ≤ x ∧ x ≤ 6000000) (hy : -6000000 ≤ y ∧ y ≤ 6000000) (m1 : -400000000000 ≤ b * x ∧ b * x ≤ 400000000000) (m2 : -400000000000 ≤ a * y ∧ a * y ≤ 400000000000) :
    Calls Try.prog 97 #[.agg #[.int .i64 a, .int .i64 b, .int .i64 l], .int .i64 x, .int .i64 y] w fun e w' => e = .returned (.bool (decide (a * y ≤ b * x))) ∧ Below w.heap.size w w' := by
  obtain ⟨m1a, m1b⟩ := m1
  obtain ⟨m2a, m2b⟩ := m2
  go_enter Try.func97, Try.ntmps97
  go_wp2
  go_ret
  exact ⟨rfl, (Below.refl _ _).alloc (Nat.le_refl _) _⟩
/-- A product within bounds. -/
theorem prod_bd {a b A B : Int} (hA : 0 ≤ A) (_hB : 0 ≤ B) (ha : -A ≤ a ∧ a ≤ A) (hb : -B ≤ b ∧ b ≤ B) : -(A * B) ≤ a * b ∧ a * b ≤ A * B := by
  have key : ∀ u v : Int, 0 ≤ u → u ≤ A → 0 ≤ v → v ≤ B → 0 ≤ u * v ∧ u * v ≤ A * B := fun u v a0 a1 b0 b1 => ⟨Int.mul_nonneg a0 b0, Int.mul_le_mul a1 b1 b0 hA⟩
  by_cases h1 : 0 ≤ a <;> by_cases h2 : 0 ≤ b
  · have := key a b h1 ha.2 h2 hb.2; omega
  · have := key a (-b) h1 ha.2 (by omega) (by omega); rw [Int.mul_neg] at this; omega
  · have := key (-a) b (by omega) (by omega) h2 hb.2; rw [Int.neg_mul] at this; omega
  · have := key (-a) (-b) (by omega) (by omega) (by omega) (by omega); rw [Int.neg_mul_neg] at this; omega
theorem dPQ_bd {n k : Int} (h1 : 1 ≤ n) (h2 : n ≤ 180) (h3 : 0 ≤ k) (h4 : k ≤ n) : (0 ≤ dP n k ∧ dP n k ≤ 64800) ∧ (0 ≤ dQ n k ∧ dQ n k ≤ 32400) := by
  have a := dP_nonneg h1 h3
  have b := dQ_nonneg h1 h3 h4
  have c := mul_bdB (a := 2 * n) (b := k) (A := 360) (B := 180) (by omega) (by omega) h3 (by omega)
  have d := mul_bdB (a := n) (b := n) (A := 180) (B := 180) (by omega) (by omega) (by omega) (by omega)
  have e := mul_bdB (a := k) (b := k) (A := 180) (B := 180) h3 (by omega) h3 (by omega)
  unfold dP dQ at *
  omega
theorem dir_first {n k : Int} (h1 : 1 ≤ n) (h3 : 0 ≤ k) (h4 : k < n) : dirV n k = ⟨dP n k, dQ n k, n * n + k * k⟩ := by
  unfold dirV dP dQ
  rw [Int.ediv_eq_zero_of_lt h3 h4, Int.emod_eq_of_lt h3 h4]
  rfl

set_option maxHeartbeats 2000000 in
set_option maxRecDepth 100000 in
theorem ray_any (n X Y : Int) (w : World) (h1 : 1 ≤ n) (h2 : n ≤ 180) (hX : -6000000 ≤ X ∧ X ≤ 6000000) (hY : -6000000 ≤ Y ∧ Y ≤ 6000000) (h0 : ¬ (X = 0 ∧ Y = 0)) :
    Calls Try.prog 88 #[.int .i64 n, .int .i64 X, .int .i64 Y] w fun e w' => e = .returned (.int .i64 (rayZ n X Y)) ∧ Below w.heap.size w w' := by
  have hq := quad_le X Y
  obtain ⟨x0, y0⟩ := quad_at h0
  have hnot := fun q => quad_not (X := X) (Y := Y) (q := q)
  have hrb := rot_bd (M := 6000000) hX hY
  have hend : ∀ k : Int, 0 ≤ k → k < n → aheadB n k (rotN X Y (quad X Y)).1 (rotN X Y (quad X Y)).2 = true → aheadB n (k + 1) (rotN X Y (quad X Y)).1 (rotN X Y (quad X Y)).2 = false → rayZ n X Y = (quad X Y : Int) * n + k := fun k k0 k1 a b => by
    have := sector_of (X := X) (Y := Y) h1 k0 k1 a b
    exact ray_is h1 this.2.1 this.2.2 this.1
  generalize rayZ n X Y = res at *
  generalize hqd : quad X Y = qd at *
  clear hqd
  have mq : 0 ≤ (qd : Int) * n ∧ (qd : Int) * n ≤ 540 := by
    have := mul_bdB (a := (qd : Int)) (b := n) (A := 3) (B := 180) (by omega) (by omega) (by omega) h2
    omega
  have Hnot := hide hnot
  have Hrb := hide hrb
  have Hend := hide hend
  clear hnot hrb hend
  go_enter Try.func88, Try.ntmps88
  go_wp2_with fail
  go_loop [1, 2, 7] (fun x y q => ∃ k : Nat, k ≤ qd ∧ q = .int .i64 k ∧ x = .int .i64 (rotN X Y k).1 ∧ y = .int .i64 (rotN X Y k).2) (fun _ _ q => qd - (intOf q).toNat)
  case atStart => exact ⟨0, by omega, rfl, rfl, rfl⟩
  case round =>
    obtain ⟨k, hk, rfl, rfl, rfl⟩ := hrel
    obtain ⟨⟨b1, b2⟩, b3, b4⟩ := Hrb.out k
    by_cases hlt : k < qd
    · have hn := Hnot.out k hlt
      have e1 : (rotN X Y (k + 1)).1 = -(rotN X Y k).2 := rfl
      have e2 : (rotN X Y (k + 1)).2 = (rotN X Y k).1 := rfl
      have E1 := hide e1
      have E2 := hide e2
      clear e1 e2
      generalize (rotN X Y k).1 = x at *
      generalize (rotN X Y k).2 = y at *
      by_cases hx : x < 0
      · clear hn
        go_wp2
        go_round
        case rel => exact ⟨k + 1, by omega, by go_num, by rw [E1.out], by rw [E2.out]⟩
        case measure => simp [intOf]; omega
      · have hy : y ≤ 0 := by omega
        clear hn
        go_wp2
        go_round
        case rel => exact ⟨k + 1, by omega, by go_num, by rw [E1.out], by rw [E2.out]⟩
        case measure => simp [intOf]; omega
    · obtain rfl : k = qd := by omega
      have hend := Hend.out
      clear Hend Hnot Hrb
      generalize (rotN X Y k).1 = x at *
      generalize (rotN X Y k).2 = y at *
      have hz := ahead_zero (n := n) (y := y) x0
      have hl := ahead_end (x := x) h1 y0
      have Hend := hide hend
      have Hz := hide hz
      have Hl := hide hl
      clear hend hz hl
      go_wp2_with fail
      go_loopw [8, 9] (fun lo hi wr => ∃ a b : Int, 0 ≤ a ∧ a < b ∧ b ≤ n ∧ lo = .int .i64 a ∧ hi = .int .i64 b ∧ aheadB n a x y = true ∧ aheadB n b x y = false ∧ Below w.heap.size w wr) (fun lo hi _ => (intOf hi - intOf lo).toNat)
      case atStart => exact ⟨0, n, by omega, by omega, by omega, rfl, rfl, Hz.out, Hl.out, Below.refl _ _⟩
      case round =>
        obtain ⟨a, b, a0, ab, bn, rfl, rfl, ha, hb, hbw⟩ := hrel
        have Ha := hide ha
        have Hb := hide hb
        have HB := hide hbw
        clear ha hb hbw
        by_cases hlt : 1 < b - a
        · obtain ⟨m, hm⟩ : ∃ m : Int, (a + b) / 2 = m := ⟨_, rfl⟩
          have m0 : a < m := by omega
          have m1 : m < b := by omega
          obtain ⟨⟨p0, p1⟩, q0, q1⟩ := dPQ_bd (k := m) h1 h2 (by omega) (by omega)
          have hd := fun W => direction_any n m W h1 h2 (by omega) (by omega)
          rw [dir_first h1 (by omega) (by omega)] at hd
          unfold vecV at hd
          simp only at hd
          have c1 := prod_bd (A := 64800) (B := 6000000) (a := dQ n m) (b := x) (by omega) (by omega) (by omega) (by omega)
          have c2 := prod_bd (A := 64800) (B := 6000000) (a := dP n m) (b := y) (by omega) (by omega) (by omega) (by omega)
          have hah := fun W => ahead_any (dP n m) (dQ n m) (n * n + m * m) x y W (by omega) (by omega) (by omega) (by omega) (by omega) (by omega)
          have hdef : decide (dP n m * y ≤ dQ n m * x) = aheadB n m x y := rfl
          rw [hdef] at hah
          clear hdef c1 c2
          generalize dP n m = pm at *
          generalize dQ n m = qm at *
          generalize n * n + m * m = lm at *
          obtain ⟨ah, hah2⟩ : ∃ ah, aheadB n m x y = ah := ⟨_, rfl⟩
          rw [hah2] at hah
          have hm' := hide hm
          have Hd := hide hd
          have Hah := hide hah
          have Hah2 := hide hah2
          clear hd hah hah2
          go_wp2_with fail
          refine (Hd.out _).mono ?_
          rintro e w2 ⟨rfl, hb⟩
          replace HB := hide (onward HB.out hb)
          clear hb
          go_wp2_with fail
          refine (Hah.out _).mono ?_
          rintro e w3 ⟨rfl, hb⟩
          replace HB := hide (onward HB.out hb)
          clear hb
          clear hm
          cases ah with
          | true =>
            go_wp2
            go_roundw
            case rel => exact ⟨m, b, by omega, by omega, by omega, rfl, rfl, Hah2.out, Hb.out, HB.out⟩
            case measure => simp [intOf]; omega
          | false =>
            go_wp2
            go_roundw
            case rel => exact ⟨a, m, by omega, by omega, by omega, rfl, rfl, Ha.out, Hah2.out, HB.out⟩
            case measure => simp [intOf]; omega
        · obtain rfl : b = a + 1 := by omega
          have hr := Hend.out a a0 (by omega) Ha.out Hb.out
          have Hr := hide hr
          clear hr
          go_wp2
          go_ret
          exact ⟨by rw [Hr.out]; rfl, HB.out⟩
end Go.Proofs.Ythhhecidogcmjaa
