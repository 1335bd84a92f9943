/-
  The law's works(): a direction and a ground range of the example's site.
  Ground ranges of gates: the program's contracts; and the law's works().
  The ray in whose sector a vector is: the program's contract.
  Heights of gates: plain functions and their bounds; no program in sight.
  The law's works(), and the law BeamDirections.
-/
import Derived.Test.YtllpffkifleigaaWbRefDivs
import Derived.Test.YtllpffkifleigaaShelfW
import Derived.LoopN
import Derived.Test.YtllpffkifleigaaWbSectorMath2
set_option linter.unusedSimpArgs false
set_option linter.unusedVariables false
section
namespace Go.Proofs.Ytllpffkifleigaa
open Go.RowKit

theorem c_s (w : World) : Calls Try.prog 125 #[.int .i32 115] w fun e w' => e = .returned (.bool false) ∧ w = w' := by
  have hc := fun (W : World) => Try.strings_ContainsRune_ascii ⟨#[97, 98, 99, 100, 101, 102, 103, 104, 105, 106, 107, 108, 109, 110, 111, 112, 113, 114, 115, 116, 117, 118, 119, 120, 121, 122, 48, 49, 50, 51, 52, 53, 54, 55, 56, 57, 95]⟩ 115 W (by decide) (by decide)
  have hd : ∀ W : World, Calls Try.prog 126 #[.string ⟨#[97, 98, 99, 100, 101, 102, 103, 104, 105, 106, 107, 108, 109, 110, 111, 112, 113, 114, 115, 116, 117, 118, 119, 120, 121, 122, 48, 49, 50, 51, 52, 53, 54, 55, 56, 57, 95]⟩, .int .i32 115] W fun e w' => e = .returned (.bool true) ∧ W = w' := fun W => (hc W).mono fun e w' ⟨h1, h2⟩ => ⟨h1.trans (by rfl), h2.symm⟩
  have Hd := hide hd
  clear hc hd
  go_enter Try.func125, Try.ntmps125
  go_wp2_with fail
  refine (Hd.out _).mono ?_
  rintro e w' ⟨rfl, rfl⟩
  go_wp2
  go_ret
  exact ⟨rfl, rfl⟩
theorem idx_s (w : World) : Calls Try.prog 135 #[.string ⟨#[115]⟩, .func (.func 125) #[] #[], .bool true] w fun e w' => e = .returned (.int .i64 (-1)) ∧ Below w.heap.size w w' := by
  have n0 := fun ty => run_next_ascii (P := Try.prog) w ⟨#[115]⟩ 0 ty (by decide) (by decide)
  have n1 := fun ty => run_next_end (P := Try.prog) w ⟨#[115]⟩ 1 ty (by decide)
  go_enter Try.func135, Try.ntmps135
  go_wp2_with fail
  refine wp_loop_rounds 2 ?_
  rw [rounds_succ]
  go_wp2_with fail
  refine (c_s _).mono ?_
  rintro e w' ⟨rfl, rfl⟩
  go_wp2_with fail
  rw [rounds_succ]
  go_wp2
  go_ret
  refine ⟨rfl, ?_⟩
  exact (Below.refl _ _).alloc (Nat.le_refl _) _
theorem cf_s (w : World) : Calls Try.prog 124 #[.string ⟨#[115]⟩, .func (.func 125) #[] #[]] w fun e w' => e = .returned (.bool false) ∧ Below w.heap.size w w' := by
  have hi : ∀ W : World, Calls Try.prog 132 #[.string ⟨#[115]⟩, .func (.func 125) #[] #[]] W fun e w' => e = .returned (.int .i64 (-1)) ∧ Below W.heap.size W w' := fun W => by
    go_enter Try.func132, Try.ntmps132
    go_wp2_with fail
    refine (idx_s _).mono ?_
    rintro e w1 ⟨rfl, hb⟩
    go_wp2
    go_ret
    exact ⟨rfl, hb⟩
  have Hi := hide hi
  clear hi
  go_enter Try.func124, Try.ntmps124
  go_wp2_with fail
  refine (Hi.out _).mono ?_
  rintro e w1 ⟨rfl, hb⟩
  go_wp2
  go_ret
  exact ⟨rfl, hb⟩
theorem Name_s (w : World) : Calls Try.prog 106 #[.string ⟨#[115]⟩] w fun e w' => e = .returned (.bool true) ∧ Below w.heap.size w w' := by
  go_enter Try.func106, Try.ntmps106
  go_wp2_with fail
  refine (cf_s _).mono ?_
  rintro e w1 ⟨rfl, hb⟩
  go_wp2
  go_ret
  exact ⟨rfl, hb⟩
end Go.Proofs.Ytllpffkifleigaa
end
section
namespace Go.Proofs.Ytllpffkifleigaa
open Go.RowKit

def reachN (st gate t : Int) : Int := (2 * gate + 1) * st * (262144 - t * t)
def reachD (t : Int) : Int := 2 * (262144 + t * t)
theorem reach_bd {st gate t : Int} (h1 : -8 ≤ t) (h2 : t ≤ 264) (h3 : 0 ≤ gate) (h4 : gate ≤ 199) (h5 : 0 ≤ st) (h6 : st ≤ 2000) :
    0 ≤ t * t ∧ t * t ≤ 69696 ∧ 0 ≤ (2 * gate + 1) * st ∧ (2 * gate + 1) * st ≤ 798000 ∧ 0 ≤ (2 * gate + 1) * st * (262144 - t * t) ∧ (2 * gate + 1) * st * (262144 - t * t) ≤ 209190912000 := by
  obtain ⟨a, b⟩ := tilt_bd h1 h2
  obtain ⟨c, d⟩ := mul_bdB (a := 2 * gate + 1) (b := st) (A := 399) (B := 2000) (by omega) (by omega) h5 h6
  obtain ⟨e, f⟩ := mul_bdB (a := (2 * gate + 1) * st) (b := 262144 - t * t) (A := 798000) (B := 262144) c (by omega) (by omega) (by omega)
  exact ⟨a, b, c, by omega, e, by omega⟩
/-- A function that rounds quotients. -/
def RoundF (fid : FuncId) (f : Int → Int → Int) : Prop := ∀ (a b : Int) (W : World), 1 ≤ b → b ≤ 4611686018427387903 → -4611686018427387903 ≤ a → a ≤ 4611686018427387903 → Calls Try.prog fid #[.int .i64 a, .int .i64 b] W fun e w' => e = .returned (.int .i64 (f a b)) ∧ W = w'
def siteV (s : ByteArray) (x y z r g st wd : Int) : Value := .agg #[.string s, .int .i64 x, .int .i64 y, .int .i64 z, .int .i64 r, .int .i64 g, .int .i64 st, .int .i64 wd]

/-- What Ground answers. -/
def groundR (e t gate g st : Int) : (Int × Int) × Int :=
  if e ≠ 0 then ((0, 0), e) else if (winBQ t 0 256 && winBQ gate 0 (g - 1)) = true then ((reachN st gate t / reachD t, cdiv (reachN st gate t) (reachD t)), 0) else ((0, 0), 3)
def spanV (s : Int × Int) : Value := .agg #[.int .i64 s.1, .int .i64 s.2]
def spanE (s : (Int × Int) × Int) : Value := .tuple #[.agg #[.int .i64 s.1.1, .int .i64 s.1.2], .int .i64 s.2]
theorem siteE_ok {nb : Bool} {x y z r g st wd : Int} (h : siteE nb x y z r g st wd = 0) : nb = true ∧ -1048576 ≤ x ∧ x ≤ 1048576 ∧ -1048576 ≤ y ∧ y ≤ 1048576 ∧ 0 ≤ z ∧ z ≤ 20000 ∧ 1 ≤ r ∧ r ≤ 90 ∧ 1 ≤ g ∧ g ≤ 200 ∧ 50 ≤ st ∧ st ≤ 2000 ∧ 0 ≤ wd ∧ wd ≤ 8 := by
  unfold siteE at h
  split at h
  · omega
  · split at h
    · rename_i h1 h2
      simp only [Bool.and_eq_true, winB_iff] at h2
      cases nb
      · exact absurd rfl h1
      · exact ⟨rfl, by omega⟩
    · omega

end Go.Proofs.Ytllpffkifleigaa
end
section
namespace Go.Proofs.Ytllpffkifleigaa
open Go Go.RowKit

theorem ahead_any (a b l x y : Int) (w : World) (ha : -64800 ≤ a ∧ a ≤ 64800) (hb : -64800 ≤ b ∧ b ≤ 64800) (hx : -6000000 ≤ x ∧ x ≤ 6000000) (hy : -6000000 ≤ y ∧ y ≤ 6000000) (m1 : -400000000000 ≤ b * x ∧ b * x ≤ 400000000000) (m2 : -400000000000 ≤ a * y ∧ a * y ≤ 400000000000) :
    Calls Try.prog 129 #[.agg #[.int .i64 a, .int .i64 b, .int .i64 l], .int .i64 x, .int .i64 y] w fun e w' => e = .returned (.bool (decide (a * y ≤ b * x))) ∧ Below w.heap.size w w' := by
  obtain ⟨m1a, m1b⟩ := m1
  obtain ⟨m2a, m2b⟩ := m2
  go_enter Try.func129, Try.ntmps129
  go_wp2
  go_ret
  exact ⟨rfl, (Below.refl _ _).alloc (Nat.le_refl _) _⟩
/-- A product within bounds. -/
theorem prod_bd {a b A B : Int} (hA : 0 ≤ A) (_hB : 0 ≤ B) (ha : -A ≤ a ∧ a ≤ A) (hb : -B ≤ b ∧ b ≤ B) : -(A * B) ≤ a * b ∧ a * b ≤ A * B := by
  have key : ∀ u v : Int, 0 ≤ u → u ≤ A → 0 ≤ v → v ≤ B → 0 ≤ u * v ∧ u * v ≤ A * B := fun u v a0 a1 b0 b1 => ⟨Int.mul_nonneg a0 b0, Int.mul_le_mul a1 b1 b0 hA⟩
  by_cases h1 : 0 ≤ a <;> by_cases h2 : 0 ≤ b
  · have := key a b h1 ha.2 h2 hb.2; omega
  · have := key a (-b) h1 ha.2 (by omega) (by omega); rw [Int.mul_neg] at this; omega
  · have := key (-a) b (by omega) (by omega) h2 hb.2; rw [Int.neg_mul] at this; omega
  · have := key (-a) (-b) (by omega) (by omega) (by omega) (by omega); rw [Int.neg_mul_neg] at this; omega
theorem dPQ_bd {n k : Int} (h1 : 1 ≤ n) (h2 : n ≤ 180) (h3 : 0 ≤ k) (h4 : k ≤ n) : (0 ≤ dP n k ∧ dP n k ≤ 64800) ∧ (0 ≤ dQ n k ∧ dQ n k ≤ 32400) := by
  have a := dP_nonneg h1 h3
  have b := dQ_nonneg h1 h3 h4
  have c := mul_bdB (a := 2 * n) (b := k) (A := 360) (B := 180) (by omega) (by omega) h3 (by omega)
  have d := mul_bdB (a := n) (b := n) (A := 180) (B := 180) (by omega) (by omega) (by omega) (by omega)
  have e := mul_bdB (a := k) (b := k) (A := 180) (B := 180) h3 (by omega) h3 (by omega)
  unfold dP dQ at *
  omega
theorem dir_first {n k : Int} (h1 : 1 ≤ n) (h3 : 0 ≤ k) (h4 : k < n) : dirV n k = ⟨dP n k, dQ n k, n * n + k * k⟩ := by
  unfold dirV dP dQ
  rw [Int.ediv_eq_zero_of_lt h3 h4, Int.emod_eq_of_lt h3 h4]
  rfl

set_option maxHeartbeats 2000000 in
set_option maxRecDepth 100000 in
theorem ray_any (n X Y : Int) (w : World) (h1 : 1 ≤ n) (h2 : n ≤ 180) (hX : -6000000 ≤ X ∧ X ≤ 6000000) (hY : -6000000 ≤ Y ∧ Y ≤ 6000000) (h0 : ¬ (X = 0 ∧ Y = 0)) :
    Calls Try.prog 111 #[.int .i64 n, .int .i64 X, .int .i64 Y] w fun e w' => e = .returned (.int .i64 (rayZ n X Y)) ∧ Below w.heap.size w w' := by
  have hq := quad_le X Y
  obtain ⟨x0, y0⟩ := quad_at h0
  have hnot := fun q => quad_not (X := X) (Y := Y) (q := q)
  have hrb := rot_bd (M := 6000000) hX hY
  have hend : ∀ k : Int, 0 ≤ k → k < n → aheadB n k (rotN X Y (quad X Y)).1 (rotN X Y (quad X Y)).2 = true → aheadB n (k + 1) (rotN X Y (quad X Y)).1 (rotN X Y (quad X Y)).2 = false → rayZ n X Y = (quad X Y : Int) * n + k := fun k k0 k1 a b => by
    have := sector_of (X := X) (Y := Y) h1 k0 k1 a b
    exact ray_is h1 this.2.1 this.2.2 this.1
  generalize rayZ n X Y = res at *
  generalize hqd : quad X Y = qd at *
  clear hqd
  have mq : 0 ≤ (qd : Int) * n ∧ (qd : Int) * n ≤ 540 := by
    have := mul_bdB (a := (qd : Int)) (b := n) (A := 3) (B := 180) (by omega) (by omega) (by omega) h2
    omega
  have Hnot := hide hnot
  have Hrb := hide hrb
  have Hend := hide hend
  clear hnot hrb hend
  go_enter Try.func111, Try.ntmps111
  go_wp2_with fail
  go_loop [1, 2, 7] (fun x y q => ∃ k : Nat, k ≤ qd ∧ q = .int .i64 k ∧ x = .int .i64 (rotN X Y k).1 ∧ y = .int .i64 (rotN X Y k).2) (fun _ _ q => qd - (intOf q).toNat)
  case atStart => exact ⟨0, by omega, rfl, rfl, rfl⟩
  case round =>
    obtain ⟨k, hk, rfl, rfl, rfl⟩ := hrel
    obtain ⟨⟨b1, b2⟩, b3, b4⟩ := Hrb.out k
    by_cases hlt : k < qd
    · have hn := Hnot.out k hlt
      have e1 : (rotN X Y (k + 1)).1 = -(rotN X Y k).2 := rfl
      have e2 : (rotN X Y (k + 1)).2 = (rotN X Y k).1 := rfl
      have E1 := hide e1
      have E2 := hide e2
      clear e1 e2
      generalize (rotN X Y k).1 = x at *
      generalize (rotN X Y k).2 = y at *
      by_cases hx : x < 0
      · clear hn
        go_wp2
        go_round
        case rel => exact ⟨k + 1, by omega, by go_num, by rw [E1.out], by rw [E2.out]⟩
        case measure => simp [intOf]; omega
      · have hy : y ≤ 0 := by omega
        clear hn
        go_wp2
        go_round
        case rel => exact ⟨k + 1, by omega, by go_num, by rw [E1.out], by rw [E2.out]⟩
        case measure => simp [intOf]; omega
    · obtain rfl : k = qd := by omega
      have hend := Hend.out
      clear Hend Hnot Hrb
      generalize (rotN X Y k).1 = x at *
      generalize (rotN X Y k).2 = y at *
      have hz := ahead_zero (n := n) (y := y) x0
      have hl := ahead_end (x := x) h1 y0
      have Hend := hide hend
      have Hz := hide hz
      have Hl := hide hl
      clear hend hz hl
      go_wp2_with fail
      go_loopw [8, 9] (fun lo hi wr => ∃ a b : Int, 0 ≤ a ∧ a < b ∧ b ≤ n ∧ lo = .int .i64 a ∧ hi = .int .i64 b ∧ aheadB n a x y = true ∧ aheadB n b x y = false ∧ Below w.heap.size w wr) (fun lo hi _ => (intOf hi - intOf lo).toNat)
      case atStart => exact ⟨0, n, by omega, by omega, by omega, rfl, rfl, Hz.out, Hl.out, Below.refl _ _⟩
      case round =>
        obtain ⟨a, b, a0, ab, bn, rfl, rfl, ha, hb, hbw⟩ := hrel
        have Ha := hide ha
        have Hb := hide hb
        have HB := hide hbw
        clear ha hb hbw
        by_cases hlt : 1 < b - a
        · obtain ⟨m, hm⟩ : ∃ m : Int, (a + b) / 2 = m := ⟨_, rfl⟩
          have m0 : a < m := by omega
          have m1 : m < b := by omega
          obtain ⟨⟨p0, p1⟩, q0, q1⟩ := dPQ_bd (k := m) h1 h2 (by omega) (by omega)
          have hd := fun W => direction_any n m W h1 h2 (by omega) (by omega)
          rw [dir_first h1 (by omega) (by omega)] at hd
          unfold vecV at hd
          simp only at hd
          have c1 := prod_bd (A := 64800) (B := 6000000) (a := dQ n m) (b := x) (by omega) (by omega) (by omega) (by omega)
          have c2 := prod_bd (A := 64800) (B := 6000000) (a := dP n m) (b := y) (by omega) (by omega) (by omega) (by omega)
          have hah := fun W => ahead_any (dP n m) (dQ n m) (n * n + m * m) x y W (by omega) (by omega) (by omega) (by omega) (by omega) (by omega)
          have hdef : decide (dP n m * y ≤ dQ n m * x) = aheadB n m x y := rfl
          rw [hdef] at hah
          clear hdef c1 c2
          generalize dP n m = pm at *
          generalize dQ n m = qm at *
          generalize n * n + m * m = lm at *
          obtain ⟨ah, hah2⟩ : ∃ ah, aheadB n m x y = ah := ⟨_, rfl⟩
          rw [hah2] at hah
          have hm' := hide hm
          have Hd := hide hd
          have Hah := hide hah
          have Hah2 := hide hah2
          clear hd hah hah2
          go_wp2_with fail
          refine (Hd.out _).mono ?_
          rintro e w2 ⟨rfl, hb⟩
          replace HB := hide (onward HB.out hb)
          clear hb
          go_wp2_with fail
          refine (Hah.out _).mono ?_
          rintro e w3 ⟨rfl, hb⟩
          replace HB := hide (onward HB.out hb)
          clear hb
          clear hm
          cases ah with
          | true =>
            go_wp2
            go_roundw
            case rel => exact ⟨m, b, by omega, by omega, by omega, rfl, rfl, Hah2.out, Hb.out, HB.out⟩
            case measure => simp [intOf]; omega
          | false =>
            go_wp2
            go_roundw
            case rel => exact ⟨a, m, by omega, by omega, by omega, rfl, rfl, Ha.out, Hah2.out, HB.out⟩
            case measure => simp [intOf]; omega
        · obtain rfl : b = a + 1 := by omega
          have hr := Hend.out a a0 (by omega) Ha.out Hb.out
          have Hr := hide hr
          clear hr
          go_wp2
          go_ret
          exact ⟨by rw [Hr.out]; rfl, HB.out⟩
end Go.Proofs.Ytllpffkifleigaa
end
section
namespace Go.Proofs.Ytllpffkifleigaa

theorem q_bd {a b C : Int} (hb : 1 ≤ b) (h1 : -C ≤ a) (h2 : a ≤ C) (hC : 0 ≤ C) : -C ≤ a / b ∧ a / b ≤ C ∧ -C ≤ cdiv a b ∧ cdiv a b ≤ C := by
  have e := fun x : Int => Int.le_ediv_iff_mul_le (a := x) (b := a) (c := b) (by omega)
  have m : C ≤ C * b := by have := Int.mul_le_mul_of_nonneg_left hb hC; omega
  have l1 : -C ≤ a / b := (e (-C)).2 (by rw [Int.neg_mul]; omega)
  have l2 : a / b ≤ C := by
    have : a / b < C + 1 := Int.ediv_lt_of_lt_mul (by omega) (by rw [Int.add_mul]; omega)
    omega
  have l3 : -C ≤ -a / b := (Int.le_ediv_iff_mul_le (by omega)).2 (by rw [Int.neg_mul]; omega)
  have l4 : -a / b ≤ C := by
    have : -a / b < C + 1 := Int.ediv_lt_of_lt_mul (by omega) (by rw [Int.add_mul]; omega)
    omega
  unfold cdiv
  omega
def sineN (st gate t : Int) : Int := (2 * gate + 1) * st * (1024 * t)
theorem sine_bd {st gate t : Int} (h1 : -8 ≤ t) (h2 : t ≤ 264) (h3 : 0 ≤ (2 * gate + 1) * st) (h4 : (2 * gate + 1) * st ≤ 798000) : -215728128000 ≤ (2 * gate + 1) * st * (1024 * t) ∧ (2 * gate + 1) * st * (1024 * t) ≤ 215728128000 := by
  generalize (2 * gate + 1) * st = a at *
  have a1 : a * (1024 * t) ≤ a * 270336 := Int.mul_le_mul_of_nonneg_left (by omega) h3
  have a2 : a * (-8192) ≤ a * (1024 * t) := Int.mul_le_mul_of_nonneg_left (by omega) h3
  omega
/-- A ground range, rounded down and up. -/
def rD (st gate t : Int) : Int := reachN st gate t / reachD t
def rU (st gate t : Int) : Int := cdiv (reachN st gate t) (reachD t)
theorem r_bd {st gate t : Int} (h1 : -8 ≤ t) (h2 : t ≤ 264) (h3 : 0 ≤ gate) (h4 : gate ≤ 199) (h5 : 0 ≤ st) (h6 : st ≤ 2000) : 0 ≤ rD st gate t ∧ rD st gate t ≤ 400000 ∧ 0 ≤ rU st gate t ∧ rU st gate t ≤ 400000 ∧ rD st gate t ≤ rU st gate t := by
  obtain ⟨a1, a2, a3, a4, a5, a6⟩ := reach_bd h1 h2 h3 h4 h5 h6
  unfold rD rU reachN reachD
  have hd : 524288 ≤ 2 * (262144 + t * t) := by omega
  rw [cdiv_eq (by omega)]
  generalize 2 * (262144 + t * t) = d at *
  generalize (2 * gate + 1) * st * (262144 - t * t) = n at *
  have hm : 400000 * 524288 ≤ 400000 * d := Int.mul_le_mul_of_nonneg_left hd (by omega)
  refine ⟨Int.ediv_nonneg a5 (by omega), ?_, Int.ediv_nonneg (by omega) (by omega), ?_, Int.ediv_le_ediv (by omega) (by omega)⟩
  · have : n / d < 400000 + 1 := Int.ediv_lt_of_lt_mul (by omega) (by rw [Int.add_mul]; omega)
    omega
  · have : (n + d - 1) / d < 400000 + 1 := Int.ediv_lt_of_lt_mul (by omega) (by rw [Int.add_mul]; omega)
    omega
theorem sq_bd {r : Int} (h : 0 ≤ r) (h2 : r ≤ 400000) : 0 ≤ r * r ∧ r * r ≤ 160000000000 := by
  obtain ⟨a, b⟩ := mul_bdB h h2 h h2
  exact ⟨a, by omega⟩
def riseD (z st gate t e : Int) : Int := z + sineN st gate t / reachD t + rD st gate t * rD st gate t / (2 * e)
def riseU (z st gate t e : Int) : Int := z + cdiv (sineN st gate t) (reachD t) + cdiv (rU st gate t * rU st gate t) (2 * e)
def okE (lo hi : Int) : Bool := decide (1000000 ≤ lo ∧ lo ≤ hi ∧ hi ≤ 100000000)
theorem okE_iff {lo hi : Int} (h : okE lo hi = true) : 1000000 ≤ lo ∧ lo ≤ hi ∧ hi ≤ 100000000 := of_decide_eq_true h
/-- What Height and Band answer. -/
def heightR (e t gate z g st elo ehi : Int) : (Int × Int) × Int :=
  if e ≠ 0 then ((0, 0), e) else if (winBQ t (-8) 264 && okE elo ehi && winBQ gate 0 (g - 1)) = true then ((riseD z st gate t ehi, riseU z st gate t elo), 0) else ((0, 0), 3)
def bandR (e t gate z g st wd elo ehi : Int) : (Int × Int) × Int :=
  if e ≠ 0 then ((0, 0), e) else if (winBQ t 0 256 && okE elo ehi && winBQ gate 0 (g - 1)) = true then ((riseD z st gate (t - wd) ehi, riseU z st gate (t + wd) elo), 0) else ((0, 0), 3)
end Go.Proofs.Ytllpffkifleigaa
end
section
namespace Go.Proofs.Ytllpffkifleigaa
open Go.RowKit

end Go.Proofs.Ytllpffkifleigaa
end
