/-
  A vector lies in exactly one sector, a distance between the borders of at most one gate: which ones; no program in sight.
  Directions and slants: the program's contracts, the reference's.
  Quotients rounded down and up, sites, ground ranges: plain functions; no program in sight.
  Quotients, and the error of a site: the program's contracts.
  Contracts of the library at this dump, in plain words: written by the kit's own tools.
  The law's works(): a direction and a ground range of the example's site.
  Ground ranges of gates: the program's contracts; and the law's works().
  The ray in whose sector a vector is: the program's contract.
  Heights of gates: plain functions and their bounds; no program in sight.
  Quotients of the reference, rounded down and up: its contracts.
  Names: which bytes they are made of; runes beyond ASCII; no program in sight.
-/
import Derived.Test.YtepgpihobmjbdaaGreatSectorMath
import Derived.Test.YtepgpihobmjbdaaGreatProg
import Derived.Test.YtepgpihobmjbdaaGreatRegP
import Derived.Shelf.Small.Utf8
import Derived.Shelf.Small.Strs
import Derived.Shelf.Strings.Search1
import Derived.Shelf.Strings.Runes
import Derived.LoopN
import Derived.Test.YtepgpihobmjbdaaGreatRegionStep
import Derived.Test.YtepgpihobmjbdaaGreatDivs
import Derived.Lib.IndexLaws
import Derived.Lib.TrimU
import Derived.Laws.RangeString
set_option linter.unusedSimpArgs false
set_option linter.unusedVariables false
namespace Go.Proofs.YtepgpihobmjbdaaGreat

theorem ahead_first {n k x y : Int} (hn : 1 ≤ n) (hk : 0 ≤ k) (hkn : k < n) (h1 : aheadB n k x y = true) (h2 : aheadB n (k + 1) x y = false) : 0 ≤ x ∧ 0 < y := by
  have a1 : dP n k * y ≤ dQ n k * x := of_decide_eq_true h1
  have a2 : dQ n (k + 1) * x < dP n (k + 1) * y := by have := of_decide_eq_false h2; omega
  have c := cross_pos hn hk (show k < k + 1 by omega)
  have pk := dP_nonneg hn hk
  have qk := dQ_nonneg hn hk (show k ≤ n by omega)
  have pj := dP_nonneg hn (show 0 ≤ k + 1 by omega)
  have qj := dQ_nonneg hn (show 0 ≤ k + 1 by omega) (show k + 1 ≤ n by omega)
  have hy : 0 < y := by
    refine Int.not_le.1 fun hy => ?_
    have b1 : dP n (k + 1) * y ≤ 0 := Int.mul_nonpos_of_nonneg_of_nonpos pj hy
    have hx : x < 0 := by
      refine Int.not_le.1 fun hx => ?_
      have := Int.mul_nonneg qj hx
      omega
    -- with a = -x, b = -y
    have m1 : dP n k * y * dP n (k + 1) ≤ dQ n k * x * dP n (k + 1) := Int.mul_le_mul_of_nonneg_right a1 pj
    have m2 : dQ n (k + 1) * x * dP n k ≤ dP n (k + 1) * y * dP n k := Int.mul_le_mul_of_nonneg_right (by omega) pk
    have e1 : dP n k * y * dP n (k + 1) = dP n (k + 1) * y * dP n k := by grind
    have e2 : dQ n k * x * dP n (k + 1) - dQ n (k + 1) * x * dP n k = (dQ n k * dP n (k + 1) - dP n k * dQ n (k + 1)) * x := by grind
    have e3 : (dQ n k * dP n (k + 1) - dP n k * dQ n (k + 1)) * x < 0 := Int.mul_neg_of_pos_of_neg c hx
    omega
  refine ⟨?_, hy⟩
  refine Int.not_lt.1 fun hx => ?_
  have qk0 : 0 < dQ n k := by
    unfold dQ
    have : k * k < n * n := by
      have e1 : k * k ≤ k * n := Int.mul_le_mul_of_nonneg_left (by omega) hk
      have e2 : k * n < n * n := Int.mul_lt_mul_of_pos_right hkn (by omega)
      omega
    omega
  have m1 := Int.mul_nonneg pk (show 0 ≤ y by omega)
  have m2 : dQ n k * x < 0 := Int.mul_neg_of_pos_of_neg qk0 hx
  omega
theorem split_ray {n a : Int} (hn : 1 ≤ n) (h0 : 0 ≤ a) (h1 : a < 4 * n) : ∃ (q : Nat) (k : Int), q ≤ 3 ∧ 0 ≤ k ∧ k < n ∧ a = (q : Int) * n + k := by
  have b1 : 0 ≤ a / n := Int.ediv_nonneg h0 (by omega)
  have b2 : a / n < 4 := Int.ediv_lt_of_lt_mul (by omega) (by omega)
  refine ⟨(a / n).toNat, a % n, by omega, Int.emod_nonneg _ (by omega), Int.emod_lt_of_pos _ (by omega), ?_⟩
  have := Int.mul_ediv_add_emod a n
  rw [Int.toNat_of_nonneg b1, Int.mul_comm]
  omega
theorem sector_parts {n a X Y : Int} (hn : 1 ≤ n) (h0 : 0 ≤ a) (h1 : a < 4 * n) (h : sectorB n a X Y = true) : ∃ k : Int, 0 ≤ k ∧ k < n ∧ a = (quad X Y : Int) * n + k ∧ aheadB n k (rotN X Y (quad X Y)).1 (rotN X Y (quad X Y)).2 = true ∧ aheadB n (k + 1) (rotN X Y (quad X Y)).1 (rotN X Y (quad X Y)).2 = false := by
  obtain ⟨q, k, hq, hk, hkn, rfl⟩ := split_ray hn h0 h1
  rw [sector_turn hn hk hkn hq, Bool.and_eq_true, Bool.not_eq_true'] at h
  obtain ⟨x0, y0⟩ := ahead_first hn hk hkn h.1 h.2
  obtain rfl := quad_uniq hq x0 y0
  exact ⟨k, hk, hkn, rfl, h.1, h.2⟩
theorem sector_uniq {n a b X Y : Int} (hn : 1 ≤ n) (a0 : 0 ≤ a) (a1 : a < 4 * n) (b0 : 0 ≤ b) (b1 : b < 4 * n) (ha : sectorB n a X Y = true) (hb : sectorB n b X Y = true) : a = b := by
  obtain ⟨k, k0, k1, rfl, h1, h2⟩ := sector_parts hn a0 a1 ha
  obtain ⟨j, j0, j1, rfl, g1, g2⟩ := sector_parts hn b0 b1 hb
  obtain ⟨x0, y0⟩ := ahead_first hn k0 k1 h1 h2
  rcases Int.lt_trichotomy k j with h | h | h
  · have := ahead_mono hn (show 0 ≤ k + 1 by omega) (show k + 1 ≤ j by omega) (by omega) x0 y0 h2
    rw [g1] at this; cases this
  · subst h; rfl
  · have := ahead_mono hn (show 0 ≤ j + 1 by omega) (show j + 1 ≤ k by omega) (by omega) x0 y0 g2
    rw [h1] at this; cases this
theorem sector_of {n k X Y : Int} (hn : 1 ≤ n) (hk : 0 ≤ k) (hkn : k < n) (h1 : aheadB n k (rotN X Y (quad X Y)).1 (rotN X Y (quad X Y)).2 = true) (h2 : aheadB n (k + 1) (rotN X Y (quad X Y)).1 (rotN X Y (quad X Y)).2 = false) :
    sectorB n ((quad X Y : Int) * n + k) X Y = true ∧ 0 ≤ (quad X Y : Int) * n + k ∧ (quad X Y : Int) * n + k < 4 * n := by
  have hq := quad_le X Y
  have m1 : 0 ≤ (quad X Y : Int) * n := Int.mul_nonneg (by omega) (by omega)
  have m2 : (quad X Y : Int) * n ≤ 3 * n := Int.mul_le_mul_of_nonneg_right (by omega) (by omega)
  refine ⟨?_, by omega, by omega⟩
  rw [sector_turn hn hk hkn hq, h1, h2]; rfl
theorem step_down (f : Nat → Bool) : ∀ m : Nat, f 0 = true → f m = false → ∃ k, k < m ∧ f k = true ∧ f (k + 1) = false
  | 0, h0, h1 => by rw [h0] at h1; cases h1
  | m + 1, h0, h1 => by
    cases h : f m with
    | true => exact ⟨m, by omega, h, h1⟩
    | false =>
      obtain ⟨k, a, b, c⟩ := step_down f m h0 h
      exact ⟨k, by omega, b, c⟩
theorem sector_ex {n X Y : Int} (hn : 1 ≤ n) (h : ¬ (X = 0 ∧ Y = 0)) : ∃ a : Int, 0 ≤ a ∧ a < 4 * n ∧ sectorB n a X Y = true := by
  obtain ⟨x0, y0⟩ := quad_at h
  obtain ⟨m, hm⟩ : ∃ m : Nat, n = m := ⟨n.toNat, by omega⟩
  obtain ⟨k, hk, h1, h2⟩ := step_down (fun k => aheadB n k (rotN X Y (quad X Y)).1 (rotN X Y (quad X Y)).2) m (by simpa using ahead_zero x0) (by rw [← hm]; exact ahead_end hn y0)
  have := sector_of (X := X) (Y := Y) hn (show 0 ≤ (k : Int) by omega) (by omega) h1 (by simpa using h2)
  exact ⟨_, this.2.1, this.2.2, this.1⟩

/-- The ray in whose sector a vector is. -/
def rayZ (n X Y : Int) : Int := match (List.range (4 * n).toNat).find? (fun a : Nat => sectorB n a X Y) with | some a => a | none => 0
theorem ray_is {n a X Y : Int} (hn : 1 ≤ n) (a0 : 0 ≤ a) (a1 : a < 4 * n) (ha : sectorB n a X Y = true) : rayZ n X Y = a := by
  unfold rayZ
  obtain ⟨m, rfl⟩ : ∃ m : Nat, a = m := ⟨a.toNat, by omega⟩
  cases h : (List.range (4 * n).toNat).find? (fun a : Nat => sectorB n a X Y) with
  | none =>
    have := List.find?_eq_none.1 h m (List.mem_range.2 (by omega))
    exact absurd ha this
  | some b =>
    have h1 := List.find?_some h
    have h2 := List.mem_range.1 (List.mem_of_find?_eq_some h)
    show (b : Int) = m
    exact sector_uniq hn (by omega) (by omega) a0 a1 h1 ha
theorem ray_spec {n X Y : Int} (hn : 1 ≤ n) (h : ¬ (X = 0 ∧ Y = 0)) : 0 ≤ rayZ n X Y ∧ rayZ n X Y < 4 * n ∧ sectorB n (rayZ n X Y) X Y = true := by
  obtain ⟨a, a0, a1, ha⟩ := sector_ex hn h
  rw [ray_is hn a0 a1 ha]
  exact ⟨a0, a1, ha⟩

/-! ### Gates -/
def bord (st t j : Int) : Int := j * st * (262144 - t * t) / (262144 + t * t)
theorem bord_nonneg {st t j : Int} (h1 : 0 ≤ st) (h2 : 0 ≤ t) (h3 : t ≤ 256) (h4 : 0 ≤ j) : 0 ≤ bord st t j := by
  obtain ⟨a, b⟩ := tilt_bd (show -8 ≤ t by omega) (show t ≤ 264 by omega)
  exact Int.ediv_nonneg (Int.mul_nonneg (Int.mul_nonneg h4 h1) (by omega)) (by omega)
theorem bord_bd {st t j : Int} (h1 : 0 ≤ st) (h1' : st ≤ 2000) (h2 : 0 ≤ t) (h3 : t ≤ 256) (h4 : 0 ≤ j) (h5 : j ≤ 200) : 0 ≤ j * st ∧ j * st ≤ 400000 ∧ 0 ≤ j * st * (262144 - t * t) ∧ j * st * (262144 - t * t) ≤ 104857600000 ∧ 0 ≤ bord st t j ∧ bord st t j ≤ 400000 := by
  obtain ⟨a, b⟩ := tilt_bd (show -8 ≤ t by omega) (show t ≤ 264 by omega)
  obtain ⟨c1, c2⟩ := mul_bdB (a := j) (b := st) (A := 200) (B := 2000) h4 h5 h1 h1'
  obtain ⟨d1, d2⟩ := mul_bdB (a := j * st) (b := 262144 - t * t) (A := 400000) (B := 262144) c1 (by omega) (by omega) (by omega)
  refine ⟨c1, by omega, d1, by omega, bord_nonneg h1 h2 h3 h4, ?_⟩
  unfold bord
  have hm : j * st * (262144 - t * t) ≤ 400000 * (262144 + t * t) := Int.mul_le_mul (by omega) (by omega) (by omega) (by omega)
  have : j * st * (262144 - t * t) / (262144 + t * t) < 400000 + 1 := Int.ediv_lt_of_lt_mul (by omega) (by rw [Int.add_mul]; omega)
  omega
/-- Whether a distance with this square is between the borders of a gate. -/
def gateB (st t w j : Int) : Bool := decide (bord st t j * bord st t j ≤ w) && decide (w < bord st t (j + 1) * bord st t (j + 1))
/-- The gate to which a distance with this square belongs; -1: none. -/
def gateZ (st t g w : Int) : Int := match (List.range g.toNat).find? (fun j : Nat => gateB st t w j) with | some j => j | none => -1
end Go.Proofs.YtepgpihobmjbdaaGreat
namespace Go.Proofs.YtepgpihobmjbdaaGreat
open Go.RowKit

theorem within_anyQ (n lo hi : Int) (w : World) :
    Calls Tryz.prog 57 #[.int .i64 n, .int .i64 lo, .int .i64 hi] w fun e w' => e = .returned (.bool (winB n lo hi)) ∧ w = w' := by
  by_cases h1 : lo ≤ n <;> by_cases h2 : n ≤ hi
  all_goals
    go_enter Tryz.func57, Tryz.ntmps57
    go_wp2
    go_ret
    exact ⟨by simp [winB, *], rfl⟩
theorem In_anyQ (n lo hi : Int) (w : World) :
    Calls Tryz.prog 52 #[.int .i64 n, .int .i64 lo, .int .i64 hi] w fun e w' => e = .returned (.bool (winB n lo hi)) ∧ w = w' := by
  by_cases h1 : lo ≤ n <;> by_cases h2 : n ≤ hi
  all_goals
    go_enter Tryz.func52, Tryz.ntmps52
    go_wp2
    go_ret
    exact ⟨by simp [winB, *], rfl⟩
def vecV (v : Vec) : Value := .agg #[.int .i64 v.x, .int .i64 v.y, .int .i64 v.l]
def vecE (r : Vec × Int) : Value := .tuple #[.int .i64 r.1.x, .int .i64 r.1.y, .int .i64 r.1.l, .int .i64 r.2]

set_option maxHeartbeats 1000000 in
set_option maxRecDepth 100000 in
theorem direction_any (rose a : Int) (w : World) (h1 : 1 ≤ rose) (h2 : rose ≤ 180) (h3 : 0 ≤ a) (h4 : a ≤ 4 * rose - 1) :
    Calls Tryz.prog 102 #[.int .i64 rose, .int .i64 a] w fun e w' => e = .returned (vecV (dirV rose a)) ∧ Below w.heap.size w w' := by
  obtain ⟨hq, k1, k2, p1, p2, r1, r2, s1, s2⟩ := dir_bd h1 h2 h3 h4
  have hV : dirV rose a = quarter (a / rose) (2 * rose * (a % rose)) (rose * rose - a % rose * (a % rose)) (rose * rose + a % rose * (a % rose)) := rfl
  generalize dirV rose a = v at *
  rcases hq with hq | hq | hq | hq
  all_goals
    rw [hq] at hV
    have HV := hide hV
    clear hV
    go_enter Tryz.func102, Tryz.ntmps102
    go_wp2
    refine bodyPost_ret (v := vecV v) (by rw [HV.out]; simp [quarter, vecV, results, Tryz.results102, go_sem]) rfl ⟨rfl, ?_⟩
    repeat (first | exact Below.refl _ _ | (refine Below.setCell ?_ (by first | omega | (simp; done) | (simp; omega)) _) | (refine Below.alloc ?_ (by first | omega | (simp; done) | (simp; omega)) _) | (refine below_drewN ?_ _))

set_option maxHeartbeats 1000000 in
set_option maxRecDepth 100000 in
theorem slantOf_any (t : Int) (w : World) (h1 : -8 ≤ t) (h2 : t ≤ 264) :
    Calls Tryz.prog 93 #[.int .i64 t] w fun e w' => e = .returned (vecV (slantV t)) ∧ Below w.heap.size w w' := by
  obtain ⟨a1, a2⟩ := tilt_bd h1 h2
  go_enter Tryz.func93, Tryz.ntmps93
  go_wp2
  refine bodyPost_ret (v := vecV (slantV t)) (by simp [slantV, vecV, results, Tryz.results93, go_sem]) rfl ⟨rfl, ?_⟩
  repeat (first | exact Below.refl _ _ | (refine Below.setCell ?_ (by first | omega | (simp; done) | (simp; omega)) _) | (refine Below.alloc ?_ (by first | omega | (simp; done) | (simp; omega)) _) | (refine below_drewN ?_ _))

set_option maxHeartbeats 2000000 in
set_option maxRecDepth 100000 in
theorem RefDirection_any (rose a : Int) (w : World) :
    Calls Tryz.prog 96 #[.int .i64 rose, .int .i64 a] w fun e w' => e = .returned (vecE (dirR rose a)) ∧ w = w' := by
  have hR : dirR rose a = if okD rose a = true then (dirV rose a, 0) else (⟨0, 0, 0⟩, 3) := rfl
  have hK : okD rose a = (winB rose 1 180 && winB a 0 (4 * rose - 1)) := rfl
  generalize dirR rose a = r at *
  by_cases g1 : winB rose 1 180 = true
  · obtain ⟨a1, a2⟩ := winB_iff.1 g1
    by_cases g2 : winB a 0 (4 * rose - 1) = true
    · obtain ⟨b1, b2⟩ := winB_iff.1 g2
      rw [if_pos (by rw [hK, g1, g2]; rfl)] at hR
      obtain ⟨hq, k1, k2, p1, p2, r1, r2, s1, s2⟩ := dir_bd a1 a2 b1 b2
      have hV : dirV rose a = quarter (a / rose) (2 * rose * (a % rose)) (rose * rose - a % rose * (a % rose)) (rose * rose + a % rose * (a % rose)) := rfl
      rw [hV] at hR
      clear hV
      rcases hq with hq | hq | hq | hq
      all_goals
        rw [hq] at hR
        have HR := hide hR
        clear hR hK
        go_enter Tryz.func96, Tryz.ntmps96
        go_wp2_with fail
        refine (In_anyQ _ _ _ _).mono ?_
        rintro e w' ⟨rfl, rfl⟩
        rw [g1]
        go_wp2_with fail
        refine (In_anyQ _ _ _ _).mono ?_
        rintro e w' ⟨rfl, rfl⟩
        rw [g2]
        go_wp2
        refine bodyPost_ret (v := vecE r) (by rw [HR.out]; simp [quarter, vecE, results, Tryz.results96, go_sem]) rfl ⟨rfl, rfl⟩
    · have g3 : winB a 0 (4 * rose - 1) = false := by simpa using g2
      rw [if_neg (by rw [hK, g3]; simp)] at hR
      have HR := hide hR
      clear hR hK g2
      go_enter Tryz.func96, Tryz.ntmps96
      go_wp2_with fail
      refine (In_anyQ _ _ _ _).mono ?_
      rintro e w' ⟨rfl, rfl⟩
      rw [g1]
      go_wp2_with fail
      refine (In_anyQ _ _ _ _).mono ?_
      rintro e w' ⟨rfl, rfl⟩
      rw [g3]
      go_wp2
      refine bodyPost_ret (v := vecE r) (by rw [HR.out]; simp [vecE, results, Tryz.results96, go_sem]) rfl ⟨rfl, rfl⟩
  · have g3 : winB rose 1 180 = false := by simpa using g1
    rw [if_neg (by rw [hK, g3]; simp)] at hR
    have HR := hide hR
    clear hR hK g1
    go_enter Tryz.func96, Tryz.ntmps96
    go_wp2_with fail
    refine (In_anyQ _ _ _ _).mono ?_
    rintro e w' ⟨rfl, rfl⟩
    rw [g3]
    go_wp2
    refine bodyPost_ret (v := vecE r) (by rw [HR.out]; simp [vecE, results, Tryz.results96, go_sem]) rfl ⟨rfl, rfl⟩

set_option maxRecDepth 100000 in
theorem RefSlant_any (t : Int) (w : World) :
    Calls Tryz.prog 81 #[.int .i64 t] w fun e w' => e = .returned (vecE (slantR t)) ∧ w = w' := by
  have hR : slantR t = if winB t (-8) 264 = true then (slantV t, 0) else (⟨0, 0, 0⟩, 3) := rfl
  generalize slantR t = r at *
  by_cases g1 : winB t (-8) 264 = true
  · obtain ⟨a1, a2⟩ := winB_iff.1 g1
    obtain ⟨t1, t2⟩ := tilt_bd a1 a2
    rw [if_pos g1] at hR
    have HR := hide hR
    clear hR
    go_enter Tryz.func81, Tryz.ntmps81
    go_wp2_with fail
    refine (In_anyQ _ _ _ _).mono ?_
    rintro e w' ⟨rfl, rfl⟩
    rw [g1]
    go_wp2
    refine bodyPost_ret (v := vecE r) (by rw [HR.out]; simp [slantV, vecE, results, Tryz.results81, go_sem]) rfl ⟨rfl, rfl⟩
  · have g3 : winB t (-8) 264 = false := by simpa using g1
    rw [if_neg g1] at hR
    have HR := hide hR
    clear hR g1
    go_enter Tryz.func81, Tryz.ntmps81
    go_wp2_with fail
    refine (In_anyQ _ _ _ _).mono ?_
    rintro e w' ⟨rfl, rfl⟩
    rw [g3]
    go_wp2
    refine bodyPost_ret (v := vecE r) (by rw [HR.out]; simp [vecE, results, Tryz.results81, go_sem]) rfl ⟨rfl, rfl⟩
end Go.Proofs.YtepgpihobmjbdaaGreat
namespace Go.Proofs.YtepgpihobmjbdaaGreat

theorem down_floor {a b : Int} (hb : 0 < b) : a / b = if a < a.tdiv b * b then a.tdiv b - 1 else a.tdiv b := by
  have h1 := Int.mul_tdiv_add_tmod a b
  rw [Int.mul_comm] at h1
  rw [tdiv_floor hb]
  by_cases h : Int.tmod a b < 0
  · rw [if_pos h, if_pos (by omega)]
  · rw [if_neg h, if_neg (by omega)]
theorem up_ceil {a b : Int} (hb : 0 < b) : cdiv a b = if a.tdiv b * b < a then a.tdiv b + 1 else a.tdiv b := by
  have h1 := Int.mul_tdiv_add_tmod a b
  rw [Int.mul_comm] at h1
  unfold cdiv
  rw [tdiv_floor hb, Int.neg_tdiv]
  have h2 : Int.tmod (-a) b = -Int.tmod a b := Int.neg_tmod a b
  rw [h2]
  by_cases h : 0 < Int.tmod a b
  · rw [if_pos (by omega), if_pos (by omega)]; omega
  · rw [if_neg (by omega), if_neg (by omega)]; omega
/-- Bounds of Go's quotient and its product. -/
theorem tdiv_bds {a b : Int} (hb : 1 ≤ b) (h1 : -4611686018427387903 ≤ a) (h2 : a ≤ 4611686018427387903) :
    -4611686018427387903 ≤ a.tdiv b ∧ a.tdiv b ≤ 4611686018427387903 ∧ -4611686018427387903 ≤ a.tdiv b * b ∧ a.tdiv b * b ≤ 4611686018427387903 := by
  by_cases h : 0 ≤ a
  · rw [Int.tdiv_eq_ediv_of_nonneg h]
    have a1 := Int.ediv_nonneg h (show 0 ≤ b by omega)
    have a2 := Int.ediv_le_self b h
    have a3 := Int.mul_nonneg a1 (show 0 ≤ b by omega)
    have a4 := Int.ediv_mul_le a (show b ≠ 0 by omega)
    omega
  · have e : a.tdiv b = -(-a / b) := by rw [← Int.neg_neg a, Int.neg_tdiv, Int.neg_neg, Int.tdiv_eq_ediv_of_nonneg (by omega)]
    have a1 := Int.ediv_nonneg (show 0 ≤ -a by omega) (show 0 ≤ b by omega)
    have a2 := Int.ediv_le_self b (show 0 ≤ -a by omega)
    have a3 := Int.mul_nonneg a1 (show 0 ≤ b by omega)
    have a4 := Int.ediv_mul_le (-a) (show b ≠ 0 by omega)
    rw [e, Int.neg_mul]
    omega
def siteE (nb : Bool) (x y z r g st wd : Int) : Int :=
  if nb = false then 10 else if (winB x (-1048576) 1048576 && winB y (-1048576) 1048576 && winB z 0 20000 && winB r 1 90 && winB g 1 200 && winB st 50 2000 && winB wd 0 8) = true then 0 else 3
end Go.Proofs.YtepgpihobmjbdaaGreat
namespace Go.Proofs.YtepgpihobmjbdaaGreat
open Go.RowKit

theorem downB_any (a b : Int) (w : World) (hb : 1 ≤ b) (hb2 : b ≤ 4611686018427387903) (h1 : -4611686018427387903 ≤ a) (h2 : a ≤ 4611686018427387903) :
    Calls Tryz.prog 72 #[.int .i64 a, .int .i64 b] w fun e w' => e = .returned (.int .i64 (a / b)) ∧ w = w' := by
  obtain ⟨q1, q2, q3, q4⟩ := tdiv_bds hb h1 h2
  have HE := hide (down_floor (a := a) (b := b) (by omega))
  by_cases ha : 0 ≤ a
  · have hq := Int.tdiv_eq_ediv_of_nonneg ha (b := b)
    rw [hq] at q1 q2 q3 q4 HE
    clear hq
    have hm := Int.ediv_mul_le a (show b ≠ 0 by omega)
    go_enter Tryz.func72, Tryz.ntmps72
    go_wp2
    all_goals
      go_ret
      exact ⟨ret_int (HE.out.trans (by first | exact if_pos (by assumption) | exact if_neg (by omega))).symm, rfl⟩
  · go_enter Tryz.func72, Tryz.ntmps72
    go_wp2
    all_goals
      go_ret
      exact ⟨ret_int (HE.out.trans (by first | exact if_pos (by assumption) | exact if_neg (by omega))).symm, rfl⟩
theorem upB_any (a b : Int) (w : World) (hb : 1 ≤ b) (hb2 : b ≤ 4611686018427387903) (h1 : -4611686018427387903 ≤ a) (h2 : a ≤ 4611686018427387903) :
    Calls Tryz.prog 73 #[.int .i64 a, .int .i64 b] w fun e w' => e = .returned (.int .i64 (cdiv a b)) ∧ w = w' := by
  obtain ⟨q1, q2, q3, q4⟩ := tdiv_bds hb h1 h2
  have HE := hide (up_ceil (a := a) (b := b) (by omega))
  by_cases ha : 0 ≤ a
  · have hq := Int.tdiv_eq_ediv_of_nonneg ha (b := b)
    rw [hq] at q1 q2 q3 q4 HE
    clear hq
    go_enter Tryz.func73, Tryz.ntmps73
    go_wp2
    all_goals
      go_ret
      exact ⟨ret_int (HE.out.trans (by first | exact if_pos (by assumption) | exact if_neg (by omega))).symm, rfl⟩
  · go_enter Tryz.func73, Tryz.ntmps73
    go_wp2
    all_goals
      go_ret
      exact ⟨ret_int (HE.out.trans (by first | exact if_pos (by assumption) | exact if_neg (by omega))).symm, rfl⟩

theorem Blk.site8 {w : World} {g : Nat} {t : TypeId} {a0 a1 a2 a3 a4 a5 a6 a7 : Value} (h : Blk w g t #[a0, a1, a2, a3, a4, a5, a6, a7]) : w.cell? ⟨g, 0, none⟩ = some a0 ∧ w.cell? ⟨g, 1, none⟩ = some a1 ∧ w.cell? ⟨g, 2, none⟩ = some a2 ∧ w.cell? ⟨g, 3, none⟩ = some a3 ∧ w.cell? ⟨g, 4, none⟩ = some a4 ∧ w.cell? ⟨g, 5, none⟩ = some a5 ∧ w.cell? ⟨g, 6, none⟩ = some a6 ∧ w.cell? ⟨g, 7, none⟩ = some a7 :=
  ⟨h.c 0 rfl, h.c 1 rfl, h.c 2 rfl, h.c 3 rfl, h.c 4 rfl, h.c 5 rfl, h.c 6 rfl, h.c 7 rfl⟩
set_option maxHeartbeats 2000000 in
set_option maxRecDepth 100000 in
theorem CheckSite_any (s : ByteArray) (nb : Bool) (x y z r g st wd : Int) (w : World) (hnm : ∀ W, Calls Tryz.prog 83 #[.string s] W fun e w' => e = .returned (.bool nb) ∧ Below W.heap.size W w') :
    Calls Tryz.prog 55 #[.agg #[.string s, .int .i64 x, .int .i64 y, .int .i64 z, .int .i64 r, .int .i64 g, .int .i64 st, .int .i64 wd]] w fun e w' => e = .returned (.int .i64 (siteE nb x y z r g st wd)) ∧ Below w.heap.size w w' := by
  have Hnm := hide hnm
  clear hnm
  cases nb with
  | true =>
    go_enter Tryz.func55, Tryz.ntmps55
    have HB := hide (Below.refl w.heap.size w)
    go_wp2_with fail
    refine at_world fun W hW => ?_
    have bq0 : Blk W w.heap.size 28 #[.string s, .int .i64 x, .int .i64 y, .int .i64 z, .int .i64 r, .int .i64 g, .int .i64 st, .int .i64 wd] := by rw [hW]; exact Blk.new _ _ _
    have LW : Later w W := by rw [hW]; exact ((Below.refl _ _).alloc (Nat.le_refl _) _)
    have szW : W.heap.size = w.heap.size + 1 := by rw [hW]; simp
    clear hW
    replace HB := hide (onward HB.out LW)
    have Hs := hide bq0
    clear bq0 LW szW
    refine (Hnm.out _).mono ?_
    rintro e w1 ⟨rfl, hb⟩
    replace HB := hide (onward HB.out hb)
    replace Hs := hide (blk_later Hs.out hb)
    clear hb
    obtain ⟨q0, q1, q2, q3, q4, q5, q6, q7⟩ := Hs.out.site8
    have lts := Hs.out.lt
    go_wp2_with (go_at_call 57; refine (within_anyQ _ _ _ _).mono ?_; rintro e w' ⟨rfl, rfl⟩)
    all_goals
      go_ret
      simp only [Bool.not_eq_true', Bool.not_eq_false'] at *
      refine ⟨ret_int ?_, HB.out⟩
      first | (simp [siteE, *]; done) | (exfalso; clear Hnm HB Hs q0 q1 q2 q3 q4 q5 q6 q7; simp_all; done)
  | false =>
    go_enter Tryz.func55, Tryz.ntmps55
    have HB := hide (Below.refl w.heap.size w)
    go_wp2_with fail
    refine at_world fun W hW => ?_
    have bq0 : Blk W w.heap.size 28 #[.string s, .int .i64 x, .int .i64 y, .int .i64 z, .int .i64 r, .int .i64 g, .int .i64 st, .int .i64 wd] := by rw [hW]; exact Blk.new _ _ _
    have LW : Later w W := by rw [hW]; exact ((Below.refl _ _).alloc (Nat.le_refl _) _)
    have szW : W.heap.size = w.heap.size + 1 := by rw [hW]; simp
    clear hW
    replace HB := hide (onward HB.out LW)
    have Hs := hide bq0
    clear bq0 LW szW
    refine (Hnm.out _).mono ?_
    rintro e w1 ⟨rfl, hb⟩
    replace HB := hide (onward HB.out hb)
    replace Hs := hide (blk_later Hs.out hb)
    clear hb
    go_wp2
    go_ret
    exact ⟨ret_int (by simp [siteE]), HB.out⟩
end Go.Proofs.YtepgpihobmjbdaaGreat
namespace Go.Proofs
open Go.Shelf
def Tryz.lays119_ren : Go.Shelf.Ren := ⟨fun | 119 => 109 | n => n, fun | 21 => 21 | 4 => 4 | n => n, fun | n => n⟩
theorem Tryz.lays119 : Go.Proofs.Lays.n119 Tryz.prog Tryz.lays119_ren := {
  mixed := by kernel_rfl
  f119 := Tryz.func109.trans (congrArg some (by kernel_rfl))
  t4 := Tryz.underlying4
  a4 := Tryz.isAgg4
  z4 := Tryz.sizeOf4
  v4 := Tryz.zeroValue4
  t21 := Tryz.underlying21
  a21 := Tryz.isAgg21
  z21 := Tryz.sizeOf21
  v21 := Tryz.zeroValue21 }
theorem Tryz.utf8_ValidRune (r : Int) (w : World) :
    Calls Tryz.prog 109 #[.int .i32 r] w fun e w' => e = .returned (.bool (Lib.validRune r)) ∧ w' = w := Any.utf8_ValidRune Tryz.lays119 r w
def Tryz.lays137_ren : Go.Shelf.Ren := ⟨fun | 137 => 108 | 217 => 112 | 266 => 113 | n => n, fun | 9 => 9 | 5 => 5 | 3 => 3 | n => n, fun | n => n⟩
theorem Tryz.lays137 : Go.Proofs.Lays.n137 Tryz.prog Tryz.lays137_ren := {
  mixed := by kernel_rfl
  f137 := Tryz.func108.trans (congrArg some (by kernel_rfl))
  f217 := Tryz.func112.trans (congrArg some (by kernel_rfl))
  f266 := Tryz.func113.trans (congrArg some (by kernel_rfl))
  t3 := Tryz.underlying3
  a3 := Tryz.isAgg3
  z3 := Tryz.sizeOf3
  v3 := Tryz.zeroValue3
  t5 := Tryz.underlying5
  a5 := Tryz.isAgg5
  z5 := Tryz.sizeOf5
  v5 := Tryz.zeroValue5
  t9 := Tryz.underlying9
  a9 := Tryz.isAgg9
  z9 := Tryz.sizeOf9
  v9 := Tryz.zeroValue9 }
open Go.RowKit in
theorem Tryz.strings_IndexByte (s : ByteArray) (c : Int) (w : World) :
    Calls Tryz.prog 108 #[.string s, .int .u8 c] w fun e w' => e = .returned (.int .i64 (Lib.indexByte s.data.toList c.toNat.toUInt8)) ∧ w' = w := Any.strings_IndexByte Tryz.lays137 s c w
def Tryz.lays217_ren : Go.Shelf.Ren := ⟨fun | 217 => 112 | 266 => 113 | n => n, fun | 9 => 9 | 5 => 5 | 3 => 3 | n => n, fun | n => n⟩
theorem Tryz.lays217 : Go.Proofs.Lays.n217 Tryz.prog Tryz.lays217_ren := {
  mixed := by kernel_rfl
  f217 := Tryz.func112.trans (congrArg some (by kernel_rfl))
  f266 := Tryz.func113.trans (congrArg some (by kernel_rfl))
  t3 := Tryz.underlying3
  a3 := Tryz.isAgg3
  z3 := Tryz.sizeOf3
  v3 := Tryz.zeroValue3
  t5 := Tryz.underlying5
  a5 := Tryz.isAgg5
  z5 := Tryz.sizeOf5
  v5 := Tryz.zeroValue5
  t9 := Tryz.underlying9
  a9 := Tryz.isAgg9
  z9 := Tryz.sizeOf9
  v9 := Tryz.zeroValue9 }
open Go.RowKit Go.Lib in
theorem Tryz.stringslite_IndexByte (s : ByteArray) (c : Int) (w : World) :
    Calls Tryz.prog 112 #[.string s, .int .u8 c] w fun e w' => e = .returned (.int .i64 (Lib.indexByte s.data.toList c.toNat.toUInt8)) ∧ w' = w := Any.stringslite_IndexByte Tryz.lays217 s c w
def Tryz.lays224_ren : Go.Shelf.Ren := ⟨fun | 224 => 110 | n => n, fun | 3 => 3 | n => n, fun | n => n⟩
theorem Tryz.lays224 : Go.Proofs.Lays.n224 Tryz.prog Tryz.lays224_ren := {
  mixed := by kernel_rfl
  f224 := Tryz.func110.trans (congrArg some (by kernel_rfl))
  t3 := Tryz.underlying3
  a3 := Tryz.isAgg3
  z3 := Tryz.sizeOf3
  v3 := Tryz.zeroValue3 }
open Go.RowKit Go.Lib in
theorem Tryz.bytealg_Cutover (n : Int) (h0 : 0 ≤ n) (h1 : n < 4611686018427387904) (w : World) :
    Calls Tryz.prog 110 #[.int .i64 n] w fun e w' => e = .returned (.int .i64 ((n + 16) / 8)) ∧ w' = w := Any.bytealg_Cutover Tryz.lays224 n h0 h1 w
def Tryz.lays152_ren : Go.Shelf.Ren := ⟨fun | 152 => 106 | 137 => 108 | 119 => 109 | 224 => 110 | 225 => 111 | 217 => 112 | 266 => 113 | n => n, fun | 9 => 9 | 21 => 21 | 3 => 3 | 4 => 4 | 5 => 5 | 0 => 0 | 46 => 141 | n => n, fun | n => n⟩
theorem Tryz.lays152 : Go.Proofs.Lays.n152 Tryz.prog Tryz.lays152_ren := {
  mixed := by kernel_rfl
  f119 := Tryz.func109.trans (congrArg some (by kernel_rfl))
  f137 := Tryz.func108.trans (congrArg some (by kernel_rfl))
  f152 := Tryz.func106.trans (congrArg some (by kernel_rfl))
  f217 := Tryz.func112.trans (congrArg some (by kernel_rfl))
  f224 := Tryz.func110.trans (congrArg some (by kernel_rfl))
  f225 := Tryz.func111.trans (congrArg some (by kernel_rfl))
  f266 := Tryz.func113.trans (congrArg some (by kernel_rfl))
  t0 := Tryz.underlying0
  a0 := Tryz.isAgg0
  z0 := Tryz.sizeOf0
  v0 := Tryz.zeroValue0
  t3 := Tryz.underlying3
  a3 := Tryz.isAgg3
  z3 := Tryz.sizeOf3
  v3 := Tryz.zeroValue3
  t4 := Tryz.underlying4
  a4 := Tryz.isAgg4
  z4 := Tryz.sizeOf4
  v4 := Tryz.zeroValue4
  t5 := Tryz.underlying5
  a5 := Tryz.isAgg5
  z5 := Tryz.sizeOf5
  v5 := Tryz.zeroValue5
  t9 := Tryz.underlying9
  a9 := Tryz.isAgg9
  z9 := Tryz.sizeOf9
  v9 := Tryz.zeroValue9
  t21 := Tryz.underlying21
  a21 := Tryz.isAgg21
  z21 := Tryz.sizeOf21
  v21 := Tryz.zeroValue21
  t46 := Tryz.underlying141
  a46 := Tryz.isAgg141
  z46 := Tryz.sizeOf141
  v46 := Tryz.zeroValue141 }
open Go.RowKit Go.Lib in
theorem Tryz.strings_IndexRune_ascii (s : ByteArray) (r : Int) (w : World) (h0 : 0 ≤ r) (h1 : r < 128) :
    Calls Tryz.prog 106 #[.string s, .int .i32 r] w fun e w' => e = .returned (.int .i64 (Lib.indexByte s.data.toList r.toNat.toUInt8)) ∧ w' = w := Any.strings_IndexRune_ascii Tryz.lays152 s r w h0 h1
def Tryz.lays151_ren : Go.Shelf.Ren := ⟨fun | 151 => 100 | 152 => 106 | 137 => 108 | 119 => 109 | 224 => 110 | 225 => 111 | 217 => 112 | 266 => 113 | n => n, fun | 9 => 9 | 21 => 21 | 4 => 4 | 3 => 3 | 5 => 5 | 0 => 0 | 46 => 141 | n => n, fun | n => n⟩
theorem Tryz.lays151 : Go.Proofs.Lays.n151 Tryz.prog Tryz.lays151_ren := {
  mixed := by kernel_rfl
  f119 := Tryz.func109.trans (congrArg some (by kernel_rfl))
  f137 := Tryz.func108.trans (congrArg some (by kernel_rfl))
  f151 := Tryz.func100.trans (congrArg some (by kernel_rfl))
  f152 := Tryz.func106.trans (congrArg some (by kernel_rfl))
  f217 := Tryz.func112.trans (congrArg some (by kernel_rfl))
  f224 := Tryz.func110.trans (congrArg some (by kernel_rfl))
  f225 := Tryz.func111.trans (congrArg some (by kernel_rfl))
  f266 := Tryz.func113.trans (congrArg some (by kernel_rfl))
  t0 := Tryz.underlying0
  a0 := Tryz.isAgg0
  z0 := Tryz.sizeOf0
  v0 := Tryz.zeroValue0
  t3 := Tryz.underlying3
  a3 := Tryz.isAgg3
  z3 := Tryz.sizeOf3
  v3 := Tryz.zeroValue3
  t4 := Tryz.underlying4
  a4 := Tryz.isAgg4
  z4 := Tryz.sizeOf4
  v4 := Tryz.zeroValue4
  t5 := Tryz.underlying5
  a5 := Tryz.isAgg5
  z5 := Tryz.sizeOf5
  v5 := Tryz.zeroValue5
  t9 := Tryz.underlying9
  a9 := Tryz.isAgg9
  z9 := Tryz.sizeOf9
  v9 := Tryz.zeroValue9
  t21 := Tryz.underlying21
  a21 := Tryz.isAgg21
  z21 := Tryz.sizeOf21
  v21 := Tryz.zeroValue21
  t46 := Tryz.underlying141
  a46 := Tryz.isAgg141
  z46 := Tryz.sizeOf141
  v46 := Tryz.zeroValue141 }
open Go.RowKit Go.Lib in
theorem Tryz.strings_ContainsRune_ascii (s : ByteArray) (r : Int) (w : World) (h0 : 0 ≤ r) (h1 : r < 128) :
    Calls Tryz.prog 100 #[.string s, .int .i32 r] w fun e w' => e = .returned (.bool (decide (0 ≤ Lib.indexByte s.data.toList r.toNat.toUInt8))) ∧ w' = w := Any.strings_ContainsRune_ascii Tryz.lays151 s r w h0 h1
end Go.Proofs
namespace Go.Proofs.YtepgpihobmjbdaaGreat
open Go.RowKit

theorem c_s (w : World) : Calls Tryz.prog 99 #[.int .i32 115] w fun e w' => e = .returned (.bool false) ∧ w = w' := by
  have hc := fun (W : World) => Tryz.strings_ContainsRune_ascii ⟨#[97, 98, 99, 100, 101, 102, 103, 104, 105, 106, 107, 108, 109, 110, 111, 112, 113, 114, 115, 116, 117, 118, 119, 120, 121, 122, 48, 49, 50, 51, 52, 53, 54, 55, 56, 57, 95]⟩ 115 W (by decide) (by decide)
  have hd : ∀ W : World, Calls Tryz.prog 100 #[.string ⟨#[97, 98, 99, 100, 101, 102, 103, 104, 105, 106, 107, 108, 109, 110, 111, 112, 113, 114, 115, 116, 117, 118, 119, 120, 121, 122, 48, 49, 50, 51, 52, 53, 54, 55, 56, 57, 95]⟩, .int .i32 115] W fun e w' => e = .returned (.bool true) ∧ W = w' := fun W => (hc W).mono fun e w' ⟨h1, h2⟩ => ⟨h1.trans (by rfl), h2.symm⟩
  have Hd := hide hd
  clear hc hd
  go_enter Tryz.func99, Tryz.ntmps99
  go_wp2_with fail
  refine (Hd.out _).mono ?_
  rintro e w' ⟨rfl, rfl⟩
  go_wp2
  go_ret
  exact ⟨rfl, rfl⟩
theorem idx_s (w : World) : Calls Tryz.prog 107 #[.string ⟨#[115]⟩, .func (.func 99) #[] #[], .bool true] w fun e w' => e = .returned (.int .i64 (-1)) ∧ Below w.heap.size w w' := by
  have n0 := fun ty => run_next_ascii (P := Tryz.prog) w ⟨#[115]⟩ 0 ty (by decide) (by decide)
  have n1 := fun ty => run_next_end (P := Tryz.prog) w ⟨#[115]⟩ 1 ty (by decide)
  go_enter Tryz.func107, Tryz.ntmps107
  go_wp2_with fail
  refine wp_loop_rounds 2 ?_
  rw [rounds_succ]
  go_wp2_with fail
  refine (c_s _).mono ?_
  rintro e w' ⟨rfl, rfl⟩
  go_wp2_with fail
  rw [rounds_succ]
  go_wp2
  go_ret
  refine ⟨rfl, ?_⟩
  exact (Below.refl _ _).alloc (Nat.le_refl _) _
theorem cf_s (w : World) : Calls Tryz.prog 98 #[.string ⟨#[115]⟩, .func (.func 99) #[] #[]] w fun e w' => e = .returned (.bool false) ∧ Below w.heap.size w w' := by
  have hi : ∀ W : World, Calls Tryz.prog 105 #[.string ⟨#[115]⟩, .func (.func 99) #[] #[]] W fun e w' => e = .returned (.int .i64 (-1)) ∧ Below W.heap.size W w' := fun W => by
    go_enter Tryz.func105, Tryz.ntmps105
    go_wp2_with fail
    refine (idx_s _).mono ?_
    rintro e w1 ⟨rfl, hb⟩
    go_wp2
    go_ret
    exact ⟨rfl, hb⟩
  have Hi := hide hi
  clear hi
  go_enter Tryz.func98, Tryz.ntmps98
  go_wp2_with fail
  refine (Hi.out _).mono ?_
  rintro e w1 ⟨rfl, hb⟩
  go_wp2
  go_ret
  exact ⟨rfl, hb⟩
theorem Name_s (w : World) : Calls Tryz.prog 83 #[.string ⟨#[115]⟩] w fun e w' => e = .returned (.bool true) ∧ Below w.heap.size w w' := by
  go_enter Tryz.func83, Tryz.ntmps83
  go_wp2_with fail
  refine (cf_s _).mono ?_
  rintro e w1 ⟨rfl, hb⟩
  go_wp2
  go_ret
  exact ⟨rfl, hb⟩
end Go.Proofs.YtepgpihobmjbdaaGreat
namespace Go.Proofs.YtepgpihobmjbdaaGreat
open Go.RowKit

def reachN (st gate t : Int) : Int := (2 * gate + 1) * st * (262144 - t * t)
def reachD (t : Int) : Int := 2 * (262144 + t * t)
theorem reach_bd {st gate t : Int} (h1 : -8 ≤ t) (h2 : t ≤ 264) (h3 : 0 ≤ gate) (h4 : gate ≤ 199) (h5 : 0 ≤ st) (h6 : st ≤ 2000) :
    0 ≤ t * t ∧ t * t ≤ 69696 ∧ 0 ≤ (2 * gate + 1) * st ∧ (2 * gate + 1) * st ≤ 798000 ∧ 0 ≤ (2 * gate + 1) * st * (262144 - t * t) ∧ (2 * gate + 1) * st * (262144 - t * t) ≤ 209190912000 := by
  obtain ⟨a, b⟩ := tilt_bd h1 h2
  obtain ⟨c, d⟩ := mul_bdB (a := 2 * gate + 1) (b := st) (A := 399) (B := 2000) (by omega) (by omega) h5 h6
  obtain ⟨e, f⟩ := mul_bdB (a := (2 * gate + 1) * st) (b := 262144 - t * t) (A := 798000) (B := 262144) c (by omega) (by omega) (by omega)
  exact ⟨a, b, c, by omega, e, by omega⟩
/-- A function that rounds quotients. -/
def RoundF (fid : FuncId) (f : Int → Int → Int) : Prop := ∀ (a b : Int) (W : World), 1 ≤ b → b ≤ 4611686018427387903 → -4611686018427387903 ≤ a → a ≤ 4611686018427387903 → Calls Tryz.prog fid #[.int .i64 a, .int .i64 b] W fun e w' => e = .returned (.int .i64 (f a b)) ∧ W = w'
theorem round_down : RoundF 72 (· / ·) := fun a b W h1 h2 h3 h4 => downB_any a b W h1 h2 h3 h4
theorem round_up : RoundF 73 cdiv := fun a b W h1 h2 h3 h4 => upB_any a b W h1 h2 h3 h4
def siteV (s : ByteArray) (x y z r g st wd : Int) : Value := .agg #[.string s, .int .i64 x, .int .i64 y, .int .i64 z, .int .i64 r, .int .i64 g, .int .i64 st, .int .i64 wd]

set_option maxHeartbeats 1000000 in
set_option maxRecDepth 100000 in
theorem reachDown_any (s : ByteArray) (x y z r g st wd t gate : Int) (w : World) (h1 : -8 ≤ t) (h2 : t ≤ 264) (h3 : 0 ≤ gate) (h4 : gate ≤ 199) (h5 : 0 ≤ st) (h6 : st ≤ 2000) :
    Calls Tryz.prog 94 #[siteV s x y z r g st wd, .int .i64 t, .int .i64 gate, .func (.func 72) #[] #[]] w fun e w' => e = .returned (.int .i64 (reachN st gate t / reachD t)) ∧ Below w.heap.size w w' := by
  obtain ⟨a1, a2, a3, a4, a5, a6⟩ := reach_bd h1 h2 h3 h4 h5 h6
  have hs := fun W => slantOf_any t W h1 h2
  have hr := fun W => round_down ((2 * gate + 1) * st * (262144 - t * t)) (2 * (262144 + t * t)) W (by omega) (by omega) (by omega) (by omega)
  unfold vecV slantV at hs
  simp only at hs hr
  unfold siteV reachN reachD
  have Hs := hide hs
  have Hr := hide hr
  clear hs hr
  go_enter Tryz.func94, Tryz.ntmps94
  have HB := hide (Below.refl w.heap.size w)
  go_wp2_with fail
  refine at_world fun W hW => ?_
  have bq0 : Blk W w.heap.size 28 #[.string s, .int .i64 x, .int .i64 y, .int .i64 z, .int .i64 r, .int .i64 g, .int .i64 st, .int .i64 wd] := by rw [hW]; exact Blk.new _ _ _
  have LW : Later w W := by rw [hW]; exact ((Below.refl _ _).alloc (Nat.le_refl _) _)
  have szW : W.heap.size = w.heap.size + 1 := by rw [hW]; simp
  clear hW
  replace HB := hide (onward HB.out LW)
  have Hq := hide bq0
  clear bq0 LW szW
  refine (Hs.out _).mono ?_
  rintro e w1 ⟨rfl, hb⟩
  replace HB := hide (onward HB.out hb)
  replace Hq := hide (blk_later Hq.out hb)
  clear hb
  obtain ⟨q0, q1, q2, q3, q4, q5, q6, q7⟩ := Hq.out.site8
  have lts := Hq.out.lt
  go_wp2_with fail
  refine (Hr.out _).mono ?_
  rintro e w' ⟨rfl, rfl⟩
  go_wp2
  go_ret
  refine ⟨rfl, ?_⟩
  repeat (first | exact HB.out | (refine Below.setCell ?_ (by first | omega | (simp; done) | (simp; omega)) _) | (refine Below.alloc ?_ (by first | omega | (simp; done) | (simp; omega)) _) | (refine below_drewN ?_ _))
set_option maxHeartbeats 1000000 in
set_option maxRecDepth 100000 in
theorem reachUp_any (s : ByteArray) (x y z r g st wd t gate : Int) (w : World) (h1 : -8 ≤ t) (h2 : t ≤ 264) (h3 : 0 ≤ gate) (h4 : gate ≤ 199) (h5 : 0 ≤ st) (h6 : st ≤ 2000) :
    Calls Tryz.prog 94 #[siteV s x y z r g st wd, .int .i64 t, .int .i64 gate, .func (.func 73) #[] #[]] w fun e w' => e = .returned (.int .i64 (cdiv (reachN st gate t) (reachD t))) ∧ Below w.heap.size w w' := by
  obtain ⟨a1, a2, a3, a4, a5, a6⟩ := reach_bd h1 h2 h3 h4 h5 h6
  have hs := fun W => slantOf_any t W h1 h2
  have hr := fun W => round_up ((2 * gate + 1) * st * (262144 - t * t)) (2 * (262144 + t * t)) W (by omega) (by omega) (by omega) (by omega)
  unfold vecV slantV at hs
  simp only at hs hr
  unfold siteV reachN reachD
  have Hs := hide hs
  have Hr := hide hr
  clear hs hr
  go_enter Tryz.func94, Tryz.ntmps94
  have HB := hide (Below.refl w.heap.size w)
  go_wp2_with fail
  refine at_world fun W hW => ?_
  have bq0 : Blk W w.heap.size 28 #[.string s, .int .i64 x, .int .i64 y, .int .i64 z, .int .i64 r, .int .i64 g, .int .i64 st, .int .i64 wd] := by rw [hW]; exact Blk.new _ _ _
  have LW : Later w W := by rw [hW]; exact ((Below.refl _ _).alloc (Nat.le_refl _) _)
  have szW : W.heap.size = w.heap.size + 1 := by rw [hW]; simp
  clear hW
  replace HB := hide (onward HB.out LW)
  have Hq := hide bq0
  clear bq0 LW szW
  refine (Hs.out _).mono ?_
  rintro e w1 ⟨rfl, hb⟩
  replace HB := hide (onward HB.out hb)
  replace Hq := hide (blk_later Hq.out hb)
  clear hb
  obtain ⟨q0, q1, q2, q3, q4, q5, q6, q7⟩ := Hq.out.site8
  have lts := Hq.out.lt
  go_wp2_with fail
  refine (Hr.out _).mono ?_
  rintro e w' ⟨rfl, rfl⟩
  go_wp2
  go_ret
  refine ⟨rfl, ?_⟩
  repeat (first | exact HB.out | (refine Below.setCell ?_ (by first | omega | (simp; done) | (simp; omega)) _) | (refine Below.alloc ?_ (by first | omega | (simp; done) | (simp; omega)) _) | (refine below_drewN ?_ _))

/-- What Ground answers. -/
def groundR (e t gate g st : Int) : (Int × Int) × Int :=
  if e ≠ 0 then ((0, 0), e) else if (winB t 0 256 && winB gate 0 (g - 1)) = true then ((reachN st gate t / reachD t, cdiv (reachN st gate t) (reachD t)), 0) else ((0, 0), 3)
theorem siteE_ok {nb : Bool} {x y z r g st wd : Int} (h : siteE nb x y z r g st wd = 0) : nb = true ∧ -1048576 ≤ x ∧ x ≤ 1048576 ∧ -1048576 ≤ y ∧ y ≤ 1048576 ∧ 0 ≤ z ∧ z ≤ 20000 ∧ 1 ≤ r ∧ r ≤ 90 ∧ 1 ≤ g ∧ g ≤ 200 ∧ 50 ≤ st ∧ st ≤ 2000 ∧ 0 ≤ wd ∧ wd ≤ 8 := by
  unfold siteE at h
  split at h
  · omega
  · split at h
    · rename_i h1 h2
      simp only [Bool.and_eq_true, winB_iff] at h2
      cases nb
      · exact absurd rfl h1
      · exact ⟨rfl, by omega⟩
    · omega

end Go.Proofs.YtepgpihobmjbdaaGreat
namespace Go.Proofs.YtepgpihobmjbdaaGreat
open Go Go.RowKit

/-- A product within bounds. -/
theorem prod_bdQ {a b A B : Int} (hA : 0 ≤ A) (_hB : 0 ≤ B) (ha : -A ≤ a ∧ a ≤ A) (hb : -B ≤ b ∧ b ≤ B) : -(A * B) ≤ a * b ∧ a * b ≤ A * B := by
  have key : ∀ u v : Int, 0 ≤ u → u ≤ A → 0 ≤ v → v ≤ B → 0 ≤ u * v ∧ u * v ≤ A * B := fun u v a0 a1 b0 b1 => ⟨Int.mul_nonneg a0 b0, Int.mul_le_mul a1 b1 b0 hA⟩
  by_cases h1 : 0 ≤ a <;> by_cases h2 : 0 ≤ b
  · have := key a b h1 ha.2 h2 hb.2; omega
  · have := key a (-b) h1 ha.2 (by omega) (by omega); rw [Int.mul_neg] at this; omega
  · have := key (-a) b (by omega) (by omega) h2 hb.2; rw [Int.neg_mul] at this; omega
  · have := key (-a) (-b) (by omega) (by omega) (by omega) (by omega); rw [Int.neg_mul_neg] at this; omega
end Go.Proofs.YtepgpihobmjbdaaGreat
namespace Go.Proofs.YtepgpihobmjbdaaGreat

theorem q_bd {a b C : Int} (hb : 1 ≤ b) (h1 : -C ≤ a) (h2 : a ≤ C) (hC : 0 ≤ C) : -C ≤ a / b ∧ a / b ≤ C ∧ -C ≤ cdiv a b ∧ cdiv a b ≤ C := by
  have e := fun x : Int => Int.le_ediv_iff_mul_le (a := x) (b := a) (c := b) (by omega)
  have m : C ≤ C * b := by have := Int.mul_le_mul_of_nonneg_left hb hC; omega
  have l1 : -C ≤ a / b := (e (-C)).2 (by rw [Int.neg_mul]; omega)
  have l2 : a / b ≤ C := by
    have : a / b < C + 1 := Int.ediv_lt_of_lt_mul (by omega) (by rw [Int.add_mul]; omega)
    omega
  have l3 : -C ≤ -a / b := (Int.le_ediv_iff_mul_le (by omega)).2 (by rw [Int.neg_mul]; omega)
  have l4 : -a / b ≤ C := by
    have : -a / b < C + 1 := Int.ediv_lt_of_lt_mul (by omega) (by rw [Int.add_mul]; omega)
    omega
  unfold cdiv
  omega
def sineN (st gate t : Int) : Int := (2 * gate + 1) * st * (1024 * t)
theorem sine_bd {st gate t : Int} (h1 : -8 ≤ t) (h2 : t ≤ 264) (h3 : 0 ≤ (2 * gate + 1) * st) (h4 : (2 * gate + 1) * st ≤ 798000) : -215728128000 ≤ (2 * gate + 1) * st * (1024 * t) ∧ (2 * gate + 1) * st * (1024 * t) ≤ 215728128000 := by
  generalize (2 * gate + 1) * st = a at *
  have a1 : a * (1024 * t) ≤ a * 270336 := Int.mul_le_mul_of_nonneg_left (by omega) h3
  have a2 : a * (-8192) ≤ a * (1024 * t) := Int.mul_le_mul_of_nonneg_left (by omega) h3
  omega
/-- A ground range, rounded down and up. -/
def rD (st gate t : Int) : Int := reachN st gate t / reachD t
def rU (st gate t : Int) : Int := cdiv (reachN st gate t) (reachD t)
theorem r_bd {st gate t : Int} (h1 : -8 ≤ t) (h2 : t ≤ 264) (h3 : 0 ≤ gate) (h4 : gate ≤ 199) (h5 : 0 ≤ st) (h6 : st ≤ 2000) : 0 ≤ rD st gate t ∧ rD st gate t ≤ 400000 ∧ 0 ≤ rU st gate t ∧ rU st gate t ≤ 400000 ∧ rD st gate t ≤ rU st gate t := by
  obtain ⟨a1, a2, a3, a4, a5, a6⟩ := reach_bd h1 h2 h3 h4 h5 h6
  unfold rD rU reachN reachD
  have hd : 524288 ≤ 2 * (262144 + t * t) := by omega
  rw [cdiv_eq (by omega)]
  generalize 2 * (262144 + t * t) = d at *
  generalize (2 * gate + 1) * st * (262144 - t * t) = n at *
  have hm : 400000 * 524288 ≤ 400000 * d := Int.mul_le_mul_of_nonneg_left hd (by omega)
  refine ⟨Int.ediv_nonneg a5 (by omega), ?_, Int.ediv_nonneg (by omega) (by omega), ?_, Int.ediv_le_ediv (by omega) (by omega)⟩
  · have : n / d < 400000 + 1 := Int.ediv_lt_of_lt_mul (by omega) (by rw [Int.add_mul]; omega)
    omega
  · have : (n + d - 1) / d < 400000 + 1 := Int.ediv_lt_of_lt_mul (by omega) (by rw [Int.add_mul]; omega)
    omega
theorem sq_bd {r : Int} (h : 0 ≤ r) (h2 : r ≤ 400000) : 0 ≤ r * r ∧ r * r ≤ 160000000000 := by
  obtain ⟨a, b⟩ := mul_bdB h h2 h h2
  exact ⟨a, by omega⟩
def riseD (z st gate t e : Int) : Int := z + sineN st gate t / reachD t + rD st gate t * rD st gate t / (2 * e)
def riseU (z st gate t e : Int) : Int := z + cdiv (sineN st gate t) (reachD t) + cdiv (rU st gate t * rU st gate t) (2 * e)
def okE (lo hi : Int) : Bool := decide (1000000 ≤ lo ∧ lo ≤ hi ∧ hi ≤ 100000000)
theorem okE_iff {lo hi : Int} (h : okE lo hi = true) : 1000000 ≤ lo ∧ lo ≤ hi ∧ hi ≤ 100000000 := of_decide_eq_true h
/-- What Height and Band answer. -/
def heightR (e t gate z g st elo ehi : Int) : (Int × Int) × Int :=
  if e ≠ 0 then ((0, 0), e) else if (winB t (-8) 264 && okE elo ehi && winB gate 0 (g - 1)) = true then ((riseD z st gate t ehi, riseU z st gate t elo), 0) else ((0, 0), 3)
def bandR (e t gate z g st wd elo ehi : Int) : (Int × Int) × Int :=
  if e ≠ 0 then ((0, 0), e) else if (winB t 0 256 && okE elo ehi && winB gate 0 (g - 1)) = true then ((riseD z st gate (t - wd) ehi, riseU z st gate (t + wd) elo), 0) else ((0, 0), 3)
end Go.Proofs.YtepgpihobmjbdaaGreat
namespace Go.Proofs.YtepgpihobmjbdaaGreat
open Go.RowKit


end Go.Proofs.YtepgpihobmjbdaaGreat
namespace Go.Proofs.YtepgpihobmjbdaaGreat
open Go

/-- The bytes of names. -/
def isAl (n : Nat) : Bool := (decide (97 ≤ n) && decide (n ≤ 122)) || (decide (48 ≤ n) && decide (n ≤ 57)) || decide (n = 95)
def alphaA : ByteArray := ⟨#[97, 98, 99, 100, 101, 102, 103, 104, 105, 106, 107, 108, 109, 110, 111, 112, 113, 114, 115, 116, 117, 118, 119, 120, 121, 122, 48, 49, 50, 51, 52, 53, 54, 55, 56, 57, 95]⟩
theorem index_al : ∀ c : Fin 128, decide (0 ≤ Lib.indexByte alphaA.data.toList ((c.val : Int).toNat.toUInt8)) = isAl c.val := by decide +kernel
theorem index_al' {c : Nat} (h : c < 128) : decide (0 ≤ Lib.indexByte alphaA.data.toList ((c : Int).toNat.toUInt8)) = isAl c := index_al ⟨c, h⟩
theorem al_ascii : ∀ b ∈ alphaA.data.toList, b.toNat < 128 := by decide +kernel
theorem isAl_lt {n : Nat} (h : isAl n = true) : n < 128 := by
  unfold isAl at h
  simp only [Bool.or_eq_true, Bool.and_eq_true, decide_eq_true_eq] at h
  omega
theorem indexByte_no : ∀ {l : List UInt8} {c : UInt8}, (∀ b ∈ l, b ≠ c) → Lib.indexByte l c = -1
  | [], _, _ => rfl
  | b :: l, c, h => by
    have ih := indexByte_no (l := l) (c := c) (fun x hx => h x (List.mem_cons_of_mem _ hx))
    have hb := h b (List.mem_cons_self ..)
    unfold Lib.indexByte
    rw [if_neg (by simpa using hb), if_pos (by rw [ih]; rfl)]
/-- What a rune beyond ASCII is written as. -/
theorem encode_far {c : Int} (h : 128 ≤ c) : ∃ n : Nat, (Utf8.encode c).size = n + 2 ∧ n ≤ 2 ∧ ∃ u : UInt8, (Utf8.encode c)[n + 1]? = some u ∧ 128 ≤ u.toNat := by
  unfold Utf8.encode
  have hc : 128 ≤ (if Utf8.valid c = true then c.toNat else Utf8.runeError) := by
    split
    · omega
    · decide
  generalize (if Utf8.valid c = true then c.toNat else Utf8.runeError) = d at *
  have hu : 128 ≤ (UInt8.ofNat (0x80 + d % 64)).toNat := by
    rw [UInt8.toNat_ofNat']; omega
  simp only
  rw [if_neg (by omega)]
  split
  · exact ⟨0, rfl, by omega, _, rfl, hu⟩
  · split
    · exact ⟨1, rfl, by omega, _, rfl, hu⟩
    · exact ⟨2, rfl, by omega, _, rfl, hu⟩
/-- A byte beyond ASCII never begins an ASCII rune. -/
theorem decode_far (s : ByteArray) (pos : Nat) (h : pos < s.size) (hb : 128 ≤ (s[pos]'h).toNat) : 128 ≤ (Utf8.decode s pos).1 := by
  have e : s.get! (pos + 0) = s[pos]'h := by
    show s.get! pos = _
    simp [ByteArray.get!, getElem!_pos, h]
    rfl
  unfold Utf8.decode
  simp only [e]
  rw [if_neg (by omega)]
  repeat' split
  all_goals simp_all [Utf8.runeError]
  all_goals omega
/-- Names. -/
def nameB (s : ByteArray) : Bool := decide (s.size ≠ 0) && decide (s.size ≤ 12) && decide (97 ≤ (s.data.toList.getD 0 0).toNat) && decide ((s.data.toList.getD 0 0).toNat ≤ 122) && s.data.toList.all fun b => isAl b.toNat
end Go.Proofs.YtepgpihobmjbdaaGreat
