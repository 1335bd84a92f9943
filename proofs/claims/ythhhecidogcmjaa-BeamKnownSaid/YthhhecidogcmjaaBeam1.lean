/-
  Directions and slants: the program's contracts, the reference's.
-/
import Derived.Test.YthhhecidogcmjaaProg
import Derived.Test.YthhhecidogcmjaaBeamMath
import Derived.Test.YthhhecidogcmjaaRegP
namespace Go.Proofs.Ythhhecidogcmjaa
open Go.RowKit

theorem within_any (n lo hi : Int) (w : World) :
    Calls Try.prog 56 #[.int .i64 n, .int .i64 lo, .int .i64 hi] w fun e w' => e = .returned (.bool (winB n lo hi)) ∧ w = w' := by
  by_cases h1 : lo ≤ n <;> by_cases h2 : n ≤ hi
  all_goals
    go_enter Try.func56, Try.ntmps56
    go_wp2
    go_ret
    exact ⟨by simp [winB, *], rfl⟩
theorem In_any (n lo hi : Int) (w : World) :
    Calls Try.prog 58 #[.int .i64 n, .int .i64 lo, .int .i64 hi] w fun e w' => e = .returned (.bool (winB n lo hi)) ∧ w = w' := by
  by_cases h1 : lo ≤ n <;> by_cases h2 : n ≤ hi
  all_goals
    go_enter Try.func58, Try.ntmps58
    go_wp2
    go_ret
    exact ⟨by simp [winB, *], rfl⟩
def vecV (v : Vec) : Value := .agg #[.int .i64 v.x, .int .i64 v.y, .int .i64 v.l]
def vecE (r : Vec × Int) : Value := .tuple #[.int .i64 r.1.x, .int .i64 r.1.y, .int .i64 r.1.l, .int .i64 r.2]

set_option maxHeartbeats 1000000 in
set_option maxRecDepth 100000 in
theorem direction_any (rose a : Int) (w : World) (h1 : 1 ≤ rose) (h2 : rose ≤ 180) (h3 : 0 ≤ a) (h4 : a ≤ 4 * rose - 1) :
    Calls Try.prog 57 #[.int .i64 rose, .int .i64 a] w fun e w' => e = .returned (vecV (dirV rose a)) ∧ Below w.heap.size w w' := by
  obtain ⟨hq, k1, k2, p1, p2, r1, r2, s1, s2⟩ := dir_bd h1 h2 h3 h4
  have hV : dirV rose a = quarter (a / rose) (2 * rose * (a % rose)) (rose * rose - a % rose * (a % rose)) (rose * rose + a % rose * (a % rose)) := rfl
  generalize dirV rose a = v at *
  rcases hq with hq | hq | hq | hq
  all_goals
    rw [hq] at hV
    have HV := hide hV
    clear hV
    go_enter Try.func57, Try.ntmps57
    go_wp2
    refine bodyPost_ret (v := vecV v) (by rw [HV.out]; simp [quarter, vecV, results, Try.results57, go_sem]) rfl ⟨rfl, ?_⟩
    repeat (first | exact Below.refl _ _ | (refine Below.setCell ?_ (by first | omega | (simp; done) | (simp; omega)) _) | (refine Below.alloc ?_ (by first | omega | (simp; done) | (simp; omega)) _) | (refine below_drewN ?_ _))

set_option maxHeartbeats 1000000 in
set_option maxRecDepth 100000 in
theorem slantOf_any (t : Int) (w : World) (h1 : -8 ≤ t) (h2 : t ≤ 264) :
    Calls Try.prog 59 #[.int .i64 t] w fun e w' => e = .returned (vecV (slantV t)) ∧ Below w.heap.size w w' := by
  obtain ⟨a1, a2⟩ := tilt_bd h1 h2
  go_enter Try.func59, Try.ntmps59
  go_wp2
  refine bodyPost_ret (v := vecV (slantV t)) (by simp [slantV, vecV, results, Try.results59, go_sem]) rfl ⟨rfl, ?_⟩
  repeat (first | exact Below.refl _ _ | (refine Below.setCell ?_ (by first | omega | (simp; done) | (simp; omega)) _) | (refine Below.alloc ?_ (by first | omega | (simp; done) | (simp; omega)) _) | (refine below_drewN ?_ _))

set_option maxHeartbeats 1000000 in
set_option maxRecDepth 100000 in
theorem Direction_any (rose a : Int) (w : World) :
    Calls Try.prog 14 #[.int .i64 rose, .int .i64 a] w fun e w' => e = .returned (vecE (dirR rose a)) ∧ Below w.heap.size w w' := by
  have hR : dirR rose a = if okD rose a = true then (dirV rose a, 0) else (⟨0, 0, 0⟩, 3) := rfl
  have hK : okD rose a = (winB rose 1 180 && winB a 0 (4 * rose - 1)) := rfl
  generalize dirR rose a = r at *
  by_cases g1 : winB rose 1 180 = true
  · obtain ⟨a1, a2⟩ := winB_iff.1 g1
    by_cases g2 : winB a 0 (4 * rose - 1) = true
    · obtain ⟨b1, b2⟩ := winB_iff.1 g2
      rw [if_pos (by rw [hK, g1, g2]; rfl)] at hR
      have hd := fun W => direction_any rose a W a1 a2 b1 b2
      generalize dirV rose a = v at *
      obtain ⟨x, y, l⟩ := v
      unfold vecV at hd
      simp only at hd
      have Hd := hide hd
      have HR := hide hR
      clear hR hK hd
      go_enter Try.func14, Try.ntmps14
      have HB := hide (Below.refl w.heap.size w)
      go_wp2_with fail
      refine (within_any _ _ _ _).mono ?_
      rintro e w' ⟨rfl, rfl⟩
      rw [g1]
      go_wp2_with fail
      refine (within_any _ _ _ _).mono ?_
      rintro e w' ⟨rfl, rfl⟩
      rw [g2]
      clear g1 g2
      go_wp2_with fail
      refine (Hd.out _).mono ?_
      rintro e w1 ⟨rfl, hb⟩
      replace HB := hide (onward HB.out hb)
      clear hb
      go_wp2_with fail
      refine code_world fun W hW => ?_
      have bq0 : Blk W w1.heap.size 79 #[.int .i64 x, .int .i64 y, .int .i64 l] := by rw [hW]; exact Blk.new _ _ _
      have LW : Later w1 W := by rw [hW]; exact ((Below.refl _ _).alloc (Nat.le_refl _) _)
      have szW : W.heap.size = w1.heap.size + 1 := by rw [hW]; simp
      clear hW
      replace HB := hide (onward HB.out LW)
      have Hv := hide bq0
      clear bq0 LW szW
      obtain ⟨z0, z1, z2⟩ := Hv.out.c3
      have ltz := Hv.out.lt
      apply wp_region_L (w0 := W) [[], [], [], [], [], [], [], [], [], []] [true, true, true, true, true, true, true, true, true, true] [] (fun ixq y => match ixq with  | _ => undef) (fun ixq x F wq => match ixq with  | _ => True) (fun a x => a) (by kernel_rfl) (by kernel_rfl) (fun _ => rfl) [] (by kernel_rfl)
      · intro x D hD
        have hne := hD.some
        have k0 := liftB hD z0 (by first | assumption | omega)
        have k1 := liftB hD z1 (by first | assumption | omega)
        have k2 := liftB hD z2 (by first | assumption | omega)
        simp only [takeOps, Act.put, List.setIfInBounds_toArray, List.set_cons_succ, List.set_cons_zero]
        repeat (go_big_quiet_step (fail))
        exact wpQuiet_nil rfl
      · exact fun _ h => absurd h (by simp)
      · exact trivial
      · exact trivial
      intro xx w3 F hL hlv1
      clear hlv1
      replace HB := hide (onward HB.out hL)
      replace Hv := hide (blk_later Hv.out hL)
      clear hL z0 z1 z2 ltz
      go_wp2
      refine bodyPost_ret (v := vecE r) (by rw [HR.out]; simp [vecE, results, Try.results14, go_sem]) rfl ⟨rfl, HB.out⟩
    · have g3 : winB a 0 (4 * rose - 1) = false := by simpa using g2
      rw [if_neg (by rw [hK, g3]; simp)] at hR
      have HR := hide hR
      clear hR hK g2
      go_enter Try.func14, Try.ntmps14
      go_wp2_with fail
      refine (within_any _ _ _ _).mono ?_
      rintro e w' ⟨rfl, rfl⟩
      rw [g1]
      go_wp2_with fail
      refine (within_any _ _ _ _).mono ?_
      rintro e w' ⟨rfl, rfl⟩
      rw [g3]
      go_wp2
      refine bodyPost_ret (v := vecE r) (by rw [HR.out]; simp [vecE, results, Try.results14, go_sem]) rfl ⟨rfl, Below.refl _ _⟩
  · have g3 : winB rose 1 180 = false := by simpa using g1
    rw [if_neg (by rw [hK, g3]; simp)] at hR
    have HR := hide hR
    clear hR hK g1
    go_enter Try.func14, Try.ntmps14
    go_wp2_with fail
    refine (within_any _ _ _ _).mono ?_
    rintro e w' ⟨rfl, rfl⟩
    rw [g3]
    go_wp2
    refine bodyPost_ret (v := vecE r) (by rw [HR.out]; simp [vecE, results, Try.results14, go_sem]) rfl ⟨rfl, Below.refl _ _⟩

set_option maxHeartbeats 2000000 in
set_option maxRecDepth 100000 in
theorem RefDirection_any (rose a : Int) (w : World) :
    Calls Try.prog 15 #[.int .i64 rose, .int .i64 a] w fun e w' => e = .returned (vecE (dirR rose a)) ∧ w = w' := by
  have hR : dirR rose a = if okD rose a = true then (dirV rose a, 0) else (⟨0, 0, 0⟩, 3) := rfl
  have hK : okD rose a = (winB rose 1 180 && winB a 0 (4 * rose - 1)) := rfl
  generalize dirR rose a = r at *
  by_cases g1 : winB rose 1 180 = true
  · obtain ⟨a1, a2⟩ := winB_iff.1 g1
    by_cases g2 : winB a 0 (4 * rose - 1) = true
    · obtain ⟨b1, b2⟩ := winB_iff.1 g2
      rw [if_pos (by rw [hK, g1, g2]; rfl)] at hR
      obtain ⟨hq, k1, k2, p1, p2, r1, r2, s1, s2⟩ := dir_bd a1 a2 b1 b2
      have hV : dirV rose a = quarter (a / rose) (2 * rose * (a % rose)) (rose * rose - a % rose * (a % rose)) (rose * rose + a % rose * (a % rose)) := rfl
      rw [hV] at hR
      clear hV
      rcases hq with hq | hq | hq | hq
      all_goals
        rw [hq] at hR
        have HR := hide hR
        clear hR hK
        go_enter Try.func15, Try.ntmps15
        go_wp2_with fail
        refine (In_any _ _ _ _).mono ?_
        rintro e w' ⟨rfl, rfl⟩
        rw [g1]
        go_wp2_with fail
        refine (In_any _ _ _ _).mono ?_
        rintro e w' ⟨rfl, rfl⟩
        rw [g2]
        go_wp2
        refine bodyPost_ret (v := vecE r) (by rw [HR.out]; simp [quarter, vecE, results, Try.results15, go_sem]) rfl ⟨rfl, rfl⟩
    · have g3 : winB a 0 (4 * rose - 1) = false := by simpa using g2
      rw [if_neg (by rw [hK, g3]; simp)] at hR
      have HR := hide hR
      clear hR hK g2
      go_enter Try.func15, Try.ntmps15
      go_wp2_with fail
      refine (In_any _ _ _ _).mono ?_
      rintro e w' ⟨rfl, rfl⟩
      rw [g1]
      go_wp2_with fail
      refine (In_any _ _ _ _).mono ?_
      rintro e w' ⟨rfl, rfl⟩
      rw [g3]
      go_wp2
      refine bodyPost_ret (v := vecE r) (by rw [HR.out]; simp [vecE, results, Try.results15, go_sem]) rfl ⟨rfl, rfl⟩
  · have g3 : winB rose 1 180 = false := by simpa using g1
    rw [if_neg (by rw [hK, g3]; simp)] at hR
    have HR := hide hR
    clear hR hK g1
    go_enter Try.func15, Try.ntmps15
    go_wp2_with fail
    refine (In_any _ _ _ _).mono ?_
    rintro e w' ⟨rfl, rfl⟩
    rw [g3]
    go_wp2
    refine bodyPost_ret (v := vecE r) (by rw [HR.out]; simp [vecE, results, Try.results15, go_sem]) rfl ⟨rfl, rfl⟩

set_option maxHeartbeats 1000000 in
set_option maxRecDepth 100000 in
theorem Slant_any (t : Int) (w : World) :
    Calls Try.prog 16 #[.int .i64 t] w fun e w' => e = .returned (vecE (slantR t)) ∧ Below w.heap.size w w' := by
  have hR : slantR t = if winB t (-8) 264 = true then (slantV t, 0) else (⟨0, 0, 0⟩, 3) := rfl
  generalize slantR t = r at *
  by_cases g1 : winB t (-8) 264 = true
  · obtain ⟨a1, a2⟩ := winB_iff.1 g1
    rw [if_pos g1] at hR
    have hd := fun W => slantOf_any t W a1 a2
    generalize slantV t = v at *
    obtain ⟨x, y, l⟩ := v
    unfold vecV at hd
    simp only at hd
    have Hd := hide hd
    have HR := hide hR
    clear hR hd
    go_enter Try.func16, Try.ntmps16
    have HB := hide (Below.refl w.heap.size w)
    go_wp2_with fail
    refine (within_any _ _ _ _).mono ?_
    rintro e w' ⟨rfl, rfl⟩
    rw [g1]
    clear g1
    go_wp2_with fail
    refine (Hd.out _).mono ?_
    rintro e w1 ⟨rfl, hb⟩
    replace HB := hide (onward HB.out hb)
    clear hb
    go_wp2_with fail
    refine code_world fun W hW => ?_
    have bq0 : Blk W w1.heap.size 82 #[.int .i64 x, .int .i64 y, .int .i64 l] := by rw [hW]; exact Blk.new _ _ _
    have LW : Later w1 W := by rw [hW]; exact ((Below.refl _ _).alloc (Nat.le_refl _) _)
    have szW : W.heap.size = w1.heap.size + 1 := by rw [hW]; simp
    clear hW
    replace HB := hide (onward HB.out LW)
    have Hv := hide bq0
    clear bq0 LW szW
    obtain ⟨z0, z1, z2⟩ := Hv.out.c3
    have ltz := Hv.out.lt
    apply wp_region_L (w0 := W) [[], [], [], [], [], [], [], [], [], []] [true, true, true, true, true, true, true, true, true, true] [] (fun ixq y => match ixq with  | _ => undef) (fun ixq x F wq => match ixq with  | _ => True) (fun a x => a) (by kernel_rfl) (by kernel_rfl) (fun _ => rfl) [] (by kernel_rfl)
    · intro x D hD
      have hne := hD.some
      have k0 := liftB hD z0 (by first | assumption | omega)
      have k1 := liftB hD z1 (by first | assumption | omega)
      have k2 := liftB hD z2 (by first | assumption | omega)
      simp only [takeOps, Act.put, List.setIfInBounds_toArray, List.set_cons_succ, List.set_cons_zero]
      repeat (go_big_quiet_step (fail))
      exact wpQuiet_nil rfl
    · exact fun _ h => absurd h (by simp)
    · exact trivial
    · exact trivial
    intro xx w3 F hL hlv2
    clear hlv2
    replace HB := hide (onward HB.out hL)
    replace Hv := hide (blk_later Hv.out hL)
    clear hL z0 z1 z2 ltz
    go_wp2
    refine bodyPost_ret (v := vecE r) (by rw [HR.out]; simp [vecE, results, Try.results16, go_sem]) rfl ⟨rfl, HB.out⟩
  · have g3 : winB t (-8) 264 = false := by simpa using g1
    rw [if_neg g1] at hR
    have HR := hide hR
    clear hR g1
    go_enter Try.func16, Try.ntmps16
    go_wp2_with fail
    refine (within_any _ _ _ _).mono ?_
    rintro e w' ⟨rfl, rfl⟩
    rw [g3]
    go_wp2
    refine bodyPost_ret (v := vecE r) (by rw [HR.out]; simp [vecE, results, Try.results16, go_sem]) rfl ⟨rfl, Below.refl _ _⟩
set_option maxRecDepth 100000 in
theorem RefSlant_any (t : Int) (w : World) :
    Calls Try.prog 17 #[.int .i64 t] w fun e w' => e = .returned (vecE (slantR t)) ∧ w = w' := by
  have hR : slantR t = if winB t (-8) 264 = true then (slantV t, 0) else (⟨0, 0, 0⟩, 3) := rfl
  generalize slantR t = r at *
  by_cases g1 : winB t (-8) 264 = true
  · obtain ⟨a1, a2⟩ := winB_iff.1 g1
    obtain ⟨t1, t2⟩ := tilt_bd a1 a2
    rw [if_pos g1] at hR
    have HR := hide hR
    clear hR
    go_enter Try.func17, Try.ntmps17
    go_wp2_with fail
    refine (In_any _ _ _ _).mono ?_
    rintro e w' ⟨rfl, rfl⟩
    rw [g1]
    go_wp2
    refine bodyPost_ret (v := vecE r) (by rw [HR.out]; simp [slantV, vecE, results, Try.results17, go_sem]) rfl ⟨rfl, rfl⟩
  · have g3 : winB t (-8) 264 = false := by simpa using g1
    rw [if_neg g1] at hR
    have HR := hide hR
    clear hR g1
    go_enter Try.func17, Try.ntmps17
    go_wp2_with fail
    refine (In_any _ _ _ _).mono ?_
    rintro e w' ⟨rfl, rfl⟩
    rw [g3]
    go_wp2
    refine bodyPost_ret (v := vecE r) (by rw [HR.out]; simp [vecE, results, Try.results17, go_sem]) rfl ⟨rfl, rfl⟩
end Go.Proofs.Ythhhecidogcmjaa
