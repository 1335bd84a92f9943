/-
  Pixels and places: the reference's.
-/
import Derived.Test.YthhhecidogcmjaaPlaces2
import Derived.Test.YthhhecidogcmjaaBands
namespace Go.Proofs.Ythhhecidogcmjaa
open Go Go.RowKit

set_option maxHeartbeats 2000000 in
set_option maxRecDepth 100000 in
theorem RefPixel_any (gx gy gs wi hi x y : Int) (w : World) :
    Calls Try.prog 50 #[gridV gx gy gs wi hi, .int .i64 x, .int .i64 y] w fun e w' => e = .returned (.tuple #[.int .i64 (pixR (gridE gx gy gs wi hi) gx gy gs wi hi x y).1, .int .i64 (pixR (gridE gx gy gs wi hi) gx gy gs wi hi x y).2]) ∧ Below w.heap.size w w' := by
  have hg := fun W => RefCheckGrid_any gx gy gs wi hi W
  have hR : ∀ ge, gridE gx gy gs wi hi = ge → pixR (gridE gx gy gs wi hi) gx gy gs wi hi x y = if ge ≠ 0 then (0, ge) else if pixZ gx gy gs wi hi x y < 0 then (0, 29) else (pixZ gx gy gs wi hi x y, 0) := fun ge h => by rw [h]; rfl
  obtain ⟨ge, hge⟩ : ∃ ge, gridE gx gy gs wi hi = ge := ⟨_, rfl⟩
  replace hR := hR ge hge
  have hok := fun h : ge = 0 => gridE_ok (hge.trans h)
  generalize pixR (gridE gx gy gs wi hi) gx gy gs wi hi x y = res at *
  rw [hge] at hg
  clear hge
  obtain ⟨ra, rb⟩ := res
  simp only
  unfold gridV at *
  have Hg := hide hg
  clear hg
  by_cases h0 : ge = 0
  · subst h0
    obtain ⟨a1, a2, b1, b2, c1, c2, d1, d2, e1, e2⟩ := hok rfl
    rw [if_neg (by simp)] at hR
    obtain ⟨m1, m2⟩ := mul_bdB (a := wi) (b := gs) (A := 64) (B := 10000) (by omega) d2 (by omega) c2
    obtain ⟨n1, n2⟩ := mul_bdB (a := hi) (b := gs) (A := 64) (B := 10000) (by omega) e2 (by omega) c2
    unfold pixZ at hR
    by_cases g1 : x < gx
    · rw [if_pos (by omega)] at hR
      have hr1 := congrArg Prod.fst hR
      have hr2 := congrArg Prod.snd hR
      simp only at hr1 hr2
      clear hR
      have HR1 := hide hr1
      have HR2 := hide hr2
      clear hr1 hr2
      go_enter Try.func50, Try.ntmps50
      have HB := hide (Below.refl w.heap.size w)
      go_wp2_with fail
      refine at_world fun W hW => ?_
      have bq0 : Blk W w.heap.size 35 #[.int .i64 gx, .int .i64 gy, .int .i64 gs, .int .i64 wi, .int .i64 hi] := by rw [hW]; exact Blk.new _ _ _
      have LW : Later w W := by rw [hW]; exact ((Below.refl _ _).alloc (Nat.le_refl _) _)
      have szW : W.heap.size = w.heap.size + 1 := by rw [hW]; simp
      clear hW
      replace HB := hide (onward HB.out LW)
      have Hf := hide bq0
      clear bq0 LW szW
      refine (Hg.out _).mono ?_
      rintro e w1 ⟨rfl, hb⟩
      replace HB := hide (onward HB.out hb)
      replace Hf := hide (blk_later Hf.out hb)
      clear hb
      obtain ⟨q0, q1, q2, q3, q4⟩ := Hf.out.c5
      have ltf := Hf.out.lt
      go_wp2
      refine bodyPost_ret (v := .tuple #[.int .i64 ra, .int .i64 rb]) (by rw [HR1.out, HR2.out]; simp [results, Try.results50, go_sem]) rfl ⟨rfl, HB.out⟩
    by_cases g2 : gx + wi * gs ≤ x
    · rw [if_pos (by omega)] at hR
      have hr1 := congrArg Prod.fst hR
      have hr2 := congrArg Prod.snd hR
      simp only at hr1 hr2
      clear hR
      have HR1 := hide hr1
      have HR2 := hide hr2
      clear hr1 hr2
      go_enter Try.func50, Try.ntmps50
      have HB := hide (Below.refl w.heap.size w)
      go_wp2_with fail
      refine at_world fun W hW => ?_
      have bq0 : Blk W w.heap.size 35 #[.int .i64 gx, .int .i64 gy, .int .i64 gs, .int .i64 wi, .int .i64 hi] := by rw [hW]; exact Blk.new _ _ _
      have LW : Later w W := by rw [hW]; exact ((Below.refl _ _).alloc (Nat.le_refl _) _)
      have szW : W.heap.size = w.heap.size + 1 := by rw [hW]; simp
      clear hW
      replace HB := hide (onward HB.out LW)
      have Hf := hide bq0
      clear bq0 LW szW
      refine (Hg.out _).mono ?_
      rintro e w1 ⟨rfl, hb⟩
      replace HB := hide (onward HB.out hb)
      replace Hf := hide (blk_later Hf.out hb)
      clear hb
      obtain ⟨q0, q1, q2, q3, q4⟩ := Hf.out.c5
      have ltf := Hf.out.lt
      go_wp2
      refine bodyPost_ret (v := .tuple #[.int .i64 ra, .int .i64 rb]) (by rw [HR1.out, HR2.out]; simp [results, Try.results50, go_sem]) rfl ⟨rfl, HB.out⟩
    by_cases g3 : y < gy
    · rw [if_pos (by omega)] at hR
      have hr1 := congrArg Prod.fst hR
      have hr2 := congrArg Prod.snd hR
      simp only at hr1 hr2
      clear hR
      have HR1 := hide hr1
      have HR2 := hide hr2
      clear hr1 hr2
      go_enter Try.func50, Try.ntmps50
      have HB := hide (Below.refl w.heap.size w)
      go_wp2_with fail
      refine at_world fun W hW => ?_
      have bq0 : Blk W w.heap.size 35 #[.int .i64 gx, .int .i64 gy, .int .i64 gs, .int .i64 wi, .int .i64 hi] := by rw [hW]; exact Blk.new _ _ _
      have LW : Later w W := by rw [hW]; exact ((Below.refl _ _).alloc (Nat.le_refl _) _)
      have szW : W.heap.size = w.heap.size + 1 := by rw [hW]; simp
      clear hW
      replace HB := hide (onward HB.out LW)
      have Hf := hide bq0
      clear bq0 LW szW
      refine (Hg.out _).mono ?_
      rintro e w1 ⟨rfl, hb⟩
      replace HB := hide (onward HB.out hb)
      replace Hf := hide (blk_later Hf.out hb)
      clear hb
      obtain ⟨q0, q1, q2, q3, q4⟩ := Hf.out.c5
      have ltf := Hf.out.lt
      go_wp2
      refine bodyPost_ret (v := .tuple #[.int .i64 ra, .int .i64 rb]) (by rw [HR1.out, HR2.out]; simp [results, Try.results50, go_sem]) rfl ⟨rfl, HB.out⟩
    by_cases g4 : gy + hi * gs ≤ y
    · rw [if_pos (by omega)] at hR
      have hr1 := congrArg Prod.fst hR
      have hr2 := congrArg Prod.snd hR
      simp only at hr1 hr2
      clear hR
      have HR1 := hide hr1
      have HR2 := hide hr2
      clear hr1 hr2
      go_enter Try.func50, Try.ntmps50
      have HB := hide (Below.refl w.heap.size w)
      go_wp2_with fail
      refine at_world fun W hW => ?_
      have bq0 : Blk W w.heap.size 35 #[.int .i64 gx, .int .i64 gy, .int .i64 gs, .int .i64 wi, .int .i64 hi] := by rw [hW]; exact Blk.new _ _ _
      have LW : Later w W := by rw [hW]; exact ((Below.refl _ _).alloc (Nat.le_refl _) _)
      have szW : W.heap.size = w.heap.size + 1 := by rw [hW]; simp
      clear hW
      replace HB := hide (onward HB.out LW)
      have Hf := hide bq0
      clear bq0 LW szW
      refine (Hg.out _).mono ?_
      rintro e w1 ⟨rfl, hb⟩
      replace HB := hide (onward HB.out hb)
      replace Hf := hide (blk_later Hf.out hb)
      clear hb
      obtain ⟨q0, q1, q2, q3, q4⟩ := Hf.out.c5
      have ltf := Hf.out.lt
      go_wp2
      refine bodyPost_ret (v := .tuple #[.int .i64 ra, .int .i64 rb]) (by rw [HR1.out, HR2.out]; simp [results, Try.results50, go_sem]) rfl ⟨rfl, HB.out⟩
    obtain ⟨p1, p2⟩ := pix_bd (gx := gx) (x := x) (wi := wi) c1 (by omega) (by omega)
    obtain ⟨p3, p4⟩ := pix_bd (gx := gy) (x := y) (wi := hi) c1 (by omega) (by omega)
    obtain ⟨r1, r2⟩ := mul_bdB (a := (y - gy) / gs) (b := wi) (A := 64) (B := 64) p3 (by omega) (by omega) d2
    have c3 : gs ≠ 0 := by omega
    have c4 : 0 < gs := by omega
    have hc : ¬ (x < gx ∨ y < gy ∨ gx + wi * gs ≤ x ∨ gy + hi * gs ≤ y) := by omega
    rw [if_neg hc] at hR
    rw [if_neg (by omega)] at hR
    clear hc
    have hr1 := congrArg Prod.fst hR
    have hr2 := congrArg Prod.snd hR
    simp only at hr1 hr2
    clear hR
    have HR1 := hide hr1
    have HR2 := hide hr2
    clear hr1 hr2
    go_enter Try.func50, Try.ntmps50
    have HB := hide (Below.refl w.heap.size w)
    go_wp2_with fail
    refine at_world fun W hW => ?_
    have bq0 : Blk W w.heap.size 35 #[.int .i64 gx, .int .i64 gy, .int .i64 gs, .int .i64 wi, .int .i64 hi] := by rw [hW]; exact Blk.new _ _ _
    have LW : Later w W := by rw [hW]; exact ((Below.refl _ _).alloc (Nat.le_refl _) _)
    have szW : W.heap.size = w.heap.size + 1 := by rw [hW]; simp
    clear hW
    replace HB := hide (onward HB.out LW)
    have Hf := hide bq0
    clear bq0 LW szW
    refine (Hg.out _).mono ?_
    rintro e w1 ⟨rfl, hb⟩
    replace HB := hide (onward HB.out hb)
    replace Hf := hide (blk_later Hf.out hb)
    clear hb
    obtain ⟨q0, q1, q2, q3, q4⟩ := Hf.out.c5
    have ltf := Hf.out.lt
    go_wp2_with fail
    apply wp_region_L (w0 := w1) [[], [], [], [], [], [], [], [], [], [], [], [], [], [], [], [], [], [], [], []] [true, true, true, true, true, true, true, true, true, true, true, true, true, true, true, true, true, true, true, true] [] (fun ixq y => match ixq with  | _ => undef) (fun ixq x F wq => match ixq with  | _ => True) (fun a x => a) (by kernel_rfl) (by kernel_rfl) (fun _ => rfl) [] (by kernel_rfl)
    · intro x D hD
      have hne := hD.some
      have k0 := liftB hD q0 (by first | assumption | omega)
      have k1 := liftB hD q1 (by first | assumption | omega)
      have k2 := liftB hD q2 (by first | assumption | omega)
      have k3 := liftB hD q3 (by first | assumption | omega)
      simp only [takeOps, Act.put, List.setIfInBounds_toArray, List.set_cons_succ, List.set_cons_zero]
      repeat (go_big_quiet_step (fail))
      exact wpQuiet_nil rfl
    · exact fun _ h => absurd h (by simp)
    · exact trivial
    · exact trivial
    intro xx w2 F hL hlv1
    clear hlv1
    clear q0 q1 q2 q3 q4 ltf
    replace HB := hide (onward HB.out hL)
    replace Hf := hide (blk_later Hf.out hL)
    clear hL
    go_wp2
    refine bodyPost_ret (v := .tuple #[.int .i64 ra, .int .i64 rb]) (by rw [HR1.out, HR2.out]; simp [results, Try.results50, go_sem]) rfl ⟨rfl, HB.out⟩
  · rw [if_pos h0] at hR
    have hr1 := congrArg Prod.fst hR
    have hr2 := congrArg Prod.snd hR
    simp only at hr1 hr2
    have h00 : (ge != 0) = true := by simpa [bne] using h0
    clear hR
    have HR1 := hide hr1
    have HR2 := hide hr2
    clear hr1 hr2
    go_enter Try.func50, Try.ntmps50
    have HB := hide (Below.refl w.heap.size w)
    go_wp2_with fail
    refine at_world fun W hW => ?_
    have bq0 : Blk W w.heap.size 35 #[.int .i64 gx, .int .i64 gy, .int .i64 gs, .int .i64 wi, .int .i64 hi] := by rw [hW]; exact Blk.new _ _ _
    have LW : Later w W := by rw [hW]; exact ((Below.refl _ _).alloc (Nat.le_refl _) _)
    have szW : W.heap.size = w.heap.size + 1 := by rw [hW]; simp
    clear hW
    replace HB := hide (onward HB.out LW)
    have Hf := hide bq0
    clear bq0 LW szW
    refine (Hg.out _).mono ?_
    rintro e w1 ⟨rfl, hb⟩
    replace HB := hide (onward HB.out hb)
    replace Hf := hide (blk_later Hf.out hb)
    clear hb
    obtain ⟨q0, q1, q2, q3, q4⟩ := Hf.out.c5
    have ltf := Hf.out.lt
    go_wp2
    refine bodyPost_ret (v := .tuple #[.int .i64 ra, .int .i64 rb]) (by rw [HR1.out, HR2.out]; simp [results, Try.results50, go_sem]) rfl ⟨rfl, HB.out⟩

set_option maxHeartbeats 2000000 in
set_option maxRecDepth 100000 in
theorem RefSector_any (n a X Y : Int) (w : World) (h1 : 1 ≤ n) (h2 : n ≤ 180) (h3 : 0 ≤ a) (h4 : a < 4 * n) (hX : -6000000 ≤ X ∧ X ≤ 6000000) (hY : -6000000 ≤ Y ∧ Y ≤ 6000000) :
    Calls Try.prog 80 #[.int .i64 n, .int .i64 a, .int .i64 X, .int .i64 Y] w fun e w' => e = .returned (.bool (sectorB n a X Y)) ∧ w = w' := by
  have hd := fun W => RefDirection_any n a W
  have m0 := Int.emod_nonneg (a + 1) (show 4 * n ≠ 0 by omega)
  have m1 := Int.emod_lt_of_pos (a + 1) (show 0 < 4 * n by omega)
  have hd2 := fun W => RefDirection_any n ((a + 1) % (4 * n)) W
  have ok : ∀ b, 0 ≤ b → b < 4 * n → okD n b = true := fun b b0 b1 => by unfold okD; rw [winB_iff.2 ⟨h1, h2⟩, winB_iff.2 ⟨b0, by omega⟩]; rfl
  unfold dirR at hd hd2
  rw [if_pos (ok a h3 h4)] at hd
  rw [if_pos (ok _ m0 m1)] at hd2
  have bd1 := dirV_bd h1 h2 h3 h4
  have bd2 := dirV_bd h1 h2 m0 m1
  unfold vecE at hd hd2
  unfold sectorB
  obtain ⟨b, hb⟩ : ∃ b, (a + 1) % (4 * n) = b := ⟨_, rfl⟩
  have n0 : 4 * n ≠ 0 := by omega
  have n1 : 0 < 4 * n := by omega
  rw [hb] at hd2 bd2 m0 m1
  rw [hb]
  generalize dirV n a = u at *
  generalize dirV n b = v at *
  obtain ⟨p1, p2, p3⟩ := u
  obtain ⟨r1, r2, r3⟩ := v
  simp only at *
  obtain ⟨⟨u1, u2⟩, ⟨u3, u4⟩, -, -⟩ := bd1
  obtain ⟨⟨v1, v2⟩, ⟨v3, v4⟩, -, -⟩ := bd2
  obtain ⟨k1, k2⟩ := prod_bd (A := 64800) (B := 6000000) (by omega) (by omega) ⟨u3, u4⟩ hX
  obtain ⟨k3, k4⟩ := prod_bd (A := 64800) (B := 6000000) (by omega) (by omega) ⟨u1, u2⟩ hY
  obtain ⟨k5, k6⟩ := prod_bd (A := 6000000) (B := 64800) (by omega) (by omega) hY ⟨v1, v2⟩
  obtain ⟨k7, k8⟩ := prod_bd (A := 6000000) (B := 64800) (by omega) (by omega) hX ⟨v3, v4⟩
  clear ok
  by_cases g1 : 0 ≤ p2 * X - p1 * Y <;> by_cases g2 : 0 < Y * r1 - X * r2
  all_goals
    have g3 := g1
    have g4 := g2
    have Hd := hide hd
    have Hd2 := hide hd2
    have G3 := hide g3
    have G4 := hide g4
    clear hd hd2 g3 g4
    go_enter Try.func80, Try.ntmps80
    go_wp2_with fail
    refine (Hd.out _).mono ?_
    rintro e w' ⟨rfl, rfl⟩
    go_wp2_with fail
    refine (Hd2.out _).mono ?_
    rintro e w' ⟨rfl, rfl⟩
    go_wp2
    go_ret
    refine ⟨?_, rfl⟩
    have a3 := G3.out
    have a4 := G4.out
    simp
    omega
end Go.Proofs.Ythhhecidogcmjaa
