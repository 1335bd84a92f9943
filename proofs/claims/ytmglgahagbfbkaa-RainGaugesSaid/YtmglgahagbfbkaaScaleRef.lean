/-
  What fell into a gauge, and the scales of a pair: the reference's contracts.
-/
import Derived.Test.YtmglgahagbfbkaaScale
namespace Go.Proofs.Ytmglgahagbfbkaa
open Go.RowKit

set_option maxHeartbeats 1000000 in
theorem RefFell_any (t s : Int) (w : World) :
    Calls Try.prog 30 #[.agg #[.int .i64 t, .int .i64 s]] w fun e w' => e = .returned (spanE (fellR t s)) ∧ Below w.heap.size w w' := by
  by_cases h1 : win t 0 1000000 = true
  · by_cases h2 : win s 1 10000 = true
    · have hk : okG t s = true := by simp [okG, h1, h2]
      obtain ⟨a1, a2, a3, a4, a5, a6, a7, a8⟩ := gauge_bd hk
      have hR : fellR t s = (fellS t s, 0) := by simp [fellR, hk]
      have HR := hide hR
      clear hR hk
      go_enter Try.func30, Try.ntmps30
      go_wp2_with (go_at_call 44; refine (In_any _ _ _ _).mono ?_; rintro e w' ⟨rfl, rfl⟩)
      all_goals
        refine bodyPost_ret (v := spanE (fellR t s)) (by rw [HR.out]; simp [spanE, fellS, results, Try.results30, go_sem]; omega) rfl ⟨rfl, ?_⟩
        repeat (first | exact Below.refl _ _ | (refine Below.setCell ?_ (by first | omega | (simp; done) | (simp; omega)) _) | (refine Below.alloc ?_ (by first | omega | (simp; done) | (simp; omega)) _) | (refine below_drewN ?_ _))
    · have h3 : win s 1 10000 = false := by simpa using h2
      have hR : fellR t s = ((0, 0), 3) := by simp [fellR, okG, h3]
      have HR := hide hR
      clear hR h2
      go_enter Try.func30, Try.ntmps30
      go_wp2_with (go_at_call 44; refine (In_any _ _ _ _).mono ?_; rintro e w' ⟨rfl, rfl⟩)
      refine bodyPost_ret (v := spanE (fellR t s)) (by rw [HR.out]; simp [spanE, results, Try.results30, go_sem]) rfl ⟨rfl, ?_⟩
      repeat (first | exact Below.refl _ _ | (refine Below.setCell ?_ (by first | omega | (simp; done) | (simp; omega)) _) | (refine Below.alloc ?_ (by first | omega | (simp; done) | (simp; omega)) _) | (refine below_drewN ?_ _))
  · have h3 : win t 0 1000000 = false := by simpa using h1
    have hR : fellR t s = ((0, 0), 3) := by simp [fellR, okG, h3]
    have HR := hide hR
    clear hR h1
    go_enter Try.func30, Try.ntmps30
    go_wp2_with (go_at_call 44; refine (In_any _ _ _ _).mono ?_; rintro e w' ⟨rfl, rfl⟩)
    refine bodyPost_ret (v := spanE (fellR t s)) (by rw [HR.out]; simp [spanE, results, Try.results30, go_sem]) rfl ⟨rfl, ?_⟩
    repeat (first | exact Below.refl _ _ | (refine Below.setCell ?_ (by first | omega | (simp; done) | (simp; omega)) _) | (refine Below.alloc ?_ (by first | omega | (simp; done) | (simp; omega)) _) | (refine below_drewN ?_ _))

set_option maxHeartbeats 2000000 in
set_option maxRecDepth 100000 in
theorem refScales_any (lo hi t s : Int) (w : World) (h : okP4 lo hi t s = true) :
    Calls Try.prog 59 #[.agg #[.int .i64 lo, .int .i64 hi, .int .i64 t, .int .i64 s]] w fun e w' => e = .returned (spanV (scR lo hi t s)) ∧ Below w.heap.size w w' := by
  obtain ⟨h1, h2, h3, h4⟩ := okP4_iff h
  have hf : ∀ W, Calls Try.prog 30 #[.agg #[.int .i64 t, .int .i64 s]] W fun e w' => e = .returned (spanE (fellS t s, 0)) ∧ Below W.heap.size W w' := fun W => by
    have := RefFell_any t s W
    simpa [fellR, h4] using this
  obtain ⟨b1, b2, b3, b4⟩ := fell_bd h4
  have hS : scR lo hi t s = (if hi = 0 ∧ 0 < (fellS t s).1 then 100001 else if 0 < hi then max 1 (cdiv (1000 * (fellS t s).1) hi) else 1, if 0 < lo then min 100000 (1000 * (fellS t s).2 / lo) else 100000) := rfl
  generalize scR lo hi t s = r at *
  generalize fellS t s = gg at *
  obtain ⟨g1, g2⟩ := gg
  simp only at hf hS b1 b2 b3 b4
  have HF := hide hf
  have HS := hide hS
  clear hf hS h h4
  go_enter Try.func59, Try.ntmps59
  go_wp2_with fail
  refine at_world fun W hW => ?_
  have bp : Blk W w.heap.size 69 #[.int .i64 lo, .int .i64 hi, .int .i64 t, .int .i64 s] := by rw [hW]; exact (Blk.new _ _ _).alloc _
  have bo : Blk W (w.heap.size + 1) 24 #[.int .i64 0, .int .i64 0] := by rw [hW]; exact blk_new_at (by simp)
  have BW : Below w.heap.size w W := by rw [hW]; exact ((Below.refl _ _).alloc (Nat.le_refl _) _).alloc (by simp) _
  clear hW
  refine (HF.out W).mono ?_
  rintro e w1 ⟨rfl, hb⟩
  have Hbp := hide (blk_later bp hb)
  have Hbo := hide (blk_later bo hb)
  have HB := hide (onward BW hb)
  clear bp bo BW hb HF
  unfold spanE
  simp only
  obtain ⟨p0, p1, p2, p3⟩ := Hbp.out.c4
  have ltp := Hbp.out.lt
  have lto := Hbo.out.lt
  have hup : 0 < hi → ∃ u, cdiv (1000 * g1) hi = u ∧ 0 ≤ u ∧ u ≤ 1000 * g1 ∧ ∀ W, Calls Try.prog 52 #[.int .i64 (1000 * g1), .int .i64 hi] W fun e w' => e = .returned (.int .i64 u) ∧ W = w' := fun hh =>
    ⟨_, rfl, (cdiv_bd' (by omega) (by omega)).1, (cdiv_bd' (by omega) (by omega)).2, fun W => Up_any _ _ _ (by omega) (by omega) (by omega) (by omega)⟩
  have Hup := hide hup
  clear hup
  by_cases c2 : 0 < lo
  · have c1 : 0 < hi := by omega
    have c5 : (hi == 0) = false := beq_eq_false_iff_ne.2 (by omega)
    obtain ⟨u, hu, hu1, hu2, hup⟩ := Hup.out c1
    obtain ⟨mx, emx⟩ : ∃ mx, (if 1 < u then u else 1) = mx := ⟨_, rfl⟩
    obtain ⟨mn, emn⟩ : ∃ mn, (if 1000 * g2 / lo < 100000 then 1000 * g2 / lo else 100000) = mn := ⟨_, rfl⟩
    have hS := HS.out
    rw [if_neg (by omega), if_pos c1, if_pos c2, hu, (max_if 1 u).trans emx, (min_if 100000 (1000 * g2 / lo)).trans emn] at hS
    have HS3 := hide hS
    have d1 := Int.ediv_nonneg (show 0 ≤ 1000 * g2 by omega) (show 0 ≤ lo by omega)
    have d2 := Int.ediv_le_self (a := 1000 * g2) lo (by omega)
    clear hS HS Hup hu
    go_wp2_with fail
    refine code_world fun W2 hW => ?_
    have b3' : Blk W2 w1.heap.size 24 #[.int .i64 g1, .int .i64 g2] := by rw [hW]; exact (Blk.new _ _ _).alloc _
    have b5' : Blk W2 (w1.heap.size + 1) 24 #[.int .i64 1, .int .i64 100000] := by rw [hW]; exact blk_new_at (by simp)
    have LW : Later w1 W2 := by rw [hW]; exact ((Below.refl _ _).alloc (Nat.le_refl _) _).alloc (by simp) _
    clear hW p0 p1 p2 p3 ltp
    have hq : w.heap.size + 1 < w1.heap.size + 1 := by omega
    have hq3 : w1.heap.size < w1.heap.size + 1 := by omega
    generalize w1.heap.size + 1 = g5 at *
    replace Hbp := hide (blk_later Hbp.out LW)
    replace Hbo := hide (blk_later Hbo.out LW)
    replace HB := hide (onward HB.out LW)
    have Hb3 := hide b3'
    have Hb5 := hide b5'
    clear b3' b5' LW lto
    obtain ⟨p0, p1, p2, p3⟩ := Hbp.out.c4
    obtain ⟨q0, q1⟩ := Hb5.out.c2
    obtain ⟨s0, s1⟩ := Hb3.out.c2
    obtain ⟨e0, e1⟩ := Hbo.out.c2
    have f0 := Hbo.out.frozen 0
    have f1 := Hbo.out.frozen 1
    have ltp := Hbp.out.lt
    have lto := Hbo.out.lt
    have lt5 := Hb5.out.lt
    have lt3 := Hb3.out.lt
    apply wp_region_F (w0 := W2) [[], [0], [], [2], [2, 3], [], [5], [5, 6], [2, 3, 4, 5, 6, 7], [0, 1, 2, 3, 4, 5, 6, 7, 8], [], [0, 1, 2, 3, 4, 5, 6, 7, 8, 9, 10]] [true, true, true, true, true, true, true, true, true, true, true, false] [false, false, false, false, false, false, false, false, false, false, false, false] [⟨11, none, [], []⟩] [(11, g5)] [11] (fun i y => match i with | 11 => undef | _ => undef) (fun i x F wq => match i with | 11 => F g5 ∧ Blk wq g5 24 #[.int .i64 1, .int .i64 mn] | _ => True) (fun a x => a) (by kernel_rfl) (by kernel_rfl) (by kernel_rfl) (fun _ => rfl) [] (by kernel_rfl) (fills_lt1 (by omega)) fills_ne1
    · intro x D hD
      have hne := hD.some
      have k0 := liftS hD p0 (by exact early_all (by first | assumption | omega) (by rfl))
      have k1 := liftS hD p1 (by exact early_all (by first | assumption | omega) (by rfl))
      have k2 := liftS hD q0 (by exact early_all (by first | assumption | omega) (by rfl))
      have k3 := liftS hD q1 (by exact early_all (by first | assumption | omega) (by rfl))
      have k4 := liftS hD s0 (by exact early_all (by first | assumption | omega) (by rfl))
      have k5 := liftS hD s1 (by exact early_all (by first | assumption | omega) (by rfl))
      simp only [takeOps, Act.put, List.setIfInBounds_toArray, List.set_cons_succ, List.set_cons_zero]
      repeat (go_big_quiet_step (fail))
      exact wpQuiet_nil rfl
    · exact fun x D hD => wpQuiet_nil rfl
    · exact fun _ h => absurd h (by simp)
    · refine ⟨?_, trivial⟩
      · exact obl_set 3 24 27 26 g5 1 _ (mn) #[.int .i64 1, .int .i64 mn] (by kernel_rfl) (fun _ => rfl) (fun _ => rfl) Hb5.out eb_fill1 (by simp [wrF]) (by kernel_rfl) (by simp) (by simp) (fun _ => rfl) (fun _ _ _ _ h1 h2 => ⟨h1, h2⟩)
    · refine ⟨?_, trivial⟩
      · exact owe_fill g5 24 (fun x => #[.int .i64 1, .int .i64 mn]) (fun _ _ _ => rfl) (fun _ _ _ => rfl)
    intro xx2 w3 F hK hlv1
    obtain ⟨fct11, -⟩ := hlv1
    replace fct11 : (F 11) g5 ∧ Blk w3 g5 24 #[.int .i64 1, .int .i64 mn] := fct11 rfl
    have hgr := grown_kept hK
    replace HB := hide (below_grown HB.out hgr HB.out.size (fun q hq => by simp at hq; omega))
    replace Hbp := hide (blk_grown Hbp.out hgr (by simp; omega))
    replace Hbo := hide (blk_grown Hbo.out hgr (by simp; omega))
    replace Hb3 := hide (blk_grown Hb3.out hgr (by simp; omega))
    replace Hb5 := hide fct11.2
    clear hgr hK fct11 p0 p1 p2 p3 q0 q1 s0 s1 e0 e1 f0 f1 ltp lto lt5 lt3
    obtain ⟨p0, p1, p2, p3⟩ := Hbp.out.c4
    obtain ⟨q0, q1⟩ := Hb5.out.c2
    obtain ⟨s0, s1⟩ := Hb3.out.c2
    obtain ⟨e0, e1⟩ := Hbo.out.c2
    have f0 := Hbo.out.frozen 0
    have f1 := Hbo.out.frozen 1
    have ltp := Hbp.out.lt
    have lto := Hbo.out.lt
    have lt5 := Hb5.out.lt
    have lt3 := Hb3.out.lt
    clear emn d1 d2
    go_wp2_with fail
    apply wp_region_F (w0 := w3) [[], [0], [], [2], [2, 3], [], [5], [5, 6], [2, 3, 4, 5, 6, 7], [0, 1, 2, 3, 4, 5, 6, 7, 8], [], [0, 1, 2, 3, 4, 5, 6, 7, 8, 9, 10]] [true, true, true, true, true, true, true, true, true, true, true, false] [false, false, false, false, false, false, false, false, false, false, false, false] [⟨11, none, [], []⟩] [(11, g5)] [11] (fun i y => match i with | 11 => undef | _ => undef) (fun i x F wq => match i with | 11 => F g5 ∧ Blk wq g5 24 #[.int .i64 mx, .int .i64 mn] | _ => True) (fun a x => a) (by kernel_rfl) (by kernel_rfl) (by kernel_rfl) (fun _ => rfl) [40] (by kernel_rfl) (fills_lt1 (by omega)) fills_ne1
    · intro x D hD
      have hne := hD.some
      have k0 := liftS hD p0 (by exact early_all (by first | assumption | omega) (by rfl))
      have k1 := liftS hD p1 (by exact early_all (by first | assumption | omega) (by rfl))
      have k2 := liftS hD q0 (by exact early_all (by first | assumption | omega) (by rfl))
      have k3 := liftS hD q1 (by exact early_all (by first | assumption | omega) (by rfl))
      have k4 := liftS hD s0 (by exact early_all (by first | assumption | omega) (by rfl))
      have k5 := liftS hD s1 (by exact early_all (by first | assumption | omega) (by rfl))
      simp only [takeOps, Act.put, List.setIfInBounds_toArray, List.set_cons_succ, List.set_cons_zero]
      repeat (go_big_quiet_step ((go_at_call 52; exact calls_same _ (hup _))))
      exact wpQuiet_nil rfl
    · exact fun x D hD => wpQuiet_nil rfl
    · intro d hd x x'
      simp only [List.mem_cons, List.not_mem_nil, or_false] at hd
      rcases hd with rfl
      all_goals rfl
    · refine ⟨?_, trivial⟩
      · exact obl_set 3 24 42 41 g5 0 _ (mx) #[.int .i64 mx, .int .i64 mn] (by kernel_rfl) (fun _ => rfl) (fun _ => rfl) Hb5.out eb_fill1 (by simp [wrF]) (by kernel_rfl) (by simp) (by simp) (fun _ => rfl) (fun _ _ _ _ h1 h2 => ⟨h1, h2⟩)
    · refine ⟨?_, trivial⟩
      · exact owe_fill g5 24 (fun x => #[.int .i64 mx, .int .i64 mn]) (fun _ _ _ => rfl) (fun _ _ _ => rfl)
    intro xx3 w4 F hK hlv2
    obtain ⟨fct11, -⟩ := hlv2
    replace fct11 : (F 11) g5 ∧ Blk w4 g5 24 #[.int .i64 mx, .int .i64 mn] := fct11 rfl
    have hgr := grown_kept hK
    replace HB := hide (below_grown HB.out hgr HB.out.size (fun q hq => by simp at hq; omega))
    replace Hbp := hide (blk_grown Hbp.out hgr (by simp; omega))
    replace Hbo := hide (blk_grown Hbo.out hgr (by simp; omega))
    replace Hb3 := hide (blk_grown Hb3.out hgr (by simp; omega))
    replace Hb5 := hide fct11.2
    clear hgr hK fct11 p0 p1 p2 p3 q0 q1 s0 s1 e0 e1 f0 f1 ltp lto lt5 lt3
    obtain ⟨p0, p1, p2, p3⟩ := Hbp.out.c4
    obtain ⟨q0, q1⟩ := Hb5.out.c2
    obtain ⟨s0, s1⟩ := Hb3.out.c2
    obtain ⟨e0, e1⟩ := Hbo.out.c2
    have f0 := Hbo.out.frozen 0
    have f1 := Hbo.out.frozen 1
    have ltp := Hbp.out.lt
    have lto := Hbo.out.lt
    have lt5 := Hb5.out.lt
    have lt3 := Hb3.out.lt
    go_wp2
    refine bodyPost_ret (v := spanV r) (by rw [HS3.out]; simp [spanV, results, Try.results59, go_sem, q0, q1, e0, e1, f0, f1, lto, lt5]) rfl ⟨rfl, ?_⟩
    repeat (first | exact HB.out | (refine Below.setCell ?_ (by first | omega | (simp; done) | (simp; omega)) _) | (refine Below.alloc ?_ (by first | omega | (simp; done) | (simp; omega)) _) | (refine below_drewN ?_ _))
  · by_cases c1 : 0 < hi
    · have c5 : (hi == 0) = false := beq_eq_false_iff_ne.2 (by omega)
      obtain ⟨u, hu, hu1, hu2, hup⟩ := Hup.out c1
      obtain ⟨mx, emx⟩ : ∃ mx, (if 1 < u then u else 1) = mx := ⟨_, rfl⟩
      have hS := HS.out
      rw [if_neg (by omega), if_pos c1, if_neg c2, hu, (max_if 1 u).trans emx] at hS
      have HS3 := hide hS
      clear hS HS Hup hu
      go_wp2_with fail
      refine code_world fun W2 hW => ?_
      have b3' : Blk W2 w1.heap.size 24 #[.int .i64 g1, .int .i64 g2] := by rw [hW]; exact (Blk.new _ _ _).alloc _
      have b5' : Blk W2 (w1.heap.size + 1) 24 #[.int .i64 1, .int .i64 100000] := by rw [hW]; exact blk_new_at (by simp)
      have LW : Later w1 W2 := by rw [hW]; exact ((Below.refl _ _).alloc (Nat.le_refl _) _).alloc (by simp) _
      clear hW p0 p1 p2 p3 ltp
      have hq : w.heap.size + 1 < w1.heap.size + 1 := by omega
      have hq3 : w1.heap.size < w1.heap.size + 1 := by omega
      generalize w1.heap.size + 1 = g5 at *
      replace Hbp := hide (blk_later Hbp.out LW)
      replace Hbo := hide (blk_later Hbo.out LW)
      replace HB := hide (onward HB.out LW)
      have Hb3 := hide b3'
      have Hb5 := hide b5'
      clear b3' b5' LW lto
      obtain ⟨p0, p1, p2, p3⟩ := Hbp.out.c4
      obtain ⟨q0, q1⟩ := Hb5.out.c2
      obtain ⟨s0, s1⟩ := Hb3.out.c2
      obtain ⟨e0, e1⟩ := Hbo.out.c2
      have f0 := Hbo.out.frozen 0
      have f1 := Hbo.out.frozen 1
      have ltp := Hbp.out.lt
      have lto := Hbo.out.lt
      have lt5 := Hb5.out.lt
      have lt3 := Hb3.out.lt
      apply wp_region_F (w0 := W2) [[], [0], [], [2], [2, 3], [], [5], [5, 6], [2, 3, 4, 5, 6, 7], [0, 1, 2, 3, 4, 5, 6, 7, 8], [], [0, 1, 2, 3, 4, 5, 6, 7, 8, 9, 10]] [true, true, true, true, true, true, true, true, true, true, true, false] [false, false, false, false, false, false, false, false, false, false, false, false] [⟨11, none, [], []⟩] [(11, g5)] [11] (fun i y => match i with | 11 => undef | _ => undef) (fun i x F wq => match i with | 11 => F g5 ∧ Blk wq g5 24 #[.int .i64 mx, .int .i64 100000] | _ => True) (fun a x => a) (by kernel_rfl) (by kernel_rfl) (by kernel_rfl) (fun _ => rfl) [40] (by kernel_rfl) (fills_lt1 (by omega)) fills_ne1
      · intro x D hD
        have hne := hD.some
        have k0 := liftS hD p0 (by exact early_all (by first | assumption | omega) (by rfl))
        have k1 := liftS hD p1 (by exact early_all (by first | assumption | omega) (by rfl))
        have k2 := liftS hD q0 (by exact early_all (by first | assumption | omega) (by rfl))
        have k3 := liftS hD q1 (by exact early_all (by first | assumption | omega) (by rfl))
        have k4 := liftS hD s0 (by exact early_all (by first | assumption | omega) (by rfl))
        have k5 := liftS hD s1 (by exact early_all (by first | assumption | omega) (by rfl))
        simp only [takeOps, Act.put, List.setIfInBounds_toArray, List.set_cons_succ, List.set_cons_zero]
        repeat (go_big_quiet_step ((go_at_call 52; exact calls_same _ (hup _))))
        exact wpQuiet_nil rfl
      · exact fun x D hD => wpQuiet_nil rfl
      · intro d hd x x'
        simp only [List.mem_cons, List.not_mem_nil, or_false] at hd
        rcases hd with rfl
        all_goals rfl
      · refine ⟨?_, trivial⟩
        · exact obl_set 3 24 42 41 g5 0 _ (mx) #[.int .i64 mx, .int .i64 100000] (by kernel_rfl) (fun _ => rfl) (fun _ => rfl) Hb5.out eb_fill1 (by simp [wrF]) (by kernel_rfl) (by simp) (by simp) (fun _ => rfl) (fun _ _ _ _ h1 h2 => ⟨h1, h2⟩)
      · refine ⟨?_, trivial⟩
        · exact owe_fill g5 24 (fun x => #[.int .i64 mx, .int .i64 100000]) (fun _ _ _ => rfl) (fun _ _ _ => rfl)
      intro xx3 w4 F hK hlv3
      obtain ⟨fct11, -⟩ := hlv3
      replace fct11 : (F 11) g5 ∧ Blk w4 g5 24 #[.int .i64 mx, .int .i64 100000] := fct11 rfl
      have hgr := grown_kept hK
      replace HB := hide (below_grown HB.out hgr HB.out.size (fun q hq => by simp at hq; omega))
      replace Hbp := hide (blk_grown Hbp.out hgr (by simp; omega))
      replace Hbo := hide (blk_grown Hbo.out hgr (by simp; omega))
      replace Hb3 := hide (blk_grown Hb3.out hgr (by simp; omega))
      replace Hb5 := hide fct11.2
      clear hgr hK fct11 p0 p1 p2 p3 q0 q1 s0 s1 e0 e1 f0 f1 ltp lto lt5 lt3
      obtain ⟨p0, p1, p2, p3⟩ := Hbp.out.c4
      obtain ⟨q0, q1⟩ := Hb5.out.c2
      obtain ⟨s0, s1⟩ := Hb3.out.c2
      obtain ⟨e0, e1⟩ := Hbo.out.c2
      have f0 := Hbo.out.frozen 0
      have f1 := Hbo.out.frozen 1
      have ltp := Hbp.out.lt
      have lto := Hbo.out.lt
      have lt5 := Hb5.out.lt
      have lt3 := Hb3.out.lt
      go_wp2
      refine bodyPost_ret (v := spanV r) (by rw [HS3.out]; simp [spanV, results, Try.results59, go_sem, q0, q1, e0, e1, f0, f1, lto, lt5]) rfl ⟨rfl, ?_⟩
      repeat (first | exact HB.out | (refine Below.setCell ?_ (by first | omega | (simp; done) | (simp; omega)) _) | (refine Below.alloc ?_ (by first | omega | (simp; done) | (simp; omega)) _) | (refine below_drewN ?_ _))
    · obtain rfl : hi = 0 := by omega
      obtain rfl : lo = 0 := by omega
      by_cases c3 : 0 < g1
      · have hS := HS.out
        rw [if_pos ⟨rfl, c3⟩, if_neg c2] at hS
        have HS3 := hide hS
        clear hS HS Hup
        obtain ⟨e0, e1⟩ := Hbo.out.c2
        have f0 := Hbo.out.frozen 0
        have f1 := Hbo.out.frozen 1
        go_wp2
        refine bodyPost_ret (v := spanV r) (by rw [HS3.out]; simp [spanV, results, Try.results59, go_sem, e0, e1, f0, f1, lto, (by omega : w.heap.size < w1.heap.size)]) rfl ⟨rfl, ?_⟩
        repeat (first | exact HB.out | (refine Below.setCell ?_ (by first | omega | (simp; done) | (simp; omega)) _) | (refine Below.alloc ?_ (by first | omega | (simp; done) | (simp; omega)) _) | (refine below_drewN ?_ _))
      · have hS := HS.out
        rw [if_neg (by omega), if_neg c1, if_neg c2] at hS
        have HS3 := hide hS
        clear hS HS Hup
        obtain ⟨e0, e1⟩ := Hbo.out.c2
        have f0 := Hbo.out.frozen 0
        have f1 := Hbo.out.frozen 1
        go_wp2
        refine bodyPost_ret (v := spanV r) (by rw [HS3.out]; simp [spanV, results, Try.results59, go_sem, e0, e1, f0, f1, lto, (by omega : w.heap.size < w1.heap.size)]) rfl ⟨rfl, ?_⟩
        repeat (first | exact HB.out | (refine Below.setCell ?_ (by first | omega | (simp; done) | (simp; omega)) _) | (refine Below.alloc ?_ (by first | omega | (simp; done) | (simp; omega)) _) | (refine below_drewN ?_ _))
end Go.Proofs.Ytmglgahagbfbkaa
