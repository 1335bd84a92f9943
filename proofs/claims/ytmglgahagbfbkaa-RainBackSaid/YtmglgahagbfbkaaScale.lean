/-
  The scales of a pair: rain's contract.
-/
import Derived.Test.YtmglgahagbfbkaaScaleMath
import Derived.Test.YtmglgahagbfbkaaGauge
import Derived.Test.YtmglgahagbfbkaaDivs
import Derived.Test.YtmglgahagbfbkaaRegH
namespace Go.Proofs.Ytmglgahagbfbkaa
open Go.RowKit

set_option maxHeartbeats 2000000 in
set_option maxRecDepth 100000 in
theorem scales_any (lo hi t s : Int) (w : World) (h : okP4 lo hi t s = true) :
    Calls Try.prog 58 #[.agg #[.int .i64 lo, .int .i64 hi, .int .i64 t, .int .i64 s]] w fun e w' => e = .returned (spanV (scS lo hi t s)) ∧ Below w.heap.size w w' := by
  obtain ⟨h1, h2, h3, h4⟩ := okP4_iff h
  have hf := fun W => fell_any t s W h4
  obtain ⟨b1, b2, b3, b4⟩ := fell_bd h4
  have hS : scS lo hi t s = if 0 < hi then (max 1 (cdiv (1000 * (fellS t s).1) hi), if 0 < lo then min 100000 (1000 * (fellS t s).2 / lo) else 100000) else if 0 < (fellS t s).1 then (1, 0) else (1, 100000) := rfl
  generalize scS lo hi t s = r at *
  generalize fellS t s = gg at *
  obtain ⟨g1, g2⟩ := gg
  simp only at hf hS b1 b2 b3 b4
  have HF := hide hf
  have HS := hide hS
  clear hf hS h h4
  go_enter Try.func58, Try.ntmps58
  go_wp2_with fail
  refine at_world fun W hW => ?_
  have bp : Blk W w.heap.size 66 #[.int .i64 lo, .int .i64 hi, .int .i64 t, .int .i64 s] := by rw [hW]; exact (Blk.new _ _ _).alloc _
  have bo : Blk W (w.heap.size + 1) 24 #[.int .i64 0, .int .i64 0] := by rw [hW]; exact blk_new_at (by simp)
  have BW : Below w.heap.size w W := by rw [hW]; exact ((Below.refl _ _).alloc (Nat.le_refl _) _).alloc (by simp) _
  clear hW
  refine (HF.out W).mono ?_
  rintro e w1 ⟨rfl, hb⟩
  have Hbp := hide (blk_later bp hb)
  have Hbo := hide (blk_later bo hb)
  have HB := hide (onward BW hb)
  clear bp bo BW hb HF
  unfold spanV
  simp only
  obtain ⟨p0, p1, p2, p3⟩ := Hbp.out.c4
  have ltp := Hbp.out.lt
  have lto := Hbo.out.lt
  have hw01 : w.heap.size + 1 < w1.heap.size := lto
  by_cases c1 : 0 < hi
  · have hS := HS.out
    rw [if_pos c1] at hS
    go_wp2_with fail
    refine code_world fun W2 hW => ?_
    have b3' : Blk W2 w1.heap.size 24 #[.int .i64 1, .int .i64 100000] := by rw [hW]; exact (Blk.new _ _ _).alloc _
    have b4' : Blk W2 (w1.heap.size + 1) 24 #[.int .i64 g1, .int .i64 g2] := by rw [hW]; exact blk_new_at (by simp)
    have LW : Later w1 W2 := by rw [hW]; exact ((Below.refl _ _).alloc (Nat.le_refl _) _).alloc (by simp) _
    clear hW p0 p1 p2 p3 ltp lto
    replace Hbp := hide (blk_later Hbp.out LW)
    replace Hbo := hide (blk_later Hbo.out LW)
    replace HB := hide (onward HB.out LW)
    have Hb3 := hide b3'
    have Hb4 := hide b4'
    obtain ⟨p0, p1, p2, p3⟩ := Hbp.out.c4
    obtain ⟨q0, q1⟩ := Hb3.out.c2
    obtain ⟨s0, s1⟩ := Hb4.out.c2
    have ltp := Hbp.out.lt
    have lto := Hbo.out.lt
    have lt3 := Hb3.out.lt
    have lt4 := Hb4.out.lt
    have hup : ∃ u, cdiv (1000 * g1) hi = u ∧ ∀ W, Calls Try.prog 49 #[.int .i64 (1000 * g1), .int .i64 hi] W fun e w' => e = .returned (.int .i64 u) ∧ W = w' := ⟨_, rfl, fun W => up_any _ _ _ (by omega) (by omega) (by omega) (by omega)⟩
    obtain ⟨u, hu, hup⟩ := hup
    have hu0 : 0 ≤ u ∧ u ≤ 10000000001000 := by
      have := cdiv_bd' (a := 1000 * g1) (b := hi) (by omega) (by omega)
      omega
    obtain ⟨hu1, hu2⟩ := hu0
    obtain ⟨mx, emx⟩ : ∃ mx, (if 1 < u then u else 1) = mx := ⟨_, rfl⟩
    have HM := hide ((max_if 1 u).trans emx)
    rw [hu] at hS
    have HS2 := hide hS
    clear hu hS HS b3' b4' LW
    apply wp_region_F (w0 := W2) [[], [0], [], [2], [2, 3], [], [5], [5, 6], [2, 3, 4, 5, 6, 7], [0, 1, 2, 3, 4, 5, 6, 7, 8], [], [0, 1, 2, 3, 4, 5, 6, 7, 8, 9, 10]] [true, true, true, true, true, true, true, true, true, true, true, false] [false, false, false, false, false, false, false, false, false, false, false, false] [⟨11, none, [], []⟩] [(11, w1.heap.size)] [11] (fun i y => match i with | 11 => undef | _ => undef) (fun i x F wq => match i with | 11 => F w1.heap.size ∧ Blk wq w1.heap.size 24 #[.int .i64 mx, .int .i64 100000] | _ => True) (fun a x => a) (by kernel_rfl) (by kernel_rfl) (by kernel_rfl) (fun _ => rfl) [22] (by kernel_rfl) (fills_lt1 (by omega)) fills_ne1
    · intro x D hD
      have hne := hD.some
      have k0 := liftS hD p0 (by exact early_all (by first | assumption | omega) (by rfl))
      have k1 := liftS hD p1 (by exact early_all (by first | assumption | omega) (by rfl))
      have k2 := liftS hD q0 (by exact early_all (by first | assumption | omega) (by rfl))
      have k3 := liftS hD q1 (by exact early_all (by first | assumption | omega) (by rfl))
      have k4 := liftS hD s0 (by exact early_all (by first | assumption | omega) (by rfl))
      have k5 := liftS hD s1 (by exact early_all (by first | assumption | omega) (by rfl))
      simp only [takeOps, Act.put, List.setIfInBounds_toArray, List.set_cons_succ, List.set_cons_zero]
      repeat (go_big_quiet_step ((go_at_call 49; exact calls_same _ (hup _))))
      exact wpQuiet_nil rfl
    · exact fun x D hD => wpQuiet_nil rfl
    · intro d hd x x'
      simp only [List.mem_cons, List.not_mem_nil, or_false] at hd
      rcases hd with rfl
      all_goals rfl
    · refine ⟨?_, trivial⟩
      · exact obl_set 3 24 24 23 w1.heap.size 0 _ (mx) #[.int .i64 mx, .int .i64 100000] (by kernel_rfl) (fun _ => rfl) (fun _ => rfl) Hb3.out eb_fill1 (by simp [wrF]) (by kernel_rfl) (by simp) (by simp) (fun _ => rfl) (fun _ _ _ _ h1 h2 => ⟨h1, h2⟩)
    · refine ⟨?_, trivial⟩
      · exact owe_fill w1.heap.size 24 (fun x => #[.int .i64 mx, .int .i64 100000]) (fun _ _ _ => rfl) (fun _ _ _ => rfl)
    intro xx w3 F hK hlv1
    obtain ⟨fct11, -⟩ := hlv1
    replace fct11 : (F 11) w1.heap.size ∧ Blk w3 w1.heap.size 24 #[.int .i64 mx, .int .i64 100000] := fct11 rfl
    have hgr := grown_kept hK
    have hb3 := fct11.2
    have HB3 := hide (below_grown HB.out hgr HB.out.size (fun q hq => by simp at hq; omega))
    have Hbp3 := hide (blk_grown Hbp.out hgr (by simp; omega))
    have Hbo3 := hide (blk_grown Hbo.out hgr (by simp; omega))
    have Hb43 := hide (blk_grown Hb4.out hgr (by simp))
    have Hb33 := hide hb3
    clear hgr hK fct11 hb3 p0 p1 p2 p3 q0 q1 s0 s1 ltp lto lt3 lt4 Hbp Hbo Hb3 Hb4 HB emx hup
    obtain ⟨p0, p1, p2, p3⟩ := Hbp3.out.c4
    obtain ⟨q0, q1⟩ := Hb33.out.c2
    obtain ⟨s0, s1⟩ := Hb43.out.c2
    obtain ⟨e0, e1⟩ := Hbo3.out.c2
    have f0 := Hbo3.out.frozen 0
    have f1 := Hbo3.out.frozen 1
    have ltp := Hbp3.out.lt
    have lto := Hbo3.out.lt
    have lt3 := Hb33.out.lt
    have lt4 := Hb43.out.lt
    by_cases c2 : 0 < lo
    · have hS := HS2.out
      rw [if_pos c2] at hS
      have hdn : ∃ u, 1000 * g2 / lo = u ∧ ∀ W, Calls Try.prog 48 #[.int .i64 (1000 * g2), .int .i64 lo] W fun e w' => e = .returned (.int .i64 u) ∧ W = w' := ⟨_, rfl, fun W => down_any _ _ _ (by omega) (by omega) (by omega) (by omega)⟩
      obtain ⟨v, hv, hdn⟩ := hdn
      obtain ⟨mn, emn⟩ : ∃ mn, (if v < 100000 then v else 100000) = mn := ⟨_, rfl⟩
      rw [hv, HM.out, (min_if 100000 v).trans emn] at hS
      have HS3 := hide hS
      clear hv hS HS2 HM e0 e1 f0 f1
      go_wp2_with fail
      apply wp_region_F (w0 := w3) [[], [0], [], [2], [2, 3], [], [5], [5, 6], [2, 3, 4, 5, 6, 7], [0, 1, 2, 3, 4, 5, 6, 7, 8], [], [0, 1, 2, 3, 4, 5, 6, 7, 8, 9, 10]] [true, true, true, true, true, true, true, true, true, true, true, false] [false, false, false, false, false, false, false, false, false, false, false, false] [⟨11, none, [], []⟩] [(11, w1.heap.size)] [11] (fun i y => match i with | 11 => undef | _ => undef) (fun i x F wq => match i with | 11 => F w1.heap.size ∧ Blk wq w1.heap.size 24 #[.int .i64 mx, .int .i64 mn] | _ => True) (fun a x => a) (by kernel_rfl) (by kernel_rfl) (by kernel_rfl) (fun _ => rfl) [42] (by kernel_rfl) (fills_lt1 (by omega)) fills_ne1
      · intro x D hD
        have hne := hD.some
        have k0 := liftS hD p0 (by exact early_all (by first | assumption | omega) (by rfl))
        have k1 := liftS hD p1 (by exact early_all (by first | assumption | omega) (by rfl))
        have k2 := liftS hD q0 (by exact early_all (by first | assumption | omega) (by rfl))
        have k3 := liftS hD q1 (by exact early_all (by first | assumption | omega) (by rfl))
        have k4 := liftS hD s0 (by exact early_all (by first | assumption | omega) (by rfl))
        have k5 := liftS hD s1 (by exact early_all (by first | assumption | omega) (by rfl))
        simp only [takeOps, Act.put, List.setIfInBounds_toArray, List.set_cons_succ, List.set_cons_zero]
        repeat (go_big_quiet_step ((go_at_call 48; exact calls_same _ (hdn _))))
        exact wpQuiet_nil rfl
      · exact fun x D hD => wpQuiet_nil rfl
      · intro d hd x x'
        simp only [List.mem_cons, List.not_mem_nil, or_false] at hd
        rcases hd with rfl
        all_goals rfl
      · refine ⟨?_, trivial⟩
        · exact obl_set 3 24 44 43 w1.heap.size 1 _ (mn) #[.int .i64 mx, .int .i64 mn] (by kernel_rfl) (fun _ => rfl) (fun _ => rfl) Hb33.out eb_fill1 (by simp [wrF]) (by kernel_rfl) (by simp) (by simp) (fun _ => rfl) (fun _ _ _ _ h1 h2 => ⟨h1, h2⟩)
      · refine ⟨?_, trivial⟩
        · exact owe_fill w1.heap.size 24 (fun x => #[.int .i64 mx, .int .i64 mn]) (fun _ _ _ => rfl) (fun _ _ _ => rfl)
      intro xx2 w4 F hK hlv2
      obtain ⟨fct11, -⟩ := hlv2
      replace fct11 : (F 11) w1.heap.size ∧ Blk w4 w1.heap.size 24 #[.int .i64 mx, .int .i64 mn] := fct11 rfl
      have hgr := grown_kept hK
      have hb3 := fct11.2
      have HB4 := hide (below_grown HB3.out hgr HB3.out.size (fun q hq => by simp at hq; omega))
      have Hbo4 := hide (blk_grown Hbo3.out hgr (by simp; omega))
      obtain ⟨q0, q1⟩ := hb3.c2
      obtain ⟨e0, e1⟩ := Hbo4.out.c2
      have f0 := Hbo4.out.frozen 0
      have f1 := Hbo4.out.frozen 1
      have lto4 := Hbo4.out.lt
      have lt34 := hb3.lt
      clear hgr hK fct11 hb3 p0 p1 p2 p3 s0 s1 hdn emn
      go_wp2
      refine bodyPost_ret (v := spanV r) (by rw [HS3.out]; simp [spanV, results, Try.results58, go_sem, q0, q1, e0, e1, f0, f1, lto4, lt34]) rfl ⟨rfl, ?_⟩
      repeat (first | exact HB4.out | (refine Below.setCell ?_ (by first | omega | (simp; done) | (simp; omega)) _) | (refine Below.alloc ?_ (by first | omega | (simp; done) | (simp; omega)) _) | (refine below_drewN ?_ _))
    · have hS := HS2.out
      rw [if_neg c2, HM.out] at hS
      have HS3 := hide hS
      clear hS HS2 HM
      go_wp2
      refine bodyPost_ret (v := spanV r) (by rw [HS3.out]; simp [spanV, results, Try.results58, go_sem, q0, q1, e0, e1, f0, f1, lto, lt3]) rfl ⟨rfl, ?_⟩
      repeat (first | exact HB3.out | (refine Below.setCell ?_ (by first | omega | (simp; done) | (simp; omega)) _) | (refine Below.alloc ?_ (by first | omega | (simp; done) | (simp; omega)) _) | (refine below_drewN ?_ _))
  · have hS := HS.out
    rw [if_neg c1] at hS
    obtain ⟨e0, e1⟩ := Hbo.out.c2
    have f0 := Hbo.out.frozen 0
    have f1 := Hbo.out.frozen 1
    have c2 : ¬ 0 < lo := by omega
    by_cases c3 : 0 < g1
    · rw [if_pos c3] at hS
      have HS2 := hide hS
      clear hS HS
      go_wp2
      refine bodyPost_ret (v := spanV r) (by rw [HS2.out]; simp [spanV, results, Try.results58, go_sem, e0, e1, f0, f1, lto, (by omega : w.heap.size < w1.heap.size)]) rfl ⟨rfl, ?_⟩
      repeat (first | exact HB.out | (refine Below.setCell ?_ (by first | omega | (simp; done) | (simp; omega)) _) | (refine Below.alloc ?_ (by first | omega | (simp; done) | (simp; omega)) _) | (refine below_drewN ?_ _))
    · rw [if_neg c3] at hS
      have HS2 := hide hS
      clear hS HS
      go_wp2
      refine bodyPost_ret (v := spanV r) (by rw [HS2.out]; simp [spanV, results, Try.results58, go_sem, e0, e1, f0, f1, lto, (by omega : w.heap.size < w1.heap.size)]) rfl ⟨rfl, ?_⟩
      repeat (first | exact HB.out | (refine Below.setCell ?_ (by first | omega | (simp; done) | (simp; omega)) _) | (refine Below.alloc ?_ (by first | omega | (simp; done) | (simp; omega)) _) | (refine below_drewN ?_ _))
end Go.Proofs.Ytmglgahagbfbkaa
