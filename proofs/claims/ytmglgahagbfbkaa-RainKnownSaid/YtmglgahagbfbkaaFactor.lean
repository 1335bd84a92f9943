/-
  Factors: what rain's Factor and the reference's answer.
-/
import Derived.Test.YtmglgahagbfbkaaZoneRef
namespace Go.Proofs.Ytmglgahagbfbkaa
open Go.RowKit

theorem chkModel_ok {l m : List (Int × Int)} {a0 a1 b0 b1 c0 c1 : Int} (h : chkModel l m (a0, a1) (b0, b1) (c0, c1) = 0) : a0 ≤ a1 ∧ b0 ≤ 100000 ∧ 0 ≤ b1 ∧ c0 ≤ 100000 ∧ 0 ≤ c1 := by
  unfold chkModel at h
  split at h
  · contradiction
  · split at h
    · contradiction
    · split at h
      · cases h
      · rename_i hh
        simp [ins] at hh
        omega

set_option maxHeartbeats 2000000 in
set_option maxRecDepth 100000 in
theorem Factor_any (A : Option Addr) (n c : Nat) (l : List (Int × Int)) (A' : Option Addr) (n' c' : Nat) (m : List (Int × Int)) (a0 a1 b0 b1 c0 c1 x y : Int) (w : World) (hn : l.length = n) (hmax : n ≤ 9223372036854775807) (hn' : m.length = n') (hmax' : n' ≤ 9223372036854775807)
    (hl : Ints w w.heap.size .i64 A (flat2 l)) (hm : Ints w w.heap.size .i64 A' (flat2 m)) :
    Calls Try.prog 27 #[mdlV A n c A' n' c' (a0, a1) (b0, b1) (c0, c1), .agg #[.int .i64 x, .int .i64 y]] w fun e w' => e = .returned (spanE (facR l m (a0, a1) (b0, b1) (c0, c1) (x, y))) ∧ Below w.heap.size w w' := by
  have hk0 := @chkModel_ok l m a0 a1 b0 b1 c0 c1
  have hc := fun W (h : Below w.heap.size w W) => CheckModel_any A n c l A' n' c' m (a0, a1) (b0, b1) (c0, c1) W hn hmax hn' hmax' ((hl.below h).more h.size) ((hm.below h).more h.size)
  have hR : facR l m (a0, a1) (b0, b1) (c0, c1) (x, y) = if chkModel l m (a0, a1) (b0, b1) (c0, c1) ≠ 0 then ((0, 0), chkModel l m (a0, a1) (b0, b1) (c0, c1)) else if y < x then ((0, 0), 3) else (facS (a0, a1) (b0, b1) (c0, c1) (x, y), 0) := rfl
  generalize facR l m (a0, a1) (b0, b1) (c0, c1) (x, y) = r at *
  generalize chkModel l m (a0, a1) (b0, b1) (c0, c1) = k at *
  have HC := hide hc
  clear hc hl hm hn hn' hmax hmax'
  unfold mdlV at *
  simp only at *
  have HK0 := hide hk0
  have HR := hide hR
  clear hk0 hR
  go_enter Try.func27, Try.ntmps27
  go_wp2_with fail
  refine at_world fun W hW => ?_
  have BW : Below w.heap.size w W := by rw [hW]; exact ((Below.refl _ _).alloc (Nat.le_refl _) _ |>.alloc (by simp) _).alloc (by simp; omega) _
  have m1 : Blk W w.heap.size 26 #[.slice A n c, .slice A' n' c', .int .i64 a0, .int .i64 a1, .int .i64 b0, .int .i64 b1, .int .i64 c0, .int .i64 c1] := by rw [hW]; exact ((Blk.new _ _ _).alloc _).alloc _
  have d1 : Blk W (w.heap.size + 1) 24 #[.int .i64 x, .int .i64 y] := by rw [hW]; exact (blk_new_at (by simp)).alloc _
  have r1 : Blk W (w.heap.size + 2) 24 #[.int .i64 0, .int .i64 0] := by rw [hW]; exact blk_new_at (by simp)
  clear hW
  refine (HC.out W BW).mono ?_
  rintro e w1 ⟨rfl, hb1⟩
  have M2 := hide (m1.below hb1 m1.lt)
  have D2 := hide (d1.below hb1 d1.lt)
  have R2 := hide (r1.below hb1 r1.lt)
  have HB := hide (onward BW hb1)
  clear BW m1 d1 r1 hb1 HC
  obtain ⟨x0, x1, x2, x3, x4, x5, x6, x7⟩ := M2.out.c8
  obtain ⟨y0, y1⟩ := D2.out.c2
  obtain ⟨e0, e1⟩ := R2.out.c2
  have f0 := R2.out.frozen 0
  have f1 := R2.out.frozen 1
  have ltR := R2.out.lt
  by_cases g : k = 0
  · subst g
    by_cases h : y < x
    · have hr := HR.out
      rw [if_neg (by simp), if_pos h] at hr
      have HR2 := hide hr
      clear hr
      go_wp2
      refine bodyPost_ret (v := spanE r) (by rw [HR2.out]; simp [spanE, results, Try.results27, go_sem, e0, e1]) rfl ⟨rfl, ?_⟩
      exact (HB.out.setCell (by simp; omega) _).setCell (by simp; omega) _
    · have hr := HR.out
      rw [if_neg (by simp), if_neg h] at hr
      have HR2 := hide hr
      have HX := hide (show x ≤ y by omega)
      have HK := hide (HK0.out rfl)
      clear hr
      go_wp2_with fail
      refine ((factor_any A n c A' n' c' a0 a1 b0 b1 c0 c1 x y _)).mono ?_
      rintro e w2 ⟨rfl, hb2⟩
      have r3 := R2.out.below hb2 R2.out.lt
      have HB2 := hide (onward HB.out hb2)
      clear hb2 x0 x1 x2 x3 x4 x5 x6 x7 y0 y1 e0 e1 f0 f1 ltR
      obtain ⟨e0, e1⟩ := r3.c2
      have f0 := r3.frozen 0
      have f1 := r3.frozen 1
      have ltR := r3.lt
      clear r3
      generalize facS (a0, a1) (b0, b1) (c0, c1) (x, y) = s at *
      obtain ⟨s1, s2⟩ := s
      unfold spanV
      go_wp2
      refine bodyPost_ret (v := spanE r) (by rw [HR2.out]; simp [spanE, results, Try.results27, go_sem, e0, e1]) rfl ⟨rfl, ?_⟩
      exact (HB2.out.setCell (by simp; omega) _).setCell (by simp; omega) _
  · have g1 : (k != 0) = true := by simpa [bne] using g
    have hr := HR.out
    rw [if_pos g] at hr
    have HR2 := hide hr
    clear hr g
    go_wp2
    refine bodyPost_ret (v := spanE r) (by rw [HR2.out]; simp [spanE, results, Try.results27, go_sem, e0, e1]) rfl ⟨rfl, ?_⟩
    exact (HB.out.setCell (by simp; omega) _).setCell (by simp; omega) _
set_option maxHeartbeats 2000000 in
set_option maxRecDepth 100000 in
theorem RefFactor_any (A : Option Addr) (n c : Nat) (l : List (Int × Int)) (A' : Option Addr) (n' c' : Nat) (m : List (Int × Int)) (a0 a1 b0 b1 c0 c1 x y : Int) (w : World) (hn : l.length = n) (hmax : n ≤ 9223372036854775807) (hn' : m.length = n') (hmax' : n' ≤ 9223372036854775807)
    (hl : Ints w w.heap.size .i64 A (flat2 l)) (hm : Ints w w.heap.size .i64 A' (flat2 m)) :
    Calls Try.prog 28 #[mdlV A n c A' n' c' (a0, a1) (b0, b1) (c0, c1), .agg #[.int .i64 x, .int .i64 y]] w fun e w' => e = .returned (spanE (facR l m (a0, a1) (b0, b1) (c0, c1) (x, y))) ∧ Below w.heap.size w w' := by
  have hk0 := @chkModel_ok l m a0 a1 b0 b1 c0 c1
  have hc := fun W (h : Below w.heap.size w W) => RefCheckModel_any A n c l A' n' c' m (a0, a1) (b0, b1) (c0, c1) W hn hmax hn' hmax' ((hl.below h).more h.size) ((hm.below h).more h.size)
  have hR : facR l m (a0, a1) (b0, b1) (c0, c1) (x, y) = if chkModel l m (a0, a1) (b0, b1) (c0, c1) ≠ 0 then ((0, 0), chkModel l m (a0, a1) (b0, b1) (c0, c1)) else if y < x then ((0, 0), 3) else (facS (a0, a1) (b0, b1) (c0, c1) (x, y), 0) := rfl
  generalize facR l m (a0, a1) (b0, b1) (c0, c1) (x, y) = r at *
  generalize chkModel l m (a0, a1) (b0, b1) (c0, c1) = k at *
  have HC := hide hc
  clear hc hl hm hn hn' hmax hmax'
  unfold mdlV at *
  simp only at *
  have HK0 := hide hk0
  have HR := hide hR
  clear hk0 hR
  go_enter Try.func28, Try.ntmps28
  go_wp2_with fail
  refine at_world fun W hW => ?_
  have BW : Below w.heap.size w W := by rw [hW]; exact ((Below.refl _ _).alloc (Nat.le_refl _) _ |>.alloc (by simp) _).alloc (by simp; omega) _
  have m1 : Blk W w.heap.size 36 #[.slice A n c, .slice A' n' c', .int .i64 a0, .int .i64 a1, .int .i64 b0, .int .i64 b1, .int .i64 c0, .int .i64 c1] := by rw [hW]; exact ((Blk.new _ _ _).alloc _).alloc _
  have d1 : Blk W (w.heap.size + 1) 24 #[.int .i64 x, .int .i64 y] := by rw [hW]; exact (blk_new_at (by simp)).alloc _
  have r1 : Blk W (w.heap.size + 2) 24 #[.int .i64 0, .int .i64 0] := by rw [hW]; exact blk_new_at (by simp)
  clear hW
  refine (HC.out W BW).mono ?_
  rintro e w1 ⟨rfl, hb1⟩
  have M2 := hide (m1.below hb1 m1.lt)
  have D2 := hide (d1.below hb1 d1.lt)
  have R2 := hide (r1.below hb1 r1.lt)
  have HB := hide (onward BW hb1)
  clear BW m1 d1 r1 hb1 HC
  obtain ⟨x0, x1, x2, x3, x4, x5, x6, x7⟩ := M2.out.c8
  obtain ⟨y0, y1⟩ := D2.out.c2
  obtain ⟨e0, e1⟩ := R2.out.c2
  have f0 := R2.out.frozen 0
  have f1 := R2.out.frozen 1
  have ltR := R2.out.lt
  by_cases g : k = 0
  · subst g
    by_cases h : y < x
    · have hr := HR.out
      rw [if_neg (by simp), if_pos h] at hr
      have HR2 := hide hr
      clear hr
      go_wp2
      refine bodyPost_ret (v := spanE r) (by rw [HR2.out]; simp [spanE, results, Try.results28, go_sem, e0, e1]) rfl ⟨rfl, ?_⟩
      exact (HB.out.setCell (by simp; omega) _).setCell (by simp; omega) _
    · have hr := HR.out
      rw [if_neg (by simp), if_neg h] at hr
      have HR2 := hide hr
      have HX := hide (show x ≤ y by omega)
      have HK := hide (HK0.out rfl)
      clear hr
      go_wp2_with fail
      refine ((refFactor_any A n c A' n' c' a0 a1 b0 b1 c0 c1 x y _ HK.out.1 HX.out HK.out.2)).mono ?_
      rintro e w2 ⟨rfl, hb2⟩
      have r3 := R2.out.below hb2 R2.out.lt
      have HB2 := hide (onward HB.out hb2)
      clear hb2 x0 x1 x2 x3 x4 x5 x6 x7 y0 y1 e0 e1 f0 f1 ltR
      obtain ⟨e0, e1⟩ := r3.c2
      have f0 := r3.frozen 0
      have f1 := r3.frozen 1
      have ltR := r3.lt
      clear r3
      generalize facS (a0, a1) (b0, b1) (c0, c1) (x, y) = s at *
      obtain ⟨s1, s2⟩ := s
      unfold spanV
      go_wp2
      refine bodyPost_ret (v := spanE r) (by rw [HR2.out]; simp [spanE, results, Try.results28, go_sem, e0, e1]) rfl ⟨rfl, ?_⟩
      exact (HB2.out.setCell (by simp; omega) _).setCell (by simp; omega) _
  · have g1 : (k != 0) = true := by simpa [bne] using g
    have hr := HR.out
    rw [if_pos g] at hr
    have HR2 := hide hr
    clear hr g
    go_wp2
    refine bodyPost_ret (v := spanE r) (by rw [HR2.out]; simp [spanE, results, Try.results28, go_sem, e0, e1]) rfl ⟨rfl, ?_⟩
    exact (HB.out.setCell (by simp; omega) _).setCell (by simp; omega) _
end Go.Proofs.Ytmglgahagbfbkaa
