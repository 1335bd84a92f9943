/-
  Gauges: rain's contracts and the reference's.
-/
import Derived.Test.YtmglgahagbfbkaaLeaf
import Derived.Test.YtmglgahagbfbkaaGaugeMath
import Derived.Test.YtmglgahagbfbkaaRegionMem
import Derived.Test.YtmglgahagbfbkaaValues
namespace Go.Proofs.Ytmglgahagbfbkaa
open Go.RowKit

theorem valid_any (t s : Int) (w : World) :
    Calls Try.prog 55 #[.agg #[.int .i64 t, .int .i64 s]] w fun e w' => e = .returned (.bool (okG t s)) ∧ Below w.heap.size w w' := by
  by_cases h1 : win t 0 1000000 = true
  · have hE : okG t s = win s 1 10000 := by simp [okG, h1]
    have HE := hide hE
    clear hE
    go_enter Try.func55, Try.ntmps55
    go_wp2_with (go_at_call 43; refine (within_any _ _ _ _).mono ?_; rintro e w' ⟨rfl, rfl⟩)
    go_ret
    exact ⟨(ret_bool HE.out).symm, (Below.refl _ _).alloc (Nat.le_refl _) _⟩
  · have h2 : win t 0 1000000 = false := by simpa using h1
    have hE : okG t s = false := by simp [okG, h2]
    have HE := hide hE
    clear hE h1
    go_enter Try.func55, Try.ntmps55
    go_wp2_with (go_at_call 43; refine (within_any _ _ _ _).mono ?_; rintro e w' ⟨rfl, rfl⟩)
    go_ret
    exact ⟨(ret_bool HE.out).symm, (Below.refl _ _).alloc (Nat.le_refl _) _⟩

theorem fell_any (t s : Int) (w : World) (h : okG t s = true) :
    Calls Try.prog 56 #[.agg #[.int .i64 t, .int .i64 s]] w fun e w' => e = .returned (spanV (fellS t s)) ∧ Below w.heap.size w w' := by
  obtain ⟨a1, a2, a3, a4, a5, a6, a7, a8⟩ := gauge_bd h
  clear h
  go_enter Try.func56, Try.ntmps56
  go_wp2
  all_goals
    refine bodyPost_ret (v := spanV (fellS t s)) (by simp [spanV, fellS, results, Try.results56, go_sem]; omega) rfl ⟨rfl, ?_⟩
    exact ((Below.refl _ _).alloc (Nat.le_refl _) _).alloc (by simp) _

set_option maxHeartbeats 400000 in
theorem Fell_any (t s : Int) (w : World) :
    Calls Try.prog 29 #[.agg #[.int .i64 t, .int .i64 s]] w fun e w' => e = .returned (spanE (fellR t s)) ∧ Below w.heap.size w w' := by
  by_cases h1 : okG t s = true
  · have hR : fellR t s = (fellS t s, 0) := by simp [fellR, h1]
    have HR := hide hR
    have hf := fun W => fell_any t s W h1
    clear hR
    go_enter Try.func29, Try.ntmps29
    go_wp2_with fail
    refine (valid_any _ _ _).mono ?_
    rintro e w1 ⟨rfl, hb1⟩
    have b1 : Blk w1 w.heap.size 64 #[.int .i64 t, .int .i64 s] := (((Blk.new w _ _).alloc _).below hb1 (by simp; omega))
    have r1 : Blk w1 (w.heap.size + 1) 24 #[.int .i64 0, .int .i64 0] := (blk_new_at (by simp)).below hb1 (by simp)
    have B1 : Below w.heap.size w w1 := (((Below.refl _ _).alloc (Nat.le_refl _) _).alloc (by simp) _).trans (hb1.mono (by simp; omega))
    obtain ⟨c0, c1⟩ := b1.c2
    have HB1 := hide B1
    have R1 := hide r1
    clear b1 r1 B1 hb1
    go_wp2_with fail
    refine (hf _).mono ?_
    rintro e w2 ⟨rfl, hb2⟩
    have r2 := R1.out.below hb2 R1.out.lt
    have HB2 := hide (onward HB1.out hb2)
    obtain ⟨e0, e1⟩ := r2.c2
    have f0 := r2.frozen 0
    have f1 := r2.frozen 1
    clear hb2 r2 hf c0 c1
    unfold spanV
    go_wp2
    refine bodyPost_ret (v := spanE (fellR t s)) (by rw [HR.out]; simp [spanE, results, Try.results29, go_sem, e0, e1]) rfl ⟨rfl, ?_⟩
    exact (HB2.out.setCell (by simp) _).setCell (by simp) _
  · have h2 : okG t s = false := by simpa using h1
    have hR : fellR t s = ((0, 0), 3) := by simp [fellR, h2]
    have HR := hide hR
    clear hR h1
    go_enter Try.func29, Try.ntmps29
    go_wp2_with fail
    refine (valid_any _ _ _).mono ?_
    rintro e w1 ⟨rfl, hb1⟩
    have r1 : Blk w1 (w.heap.size + 1) 24 #[.int .i64 0, .int .i64 0] := (blk_new_at (by simp)).below hb1 (by simp)
    have B1 : Below w.heap.size w w1 := (((Below.refl _ _).alloc (Nat.le_refl _) _).alloc (by simp) _).trans (hb1.mono (by simp; omega))
    obtain ⟨e0, e1⟩ := r1.c2
    have f0 := r1.frozen 0
    have f1 := r1.frozen 1
    have HB1 := hide B1
    clear r1 B1 hb1
    go_wp2
    refine bodyPost_ret (v := spanE (fellR t s)) (by rw [HR.out]; simp [spanE, results, Try.results29, go_sem, e0, e1]) rfl ⟨rfl, ?_⟩
    exact (HB1.out.setCell (by simp) _).setCell (by simp) _
end Go.Proofs.Ytmglgahagbfbkaa
