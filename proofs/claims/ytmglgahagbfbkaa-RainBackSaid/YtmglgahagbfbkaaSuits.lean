/-
  Whether a scale suits a pair; whether a span lies within another: the law's small functions.
-/
import Derived.Test.YtmglgahagbfbkaaFitsMath
import Derived.Test.YtmglgahagbfbkaaScale
import Derived.Test.YtmglgahagbfbkaaValueMath
namespace Go.Proofs.Ytmglgahagbfbkaa
open Go.RowKit

theorem suits_any (lo hi t s f : Int) (w : World) (h : okP4 lo hi t s = true) (h1 : 0 ≤ f) (h2 : f ≤ 120000) :
    Calls Try.prog 33 #[.agg #[.int .i64 lo, .int .i64 hi, .int .i64 t, .int .i64 s], .int .i64 f] w fun e w' => e = .returned (.bool (suitB lo hi t s f)) ∧ Below w.heap.size w w' := by
  obtain ⟨a1, a2, a3, a4⟩ := okP4_iff h
  obtain ⟨b1, b2, b3, b4⟩ := fell_bd a4
  have hf : ∀ W, Calls Try.prog 29 #[.agg #[.int .i64 t, .int .i64 s]] W fun e w' => e = .returned (spanE (fellS t s, 0)) ∧ Below W.heap.size W w' := fun W => by
    have := Fell_any t s W
    simpa [fellR, a4] using this
  have hS : suitB lo hi t s f = (decide (lo * f ≤ 1000 * (fellS t s).2) && decide (1000 * (fellS t s).1 ≤ hi * f)) := rfl
  generalize suitB lo hi t s f = r at *
  generalize fellS t s = gg at *
  obtain ⟨g1, g2⟩ := gg
  simp only at hf hS b1 b2 b3 b4
  obtain ⟨m1, m2⟩ := mul_bd (a := lo) (b := f) (A := 2147483648) (B := 120000) a1 (by omega) h1 h2
  obtain ⟨m3, m4⟩ := mul_bd (a := hi) (b := f) (A := 2147483648) (B := 120000) (by omega) a3 h1 h2
  have HS := hide hS
  have HF := hide hf
  clear hf hS h a4
  by_cases c1 : lo * f ≤ 1000 * g2
  · by_cases c2 : 1000 * g1 ≤ hi * f
    · go_enter Try.func33, Try.ntmps33
      have HB := hide (Below.refl w.heap.size w)
      go_wp2_with fail
      refine at_world fun W hW => ?_
      have bq0 : Blk W w.heap.size 66 #[.int .i64 lo, .int .i64 hi, .int .i64 t, .int .i64 s] := by rw [hW]; exact Blk.new _ _ _
      have LW : Later w W := by rw [hW]; exact ((Below.refl _ _).alloc (Nat.le_refl _) _)
      have szW : W.heap.size = w.heap.size + 1 := by rw [hW]; simp
      clear hW
      replace HB := hide (onward HB.out LW)
      have Hbp := hide bq0
      clear bq0 LW szW
      refine (HF.out W).mono ?_
      rintro e w1 ⟨rfl, hb⟩
      replace HB := hide (onward HB.out hb)
      replace Hbp := hide (blk_later Hbp.out hb)
      clear hb
      unfold spanE
      simp only
      obtain ⟨p0, p1, p2, p3⟩ := Hbp.out.c4
      have ltp := Hbp.out.lt
      go_wp2
      go_ret
      refine ⟨by rw [HS.out]; simp [c1, c2], ?_⟩
      repeat (first | exact HB.out | (refine Below.setCell ?_ (by first | omega | (simp; done) | (simp; omega)) _) | (refine Below.alloc ?_ (by first | omega | (simp; done) | (simp; omega)) _) | (refine below_drewN ?_ _))
    · go_enter Try.func33, Try.ntmps33
      have HB := hide (Below.refl w.heap.size w)
      go_wp2_with fail
      refine at_world fun W hW => ?_
      have bq0 : Blk W w.heap.size 66 #[.int .i64 lo, .int .i64 hi, .int .i64 t, .int .i64 s] := by rw [hW]; exact Blk.new _ _ _
      have LW : Later w W := by rw [hW]; exact ((Below.refl _ _).alloc (Nat.le_refl _) _)
      have szW : W.heap.size = w.heap.size + 1 := by rw [hW]; simp
      clear hW
      replace HB := hide (onward HB.out LW)
      have Hbp := hide bq0
      clear bq0 LW szW
      refine (HF.out W).mono ?_
      rintro e w1 ⟨rfl, hb⟩
      replace HB := hide (onward HB.out hb)
      replace Hbp := hide (blk_later Hbp.out hb)
      clear hb
      unfold spanE
      simp only
      obtain ⟨p0, p1, p2, p3⟩ := Hbp.out.c4
      have ltp := Hbp.out.lt
      go_wp2
      go_ret
      refine ⟨by rw [HS.out]; simp [c1, c2], ?_⟩
      repeat (first | exact HB.out | (refine Below.setCell ?_ (by first | omega | (simp; done) | (simp; omega)) _) | (refine Below.alloc ?_ (by first | omega | (simp; done) | (simp; omega)) _) | (refine below_drewN ?_ _))
  · go_enter Try.func33, Try.ntmps33
    have HB := hide (Below.refl w.heap.size w)
    go_wp2_with fail
    refine at_world fun W hW => ?_
    have bq0 : Blk W w.heap.size 66 #[.int .i64 lo, .int .i64 hi, .int .i64 t, .int .i64 s] := by rw [hW]; exact Blk.new _ _ _
    have LW : Later w W := by rw [hW]; exact ((Below.refl _ _).alloc (Nat.le_refl _) _)
    have szW : W.heap.size = w.heap.size + 1 := by rw [hW]; simp
    clear hW
    replace HB := hide (onward HB.out LW)
    have Hbp := hide bq0
    clear bq0 LW szW
    refine (HF.out W).mono ?_
    rintro e w1 ⟨rfl, hb⟩
    replace HB := hide (onward HB.out hb)
    replace Hbp := hide (blk_later Hbp.out hb)
    clear hb
    unfold spanE
    simp only
    obtain ⟨p0, p1, p2, p3⟩ := Hbp.out.c4
    have ltp := Hbp.out.lt
    go_wp2
    go_ret
    refine ⟨by rw [HS.out]; simp [show ¬ lo * f ≤ 1000 * g2 by omega], ?_⟩
    repeat (first | exact HB.out | (refine Below.setCell ?_ (by first | omega | (simp; done) | (simp; omega)) _) | (refine Below.alloc ?_ (by first | omega | (simp; done) | (simp; omega)) _) | (refine below_drewN ?_ _))

theorem lies_any (a b c d : Int) (w : World) :
    Calls Try.prog 25 #[.agg #[.int .i64 a, .int .i64 b], .agg #[.int .i64 c, .int .i64 d]] w fun e w' => e = .returned (.bool (decide (a ≤ b ∧ c ≤ a ∧ b ≤ d))) ∧ Below w.heap.size w w' := by
  by_cases h1 : a ≤ b <;> by_cases h2 : c ≤ a <;> by_cases h3 : b ≤ d
  all_goals
    go_enter Try.func25, Try.ntmps25
    go_wp2
    go_ret
    exact ⟨by simp [*], ((Below.refl _ _).alloc (Nat.le_refl _) _).alloc (by simp) _⟩
end Go.Proofs.Ytmglgahagbfbkaa
