/-
  The law TraceCorrects returns true.
-/
import Derived.Test.YtiggefmckomilaaTraceCorr
import Derived.Test.YtiggefmckomilaaTraceWorks
namespace Go.Proofs.Ytiggefmckomilaa
open Go Go.RowKit

theorem exC : correctR (100, 200) (500, 2000) = ((50, 400), 0) := by decide +kernel
set_option maxHeartbeats 2000000 in
set_option maxRecDepth 100000 in
theorem TraceCorrects_any (p1 p2 g1 g2 : Int) (w : World) :
    Calls Try.prog 3 #[.agg #[.int .i64 p1, .int .i64 p2], .agg #[.int .i64 g1, .int .i64 g2]] w fun e w' => e = .returned (.bool true) ∧ Below w.heap.size w w' := by
  obtain ⟨⟨⟨r1, r2⟩, r3⟩, hr⟩ : ∃ r, correctR (p1, p2) (g1, g2) = r := ⟨_, rfl⟩
  have k1 := fun W => Correct_any p1 p2 g1 g2 W
  have k2 := fun W => RefCorrect_any p1 p2 g1 g2 W
  have k3 := fun W => Correct_any 100 200 500 2000 W
  rw [hr] at k1 k2
  rw [exC] at k3
  unfold corrV at k1 k2 k3
  simp only at k1 k2 k3
  clear hr
  have K1 := hide k1
  have K2 := hide k2
  have K3 := hide k3
  clear k1 k2 k3
  go_enter Try.func3, Try.ntmps3
  have HB := hide (Below.refl w.heap.size w)
  go_wp2_with fail
  refine at_world fun w1 hW => ?_
  have bq0 : Blk w1 w.heap.size 23 #[.int .i64 p1, .int .i64 p2] := by rw [hW]; exact (Blk.new _ _ _).alloc _
  have bq1 : Blk w1 (w.heap.size + 1) 23 #[.int .i64 g1, .int .i64 g2] := by rw [hW]; exact blk_new_at (by simp)
  have LW : Later w w1 := by rw [hW]; exact (((Below.refl _ _).alloc (Nat.le_refl _) _).alloc (by simp; try omega) _)
  have szW : w1.heap.size = w.heap.size + 2 := by rw [hW]; simp
  clear hW
  replace HB := hide (onward HB.out LW)
  have Hp := hide bq0
  have Hg := hide bq1
  clear bq0 bq1 LW szW
  refine (K1.out _).mono ?_
  rintro e w2 ⟨rfl, hb⟩
  replace HB := hide (onward HB.out hb)
  replace Hp := hide (blk_later Hp.out hb)
  replace Hg := hide (blk_later Hg.out hb)
  clear hb
  obtain ⟨x0, x1⟩ := Hp.out.c2
  have ltx := Hp.out.lt
  obtain ⟨y0, y1⟩ := Hg.out.c2
  have lty := Hg.out.lt
  go_wp2_with fail
  refine at_world fun w3 hW => ?_
  have bq0 : Blk w3 w2.heap.size 23 #[.int .i64 r1, .int .i64 r2] := by rw [hW]; exact Blk.new _ _ _
  have LW : Later w2 w3 := by rw [hW]; exact ((Below.refl _ _).alloc (Nat.le_refl _) _)
  have szW : w3.heap.size = w2.heap.size + 1 := by rw [hW]; simp
  clear hW x0 x1 ltx y0 y1 lty
  replace HB := hide (onward HB.out LW)
  replace Hp := hide (blk_later Hp.out LW)
  replace Hg := hide (blk_later Hg.out LW)
  have Ha := hide bq0
  clear bq0 LW szW
  refine (K2.out _).mono ?_
  rintro e w4 ⟨rfl, hb⟩
  replace HB := hide (onward HB.out hb)
  replace Hp := hide (blk_later Hp.out hb)
  replace Hg := hide (blk_later Hg.out hb)
  replace Ha := hide (blk_later Ha.out hb)
  clear hb
  go_wp2_with fail
  refine at_world fun w5 hW => ?_
  have bq0 : Blk w5 w4.heap.size 23 #[.int .i64 r1, .int .i64 r2] := by rw [hW]; exact Blk.new _ _ _
  have LW : Later w4 w5 := by rw [hW]; exact ((Below.refl _ _).alloc (Nat.le_refl _) _)
  have szW : w5.heap.size = w4.heap.size + 1 := by rw [hW]; simp
  clear hW
  replace HB := hide (onward HB.out LW)
  replace Hp := hide (blk_later Hp.out LW)
  replace Hg := hide (blk_later Hg.out LW)
  replace Ha := hide (blk_later Ha.out LW)
  have Hb := hide bq0
  clear bq0 LW szW
  refine (K3.out _).mono ?_
  rintro e w6 ⟨rfl, hb⟩
  replace HB := hide (onward HB.out hb)
  replace Hp := hide (blk_later Hp.out hb)
  replace Hg := hide (blk_later Hg.out hb)
  replace Ha := hide (blk_later Ha.out hb)
  replace Hb := hide (blk_later Hb.out hb)
  clear hb
  obtain ⟨a0, a1⟩ := Ha.out.c2
  have lta := Ha.out.lt
  obtain ⟨b0, b1⟩ := Hb.out.c2
  have ltb := Hb.out.lt
  go_wp2_with fail
  refine at_world fun w7 hW => ?_
  have bq0 : Blk w7 w6.heap.size 23 #[.int .i64 50, .int .i64 400] := by rw [hW]; exact Blk.new _ _ _
  have LW : Later w6 w7 := by rw [hW]; exact ((Below.refl _ _).alloc (Nat.le_refl _) _)
  have szW : w7.heap.size = w6.heap.size + 1 := by rw [hW]; simp
  clear hW a0 a1 lta b0 b1 ltb
  replace HB := hide (onward HB.out LW)
  replace Hp := hide (blk_later Hp.out LW)
  replace Hg := hide (blk_later Hg.out LW)
  replace Ha := hide (blk_later Ha.out LW)
  replace Hb := hide (blk_later Hb.out LW)
  have Hc := hide bq0
  clear bq0 LW szW
  refine (works_any _).mono ?_
  rintro e w8 ⟨rfl, hb⟩
  replace HB := hide (onward HB.out hb)
  replace Hp := hide (blk_later Hp.out hb)
  replace Hg := hide (blk_later Hg.out hb)
  replace Ha := hide (blk_later Ha.out hb)
  replace Hb := hide (blk_later Hb.out hb)
  replace Hc := hide (blk_later Hc.out hb)
  clear hb
  go_wp2
  go_ret
  exact ⟨rfl, HB.out⟩
end Go.Proofs.Ytiggefmckomilaa
