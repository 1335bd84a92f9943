/-
  The law BeamRanges returns true: the walk.
-/
import Derived.Test.YthhhecidogcmjaaBands
import Derived.Test.YthhhecidogcmjaaBeamLaw1
namespace Go.Proofs.Ythhhecidogcmjaa
open Go Go.RowKit

set_option maxHeartbeats 4000000 in
set_option maxRecDepth 100000 in
theorem BeamRanges_any (s : ByteArray) (x y z r g st wd t elo ehi gate : Int) (w : World) (hs : s.size ≤ 9223372036854775807) :
    Calls Try.prog 6 #[siteV s x y z r g st wd, .int .i64 t, .agg #[.int .i64 elo, .int .i64 ehi], .int .i64 gate] w fun e w' => e = .returned (.bool true) ∧ Below w.heap.size w w' := by
  have c1 := fun W => Ground_any s (nameB s) x y z r g st wd t gate W (nm_any s hs)
  have c2 := fun W => RefGround_any s x y z r g st wd t gate W hs
  have c3 := fun W => Height_any s x y z r g st wd t elo ehi gate W hs
  have c4 := fun W => RefHeight_any s x y z r g st wd t elo ehi gate W hs
  have c5 := fun W => Band_any s x y z r g st wd t elo ehi gate W hs
  have c6 := fun W => RefBand_any s x y z r g st wd t elo ehi gate W hs
  generalize groundR (siteE (nameB s) x y z r g st wd) t gate g st = r1 at *
  generalize heightR (siteE (nameB s) x y z r g st wd) t gate z g st elo ehi = r2 at *
  generalize bandR (siteE (nameB s) x y z r g st wd) t gate z g st wd elo ehi = r3 at *
  obtain ⟨⟨a1, a2⟩, a3⟩ := r1
  obtain ⟨⟨b1, b2⟩, b3⟩ := r2
  obtain ⟨⟨d1, d2⟩, d3⟩ := r3
  unfold spanE at c1 c2 c3 c4 c5 c6
  unfold siteV at *
  simp only at c1 c2 c3 c4 c5 c6
  have C1 := hide c1
  have C2 := hide c2
  have C3 := hide c3
  have C4 := hide c4
  have C5 := hide c5
  have C6 := hide c6
  clear c1 c2 c3 c4 c5 c6
  by_cases h1 : (40 : Int) < s.size
  · go_enter Try.func6, Try.ntmps6
    have HB := hide (Below.refl w.heap.size w)
    go_wp2_with fail
    refine at_world fun W hW => ?_
    have bq0 : Blk W w.heap.size 33 #[.string s, .int .i64 x, .int .i64 y, .int .i64 z, .int .i64 r, .int .i64 g, .int .i64 st, .int .i64 wd] := by rw [hW]; exact (Blk.new _ _ _).alloc _
    have bq1 : Blk W (w.heap.size + 1) 47 #[.int .i64 elo, .int .i64 ehi] := by rw [hW]; exact blk_new_at (by simp)
    have LW : Later w W := by rw [hW]; exact (((Below.refl _ _).alloc (Nat.le_refl _) _).alloc (by simp; try omega) _)
    have szW : W.heap.size = w.heap.size + 2 := by rw [hW]; simp
    clear hW
    replace HB := hide (onward HB.out LW)
    have Hq := hide bq0
    have He := hide bq1
    clear bq0 bq1 LW szW
    refine (works_any _).mono ?_
    rintro e w1 ⟨rfl, hb⟩
    replace HB := hide (onward HB.out hb)
    replace Hq := hide (blk_later Hq.out hb)
    replace He := hide (blk_later He.out hb)
    clear hb
    go_wp2
    go_ret
    exact ⟨rfl, HB.out⟩
  go_enter Try.func6, Try.ntmps6
  have HB := hide (Below.refl w.heap.size w)
  go_wp2_with fail
  refine at_world fun W hW => ?_
  have bq0 : Blk W w.heap.size 33 #[.string s, .int .i64 x, .int .i64 y, .int .i64 z, .int .i64 r, .int .i64 g, .int .i64 st, .int .i64 wd] := by rw [hW]; exact (Blk.new _ _ _).alloc _
  have bq1 : Blk W (w.heap.size + 1) 47 #[.int .i64 elo, .int .i64 ehi] := by rw [hW]; exact blk_new_at (by simp)
  have LW : Later w W := by rw [hW]; exact (((Below.refl _ _).alloc (Nat.le_refl _) _).alloc (by simp; try omega) _)
  have szW : W.heap.size = w.heap.size + 2 := by rw [hW]; simp
  clear hW
  replace HB := hide (onward HB.out LW)
  have Hq := hide bq0
  have He := hide bq1
  clear bq0 bq1 LW szW
  refine (C1.out _).mono ?_
  rintro e w1 ⟨rfl, hb⟩
  replace HB := hide (onward HB.out hb)
  replace Hq := hide (blk_later Hq.out hb)
  replace He := hide (blk_later He.out hb)
  clear hb
  obtain ⟨q0, q1, q2, q3, q4, q5, q6, q7⟩ := Hq.out.site8
  have lts := Hq.out.lt
  obtain ⟨v0, v1⟩ := He.out.c2
  have ltv := He.out.lt
  go_wp2_with fail
  clear q0 q1 q2 q3 q4 q5 q6 q7 lts
  refine at_world fun W1 hW => ?_
  have bq0 : Blk W1 w1.heap.size 47 #[.int .i64 a1, .int .i64 a2] := by rw [hW]; exact Blk.new _ _ _
  have LW : Later w1 W1 := by rw [hW]; exact ((Below.refl _ _).alloc (Nat.le_refl _) _)
  have szW : W1.heap.size = w1.heap.size + 1 := by rw [hW]; simp
  clear hW v0 v1 ltv
  replace HB := hide (onward HB.out LW)
  replace Hq := hide (blk_later Hq.out LW)
  replace He := hide (blk_later He.out LW)
  have H1 := hide bq0
  clear bq0 LW szW
  refine (C2.out _).mono ?_
  rintro e w2 ⟨rfl, hb⟩
  replace HB := hide (onward HB.out hb)
  replace Hq := hide (blk_later Hq.out hb)
  replace He := hide (blk_later He.out hb)
  replace H1 := hide (blk_later H1.out hb)
  clear hb
  obtain ⟨q0, q1, q2, q3, q4, q5, q6, q7⟩ := Hq.out.site8
  have lts := Hq.out.lt
  obtain ⟨v0, v1⟩ := He.out.c2
  have ltv := He.out.lt
  go_wp2_with fail
  clear q0 q1 q2 q3 q4 q5 q6 q7 lts
  refine at_world fun W2 hW => ?_
  have bq0 : Blk W2 w2.heap.size 47 #[.int .i64 a1, .int .i64 a2] := by rw [hW]; exact Blk.new _ _ _
  have LW : Later w2 W2 := by rw [hW]; exact ((Below.refl _ _).alloc (Nat.le_refl _) _)
  have szW : W2.heap.size = w2.heap.size + 1 := by rw [hW]; simp
  clear hW v0 v1 ltv
  replace HB := hide (onward HB.out LW)
  replace Hq := hide (blk_later Hq.out LW)
  replace He := hide (blk_later He.out LW)
  replace H1 := hide (blk_later H1.out LW)
  have H2 := hide bq0
  clear bq0 LW szW
  refine (C3.out _).mono ?_
  rintro e w3 ⟨rfl, hb⟩
  replace HB := hide (onward HB.out hb)
  replace Hq := hide (blk_later Hq.out hb)
  replace He := hide (blk_later He.out hb)
  replace H1 := hide (blk_later H1.out hb)
  replace H2 := hide (blk_later H2.out hb)
  clear hb
  obtain ⟨q0, q1, q2, q3, q4, q5, q6, q7⟩ := Hq.out.site8
  have lts := Hq.out.lt
  obtain ⟨v0, v1⟩ := He.out.c2
  have ltv := He.out.lt
  go_wp2_with fail
  clear q0 q1 q2 q3 q4 q5 q6 q7 lts
  refine at_world fun W3 hW => ?_
  have bq0 : Blk W3 w3.heap.size 47 #[.int .i64 b1, .int .i64 b2] := by rw [hW]; exact Blk.new _ _ _
  have LW : Later w3 W3 := by rw [hW]; exact ((Below.refl _ _).alloc (Nat.le_refl _) _)
  have szW : W3.heap.size = w3.heap.size + 1 := by rw [hW]; simp
  clear hW v0 v1 ltv
  replace HB := hide (onward HB.out LW)
  replace Hq := hide (blk_later Hq.out LW)
  replace He := hide (blk_later He.out LW)
  replace H1 := hide (blk_later H1.out LW)
  replace H2 := hide (blk_later H2.out LW)
  have H3 := hide bq0
  clear bq0 LW szW
  refine (C4.out _).mono ?_
  rintro e w4 ⟨rfl, hb⟩
  replace HB := hide (onward HB.out hb)
  replace Hq := hide (blk_later Hq.out hb)
  replace He := hide (blk_later He.out hb)
  replace H1 := hide (blk_later H1.out hb)
  replace H2 := hide (blk_later H2.out hb)
  replace H3 := hide (blk_later H3.out hb)
  clear hb
  obtain ⟨q0, q1, q2, q3, q4, q5, q6, q7⟩ := Hq.out.site8
  have lts := Hq.out.lt
  obtain ⟨v0, v1⟩ := He.out.c2
  have ltv := He.out.lt
  go_wp2_with fail
  clear q0 q1 q2 q3 q4 q5 q6 q7 lts
  refine at_world fun W4 hW => ?_
  have bq0 : Blk W4 w4.heap.size 47 #[.int .i64 b1, .int .i64 b2] := by rw [hW]; exact Blk.new _ _ _
  have LW : Later w4 W4 := by rw [hW]; exact ((Below.refl _ _).alloc (Nat.le_refl _) _)
  have szW : W4.heap.size = w4.heap.size + 1 := by rw [hW]; simp
  clear hW v0 v1 ltv
  replace HB := hide (onward HB.out LW)
  replace Hq := hide (blk_later Hq.out LW)
  replace He := hide (blk_later He.out LW)
  replace H1 := hide (blk_later H1.out LW)
  replace H2 := hide (blk_later H2.out LW)
  replace H3 := hide (blk_later H3.out LW)
  have H4 := hide bq0
  clear bq0 LW szW
  refine (C5.out _).mono ?_
  rintro e w5 ⟨rfl, hb⟩
  replace HB := hide (onward HB.out hb)
  replace Hq := hide (blk_later Hq.out hb)
  replace He := hide (blk_later He.out hb)
  replace H1 := hide (blk_later H1.out hb)
  replace H2 := hide (blk_later H2.out hb)
  replace H3 := hide (blk_later H3.out hb)
  replace H4 := hide (blk_later H4.out hb)
  clear hb
  obtain ⟨q0, q1, q2, q3, q4, q5, q6, q7⟩ := Hq.out.site8
  have lts := Hq.out.lt
  obtain ⟨v0, v1⟩ := He.out.c2
  have ltv := He.out.lt
  go_wp2_with fail
  clear q0 q1 q2 q3 q4 q5 q6 q7 lts
  refine at_world fun W5 hW => ?_
  have bq0 : Blk W5 w5.heap.size 47 #[.int .i64 d1, .int .i64 d2] := by rw [hW]; exact Blk.new _ _ _
  have LW : Later w5 W5 := by rw [hW]; exact ((Below.refl _ _).alloc (Nat.le_refl _) _)
  have szW : W5.heap.size = w5.heap.size + 1 := by rw [hW]; simp
  clear hW v0 v1 ltv
  replace HB := hide (onward HB.out LW)
  replace Hq := hide (blk_later Hq.out LW)
  replace He := hide (blk_later He.out LW)
  replace H1 := hide (blk_later H1.out LW)
  replace H2 := hide (blk_later H2.out LW)
  replace H3 := hide (blk_later H3.out LW)
  replace H4 := hide (blk_later H4.out LW)
  have H5 := hide bq0
  clear bq0 LW szW
  refine (C6.out _).mono ?_
  rintro e w6 ⟨rfl, hb⟩
  replace HB := hide (onward HB.out hb)
  replace Hq := hide (blk_later Hq.out hb)
  replace He := hide (blk_later He.out hb)
  replace H1 := hide (blk_later H1.out hb)
  replace H2 := hide (blk_later H2.out hb)
  replace H3 := hide (blk_later H3.out hb)
  replace H4 := hide (blk_later H4.out hb)
  replace H5 := hide (blk_later H5.out hb)
  clear hb
  obtain ⟨j0, j1⟩ := H1.out.c2
  have ltj := H1.out.lt
  obtain ⟨k0, k1⟩ := H2.out.c2
  have ltk := H2.out.lt
  obtain ⟨l0, l1⟩ := H3.out.c2
  have ltl := H3.out.lt
  obtain ⟨m0, m1⟩ := H4.out.c2
  have ltm := H4.out.lt
  obtain ⟨n0, n1⟩ := H5.out.c2
  have ltn := H5.out.lt
  go_wp2_with fail
  refine at_world fun W6 hW => ?_
  have bq0 : Blk W6 w6.heap.size 47 #[.int .i64 d1, .int .i64 d2] := by rw [hW]; exact Blk.new _ _ _
  have LW : Later w6 W6 := by rw [hW]; exact ((Below.refl _ _).alloc (Nat.le_refl _) _)
  have szW : W6.heap.size = w6.heap.size + 1 := by rw [hW]; simp
  clear hW j0 j1 ltj k0 k1 ltk l0 l1 ltl m0 m1 ltm n0 n1 ltn
  replace HB := hide (onward HB.out LW)
  replace Hq := hide (blk_later Hq.out LW)
  replace He := hide (blk_later He.out LW)
  replace H1 := hide (blk_later H1.out LW)
  replace H2 := hide (blk_later H2.out LW)
  replace H3 := hide (blk_later H3.out LW)
  replace H4 := hide (blk_later H4.out LW)
  replace H5 := hide (blk_later H5.out LW)
  have H6 := hide bq0
  clear bq0 LW szW
  refine (works_any _).mono ?_
  rintro e w7 ⟨rfl, hb⟩
  replace HB := hide (onward HB.out hb)
  replace Hq := hide (blk_later Hq.out hb)
  replace He := hide (blk_later He.out hb)
  replace H1 := hide (blk_later H1.out hb)
  replace H2 := hide (blk_later H2.out hb)
  replace H3 := hide (blk_later H3.out hb)
  replace H4 := hide (blk_later H4.out hb)
  replace H5 := hide (blk_later H5.out hb)
  replace H6 := hide (blk_later H6.out hb)
  clear hb
  go_wp2
  go_ret
  exact ⟨rfl, HB.out⟩
end Go.Proofs.Ythhhecidogcmjaa
