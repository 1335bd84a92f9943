/-
  The law BeamPlaces returns true: the walk.
-/
import Derived.Test.YthhhecidogcmjaaPlacesSaid
namespace Go.Proofs.Ythhhecidogcmjaa
open Go Go.RowKit

set_option maxHeartbeats 2000000 in
set_option maxRecDepth 100000 in
theorem BeamPlaces_any (s : ByteArray) (sx sy z r g st wd gx gy gs wi hi t ray gate x y : Int) (w : World) (hs : s.size ≤ 9223372036854775807) :
    Calls Try.prog 11 #[siteV s sx sy z r g st wd, gridV gx gy gs wi hi, .int .i64 t, .int .i64 ray, .int .i64 gate, .int .i64 x, .int .i64 y] w fun e w' => e = .returned (.bool true) ∧ Below w.heap.size w w' := by
  have hfew := fun W => few_any s sx sy z r g st wd gx gy gs wi hi W hs
  have hp1 := fun W => Place_any s sx sy z r g st wd t ray gate W hs
  have hp2 := fun W => RefPlace_any s sx sy z r g st wd t ray gate W hs
  have hf1 := fun W => Find_any s sx sy z r g st wd t x y W hs
  have hf2 := fun W => RefFind_any s sx sy z r g st wd t x y W hs
  have hx1 := fun W => Pixel_any gx gy gs wi hi x y W
  have hx2 := fun W => RefPixel_any gx gy gs wi hi x y W
  generalize placeR (siteE (nameB s) sx sy z r g st wd) t ray gate g sx sy r st = pr at *
  generalize findR (siteE (nameB s) sx sy z r g st wd) t r st g sx sy x y = fr at *
  generalize pixR (gridE gx gy gs wi hi) gx gy gs wi hi x y = xr at *
  generalize decide (r ≤ 20 ∧ g ≤ 60 ∧ wi ≤ 16 ∧ hi ≤ 16 ∧ (s.size : Int) ≤ 20) = fb at *
  obtain ⟨⟨pa, pb⟩, pe⟩ := pr
  obtain ⟨⟨fa, f2⟩, fe⟩ := fr
  obtain ⟨xa, xe⟩ := xr
  unfold siteV gridV twoE at *
  simp only at hp1 hp2 hf1 hf2 hx1 hx2
  have Hfew := hide hfew
  have Hp1 := hide hp1
  have Hp2 := hide hp2
  have Hf1 := hide hf1
  have Hf2 := hide hf2
  have Hx1 := hide hx1
  have Hx2 := hide hx2
  clear hfew hp1 hp2 hf1 hf2 hx1 hx2
  cases fb with
  | false =>
    go_enter Try.func11, Try.ntmps11
    have HB := hide (Below.refl w.heap.size w)
    go_wp2_with fail
    refine at_world fun W hW => ?_
    have bq0 : Blk W w.heap.size 33 #[.string s, .int .i64 sx, .int .i64 sy, .int .i64 z, .int .i64 r, .int .i64 g, .int .i64 st, .int .i64 wd] := by rw [hW]; exact (Blk.new _ _ _).alloc _
    have bq1 : Blk W (w.heap.size + 1) 35 #[.int .i64 gx, .int .i64 gy, .int .i64 gs, .int .i64 wi, .int .i64 hi] := by rw [hW]; exact blk_new_at (by simp)
    have LW : Later w W := by rw [hW]; exact (((Below.refl _ _).alloc (Nat.le_refl _) _).alloc (by simp; try omega) _)
    have szW : W.heap.size = w.heap.size + 2 := by rw [hW]; simp
    clear hW
    replace HB := hide (onward HB.out LW)
    have Hq := hide bq0
    have Hf := hide bq1
    clear bq0 bq1 LW szW
    refine (Hfew.out _).mono ?_
    rintro e w1 ⟨rfl, hb⟩
    replace HB := hide (onward HB.out hb)
    replace Hq := hide (blk_later Hq.out hb)
    replace Hf := hide (blk_later Hf.out hb)
    clear hb
    go_wp2_with fail
    refine (works_any _).mono ?_
    rintro e w9 ⟨rfl, hb⟩
    replace HB := hide (onward HB.out hb)
    replace Hq := hide (blk_later Hq.out hb)
    replace Hf := hide (blk_later Hf.out hb)
    clear hb
    go_wp2
    go_ret
    exact ⟨rfl, HB.out⟩
  | true =>
    go_enter Try.func11, Try.ntmps11
    have HB := hide (Below.refl w.heap.size w)
    go_wp2_with fail
    refine at_world fun W hW => ?_
    have bq0 : Blk W w.heap.size 33 #[.string s, .int .i64 sx, .int .i64 sy, .int .i64 z, .int .i64 r, .int .i64 g, .int .i64 st, .int .i64 wd] := by rw [hW]; exact (Blk.new _ _ _).alloc _
    have bq1 : Blk W (w.heap.size + 1) 35 #[.int .i64 gx, .int .i64 gy, .int .i64 gs, .int .i64 wi, .int .i64 hi] := by rw [hW]; exact blk_new_at (by simp)
    have LW : Later w W := by rw [hW]; exact (((Below.refl _ _).alloc (Nat.le_refl _) _).alloc (by simp; try omega) _)
    have szW : W.heap.size = w.heap.size + 2 := by rw [hW]; simp
    clear hW
    replace HB := hide (onward HB.out LW)
    have Hq := hide bq0
    have Hf := hide bq1
    clear bq0 bq1 LW szW
    refine (Hfew.out _).mono ?_
    rintro e w1 ⟨rfl, hb⟩
    replace HB := hide (onward HB.out hb)
    replace Hq := hide (blk_later Hq.out hb)
    replace Hf := hide (blk_later Hf.out hb)
    clear hb
    obtain ⟨q0, q1, q2, q3, q4, q5, q6, q7⟩ := Hq.out.site8
    have lts := Hq.out.lt
    obtain ⟨e0, e1, e2, e3, e4⟩ := Hf.out.c5
    have ltf := Hf.out.lt
    go_wp2_with fail
    clear q0 q1 q2 q3 q4 q5 q6 q7 lts e0 e1 e2 e3 e4 ltf
    refine (Hp1.out _).mono ?_
    rintro e w2 ⟨rfl, hb⟩
    replace HB := hide (onward HB.out hb)
    replace Hq := hide (blk_later Hq.out hb)
    replace Hf := hide (blk_later Hf.out hb)
    clear hb
    obtain ⟨q0, q1, q2, q3, q4, q5, q6, q7⟩ := Hq.out.site8
    have lts := Hq.out.lt
    obtain ⟨e0, e1, e2, e3, e4⟩ := Hf.out.c5
    have ltf := Hf.out.lt
    go_wp2_with fail
    clear q0 q1 q2 q3 q4 q5 q6 q7 lts e0 e1 e2 e3 e4 ltf
    refine (Hp2.out _).mono ?_
    rintro e w3 ⟨rfl, hb⟩
    replace HB := hide (onward HB.out hb)
    replace Hq := hide (blk_later Hq.out hb)
    replace Hf := hide (blk_later Hf.out hb)
    clear hb
    obtain ⟨q0, q1, q2, q3, q4, q5, q6, q7⟩ := Hq.out.site8
    have lts := Hq.out.lt
    obtain ⟨e0, e1, e2, e3, e4⟩ := Hf.out.c5
    have ltf := Hf.out.lt
    go_wp2_with fail
    clear q0 q1 q2 q3 q4 q5 q6 q7 lts e0 e1 e2 e3 e4 ltf
    refine (Hf1.out _).mono ?_
    rintro e w4 ⟨rfl, hb⟩
    replace HB := hide (onward HB.out hb)
    replace Hq := hide (blk_later Hq.out hb)
    replace Hf := hide (blk_later Hf.out hb)
    clear hb
    obtain ⟨q0, q1, q2, q3, q4, q5, q6, q7⟩ := Hq.out.site8
    have lts := Hq.out.lt
    obtain ⟨e0, e1, e2, e3, e4⟩ := Hf.out.c5
    have ltf := Hf.out.lt
    go_wp2_with fail
    clear q0 q1 q2 q3 q4 q5 q6 q7 lts e0 e1 e2 e3 e4 ltf
    refine (Hf2.out _).mono ?_
    rintro e w5 ⟨rfl, hb⟩
    replace HB := hide (onward HB.out hb)
    replace Hq := hide (blk_later Hq.out hb)
    replace Hf := hide (blk_later Hf.out hb)
    clear hb
    obtain ⟨q0, q1, q2, q3, q4, q5, q6, q7⟩ := Hq.out.site8
    have lts := Hq.out.lt
    obtain ⟨e0, e1, e2, e3, e4⟩ := Hf.out.c5
    have ltf := Hf.out.lt
    go_wp2_with fail
    clear q0 q1 q2 q3 q4 q5 q6 q7 lts e0 e1 e2 e3 e4 ltf
    refine (Hx1.out _).mono ?_
    rintro e w6 ⟨rfl, hb⟩
    replace HB := hide (onward HB.out hb)
    replace Hq := hide (blk_later Hq.out hb)
    replace Hf := hide (blk_later Hf.out hb)
    clear hb
    obtain ⟨q0, q1, q2, q3, q4, q5, q6, q7⟩ := Hq.out.site8
    have lts := Hq.out.lt
    obtain ⟨e0, e1, e2, e3, e4⟩ := Hf.out.c5
    have ltf := Hf.out.lt
    go_wp2_with fail
    clear q0 q1 q2 q3 q4 q5 q6 q7 lts e0 e1 e2 e3 e4 ltf
    refine (Hx2.out _).mono ?_
    rintro e w7 ⟨rfl, hb⟩
    replace HB := hide (onward HB.out hb)
    replace Hq := hide (blk_later Hq.out hb)
    replace Hf := hide (blk_later Hf.out hb)
    clear hb
    go_wp2_with fail
    refine (places_any _).mono ?_
    rintro e w8 ⟨rfl, hb⟩
    replace HB := hide (onward HB.out hb)
    replace Hq := hide (blk_later Hq.out hb)
    replace Hf := hide (blk_later Hf.out hb)
    clear hb
    go_wp2
    go_ret
    exact ⟨rfl, HB.out⟩
end Go.Proofs.Ythhhecidogcmjaa
