/-
  The law BeamViews returns true: the walk.
-/
import Derived.Test.YthhhecidogcmjaaView
import Derived.Test.YthhhecidogcmjaaPlacesSaid
namespace Go.Proofs.Ythhhecidogcmjaa
open Go Go.RowKit

def viewM (ev : Int) (l : List Int) : List Int := if ev = 0 then l else []
theorem viewM_bd {ev : Int} {l : List Int} (h : ev = 0 → l.length ≤ 4096) : (viewM ev l).length ≤ 9223372036854775807 := by
  unfold viewM
  split
  · rename_i he
    have := h he
    omega
  · simp
theorem view_flat {w w' : World} {ev : Int} {l : List Int} {n : Nat} {e : Ending} (h : ViewPost w ev l n e w') (hl : l.length = n) :
    ∃ A c, e = .returned (.tuple #[.slice A (viewM ev l).length c, .int .i64 ev]) ∧ Below w.heap.size w w' ∧ Ints w' w'.heap.size .i64 A (viewM ev l) := by
  obtain ⟨A, c, he, hb, hi⟩ := h
  subst hl
  unfold viewM
  by_cases h0 : ev = 0
  · exact ⟨A, c, by rw [he, if_pos h0, if_pos h0], hb, by rw [if_pos h0]; exact hi h0⟩
  · exact ⟨A, c, by rw [he, if_neg h0, if_neg h0]; rfl, hb, by rw [if_neg h0]; exact Ints.nil_ _ _ _ _⟩

set_option maxHeartbeats 2000000 in
set_option maxRecDepth 100000 in
theorem BeamViews_any (s : ByteArray) (sx sy z r g st wd t gx gy gs wi hi : Int) (w : World) (hs : s.size ≤ 9223372036854775807) :
    Calls Try.prog 12 #[siteV s sx sy z r g st wd, .int .i64 t, gridV gx gy gs wi hi] w fun e w' => e = .returned (.bool true) ∧ Below w.heap.size w w' := by
  have hfew := fun W => few_any s sx sy z r g st wd gx gy gs wi hi W hs
  have hv1 := fun W => (View_any s sx sy z r g st wd t gx gy gs wi hi W hs).mono fun _ _ h => view_flat h viewL_length
  have hv2 := fun W => (RefView_any s sx sy z r g st wd t gx gy gs wi hi W hs).mono fun _ _ h => view_flat h viewL_length
  have hbd : (viewM (viewE (siteE (nameB s) sx sy z r g st wd) (gridE gx gy gs wi hi) t) (viewL r st t g sx sy gx gy gs wi (wi * hi).toNat)).length ≤ 9223372036854775807 := viewM_bd fun he => by
    rw [viewL_length]
    have hg : gridE gx gy gs wi hi = 0 := by
      unfold viewE at he
      split at he
      · rename_i h; exact absurd he h
      · split at he
        · rename_i h; exact absurd he h
        · rename_i h; exact Classical.not_not.1 h
    obtain ⟨-, -, -, -, -, -, d1, d2, f1, f2⟩ := gridE_ok hg
    obtain ⟨m1, m2⟩ := mul_bdB (a := wi) (b := hi) (A := 64) (B := 64) (by omega) d2 (by omega) f2
    omega
  generalize viewM (viewE (siteE (nameB s) sx sy z r g st wd) (gridE gx gy gs wi hi) t) (viewL r st t g sx sy gx gy gs wi (wi * hi).toNat) = L at *
  generalize viewE (siteE (nameB s) sx sy z r g st wd) (gridE gx gy gs wi hi) t = ev at *
  generalize decide (r ≤ 20 ∧ g ≤ 60 ∧ wi ≤ 16 ∧ hi ≤ 16 ∧ (s.size : Int) ≤ 20) = fb at *
  obtain ⟨n, hn⟩ : ∃ n, L.length = n := ⟨_, rfl⟩
  rw [hn] at hbd hv1 hv2
  unfold siteV gridV at *
  have Hfew := hide hfew
  have Hv1 := hide hv1
  have Hv2 := hide hv2
  have Hbd := hide hbd
  have Hn := hide hn
  clear hfew hv1 hv2 hbd hn
  cases fb with
  | false =>
    go_enter Try.func12, Try.ntmps12
    have HB := hide (Below.refl w.heap.size w)
    go_wp2_with fail
    refine at_world fun W hW => ?_
    have bq0 : Blk W w.heap.size 33 #[.string s, .int .i64 sx, .int .i64 sy, .int .i64 z, .int .i64 r, .int .i64 g, .int .i64 st, .int .i64 wd] := by rw [hW]; exact (Blk.new _ _ _).alloc _
    have bq1 : Blk W (w.heap.size + 1) 35 #[.int .i64 gx, .int .i64 gy, .int .i64 gs, .int .i64 wi, .int .i64 hi] := by rw [hW]; exact blk_new_at (by simp)
    have LW : Later w W := by rw [hW]; exact (((Below.refl _ _).alloc (Nat.le_refl _) _).alloc (by simp; try omega) _)
    have szW : W.heap.size = w.heap.size + 2 := by rw [hW]; simp
    clear hW
    replace HB := hide (onward HB.out LW)
    have Hq := hide bq0
    have Hf := hide bq1
    clear bq0 bq1 LW szW
    refine (Hfew.out _).mono ?_
    rintro e w1 ⟨rfl, hb⟩
    replace HB := hide (onward HB.out hb)
    replace Hq := hide (blk_later Hq.out hb)
    replace Hf := hide (blk_later Hf.out hb)
    clear hb
    go_wp2_with fail
    refine (works_any _).mono ?_
    rintro e w9 ⟨rfl, hb⟩
    replace HB := hide (onward HB.out hb)
    replace Hq := hide (blk_later Hq.out hb)
    replace Hf := hide (blk_later Hf.out hb)
    clear hb
    go_wp2
    go_ret
    exact ⟨rfl, HB.out⟩
  | true =>
    go_enter Try.func12, Try.ntmps12
    have HB := hide (Below.refl w.heap.size w)
    go_wp2_with fail
    refine at_world fun W hW => ?_
    have bq0 : Blk W w.heap.size 33 #[.string s, .int .i64 sx, .int .i64 sy, .int .i64 z, .int .i64 r, .int .i64 g, .int .i64 st, .int .i64 wd] := by rw [hW]; exact (Blk.new _ _ _).alloc _
    have bq1 : Blk W (w.heap.size + 1) 35 #[.int .i64 gx, .int .i64 gy, .int .i64 gs, .int .i64 wi, .int .i64 hi] := by rw [hW]; exact blk_new_at (by simp)
    have LW : Later w W := by rw [hW]; exact (((Below.refl _ _).alloc (Nat.le_refl _) _).alloc (by simp; try omega) _)
    have szW : W.heap.size = w.heap.size + 2 := by rw [hW]; simp
    clear hW
    replace HB := hide (onward HB.out LW)
    have Hq := hide bq0
    have Hf := hide bq1
    clear bq0 bq1 LW szW
    refine (Hfew.out _).mono ?_
    rintro e w1 ⟨rfl, hb⟩
    replace HB := hide (onward HB.out hb)
    replace Hq := hide (blk_later Hq.out hb)
    replace Hf := hide (blk_later Hf.out hb)
    clear hb
    obtain ⟨q0, q1, q2, q3, q4, q5, q6, q7⟩ := Hq.out.site8
    have lts := Hq.out.lt
    obtain ⟨e0, e1, e2, e3, e4⟩ := Hf.out.c5
    have ltf := Hf.out.lt
    go_wp2_with fail
    clear q0 q1 q2 q3 q4 q5 q6 q7 lts e0 e1 e2 e3 e4 ltf
    refine (Hv1.out _).mono ?_
    rintro e w2 ⟨A, ca, rfl, hb, hi1⟩
    replace HB := hide (onward HB.out hb)
    replace Hq := hide (blk_later Hq.out hb)
    replace Hf := hide (blk_later Hf.out hb)
    clear hb
    have Hi1 := hide hi1
    clear hi1
    obtain ⟨q0, q1, q2, q3, q4, q5, q6, q7⟩ := Hq.out.site8
    have lts := Hq.out.lt
    obtain ⟨e0, e1, e2, e3, e4⟩ := Hf.out.c5
    have ltf := Hf.out.lt
    go_wp2_with fail
    clear q0 q1 q2 q3 q4 q5 q6 q7 lts e0 e1 e2 e3 e4 ltf
    refine (Hv2.out _).mono ?_
    rintro e w3 ⟨A', cb, rfl, hb, hi2⟩
    replace Hi1 := hide ((Ints.below Hi1.out hb).more (Below.size hb))
    replace HB := hide (onward HB.out hb)
    replace Hq := hide (blk_later Hq.out hb)
    replace Hf := hide (blk_later Hf.out hb)
    clear hb
    have hn1 := fun W (hw : Below w3.heap.size w3 W) => numbers_any A A' n ca cb w3.heap.size L W Hn.out Hbd.out hw.size (Hi1.out.below hw) (hi2.below hw)
    clear hi2
    have Hn1 := hide hn1
    clear hn1
    go_wp2_with fail
    refine (Hn1.out _ (Below.refl _ _)).mono ?_
    rintro e w4 ⟨rfl, hb⟩
    replace Hi1 := hide ((Ints.below Hi1.out hb).more (Below.size hb))
    replace HB := hide (onward HB.out hb)
    replace Hq := hide (blk_later Hq.out hb)
    replace Hf := hide (blk_later Hf.out hb)
    clear hb
    go_wp2_with fail
    refine (places_any _).mono ?_
    rintro e w5 ⟨rfl, hb⟩
    replace Hi1 := hide ((Ints.below Hi1.out hb).more (Below.size hb))
    replace HB := hide (onward HB.out hb)
    replace Hq := hide (blk_later Hq.out hb)
    replace Hf := hide (blk_later Hf.out hb)
    clear hb
    go_wp2
    go_ret
    exact ⟨rfl, HB.out⟩
end Go.Proofs.Ythhhecidogcmjaa
