/-
  The law RainMaps returns true: for every model, sweep, earth, ground and grid.
-/
import Derived.Test.YtepgpihobmjbdaaGreatRaysL
import Derived.Test.YtepgpihobmjbdaaGreatRefMap
set_option linter.unusedSimpArgs false
set_option linter.unusedVariables false
namespace Go.Proofs.YtepgpihobmjbdaaGreat
open Go Go.RowKit
theorem mapList_len {aE : Int} {RT : Nat → List (Int × Int)} {g ux uy us uw uh : Int} {vw : List Int} : (if mapE aE (gridE ux uy us uw uh) = 0 then mapL RT g vw (uw * uh).toNat else []).length ≤ 4096 := by
 split
 ·
  rename_i h
  have hg : gridE ux uy us uw uh = 0 := by
   unfold mapE at h
   split at h
   · omega
   · exact h
  obtain ⟨-, -, -, -, -, -, q1, q2, q3, q4⟩ := gridE_ok hg
  have := mul_bdB (a := uw) (b := uh) (A := 64) (B := 64) (by omega) q2 (by omega) q4
  have h2 : (mapL RT g vw (uw * uh).toNat).length ≤ (uw * uh).toNat := by simp [mapL]; omega
  omega
 · exact Nat.zero_le _
set_option maxHeartbeats 8000000 in
set_option maxRecDepth 100000 in
theorem RainMaps_any (s : ByteArray) (sx sy z r g st wd tilt time elo ehi gx gy gs wi hi ux uy us uw uh : Int) (l rt gl : List (Int × Int)) (a0 a1 b0 b1 c0 c1 : Int) (n ng : Nat) (rr : Nat → Ray1) (A : Option Addr) (nl cl : Nat) (Ar : Option Addr) (nr cr : Nat) (As : Option Addr) (cs : Nat) (Ag : Option Addr) (cg : Nat) (w : World)
  (hs : s.size ≤ 9223372036854775807) (hn : l.length = nl) (hmax : nl ≤ 9223372036854775807) (hnr : rt.length = nr) (hmaxr : nr ≤ 9223372036854775807) (hng : gl.length = ng) (hmaxg : ng ≤ 9223372036854775807) (hns : n ≤ maxLen)
  (hl : Ints w w.heap.size .i64 A (flat2 l)) (hlr : Ints w w.heap.size .i64 Ar (flat2 rt)) (hlg : Ints w w.heap.size .i64 Ag (flat2 gl)) (hrs : RaysAt w w.heap.size As n rr) :
  Calls Tryz.prog 4 #[.agg (mdlC A nl cl Ar nr cr a0 a1 b0 b1 c0 c1), .agg (sweepC s sx sy z r g st wd tilt time As n cs), .agg #[.int .i64 elo, .int .i64 ehi], .agg (fldC gx gy gs wi hi Ag ng cg), .agg #[.int .i64 ux, .int .i64 uy, .int .i64 us, .int .i64 uw, .int .i64 uh]] w fun e w' => e = .returned (.bool true) ∧ Below w.heap.size w w' := by
 rw [← flat2Q_eq] at hlg
 have cF := fun (W : World) (h4 : RaysAt W W.heap.size As n rr) => few_any s sx sy z r g st wd tilt time gx gy gs wi hi a0 a1 b0 b1 c0 c1 n ng rr A nl cl Ar nr cr As cs Ag cg W h4
 have cA := fun (W : World) (h1 : Ints W W.heap.size .i64 A (flat2 l)) (h2 : Ints W W.heap.size .i64 Ar (flat2 rt)) (h3 : Ints W W.heap.size .i64 Ag (flat2Q gl)) (h4 : RaysAt W W.heap.size As n rr) => Map_any s sx sy z r g st wd tilt time elo ehi gx gy gs wi hi ux uy us uw uh l rt gl a0 a1 b0 b1 c0 c1 n ng rr A nl cl Ar nr cr As cs Ag cg W hs hn hmax hnr hmaxr hng hmaxg hns h1 h2 h3 h4
 have cR := fun (A : Option Addr) (cl : Nat) (Ar : Option Addr) (cr : Nat) (W : World) (h1 : Ints W W.heap.size .i64 A (flat2 l)) (h2 : Ints W W.heap.size .i64 Ar (flat2 rt)) (h3 : Ints W W.heap.size .i64 Ag (flat2Q gl)) (h4 : RaysAt W W.heap.size As n rr) => RefMap_any s sx sy z r g st wd tilt time elo ehi gx gy gs wi hi ux uy us uw uh l rt gl a0 a1 b0 b1 c0 c1 n ng rr A nl cl Ar nr cr As cs Ag cg W hs hn hmax hnr hmaxr hng hmaxg hns h1 h2 h3 h4
 have hlen := mapList_len (aE := allE s sx sy z r g st wd tilt time elo ehi gx gy gs wi hi 0 l rt gl a0 a1 b0 b1 c0 c1 n ng rr) (RT := fun R => rateL z r g st wd tilt elo ehi gx gy gs wi hi sx sy R l rt gl a0 a1 b0 b1 c0 c1 rr) (g := g) (ux := ux) (uy := uy) (us := us) (uw := uw) (uh := uh) (vw := viewL r st tilt g sx sy ux uy us uw (uw * uh).toNat)
 unfold mapPost at cA cR
 generalize mapL (fun R => rateL z r g st wd tilt elo ehi gx gy gs wi hi sx sy R l rt gl a0 a1 b0 b1 c0 c1 rr) g (viewL r st tilt g sx sy ux uy us uw (uw * uh).toNat) (uw * uh).toNat = ML at *
 generalize mapE (allE s sx sy z r g st wd tilt time elo ehi gx gy gs wi hi 0 l rt gl a0 a1 b0 b1 c0 c1 n ng rr) (gridE ux uy us uw uh) = E at *
 generalize (if E = 0 then ML else []) = RL at *
 generalize orZ E ux = v0 at *
 generalize orZ E uy = v1 at *
 generalize orZ E us = v2 at *
 generalize orZ E uw = v3 at *
 generalize orZ E uh = v4 at *
 obtain ⟨fb, hfb⟩ : ∃ q, fewB nl nr n s.size ng r g wi hi rr = q := ⟨_, rfl⟩
 simp only [hfb] at cF
 unfold mdlC sweepC fldC at *
 unfold MapPost at cA cR
 have CF := hide cF
 have CA := hide cA
 have CR := hide cR
 have Hl := hide hl
 have Hlr := hide hlr
 have Hlg := hide hlg
 have Hrs := hide hrs
 have Hn := hide hn
 have Hnr := hide hnr
 clear cF cA cR hl hlr hlg hrs hn hnr
 clear hs hmax hmaxr hng hmaxg hns
 cases fb with
 | false =>
  clear CA CR hfb
  go_enter Tryz.func4, Tryz.ntmps4
  have HB := hide (Below.refl w.heap.size w)
  go_wp2_with fail
  refine at_world fun W hW => ?_
  have bq0 : Blk W w.heap.size 26 #[.slice A nl cl, .slice Ar nr cr, .int .i64 a0, .int .i64 a1, .int .i64 b0, .int .i64 b1, .int .i64 c0, .int .i64 c1] := by rw [hW]; exact ((((Blk.new _ _ _).alloc _).alloc _).alloc _).alloc _
  have bq1 : Blk W (w.heap.size + 1) 31 #[.string s, .int .i64 sx, .int .i64 sy, .int .i64 z, .int .i64 r, .int .i64 g, .int .i64 st, .int .i64 wd, .int .i64 tilt, .int .i64 time, .slice As n cs] := by rw [hW]; exact (((blk_new_at (by simp)).alloc _).alloc _).alloc _
  have bq2 : Blk W (w.heap.size + 2) 24 #[.int .i64 elo, .int .i64 ehi] := by rw [hW]; exact ((blk_new_at (by simp)).alloc _).alloc _
  have bq3 : Blk W (w.heap.size + 3) 36 #[.int .i64 gx, .int .i64 gy, .int .i64 gs, .int .i64 wi, .int .i64 hi, .slice Ag ng cg] := by rw [hW]; exact (blk_new_at (by simp)).alloc _
  have bq4 : Blk W (w.heap.size + 4) 33 #[.int .i64 ux, .int .i64 uy, .int .i64 us, .int .i64 uw, .int .i64 uh] := by rw [hW]; exact blk_new_at (by simp)
  have LW : Later w W := by rw [hW]; exact ((((((Below.refl _ _).alloc (Nat.le_refl _) _).alloc (by simp; try omega) _).alloc (by simp; try omega) _).alloc (by simp; try omega) _).alloc (by simp; try omega) _)
  have szW : W.heap.size = w.heap.size + 5 := by rw [hW]; simp
  clear hW
  replace HB := hide (onward HB.out LW)
  have Hm := hide bq0
  have Hsw := hide bq1
  have He := hide bq2
  have Hf := hide bq3
  have Hu := hide bq4
  clear bq0 bq1 bq2 bq3 bq4 LW szW
  refine (CF.out _ ((Hrs.out.below HB.out).more HB.out.size)).mono ?_
  rintro e w1 ⟨rfl, hb⟩
  replace HB := hide (onward HB.out hb)
  replace Hm := hide (blk_later Hm.out hb)
  replace Hsw := hide (blk_later Hsw.out hb)
  replace He := hide (blk_later He.out hb)
  replace Hf := hide (blk_later Hf.out hb)
  replace Hu := hide (blk_later Hu.out hb)
  clear hb
  obtain ⟨u0, u1, u2, u3, u4⟩ := Hu.out.c5
  have ltu := Hu.out.lt
  go_wp2_with fail
  refine (works_any _).mono ?_
  rintro e w2 ⟨rfl, hb⟩
  replace HB := hide (onward HB.out hb)
  replace Hm := hide (blk_later Hm.out hb)
  replace Hsw := hide (blk_later Hsw.out hb)
  replace He := hide (blk_later He.out hb)
  replace Hf := hide (blk_later Hf.out hb)
  replace Hu := hide (blk_later Hu.out hb)
  clear hb u0 u1 u2 u3 u4 ltu
  go_wp2
  go_ret
  exact ⟨rfl, HB.out⟩
 | true =>
  obtain ⟨f1, f2, f3, f4, f5, f6, f7, f8, f9⟩ := few_ok hfb
  clear hfb
  by_cases hw : (10 : Int) < uw
  ·
   clear CA CR
   go_enter Tryz.func4, Tryz.ntmps4
   have HB := hide (Below.refl w.heap.size w)
   go_wp2_with fail
   refine at_world fun W hW => ?_
   have bq0 : Blk W w.heap.size 26 #[.slice A nl cl, .slice Ar nr cr, .int .i64 a0, .int .i64 a1, .int .i64 b0, .int .i64 b1, .int .i64 c0, .int .i64 c1] := by rw [hW]; exact ((((Blk.new _ _ _).alloc _).alloc _).alloc _).alloc _
   have bq1 : Blk W (w.heap.size + 1) 31 #[.string s, .int .i64 sx, .int .i64 sy, .int .i64 z, .int .i64 r, .int .i64 g, .int .i64 st, .int .i64 wd, .int .i64 tilt, .int .i64 time, .slice As n cs] := by rw [hW]; exact (((blk_new_at (by simp)).alloc _).alloc _).alloc _
   have bq2 : Blk W (w.heap.size + 2) 24 #[.int .i64 elo, .int .i64 ehi] := by rw [hW]; exact ((blk_new_at (by simp)).alloc _).alloc _
   have bq3 : Blk W (w.heap.size + 3) 36 #[.int .i64 gx, .int .i64 gy, .int .i64 gs, .int .i64 wi, .int .i64 hi, .slice Ag ng cg] := by rw [hW]; exact (blk_new_at (by simp)).alloc _
   have bq4 : Blk W (w.heap.size + 4) 33 #[.int .i64 ux, .int .i64 uy, .int .i64 us, .int .i64 uw, .int .i64 uh] := by rw [hW]; exact blk_new_at (by simp)
   have LW : Later w W := by rw [hW]; exact ((((((Below.refl _ _).alloc (Nat.le_refl _) _).alloc (by simp; try omega) _).alloc (by simp; try omega) _).alloc (by simp; try omega) _).alloc (by simp; try omega) _)
   have szW : W.heap.size = w.heap.size + 5 := by rw [hW]; simp
   clear hW
   replace HB := hide (onward HB.out LW)
   have Hm := hide bq0
   have Hsw := hide bq1
   have He := hide bq2
   have Hf := hide bq3
   have Hu := hide bq4
   clear bq0 bq1 bq2 bq3 bq4 LW szW
   refine (CF.out _ ((Hrs.out.below HB.out).more HB.out.size)).mono ?_
   rintro e w1 ⟨rfl, hb⟩
   replace HB := hide (onward HB.out hb)
   replace Hm := hide (blk_later Hm.out hb)
   replace Hsw := hide (blk_later Hsw.out hb)
   replace He := hide (blk_later He.out hb)
   replace Hf := hide (blk_later Hf.out hb)
   replace Hu := hide (blk_later Hu.out hb)
   clear hb
   obtain ⟨u0, u1, u2, u3, u4⟩ := Hu.out.c5
   have ltu := Hu.out.lt
   go_wp2_with fail
   refine (works_any _).mono ?_
   rintro e w2 ⟨rfl, hb⟩
   replace HB := hide (onward HB.out hb)
   replace Hm := hide (blk_later Hm.out hb)
   replace Hsw := hide (blk_later Hsw.out hb)
   replace He := hide (blk_later He.out hb)
   replace Hf := hide (blk_later Hf.out hb)
   replace Hu := hide (blk_later Hu.out hb)
   clear hb u0 u1 u2 u3 u4 ltu
   go_wp2
   go_ret
   exact ⟨rfl, HB.out⟩
  by_cases hh : (10 : Int) < uh
  ·
   clear CA CR
   go_enter Tryz.func4, Tryz.ntmps4
   have HB := hide (Below.refl w.heap.size w)
   go_wp2_with fail
   refine at_world fun W hW => ?_
   have bq0 : Blk W w.heap.size 26 #[.slice A nl cl, .slice Ar nr cr, .int .i64 a0, .int .i64 a1, .int .i64 b0, .int .i64 b1, .int .i64 c0, .int .i64 c1] := by rw [hW]; exact ((((Blk.new _ _ _).alloc _).alloc _).alloc _).alloc _
   have bq1 : Blk W (w.heap.size + 1) 31 #[.string s, .int .i64 sx, .int .i64 sy, .int .i64 z, .int .i64 r, .int .i64 g, .int .i64 st, .int .i64 wd, .int .i64 tilt, .int .i64 time, .slice As n cs] := by rw [hW]; exact (((blk_new_at (by simp)).alloc _).alloc _).alloc _
   have bq2 : Blk W (w.heap.size + 2) 24 #[.int .i64 elo, .int .i64 ehi] := by rw [hW]; exact ((blk_new_at (by simp)).alloc _).alloc _
   have bq3 : Blk W (w.heap.size + 3) 36 #[.int .i64 gx, .int .i64 gy, .int .i64 gs, .int .i64 wi, .int .i64 hi, .slice Ag ng cg] := by rw [hW]; exact (blk_new_at (by simp)).alloc _
   have bq4 : Blk W (w.heap.size + 4) 33 #[.int .i64 ux, .int .i64 uy, .int .i64 us, .int .i64 uw, .int .i64 uh] := by rw [hW]; exact blk_new_at (by simp)
   have LW : Later w W := by rw [hW]; exact ((((((Below.refl _ _).alloc (Nat.le_refl _) _).alloc (by simp; try omega) _).alloc (by simp; try omega) _).alloc (by simp; try omega) _).alloc (by simp; try omega) _)
   have szW : W.heap.size = w.heap.size + 5 := by rw [hW]; simp
   clear hW
   replace HB := hide (onward HB.out LW)
   have Hm := hide bq0
   have Hsw := hide bq1
   have He := hide bq2
   have Hf := hide bq3
   have Hu := hide bq4
   clear bq0 bq1 bq2 bq3 bq4 LW szW
   refine (CF.out _ ((Hrs.out.below HB.out).more HB.out.size)).mono ?_
   rintro e w1 ⟨rfl, hb⟩
   replace HB := hide (onward HB.out hb)
   replace Hm := hide (blk_later Hm.out hb)
   replace Hsw := hide (blk_later Hsw.out hb)
   replace He := hide (blk_later He.out hb)
   replace Hf := hide (blk_later Hf.out hb)
   replace Hu := hide (blk_later Hu.out hb)
   clear hb
   obtain ⟨u0, u1, u2, u3, u4⟩ := Hu.out.c5
   have ltu := Hu.out.lt
   go_wp2_with fail
   refine (works_any _).mono ?_
   rintro e w2 ⟨rfl, hb⟩
   replace HB := hide (onward HB.out hb)
   replace Hm := hide (blk_later Hm.out hb)
   replace Hsw := hide (blk_later Hsw.out hb)
   replace He := hide (blk_later He.out hb)
   replace Hf := hide (blk_later Hf.out hb)
   replace Hu := hide (blk_later Hu.out hb)
   clear hb u0 u1 u2 u3 u4 ltu
   go_wp2
   go_ret
   exact ⟨rfl, HB.out⟩
  go_enter Tryz.func4, Tryz.ntmps4
  have HB := hide (Below.refl w.heap.size w)
  go_wp2_with fail
  refine at_world fun W hW => ?_
  have bq0 : Blk W w.heap.size 26 #[.slice A nl cl, .slice Ar nr cr, .int .i64 a0, .int .i64 a1, .int .i64 b0, .int .i64 b1, .int .i64 c0, .int .i64 c1] := by rw [hW]; exact ((((Blk.new _ _ _).alloc _).alloc _).alloc _).alloc _
  have bq1 : Blk W (w.heap.size + 1) 31 #[.string s, .int .i64 sx, .int .i64 sy, .int .i64 z, .int .i64 r, .int .i64 g, .int .i64 st, .int .i64 wd, .int .i64 tilt, .int .i64 time, .slice As n cs] := by rw [hW]; exact (((blk_new_at (by simp)).alloc _).alloc _).alloc _
  have bq2 : Blk W (w.heap.size + 2) 24 #[.int .i64 elo, .int .i64 ehi] := by rw [hW]; exact ((blk_new_at (by simp)).alloc _).alloc _
  have bq3 : Blk W (w.heap.size + 3) 36 #[.int .i64 gx, .int .i64 gy, .int .i64 gs, .int .i64 wi, .int .i64 hi, .slice Ag ng cg] := by rw [hW]; exact (blk_new_at (by simp)).alloc _
  have bq4 : Blk W (w.heap.size + 4) 33 #[.int .i64 ux, .int .i64 uy, .int .i64 us, .int .i64 uw, .int .i64 uh] := by rw [hW]; exact blk_new_at (by simp)
  have LW : Later w W := by rw [hW]; exact ((((((Below.refl _ _).alloc (Nat.le_refl _) _).alloc (by simp; try omega) _).alloc (by simp; try omega) _).alloc (by simp; try omega) _).alloc (by simp; try omega) _)
  have szW : W.heap.size = w.heap.size + 5 := by rw [hW]; simp
  clear hW
  replace HB := hide (onward HB.out LW)
  have Hm := hide bq0
  have Hsw := hide bq1
  have He := hide bq2
  have Hf := hide bq3
  have Hu := hide bq4
  clear bq0 bq1 bq2 bq3 bq4 LW szW
  refine (CF.out _ ((Hrs.out.below HB.out).more HB.out.size)).mono ?_
  rintro e w1 ⟨rfl, hb⟩
  replace HB := hide (onward HB.out hb)
  replace Hm := hide (blk_later Hm.out hb)
  replace Hsw := hide (blk_later Hsw.out hb)
  replace He := hide (blk_later He.out hb)
  replace Hf := hide (blk_later Hf.out hb)
  replace Hu := hide (blk_later Hu.out hb)
  clear hb
  obtain ⟨m0, m1, m2, m3, m4, m5, m6, m7⟩ := Hm.out.c8
  have ltm := Hm.out.lt
  have x0 := Hsw.out.c 0 rfl
  have x1 := Hsw.out.c 1 rfl
  have x2 := Hsw.out.c 2 rfl
  have x3 := Hsw.out.c 3 rfl
  have x4 := Hsw.out.c 4 rfl
  have x5 := Hsw.out.c 5 rfl
  have x6 := Hsw.out.c 6 rfl
  have x7 := Hsw.out.c 7 rfl
  have x8 := Hsw.out.c 8 rfl
  have x9 := Hsw.out.c 9 rfl
  have x10 := Hsw.out.c 10 rfl
  have ltx := Hsw.out.lt
  obtain ⟨y0, y1⟩ := He.out.c2
  have lty := He.out.lt
  obtain ⟨f0, f1, f2, f3, f4, f5⟩ := Hf.out.c6
  have ltf := Hf.out.lt
  obtain ⟨u0, u1, u2, u3, u4⟩ := Hu.out.c5
  have ltu := Hu.out.lt
  go_wp2_with fail
  refine (CA.out _ ((Hl.out.below HB.out).more HB.out.size) ((Hlr.out.below HB.out).more HB.out.size) ((Hlg.out.below HB.out).more HB.out.size) ((Hrs.out.below HB.out).more HB.out.size)).mono ?_
  rintro e w2 ⟨A1, k1, rfl, ho, hb⟩
  replace HB := hide (onward HB.out hb)
  replace Hm := hide (blk_later Hm.out hb)
  replace Hsw := hide (blk_later Hsw.out hb)
  replace He := hide (blk_later He.out hb)
  replace Hf := hide (blk_later Hf.out hb)
  replace Hu := hide (blk_later Hu.out hb)
  clear hb m0 m1 m2 m3 m4 m5 m6 m7 ltm x0 x1 x2 x3 x4 x5 x6 x7 x8 x9 x10 ltx y0 y1 lty f0 f1 f2 f3 f4 f5 ltf u0 u1 u2 u3 u4 ltu
  have Ho1 := hide ho
  clear ho
  go_wp2_with fail
  refine code_world fun w3 hW => ?_
  have bq0 : Blk w3 w2.heap.size 36 #[.int .i64 v0, .int .i64 v1, .int .i64 v2, .int .i64 v3, .int .i64 v4, .slice A1 RL.length k1] := by rw [hW]; exact Blk.new _ _ _
  have LW : Later w2 w3 := by rw [hW]; exact ((Below.refl _ _).alloc (Nat.le_refl _) _)
  have szW : w3.heap.size = w2.heap.size + 1 := by rw [hW]; simp
  clear hW
  replace HB := hide (onward HB.out LW)
  replace Hm := hide (blk_later Hm.out LW)
  replace Hsw := hide (blk_later Hsw.out LW)
  replace He := hide (blk_later He.out LW)
  replace Hf := hide (blk_later Hf.out LW)
  replace Hu := hide (blk_later Hu.out LW)
  replace Ho1 := hide (own_later Ho1.out LW)
  have Ha := hide bq0
  clear bq0 LW szW
  obtain ⟨m0, m1, m2, m3, m4, m5, m6, m7⟩ := Hm.out.c8
  have ltm := Hm.out.lt
  have x0 := Hsw.out.c 0 rfl
  have x1 := Hsw.out.c 1 rfl
  have x2 := Hsw.out.c 2 rfl
  have x3 := Hsw.out.c 3 rfl
  have x4 := Hsw.out.c 4 rfl
  have x5 := Hsw.out.c 5 rfl
  have x6 := Hsw.out.c 6 rfl
  have x7 := Hsw.out.c 7 rfl
  have x8 := Hsw.out.c 8 rfl
  have x9 := Hsw.out.c 9 rfl
  have x10 := Hsw.out.c 10 rfl
  have ltx := Hsw.out.lt
  obtain ⟨y0, y1⟩ := He.out.c2
  have lty := He.out.lt
  obtain ⟨f0, f1, f2, f3, f4, f5⟩ := Hf.out.c6
  have ltf := Hf.out.lt
  obtain ⟨u0, u1, u2, u3, u4⟩ := Hu.out.c5
  have ltu := Hu.out.lt
  apply wp_region_L (w0 := w3) [[], [], [], [], [], [], [1], [1, 6], [1, 6, 7], [1, 6, 7], [], [1, 6, 7, 8, 10], [1, 6, 7, 8, 9, 10, 11]] [true, false, true, true, true, true, false, false, false, false, false, false, false] [⟨1, none, [], []⟩, ⟨6, none, [1], []⟩, ⟨7, none, [], [6]⟩, ⟨8, none, [], [7]⟩, ⟨9, none, [], [7]⟩, ⟨10, none, [], []⟩, ⟨11, some 10, [10], [8, 10]⟩, ⟨12, none, [], [9]⟩] (fun ixq y => match ixq with | 1 => .agg #[.slice (y 0).1 nl (y 0).2, .slice (y 1).1 nr (y 1).2, .int .i64 a0, .int .i64 a1, .int .i64 b0, .int .i64 b1, .int .i64 c0, .int .i64 c1] | 6 => .tuple #[.agg #[.int .i64 v0, .int .i64 v1, .int .i64 v2, .int .i64 v3, .int .i64 v4, .slice (y 0).1 RL.length (y 0).2], .int .i64 E] | 7 => .tuple #[.agg #[.int .i64 v0, .int .i64 v1, .int .i64 v2, .int .i64 v3, .int .i64 v4, .slice (y 0).1 RL.length (y 0).2], .int .i64 E] | 8 => .agg #[.int .i64 v0, .int .i64 v1, .int .i64 v2, .int .i64 v3, .int .i64 v4, .slice (y 0).1 RL.length (y 0).2] | 9 => .int .i64 E | 10 => .pointer (y 0).1 | 11 => undef | 12 => .int .i64 E | _ => undef) (fun ixq x F wq => match ixq with | 1 => OwnF wq F w3.heap.size 109 2 (.slice (x 1 0).1 nl (x 1 0).2) nl ((flat2 l).map (Value.int .i64)) ∧ OwnF wq F w3.heap.size 109 2 (.slice (x 1 1).1 nr (x 1 1).2) nr ((flat2 rt).map (Value.int .i64)) | 6 => OwnF wq F w3.heap.size 24 2 (.slice (x 6 0).1 RL.length (x 6 0).2) RL.length (spanCells RL) | 7 => x 7 = x 6 | 8 => x 8 = x 7 | 9 => x 9 = x 7 | 10 => PtrF wq F w3.heap.size (x 10 0).1 36 #[.int .i64 0, .int .i64 0, .int .i64 0, .int .i64 0, .int .i64 0, .slice none 0 0] | 11 => PtrF wq F w3.heap.size (x 10 0).1 36 #[.int .i64 v0, .int .i64 v1, .int .i64 v2, .int .i64 v3, .int .i64 v4, .slice (x 8 0).1 RL.length (x 8 0).2] | 12 => x 12 = x 9 | _ => True) (fun a x => ((((((((a).put (some 42) (.agg #[.slice ((x 1) 0).1 nl ((x 1) 0).2, .slice ((x 1) 1).1 nr ((x 1) 1).2, .int .i64 a0, .int .i64 a1, .int .i64 b0, .int .i64 b1, .int .i64 c0, .int .i64 c1])).put (some 47) (.tuple #[.agg #[.int .i64 v0, .int .i64 v1, .int .i64 v2, .int .i64 v3, .int .i64 v4, .slice ((x 6) 0).1 RL.length ((x 6) 0).2], .int .i64 E])).put (some 40) (.tuple #[.agg #[.int .i64 v0, .int .i64 v1, .int .i64 v2, .int .i64 v3, .int .i64 v4, .slice ((x 7) 0).1 RL.length ((x 7) 0).2], .int .i64 E])).put (some 48) (.agg #[.int .i64 v0, .int .i64 v1, .int .i64 v2, .int .i64 v3, .int .i64 v4, .slice ((x 8) 0).1 RL.length ((x 8) 0).2])).put (some 49) (.int .i64 E)).put (some 13) (.pointer ((x 10) 0).1)).put (none) (undef)).put (some 14) (.int .i64 E)) (by kernel_rfl) (by kernel_rfl) (fun x => putH_step (some 42) (.agg #[.slice ((x 1) 0).1 nl ((x 1) 0).2, .slice ((x 1) 1).1 nr ((x 1) 1).2, .int .i64 a0, .int .i64 a1, .int .i64 b0, .int .i64 b1, .int .i64 c0, .int .i64 c1]) rfl rfl <| putH_step (some 47) (.tuple #[.agg #[.int .i64 v0, .int .i64 v1, .int .i64 v2, .int .i64 v3, .int .i64 v4, .slice ((x 6) 0).1 RL.length ((x 6) 0).2], .int .i64 E]) rfl rfl <| putH_step (some 40) (.tuple #[.agg #[.int .i64 v0, .int .i64 v1, .int .i64 v2, .int .i64 v3, .int .i64 v4, .slice ((x 7) 0).1 RL.length ((x 7) 0).2], .int .i64 E]) rfl rfl <| putH_step (some 48) (.agg #[.int .i64 v0, .int .i64 v1, .int .i64 v2, .int .i64 v3, .int .i64 v4, .slice ((x 8) 0).1 RL.length ((x 8) 0).2]) rfl rfl <| putH_step (some 49) (.int .i64 E) rfl rfl <| putH_step (some 13) (.pointer ((x 10) 0).1) rfl rfl <| putH_step (none) (undef) rfl rfl <| putH_step (some 14) (.int .i64 E) rfl rfl <| putH_end) [] (by kernel_rfl)
  ·
   intro x D hD
   have hne := hD.some
   have k0 := liftB hD m0 (by first | assumption | omega)
   have k1 := liftB hD m1 (by first | assumption | omega)
   have k2 := liftB hD m2 (by first | assumption | omega)
   have k3 := liftB hD m3 (by first | assumption | omega)
   have k4 := liftB hD m4 (by first | assumption | omega)
   have k5 := liftB hD m5 (by first | assumption | omega)
   have k6 := liftB hD m6 (by first | assumption | omega)
   have k7 := liftB hD m7 (by first | assumption | omega)
   have j0 := liftB hD x0 (by first | assumption | omega)
   have j1 := liftB hD x1 (by first | assumption | omega)
   have j2 := liftB hD x2 (by first | assumption | omega)
   have j3 := liftB hD x3 (by first | assumption | omega)
   have j4 := liftB hD x4 (by first | assumption | omega)
   have j5 := liftB hD x5 (by first | assumption | omega)
   have j6 := liftB hD x6 (by first | assumption | omega)
   have j7 := liftB hD x7 (by first | assumption | omega)
   have j8 := liftB hD x8 (by first | assumption | omega)
   have j9 := liftB hD x9 (by first | assumption | omega)
   have j10 := liftB hD x10 (by first | assumption | omega)
   have e0 := liftB hD y0 (by first | assumption | omega)
   have e1 := liftB hD y1 (by first | assumption | omega)
   have g0 := liftB hD f0 (by first | assumption | omega)
   have g1 := liftB hD f1 (by first | assumption | omega)
   have g2 := liftB hD f2 (by first | assumption | omega)
   have g3 := liftB hD f3 (by first | assumption | omega)
   have g4 := liftB hD f4 (by first | assumption | omega)
   have g5 := liftB hD f5 (by first | assumption | omega)
   have h0 := liftB hD u0 (by first | assumption | omega)
   have h1 := liftB hD u1 (by first | assumption | omega)
   have h2 := liftB hD u2 (by first | assumption | omega)
   have h3 := liftB hD u3 (by first | assumption | omega)
   have h4 := liftB hD u4 (by first | assumption | omega)
   simp only [takeOps, Act.put, List.setIfInBounds_toArray, List.set_cons_succ, List.set_cons_zero]
   repeat (go_big_quiet_step (fail))
   exact wpQuiet_nil rfl
  · exact fun _ h => absurd h (by simp)
  ·
   refine ⟨?_, ?_, ?_, ?_, ?_, ?_, ?_, ?_, trivial⟩
   ·
    refine obl_callL rfl (fun _ => by kernel_rfl) 9 (fun x => #[.agg #[.slice A nl cl, .slice Ar nr cr, .int .i64 a0, .int .i64 a1, .int .i64 b0, .int .i64 b1, .int .i64 c0, .int .i64 c1]]) (fun x w => by kernel_rfl) ?_
    intro x w F hL hN
    have hB := onward HB.out hL
    refine (model_own A nl cl l Ar nr cr rt (a0, a1) (b0, b1) (c0, c1) w Hn.out (by omega) Hnr.out (by omega) ((Hl.out.below hB).more hB.size) ((Hlr.out.below hB).more hB.size)).mono ?_
    rintro e w' ⟨v, rfl, hb, A1, e1, A2, e2, rfl, o1, o2⟩
    exact ⟨fun k => if k = 0 then (A1, e1) else (A2, e2), rfl, hb, (OwnF.of o1 (Nat.le_refl _)).base hL.size, (OwnF.of o2 (Nat.le_refl _)).base hL.size⟩
   ·
    refine obl_callL rfl (fun _ => by kernel_rfl) 12 (fun x => #[.agg #[.slice (x 1 0).1 nl (x 1 0).2, .slice (x 1 1).1 nr (x 1 1).2, .int .i64 a0, .int .i64 a1, .int .i64 b0, .int .i64 b1, .int .i64 c0, .int .i64 c1], .agg #[.string s, .int .i64 sx, .int .i64 sy, .int .i64 z, .int .i64 r, .int .i64 g, .int .i64 st, .int .i64 wd, .int .i64 tilt, .int .i64 time, .slice As n cs], .agg #[.int .i64 elo, .int .i64 ehi], .agg #[.int .i64 gx, .int .i64 gy, .int .i64 gs, .int .i64 wi, .int .i64 hi, .slice Ag ng cg], .agg #[.int .i64 ux, .int .i64 uy, .int .i64 us, .int .i64 uw, .int .i64 uh]]) (fun x w => by kernel_rfl) ?_
    intro x w F hL hN
    have n1 := hN 1 (by simp)
    have hB := onward HB.out hL
    refine (CR.out _ _ _ _ w (Ints.own n1.1.1 rfl (Nat.le_refl _)) (Ints.own n1.2.1 rfl (Nat.le_refl _)) ((Hlg.out.below hB).more hB.size) ((Hrs.out.below hB).more hB.size)).mono ?_
    rintro e w' ⟨A2, k2, rfl, ho, hb⟩
    exact ⟨fun _ => (A2, k2), rfl, hb, (OwnF.of ho (Nat.le_refl _)).base hL.size⟩
   · exact obl_pure rfl (fun _ => by kernel_rfl) (fun x => x 6) (fun x w => by kernel_rfl) (fun x w => rfl)
   · exact obl_pure rfl (fun _ => by kernel_rfl) (fun x => x 7) (fun x w => by kernel_rfl) (fun x w => rfl)
   · exact obl_pure rfl (fun _ => by kernel_rfl) (fun x => x 7) (fun x w => by kernel_rfl) (fun x w => rfl)
   · exact obl_alloc 36 13 (.agg #[.int .i64 0, .int .i64 0, .int .i64 0, .int .i64 0, .int .i64 0, .slice none 0 0]) (by kernel_rfl) (by kernel_rfl) (fun _ => rfl) (fun _ _ _ h => h)
   · refine obl_store 36 13 48 10 #[.int .i64 0, .int .i64 0, .int .i64 0, .int .i64 0, .int .i64 0, .slice none 0 0] (fun x => #[.int .i64 v0, .int .i64 v1, .int .i64 v2, .int .i64 v3, .int .i64 v4, .slice (x 8 0).1 RL.length (x 8 0).2]) (by kernel_rfl) rfl (by simp) (fun _ _ _ h => h) (fun _ => rfl) (fun _ => rfl) (fun _ => by kernel_rfl) (fun _ => rfl) (fun _ => by simp [Value.oneCell']) (fun _ => rfl) (by decide) (fun _ _ _ _ h => h)
   · exact obl_pure rfl (fun _ => by kernel_rfl) (fun x => x 9) (fun x w => by kernel_rfl) (fun x w => rfl)
  ·
   refine ⟨?_, ?_, ?_, ?_, ?_, ?_, ?_, ?_, trivial⟩
   ·
    refine ⟨fun x F wq wq' h hs hk => ?_, fun x x' F wq hx h => ?_⟩
    ·
     have h2 : OwnF wq F w3.heap.size 109 2 (.slice (x 1 0).1 nl (x 1 0).2) nl ((flat2 l).map (Value.int .i64)) ∧ OwnF wq F w3.heap.size 109 2 (.slice (x 1 1).1 nr (x 1 1).2) nr ((flat2 rt).map (Value.int .i64)) := h
     exact ⟨h2.1.stab hk, h2.2.stab hk⟩
    ·
     have h2 : OwnF wq F w3.heap.size 109 2 (.slice (x 1 0).1 nl (x 1 0).2) nl ((flat2 l).map (Value.int .i64)) ∧ OwnF wq F w3.heap.size 109 2 (.slice (x 1 1).1 nr (x 1 1).2) nr ((flat2 rt).map (Value.int .i64)) := h
     rw [hx 1 (by simp)] at h2
     exact h2
   ·
    refine ⟨fun x F wq wq' h hs hk => ?_, fun x x' F wq hx h => ?_⟩
    ·
     have h2 : OwnF wq F w3.heap.size 24 2 (.slice (x 6 0).1 RL.length (x 6 0).2) RL.length (spanCells RL) := h
     exact h2.stab hk
    ·
     have h2 : OwnF wq F w3.heap.size 24 2 (.slice (x 6 0).1 RL.length (x 6 0).2) RL.length (spanCells RL) := h
     rw [hx 6 (by simp)] at h2
     exact h2
   · exact owe_pure 6 (fun _ _ _ => rfl) (by simp)
   · exact owe_pure 7 (fun _ _ _ => rfl) (by simp)
   · exact owe_pure 7 (fun _ _ _ => rfl) (by simp)
   · exact owe_ptr 10 _ _ (fun x => #[.int .i64 0, .int .i64 0, .int .i64 0, .int .i64 0, .int .i64 0, .slice none 0 0]) (fun _ _ _ => rfl) (by simp) (fun _ _ _ => rfl)
   · exact owe_ptr 10 _ _ (fun x => #[.int .i64 v0, .int .i64 v1, .int .i64 v2, .int .i64 v3, .int .i64 v4, .slice (x 8 0).1 RL.length (x 8 0).2]) (fun _ _ _ => rfl) (by simp) (fun x x' hx => by simp only [hx 8 (by simp)])
   · exact owe_pure 9 (fun _ _ _ => rfl) (by simp)
  intro xx w4 F hK hlv1
  obtain ⟨fct1, fct6, fct7, fct8, fct9, -, fct11, fct12, -⟩ := hlv1
  replace fct1 : OwnF w4 (F 1) w3.heap.size 109 2 (.slice (xx 1 0).1 nl (xx 1 0).2) nl ((flat2 l).map (Value.int .i64)) ∧ OwnF w4 (F 1) w3.heap.size 109 2 (.slice (xx 1 1).1 nr (xx 1 1).2) nr ((flat2 rt).map (Value.int .i64)) := fct1 rfl
  replace fct6 : OwnF w4 (F 6) w3.heap.size 24 2 (.slice (xx 6 0).1 RL.length (xx 6 0).2) RL.length (spanCells RL) := fct6 rfl
  replace fct7 : xx 7 = xx 6 := fct7 rfl
  replace fct8 : xx 8 = xx 7 := fct8 rfl
  replace fct9 : xx 9 = xx 7 := fct9 rfl
  replace fct11 : PtrF w4 (F 11) w3.heap.size (xx 10 0).1 36 #[.int .i64 v0, .int .i64 v1, .int .i64 v2, .int .i64 v3, .int .i64 v4, .slice (xx 8 0).1 RL.length (xx 8 0).2] := fct11 rfl
  replace fct12 : xx 12 = xx 9 := fct12 rfl
  obtain ⟨g2, hA2, hge2, -, hb2⟩ := fct11
  have ho3 := fct6.1
  have e8 : xx 8 = xx 6 := fct8.trans fct7
  rw [e8] at hb2
  rw [hA2]
  clear fct1 fct6 fct7 fct8 fct9 fct12 hA2 hge2 e8
  generalize (xx 6 0).1 = A2 at *
  generalize (xx 6 0).2 = k2 at *
  replace HB := hide (onward HB.out hK)
  replace Hm := hide (blk_later Hm.out hK)
  replace Hsw := hide (blk_later Hsw.out hK)
  replace He := hide (blk_later He.out hK)
  replace Hf := hide (blk_later Hf.out hK)
  replace Hu := hide (blk_later Hu.out hK)
  replace Ho1 := hide (own_later Ho1.out hK)
  replace Ha := hide (blk_later Ha.out hK)
  clear hK m0 m1 m2 m3 m4 m5 m6 m7 ltm x0 x1 x2 x3 x4 x5 x6 x7 x8 x9 x10 ltx y0 y1 lty f0 f1 f2 f3 f4 f5 ltf u0 u1 u2 u3 u4 ltu
  have Ho2 := hide ho3
  have Hb := hide hb2
  clear ho3 hb2
  obtain ⟨p0, p1, p2, p3, p4, p5⟩ := Ha.out.c6
  have ltp := Ha.out.lt
  obtain ⟨q0, q1, q2, q3, q4, q5⟩ := Hb.out.c6
  have ltq := Hb.out.lt
  go_wp2_with fail
  have c5 := same_any A1 RL.length k1 RL A2 RL.length k2 RL w4 rfl (by omega) rfl (by omega) (ints_spans Ho1.out) (ints_spans Ho2.out)
  rw [show decide (RL = RL) = true from decide_eq_true rfl] at c5
  refine (c5).mono ?_
  rintro e w5 ⟨rfl, hb⟩
  replace HB := hide (onward HB.out hb)
  replace Hm := hide (blk_later Hm.out hb)
  replace Hsw := hide (blk_later Hsw.out hb)
  replace He := hide (blk_later He.out hb)
  replace Hf := hide (blk_later Hf.out hb)
  replace Hu := hide (blk_later Hu.out hb)
  replace Ho1 := hide (own_later Ho1.out hb)
  replace Ha := hide (blk_later Ha.out hb)
  replace Ho2 := hide (own_later Ho2.out hb)
  replace Hb := hide (blk_later Hb.out hb)
  clear hb p0 p1 p2 p3 p4 p5 ltp q0 q1 q2 q3 q4 q5 ltq
  clear Ho1 Ho2
  clear c5
  go_wp2_with fail
  refine (works_any _).mono ?_
  rintro e w6 ⟨rfl, hb⟩
  replace HB := hide (onward HB.out hb)
  replace Hm := hide (blk_later Hm.out hb)
  replace Hsw := hide (blk_later Hsw.out hb)
  replace He := hide (blk_later He.out hb)
  replace Hf := hide (blk_later Hf.out hb)
  replace Hu := hide (blk_later Hu.out hb)
  replace Ha := hide (blk_later Ha.out hb)
  replace Hb := hide (blk_later Hb.out hb)
  clear hb
  go_wp2
  go_ret
  exact ⟨rfl, HB.out⟩
end Go.Proofs.YtepgpihobmjbdaaGreat
