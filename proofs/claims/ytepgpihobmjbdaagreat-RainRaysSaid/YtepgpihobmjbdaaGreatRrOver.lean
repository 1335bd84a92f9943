/-
  The reference's places and borders.
  The ground at a place: the reference's over.
-/
import Derived.Test.YtepgpihobmjbdaaGreatRrRefPlaces
import Derived.Test.YtepgpihobmjbdaaGreatRrUnder
import Derived.Test.YtepgpihobmjbdaaGreatSectorMath
set_option linter.unusedSimpArgs false
set_option linter.unusedVariables false
namespace Go.Proofs.YtepgpihobmjbdaaGreat
open Go Go.RowKit
attribute [local go_sem] fieldSpan0 fieldSpan1

set_option maxHeartbeats 2000000 in
set_option maxRecDepth 100000 in
theorem Border_any (s : ByteArray) (x y z r g st wd t j : Int) (w : World) (h1 : 0 ≤ st) (h1' : st ≤ 2000) (h2 : 0 ≤ t) (h3 : t ≤ 256) (h4 : 0 ≤ j) (h5 : j ≤ 200) :
    Calls Tryz.prog 86 #[siteV s x y z r g st wd, .int .i64 t, .int .i64 j] w fun e w' => e = .returned (.int .i64 (bord st t j)) ∧ Below w.heap.size w w' := by
  have hs := fun W => RefSlant_any t W
  unfold slantR at hs
  simp only [if_pos (winB_iff.2 ⟨show -8 ≤ t by omega, show t ≤ 264 by omega⟩)] at hs
  unfold vecE slantV at hs
  simp only at hs
  obtain ⟨b1, b2, b3, b4, b5, b6⟩ := bord_bd h1 h1' h2 h3 h4 h5
  obtain ⟨t1, t2⟩ := tilt_bd (show -8 ≤ t by omega) (show t ≤ 264 by omega)
  have hB : bord st t j = j * st * (262144 - t * t) / (262144 + t * t) := rfl
  rw [hB]
  clear hB b5 b6
  have hd := fun W => Down_any (j * st * (262144 - t * t)) (262144 + t * t) W (by omega) (by omega) (by omega) (by omega)
  unfold siteV
  have Hs := hide hs
  have Hd := hide hd
  clear hs hd
  go_enter Tryz.func86, Tryz.ntmps86
  have HB := hide (Below.refl w.heap.size w)
  go_wp2_with fail
  refine at_world fun W hW => ?_
  have bq0 : Blk W w.heap.size 28 #[.string s, .int .i64 x, .int .i64 y, .int .i64 z, .int .i64 r, .int .i64 g, .int .i64 st, .int .i64 wd] := by rw [hW]; exact Blk.new _ _ _
  have LW : Later w W := by rw [hW]; exact ((Below.refl _ _).alloc (Nat.le_refl _) _)
  have szW : W.heap.size = w.heap.size + 1 := by rw [hW]; simp
  clear hW
  replace HB := hide (onward HB.out LW)
  have Hq := hide bq0
  clear bq0 LW szW
  refine (Hs.out _).mono ?_
  rintro e w' ⟨rfl, rfl⟩
  obtain ⟨q0, q1, q2, q3, q4, q5, q6, q7⟩ := Hq.out.site8
  have lts := Hq.out.lt
  go_wp2_with fail
  refine (Hd.out _).mono ?_
  rintro e w' ⟨rfl, rfl⟩
  go_wp2
  go_ret
  exact ⟨rfl, HB.out⟩

set_option maxHeartbeats 2000000 in
set_option maxRecDepth 100000 in
theorem RefPlace_any (s : ByteArray) (sx sy z r g st wd t ray gate : Int) (w : World) (hs : s.size ≤ 9223372036854775807) :
    Calls Tryz.prog 78 #[siteV s sx sy z r g st wd, .int .i64 t, .int .i64 ray, .int .i64 gate] w fun e w' => e = .returned (twoE (placeR (siteE (nameB s) sx sy z r g st wd) t ray gate g sx sy r st)) ∧ Below w.heap.size w w' := by
  have hcs := fun W => RefCheckSite_any s sx sy z r g st wd W hs
  have hR : ∀ e, siteE (nameB s) sx sy z r g st wd = e → placeR (siteE (nameB s) sx sy z r g st wd) t ray gate g sx sy r st = if e ≠ 0 then ((0, 0), e) else if (winB t 0 256 && winB ray 0 (4 * r - 1) && winB gate 0 (g - 1)) = true then (placeZ sx sy r st t ray gate, 0) else ((0, 0), 3) := fun e he => by rw [he]; rfl
  obtain ⟨er, her⟩ : ∃ e, siteE (nameB s) sx sy z r g st wd = e := ⟨_, rfl⟩
  replace hR := hR er her
  have hok := fun h : er = 0 => siteE_ok (her.trans h)
  generalize placeR (siteE (nameB s) sx sy z r g st wd) t ray gate g sx sy r st = res at *
  rw [her] at hcs
  clear her
  unfold siteV at *
  have Hcs := hide hcs
  have Hok := hide hok
  clear hcs hok
  by_cases h0 : er = 0
  · subst h0
    obtain ⟨-, s1, s2, s3, s4, s5, s6, s7, s8, s9, s10, s11, s12, s13, s14⟩ := Hok.out rfl
    rw [if_neg (by simp)] at hR
    by_cases g1 : winB t 0 256 = true
    · obtain ⟨t1, t2⟩ := winB_iff.1 g1
      by_cases g2 : winB ray 0 (4 * r - 1) = true
      · obtain ⟨t3, t4⟩ := winB_iff.1 g2
        by_cases g3 : winB gate 0 (g - 1) = true
        · obtain ⟨t5, t6⟩ := winB_iff.1 g3
          rw [if_pos (by rw [g1, g2, g3]; rfl)] at hR
          have hd := fun W => RefDirection_any (2 * r) (2 * ray + 1) W
          unfold dirR okD at hd
          simp only [winB_iff.2 ⟨show 1 ≤ 2 * r by omega, show 2 * r ≤ 180 by omega⟩, winB_iff.2 ⟨show 0 ≤ 2 * ray + 1 by omega, show 2 * ray + 1 ≤ 4 * (2 * r) - 1 by omega⟩, Bool.and_self, if_true] at hd
          unfold vecE at hd
          have hr := fun W => refground_any s sx sy z r g st wd t gate W (by omega) (by omega) (by omega) (by omega) (by omega) (by omega)
          obtain ⟨b1, b2⟩ := rD_bd (st := st) (gate := gate) (t := t) (by omega) (by omega) (by omega) (by omega) (by omega) (by omega)
          obtain ⟨⟨v1, v2⟩, ⟨v3, v4⟩, v5, v6⟩ := dirV_bd (n := 2 * r) (a := 2 * ray + 1) (by omega) (by omega) (by omega) (by omega)
          have hP : placeZ sx sy r st t ray gate = (sx + rD st gate t * (dirV (2 * r) (2 * ray + 1)).x / (dirV (2 * r) (2 * ray + 1)).l, sy + rD st gate t * (dirV (2 * r) (2 * ray + 1)).y / (dirV (2 * r) (2 * ray + 1)).l) := rfl
          rw [hP] at hR
          unfold siteV at hr
          clear hP
          generalize dirV (2 * r) (2 * ray + 1) = v at *
          obtain ⟨vx, vy, vl⟩ := v
          simp only at *
          generalize rD st gate t = q at *
          generalize rU st gate t = qu at *
          obtain ⟨m1, m2⟩ := prod_bdQ (A := 600000) (B := 64800) (by omega) (by omega) ⟨by omega, b2⟩ ⟨v1, v2⟩
          obtain ⟨n1, n2⟩ := prod_bdQ (A := 600000) (B := 64800) (by omega) (by omega) ⟨by omega, b2⟩ ⟨v3, v4⟩
          obtain ⟨o1, o2⟩ := quot_bd (b := vl) (M := 38880000000) v5 (by omega) (show -38880000000 ≤ q * vx by omega) (by omega)
          obtain ⟨p1, p2⟩ := quot_bd (b := vl) (M := 38880000000) v5 (by omega) (show -38880000000 ≤ q * vy by omega) (by omega)
          have hc1 := fun W => Down_any (q * vx) vl W (by omega) (by omega) (by omega) (by omega)
          have hc2 := fun W => Down_any (q * vy) vl W (by omega) (by omega) (by omega) (by omega)
          have Hd := hide hd
          have Hr := hide hr
          have C1 := hide hc1
          have C2 := hide hc2
          have HR := hide hR
          clear hd hr hc1 hc2 hR
          go_enter Tryz.func78, Tryz.ntmps78
          have HB := hide (Below.refl w.heap.size w)
          go_wp2_with fail
          refine at_world fun W hW => ?_
          have bq0 : Blk W w.heap.size 28 #[.string s, .int .i64 sx, .int .i64 sy, .int .i64 z, .int .i64 r, .int .i64 g, .int .i64 st, .int .i64 wd] := by rw [hW]; exact Blk.new _ _ _
          have LW : Later w W := by rw [hW]; exact ((Below.refl _ _).alloc (Nat.le_refl _) _)
          have szW : W.heap.size = w.heap.size + 1 := by rw [hW]; simp
          clear hW
          replace HB := hide (onward HB.out LW)
          have Hq := hide bq0
          clear bq0 LW szW
          refine (Hcs.out _).mono ?_
          rintro e w1 ⟨rfl, hb⟩
          replace HB := hide (onward HB.out hb)
          replace Hq := hide (blk_later Hq.out hb)
          clear hb
          obtain ⟨q0, q1, q2, q3, q4, q5, q6, q7⟩ := Hq.out.site8
          have lts := Hq.out.lt
          go_wp2_with fail
          refine (In_anyQ _ _ _ _).mono ?_
          rintro e w' ⟨rfl, rfl⟩
          rw [g1]
          go_wp2_with fail
          refine (In_anyQ _ _ _ _).mono ?_
          rintro e w' ⟨rfl, rfl⟩
          rw [g2]
          go_wp2_with fail
          refine (In_anyQ _ _ _ _).mono ?_
          rintro e w' ⟨rfl, rfl⟩
          rw [g3]
          clear g1 g2 g3
          go_wp2_with fail
          refine (Hd.out _).mono ?_
          rintro e w' ⟨rfl, rfl⟩
          go_wp2_with fail
          refine (Hr.out _).mono ?_
          rintro e w2 ⟨rfl, hb⟩
          replace HB := hide (onward HB.out hb)
          replace Hq := hide (blk_later Hq.out hb)
          clear hb
          clear q0 q1 q2 q3 q4 q5 q6 q7 lts
          obtain ⟨q0, q1, q2, q3, q4, q5, q6, q7⟩ := Hq.out.site8
          have lts := Hq.out.lt
          go_wp2_with fail
          apply wp_region_L (w0 := w2) [[], [], [], [], [], [], [], [], [], [], [], [], [], [], [], [], [], [], []] [true, true, true, true, true, true, true, true, true, true, true, true, true, true, true, true, true, true, true] [] (fun ixq y => match ixq with  | _ => undef) (fun ixq x F wq => match ixq with  | _ => True) (fun a x => a) (by kernel_rfl) (by kernel_rfl) (fun _ => rfl) [65, 73] (by kernel_rfl)
          · intro x D hD
            have hne := hD.some
            have k1 := liftB hD q1 (by first | assumption | omega)
            have k2 := liftB hD q2 (by first | assumption | omega)
            simp only [takeOps, Act.put, List.setIfInBounds_toArray, List.set_cons_succ, List.set_cons_zero]
            repeat (go_big_quiet_step ((go_at_call 26; first | (with_reducible exact calls_same _ (C1.out _)) | (with_reducible exact calls_same _ (C2.out _)))))
            exact wpQuiet_nil rfl
          · intro d hd x x'
            simp only [List.mem_cons, List.not_mem_nil, or_false] at hd
            rcases hd with rfl | rfl
            all_goals rfl
          · exact trivial
          · exact trivial
          intro xx w3 F hL hlv1
          clear hlv1
          clear q0 q1 q2 q3 q4 q5 q6 q7 lts
          replace HB := hide (onward HB.out hL)
          replace Hq := hide (blk_later Hq.out hL)
          clear hL
          go_wp2
          refine bodyPost_ret (v := twoE res) (by rw [HR.out]; simp [twoE, results, Tryz.results78, go_sem]) rfl ⟨rfl, HB.out⟩
        · have g4 : winB gate 0 (g - 1) = false := by simpa using g3
          rw [if_neg (by rw [g4]; simp)] at hR
          have HR := hide hR
          clear hR
          clear g3
          go_enter Tryz.func78, Tryz.ntmps78
          have HB := hide (Below.refl w.heap.size w)
          go_wp2_with fail
          refine at_world fun W hW => ?_
          have bq0 : Blk W w.heap.size 28 #[.string s, .int .i64 sx, .int .i64 sy, .int .i64 z, .int .i64 r, .int .i64 g, .int .i64 st, .int .i64 wd] := by rw [hW]; exact Blk.new _ _ _
          have LW : Later w W := by rw [hW]; exact ((Below.refl _ _).alloc (Nat.le_refl _) _)
          have szW : W.heap.size = w.heap.size + 1 := by rw [hW]; simp
          clear hW
          replace HB := hide (onward HB.out LW)
          have Hq := hide bq0
          clear bq0 LW szW
          refine (Hcs.out _).mono ?_
          rintro e w1 ⟨rfl, hb⟩
          replace HB := hide (onward HB.out hb)
          replace Hq := hide (blk_later Hq.out hb)
          clear hb
          obtain ⟨q0, q1, q2, q3, q4, q5, q6, q7⟩ := Hq.out.site8
          have lts := Hq.out.lt
          go_wp2_with fail
          refine (In_anyQ _ _ _ _).mono ?_
          rintro e w' ⟨rfl, rfl⟩
          rw [g1]
          go_wp2_with fail
          refine (In_anyQ _ _ _ _).mono ?_
          rintro e w' ⟨rfl, rfl⟩
          rw [g2]
          go_wp2_with fail
          refine (In_anyQ _ _ _ _).mono ?_
          rintro e w' ⟨rfl, rfl⟩
          rw [g4]
          go_wp2
          refine bodyPost_ret (v := twoE res) (by rw [HR.out]; simp [twoE, results, Tryz.results78, go_sem]) rfl ⟨rfl, HB.out⟩
      · have g3 : winB ray 0 (4 * r - 1) = false := by simpa using g2
        rw [if_neg (by rw [g3]; simp)] at hR
        have HR := hide hR
        clear hR
        clear g2
        go_enter Tryz.func78, Tryz.ntmps78
        have HB := hide (Below.refl w.heap.size w)
        go_wp2_with fail
        refine at_world fun W hW => ?_
        have bq0 : Blk W w.heap.size 28 #[.string s, .int .i64 sx, .int .i64 sy, .int .i64 z, .int .i64 r, .int .i64 g, .int .i64 st, .int .i64 wd] := by rw [hW]; exact Blk.new _ _ _
        have LW : Later w W := by rw [hW]; exact ((Below.refl _ _).alloc (Nat.le_refl _) _)
        have szW : W.heap.size = w.heap.size + 1 := by rw [hW]; simp
        clear hW
        replace HB := hide (onward HB.out LW)
        have Hq := hide bq0
        clear bq0 LW szW
        refine (Hcs.out _).mono ?_
        rintro e w1 ⟨rfl, hb⟩
        replace HB := hide (onward HB.out hb)
        replace Hq := hide (blk_later Hq.out hb)
        clear hb
        obtain ⟨q0, q1, q2, q3, q4, q5, q6, q7⟩ := Hq.out.site8
        have lts := Hq.out.lt
        go_wp2_with fail
        refine (In_anyQ _ _ _ _).mono ?_
        rintro e w' ⟨rfl, rfl⟩
        rw [g1]
        go_wp2_with fail
        refine (In_anyQ _ _ _ _).mono ?_
        rintro e w' ⟨rfl, rfl⟩
        rw [g3]
        go_wp2
        refine bodyPost_ret (v := twoE res) (by rw [HR.out]; simp [twoE, results, Tryz.results78, go_sem]) rfl ⟨rfl, HB.out⟩
    · have g3 : winB t 0 256 = false := by simpa using g1
      rw [if_neg (by rw [g3]; simp)] at hR
      have HR := hide hR
      clear hR
      clear g1
      go_enter Tryz.func78, Tryz.ntmps78
      have HB := hide (Below.refl w.heap.size w)
      go_wp2_with fail
      refine at_world fun W hW => ?_
      have bq0 : Blk W w.heap.size 28 #[.string s, .int .i64 sx, .int .i64 sy, .int .i64 z, .int .i64 r, .int .i64 g, .int .i64 st, .int .i64 wd] := by rw [hW]; exact Blk.new _ _ _
      have LW : Later w W := by rw [hW]; exact ((Below.refl _ _).alloc (Nat.le_refl _) _)
      have szW : W.heap.size = w.heap.size + 1 := by rw [hW]; simp
      clear hW
      replace HB := hide (onward HB.out LW)
      have Hq := hide bq0
      clear bq0 LW szW
      refine (Hcs.out _).mono ?_
      rintro e w1 ⟨rfl, hb⟩
      replace HB := hide (onward HB.out hb)
      replace Hq := hide (blk_later Hq.out hb)
      clear hb
      obtain ⟨q0, q1, q2, q3, q4, q5, q6, q7⟩ := Hq.out.site8
      have lts := Hq.out.lt
      go_wp2_with fail
      refine (In_anyQ _ _ _ _).mono ?_
      rintro e w' ⟨rfl, rfl⟩
      rw [g3]
      go_wp2
      refine bodyPost_ret (v := twoE res) (by rw [HR.out]; simp [twoE, results, Tryz.results78, go_sem]) rfl ⟨rfl, HB.out⟩
  · rw [if_pos h0] at hR
    have h00 : (er != 0) = true := by simpa [bne] using h0
    have HR := hide hR
    clear hR
    go_enter Tryz.func78, Tryz.ntmps78
    have HB := hide (Below.refl w.heap.size w)
    go_wp2_with fail
    refine at_world fun W hW => ?_
    have bq0 : Blk W w.heap.size 28 #[.string s, .int .i64 sx, .int .i64 sy, .int .i64 z, .int .i64 r, .int .i64 g, .int .i64 st, .int .i64 wd] := by rw [hW]; exact Blk.new _ _ _
    have LW : Later w W := by rw [hW]; exact ((Below.refl _ _).alloc (Nat.le_refl _) _)
    have szW : W.heap.size = w.heap.size + 1 := by rw [hW]; simp
    clear hW
    replace HB := hide (onward HB.out LW)
    have Hq := hide bq0
    clear bq0 LW szW
    refine (Hcs.out _).mono ?_
    rintro e w1 ⟨rfl, hb⟩
    replace HB := hide (onward HB.out hb)
    replace Hq := hide (blk_later Hq.out hb)
    clear hb
    obtain ⟨q0, q1, q2, q3, q4, q5, q6, q7⟩ := Hq.out.site8
    have lts := Hq.out.lt
    go_wp2
    refine bodyPost_ret (v := twoE res) (by rw [HR.out]; simp [twoE, results, Tryz.results78, go_sem]) rfl ⟨rfl, HB.out⟩
end Go.Proofs.YtepgpihobmjbdaaGreat
namespace Go.Proofs.YtepgpihobmjbdaaGreat
open Go Go.RowKit

set_option maxHeartbeats 2000000 in
set_option maxRecDepth 100000 in
theorem over_any (gx gy gs wi hi x y : Int) (A : Option Addr) (n c : Nat) (l : List (Int × Int)) (w : World) (hge : gridE gx gy gs wi hi = 0) (hn : l.length = n) (hsz : (n : Int) = wi * hi) (hl : Ints w w.heap.size .i64 A (flat2Q l)) :
    Calls Tryz.prog 79 #[fieldV gx gy gs wi hi A n c, .int .i64 x, .int .i64 y] w fun e w' => e = .returned (.agg #[.int .i64 (overZ l gx gy gs wi hi x y).1, .int .i64 (overZ l gx gy gs wi hi x y).2]) ∧ Below w.heap.size w w' := by
  have hx := fun W => RefPixel_any gx gy gs wi hi x y W
  obtain ⟨a1, a2, b1, b2, c1, c2, d1, d2, f1, f2⟩ := gridE_ok hge
  have hpz : ¬ pixZ gx gy gs wi hi x y < 0 → pixZ gx gy gs wi hi x y < n ∧ pixZ gx gy gs wi hi x y ≤ 4096 := fun h => by
    rw [hsz]; exact pixZ_lt c1 h d1 d2 f2
  rw [hge] at hx
  unfold pixR at hx
  unfold overZ gridV fieldV at *
  generalize pixZ gx gy gs wi hi x y = pz at *
  rw [if_neg (by simp)] at hx
  by_cases hz : pz < 0
  · rw [if_pos hz] at hx
    rw [if_pos hz]
    simp only at hx
    have Hx := hide hx
    have Hl := hide hl
    have Hn := hide hn
    clear hx hl hn
    go_enter Tryz.func79, Tryz.ntmps79
    have HB := hide (Below.refl w.heap.size w)
    go_wp2_with fail
    refine at_world fun W hW => ?_
    have bq0 : Blk W w.heap.size 36 #[.int .i64 gx, .int .i64 gy, .int .i64 gs, .int .i64 wi, .int .i64 hi, .slice A n c] := by rw [hW]; exact (Blk.new _ _ _).alloc _
    have bq1 : Blk W (w.heap.size + 1) 24 #[.int .i64 0, .int .i64 0] := by rw [hW]; exact blk_new_at (by simp)
    have LW : Later w W := by rw [hW]; exact (((Below.refl _ _).alloc (Nat.le_refl _) _).alloc (by simp; try omega) _)
    have szW : W.heap.size = w.heap.size + 2 := by rw [hW]; simp
    clear hW
    replace Hl := hide ((Ints.below Hl.out LW).more (Below.size LW))
    replace HB := hide (onward HB.out LW)
    have Hf := hide bq0
    have Ho := hide bq1
    clear bq0 bq1 LW szW
    refine (Hx.out _).mono ?_
    rintro e w1 ⟨rfl, hb⟩
    replace Hl := hide ((Ints.below Hl.out hb).more (Below.size hb))
    replace HB := hide (onward HB.out hb)
    replace Hf := hide (blk_later Hf.out hb)
    replace Ho := hide (blk_later Ho.out hb)
    clear hb
    obtain ⟨o0, o1⟩ := Ho.out.c2
    have lto := Ho.out.lt
    have fo0 := Ho.out.frozen 0
    have fo1 := Ho.out.frozen 1
    go_wp2
    refine bodyPost_ret (v := .agg #[.int .i64 0, .int .i64 20000]) (by simp [results, Tryz.results79, go_sem, o0, o1, fo0, fo1, lto]) rfl ⟨rfl, ?_⟩
    repeat (first | exact HB.out | (refine Below.setCell ?_ (by first | omega | (simp; done) | (simp; omega)) _) | (refine Below.alloc ?_ (by first | omega | (simp; done) | (simp; omega)) _) | (refine below_drewN ?_ _))
  · rw [if_neg hz] at hx
    rw [if_neg hz]
    obtain ⟨hp1, hp2⟩ := hpz hz
    obtain ⟨q, rfl⟩ : ∃ q : Nat, pz = q := ⟨pz.toNat, by omega⟩
    rw [Int.toNat_natCast]
    have hqn : q < n := by omega
    simp only at hx
    clear hpz hz
    generalize hgv : l.getD q (0, 0) = gv
    obtain ⟨gv1, gv2⟩ := gv
    have Hx := hide hx
    have Hl := hide hl
    have Hn := hide hn
    have Hgv := hide hgv
    clear hx hl hn hgv
    go_enter Tryz.func79, Tryz.ntmps79
    have HB := hide (Below.refl w.heap.size w)
    go_wp2_with fail
    refine at_world fun W hW => ?_
    have bq0 : Blk W w.heap.size 36 #[.int .i64 gx, .int .i64 gy, .int .i64 gs, .int .i64 wi, .int .i64 hi, .slice A n c] := by rw [hW]; exact (Blk.new _ _ _).alloc _
    have bq1 : Blk W (w.heap.size + 1) 24 #[.int .i64 0, .int .i64 0] := by rw [hW]; exact blk_new_at (by simp)
    have LW : Later w W := by rw [hW]; exact (((Below.refl _ _).alloc (Nat.le_refl _) _).alloc (by simp; try omega) _)
    have szW : W.heap.size = w.heap.size + 2 := by rw [hW]; simp
    clear hW
    replace Hl := hide ((Ints.below Hl.out LW).more (Below.size LW))
    replace HB := hide (onward HB.out LW)
    have Hf := hide bq0
    have Ho := hide bq1
    clear bq0 bq1 LW szW
    refine (Hx.out _).mono ?_
    rintro e w1 ⟨rfl, hb⟩
    replace Hl := hide ((Ints.below Hl.out hb).more (Below.size hb))
    replace HB := hide (onward HB.out hb)
    replace Hf := hide (blk_later Hf.out hb)
    replace Ho := hide (blk_later Ho.out hb)
    clear hb
    obtain ⟨o0, o1⟩ := Ho.out.c2
    have lto := Ho.out.lt
    have fo0 := Ho.out.frozen 0
    have fo1 := Ho.out.frozen 1
    obtain ⟨bl, off, rfl, hbl, hcl⟩ := Hl.out.ptQ (by have := Hn.out; omega)
    obtain ⟨u0, u1⟩ := hcl q (by have := Hn.out; omega)
    clear hcl
    rw [Hgv.out] at u0 u1
    simp only at u0 u1
    obtain ⟨f0, f1, f2, f3, f4, f5⟩ := Hf.out.c6
    have ltf := Hf.out.lt
    go_wp2
    refine bodyPost_ret (v := .agg #[.int .i64 gv1, .int .i64 gv2]) (by simp [results, Tryz.results79, go_sem, o0, o1, fo0, fo1, lto]) rfl ⟨rfl, ?_⟩
    repeat (first | exact HB.out | (refine Below.setCell ?_ (by first | omega | (simp; done) | (simp; omega)) _) | (refine Below.alloc ?_ (by first | omega | (simp; done) | (simp; omega)) _) | (refine below_drewN ?_ _))
end Go.Proofs.YtepgpihobmjbdaaGreat
