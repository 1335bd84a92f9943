/-
  Pixels and places: the exported contracts.
-/
import Derived.Test.YthhhecidogcmjaaPlaces
namespace Go.Proofs.Ythhhecidogcmjaa
open Go Go.RowKit

set_option maxHeartbeats 2000000 in
set_option maxRecDepth 100000 in
theorem Pixel_any (gx gy gs wi hi x y : Int) (w : World) :
    Calls Try.prog 49 #[gridV gx gy gs wi hi, .int .i64 x, .int .i64 y] w fun e w' => e = .returned (.tuple #[.int .i64 (pixR (gridE gx gy gs wi hi) gx gy gs wi hi x y).1, .int .i64 (pixR (gridE gx gy gs wi hi) gx gy gs wi hi x y).2]) ∧ Below w.heap.size w w' := by
  have hg := fun W => CheckGrid_any gx gy gs wi hi W
  have hR : ∀ ge, gridE gx gy gs wi hi = ge → pixR (gridE gx gy gs wi hi) gx gy gs wi hi x y = if ge ≠ 0 then (0, ge) else if pixZ gx gy gs wi hi x y < 0 then (0, 29) else (pixZ gx gy gs wi hi x y, 0) := fun ge h => by rw [h]; rfl
  obtain ⟨ge, hge⟩ : ∃ ge, gridE gx gy gs wi hi = ge := ⟨_, rfl⟩
  replace hR := hR ge hge
  have hok := fun h : ge = 0 => gridE_ok (hge.trans h)
  generalize pixR (gridE gx gy gs wi hi) gx gy gs wi hi x y = res at *
  rw [hge] at hg
  clear hge
  obtain ⟨ra, rb⟩ := res
  simp only
  by_cases h0 : ge = 0
  · subst h0
    obtain ⟨a1, a2, b1, b2, c1, c2, d1, d2, e1, e2⟩ := hok rfl
    have hp := fun W => pixel_any gx gy gs wi hi x y W a1 a2 b1 b2 c1 c2 d1 d2 e1 e2
    rw [if_neg (by simp)] at hR
    unfold gridV at *
    generalize pixZ gx gy gs wi hi x y = p at *
    by_cases hp0 : p < 0
    · rw [if_pos hp0] at hR
      have hr1 := congrArg Prod.fst hR
      have hr2 := congrArg Prod.snd hR
      simp only at hr1 hr2
      clear hR
      have Hg := hide hg
      have Hp := hide hp
      have HR1 := hide hr1
      have HR2 := hide hr2
      clear hg hp hr1 hr2
      go_enter Try.func49, Try.ntmps49
      have HB := hide (Below.refl w.heap.size w)
      go_wp2_with fail
      refine at_world fun W hW => ?_
      have bq0 : Blk W w.heap.size 35 #[.int .i64 gx, .int .i64 gy, .int .i64 gs, .int .i64 wi, .int .i64 hi] := by rw [hW]; exact Blk.new _ _ _
      have LW : Later w W := by rw [hW]; exact ((Below.refl _ _).alloc (Nat.le_refl _) _)
      have szW : W.heap.size = w.heap.size + 1 := by rw [hW]; simp
      clear hW
      replace HB := hide (onward HB.out LW)
      have Hf := hide bq0
      clear bq0 LW szW
      refine (Hg.out _).mono ?_
      rintro e w1 ⟨rfl, hb⟩
      replace HB := hide (onward HB.out hb)
      replace Hf := hide (blk_later Hf.out hb)
      clear hb
      obtain ⟨q0, q1, q2, q3, q4⟩ := Hf.out.c5
      have ltf := Hf.out.lt
      go_wp2_with fail
      refine (Hp.out _).mono ?_
      rintro e w2 ⟨rfl, hb⟩
      replace HB := hide (onward HB.out hb)
      replace Hf := hide (blk_later Hf.out hb)
      clear hb
      go_wp2
      refine bodyPost_ret (v := .tuple #[.int .i64 ra, .int .i64 rb]) (by rw [HR1.out, HR2.out]; simp [results, Try.results49, go_sem]) rfl ⟨rfl, HB.out⟩
    · rw [if_neg hp0] at hR
      have hr1 := congrArg Prod.fst hR
      have hr2 := congrArg Prod.snd hR
      simp only at hr1 hr2
      clear hR
      have Hg := hide hg
      have Hp := hide hp
      have HR1 := hide hr1
      have HR2 := hide hr2
      clear hg hp hr1 hr2
      go_enter Try.func49, Try.ntmps49
      have HB := hide (Below.refl w.heap.size w)
      go_wp2_with fail
      refine at_world fun W hW => ?_
      have bq0 : Blk W w.heap.size 35 #[.int .i64 gx, .int .i64 gy, .int .i64 gs, .int .i64 wi, .int .i64 hi] := by rw [hW]; exact Blk.new _ _ _
      have LW : Later w W := by rw [hW]; exact ((Below.refl _ _).alloc (Nat.le_refl _) _)
      have szW : W.heap.size = w.heap.size + 1 := by rw [hW]; simp
      clear hW
      replace HB := hide (onward HB.out LW)
      have Hf := hide bq0
      clear bq0 LW szW
      refine (Hg.out _).mono ?_
      rintro e w1 ⟨rfl, hb⟩
      replace HB := hide (onward HB.out hb)
      replace Hf := hide (blk_later Hf.out hb)
      clear hb
      obtain ⟨q0, q1, q2, q3, q4⟩ := Hf.out.c5
      have ltf := Hf.out.lt
      go_wp2_with fail
      refine (Hp.out _).mono ?_
      rintro e w2 ⟨rfl, hb⟩
      replace HB := hide (onward HB.out hb)
      replace Hf := hide (blk_later Hf.out hb)
      clear hb
      go_wp2
      refine bodyPost_ret (v := .tuple #[.int .i64 ra, .int .i64 rb]) (by rw [HR1.out, HR2.out]; simp [results, Try.results49, go_sem]) rfl ⟨rfl, HB.out⟩
  · rw [if_pos h0] at hR
    have hr1 := congrArg Prod.fst hR
    have hr2 := congrArg Prod.snd hR
    simp only at hr1 hr2
    have h00 : (ge != 0) = true := by simpa [bne] using h0
    unfold gridV at *
    clear hR
    have Hg := hide hg
    have HR1 := hide hr1
    have HR2 := hide hr2
    clear hg hr1 hr2
    go_enter Try.func49, Try.ntmps49
    have HB := hide (Below.refl w.heap.size w)
    go_wp2_with fail
    refine at_world fun W hW => ?_
    have bq0 : Blk W w.heap.size 35 #[.int .i64 gx, .int .i64 gy, .int .i64 gs, .int .i64 wi, .int .i64 hi] := by rw [hW]; exact Blk.new _ _ _
    have LW : Later w W := by rw [hW]; exact ((Below.refl _ _).alloc (Nat.le_refl _) _)
    have szW : W.heap.size = w.heap.size + 1 := by rw [hW]; simp
    clear hW
    replace HB := hide (onward HB.out LW)
    have Hf := hide bq0
    clear bq0 LW szW
    refine (Hg.out _).mono ?_
    rintro e w1 ⟨rfl, hb⟩
    replace HB := hide (onward HB.out hb)
    replace Hf := hide (blk_later Hf.out hb)
    clear hb
    obtain ⟨q0, q1, q2, q3, q4⟩ := Hf.out.c5
    have ltf := Hf.out.lt
    go_wp2
    refine bodyPost_ret (v := .tuple #[.int .i64 ra, .int .i64 rb]) (by rw [HR1.out, HR2.out]; simp [results, Try.results49, go_sem]) rfl ⟨rfl, HB.out⟩

def placeR (e t ray gate g sx sy ro st : Int) : (Int × Int) × Int :=
  if e ≠ 0 then ((0, 0), e) else if (winB t 0 256 && winB ray 0 (4 * ro - 1) && winB gate 0 (g - 1)) = true then (placeZ sx sy ro st t ray gate, 0) else ((0, 0), 3)

set_option maxHeartbeats 2000000 in
set_option maxRecDepth 100000 in
theorem Place_any (s : ByteArray) (sx sy z r g st wd t ray gate : Int) (w : World) (hs : s.size ≤ 9223372036854775807) :
    Calls Try.prog 46 #[siteV s sx sy z r g st wd, .int .i64 t, .int .i64 ray, .int .i64 gate] w fun e w' => e = .returned (twoE (placeR (siteE (nameB s) sx sy z r g st wd) t ray gate g sx sy r st)) ∧ Below w.heap.size w w' := by
  have hcs := fun W => CheckSite_any s (nameB s) sx sy z r g st wd W (fun W => Name_any s W hs)
  have hR : ∀ e, siteE (nameB s) sx sy z r g st wd = e → placeR (siteE (nameB s) sx sy z r g st wd) t ray gate g sx sy r st = if e ≠ 0 then ((0, 0), e) else if (winB t 0 256 && winB ray 0 (4 * r - 1) && winB gate 0 (g - 1)) = true then (placeZ sx sy r st t ray gate, 0) else ((0, 0), 3) := fun e he => by rw [he]; rfl
  obtain ⟨er, her⟩ : ∃ e, siteE (nameB s) sx sy z r g st wd = e := ⟨_, rfl⟩
  replace hR := hR er her
  have hok := fun h : er = 0 => siteE_ok (her.trans h)
  generalize placeR (siteE (nameB s) sx sy z r g st wd) t ray gate g sx sy r st = res at *
  rw [her] at hcs
  clear her
  unfold siteV
  have Hcs := hide hcs
  have Hok := hide hok
  clear hcs hok
  by_cases h0 : er = 0
  · subst h0
    obtain ⟨-, s1, s2, s3, s4, s5, s6, s7, s8, s9, s10, s11, s12, s13, s14⟩ := Hok.out rfl
    rw [if_neg (by simp)] at hR
    by_cases g1 : winB t 0 256 = true
    · obtain ⟨t1, t2⟩ := winB_iff.1 g1
      by_cases g2 : winB ray 0 (4 * r - 1) = true
      · obtain ⟨t3, t4⟩ := winB_iff.1 g2
        by_cases g3 : winB gate 0 (g - 1) = true
        · obtain ⟨t5, t6⟩ := winB_iff.1 g3
          rw [if_pos (by rw [g1, g2, g3]; rfl)] at hR
          have hf := fun W => place_any s sx sy z r g st wd t ray gate W (by omega) (by omega) (by omega) (by omega) (by omega) (by omega) (by omega) (by omega) (by omega) (by omega) (by omega) (by omega) (by omega) (by omega)
          unfold siteV at hf
          generalize placeZ sx sy r st t ray gate = fz at *
          obtain ⟨f1, f2⟩ := fz
          simp only at hf hR
          have Hf := hide hf
          have HR := hide hR
          clear hf hR
          go_enter Try.func46, Try.ntmps46
          have HB := hide (Below.refl w.heap.size w)
          go_wp2_with fail
          refine at_world fun W hW => ?_
          have bq0 : Blk W w.heap.size 33 #[.string s, .int .i64 sx, .int .i64 sy, .int .i64 z, .int .i64 r, .int .i64 g, .int .i64 st, .int .i64 wd] := by rw [hW]; exact Blk.new _ _ _
          have LW : Later w W := by rw [hW]; exact ((Below.refl _ _).alloc (Nat.le_refl _) _)
          have szW : W.heap.size = w.heap.size + 1 := by rw [hW]; simp
          clear hW
          replace HB := hide (onward HB.out LW)
          have Hq := hide bq0
          clear bq0 LW szW
          refine (Hcs.out _).mono ?_
          rintro e w1 ⟨rfl, hb⟩
          replace HB := hide (onward HB.out hb)
          replace Hq := hide (blk_later Hq.out hb)
          clear hb
          obtain ⟨q0, q1, q2, q3, q4, q5, q6, q7⟩ := Hq.out.site8
          have lts := Hq.out.lt
          go_wp2_with fail
          refine (within_any _ _ _ _).mono ?_
          rintro e w' ⟨rfl, rfl⟩
          rw [g1]
          go_wp2_with fail
          refine (within_any _ _ _ _).mono ?_
          rintro e w' ⟨rfl, rfl⟩
          rw [g2]
          go_wp2_with fail
          refine (within_any _ _ _ _).mono ?_
          rintro e w' ⟨rfl, rfl⟩
          rw [g3]
          clear g1 g2 g3
          go_wp2_with fail
          refine (Hf.out _).mono ?_
          rintro e w2 ⟨rfl, hb⟩
          replace HB := hide (onward HB.out hb)
          replace Hq := hide (blk_later Hq.out hb)
          clear hb
          go_wp2
          refine bodyPost_ret (v := twoE res) (by rw [HR.out]; simp [twoE, results, Try.results46, go_sem]) rfl ⟨rfl, HB.out⟩
        · have g4 : winB gate 0 (g - 1) = false := by simpa using g3
          rw [if_neg (by rw [g4]; simp)] at hR
          have HR := hide hR
          clear hR
          clear g3
          go_enter Try.func46, Try.ntmps46
          have HB := hide (Below.refl w.heap.size w)
          go_wp2_with fail
          refine at_world fun W hW => ?_
          have bq0 : Blk W w.heap.size 33 #[.string s, .int .i64 sx, .int .i64 sy, .int .i64 z, .int .i64 r, .int .i64 g, .int .i64 st, .int .i64 wd] := by rw [hW]; exact Blk.new _ _ _
          have LW : Later w W := by rw [hW]; exact ((Below.refl _ _).alloc (Nat.le_refl _) _)
          have szW : W.heap.size = w.heap.size + 1 := by rw [hW]; simp
          clear hW
          replace HB := hide (onward HB.out LW)
          have Hq := hide bq0
          clear bq0 LW szW
          refine (Hcs.out _).mono ?_
          rintro e w1 ⟨rfl, hb⟩
          replace HB := hide (onward HB.out hb)
          replace Hq := hide (blk_later Hq.out hb)
          clear hb
          obtain ⟨q0, q1, q2, q3, q4, q5, q6, q7⟩ := Hq.out.site8
          have lts := Hq.out.lt
          go_wp2_with fail
          refine (within_any _ _ _ _).mono ?_
          rintro e w' ⟨rfl, rfl⟩
          rw [g1]
          go_wp2_with fail
          refine (within_any _ _ _ _).mono ?_
          rintro e w' ⟨rfl, rfl⟩
          rw [g2]
          go_wp2_with fail
          refine (within_any _ _ _ _).mono ?_
          rintro e w' ⟨rfl, rfl⟩
          rw [g4]
          go_wp2
          refine bodyPost_ret (v := twoE res) (by rw [HR.out]; simp [twoE, results, Try.results46, go_sem]) rfl ⟨rfl, HB.out⟩
      · have g3 : winB ray 0 (4 * r - 1) = false := by simpa using g2
        rw [if_neg (by rw [g3]; simp)] at hR
        have HR := hide hR
        clear hR
        clear g2
        go_enter Try.func46, Try.ntmps46
        have HB := hide (Below.refl w.heap.size w)
        go_wp2_with fail
        refine at_world fun W hW => ?_
        have bq0 : Blk W w.heap.size 33 #[.string s, .int .i64 sx, .int .i64 sy, .int .i64 z, .int .i64 r, .int .i64 g, .int .i64 st, .int .i64 wd] := by rw [hW]; exact Blk.new _ _ _
        have LW : Later w W := by rw [hW]; exact ((Below.refl _ _).alloc (Nat.le_refl _) _)
        have szW : W.heap.size = w.heap.size + 1 := by rw [hW]; simp
        clear hW
        replace HB := hide (onward HB.out LW)
        have Hq := hide bq0
        clear bq0 LW szW
        refine (Hcs.out _).mono ?_
        rintro e w1 ⟨rfl, hb⟩
        replace HB := hide (onward HB.out hb)
        replace Hq := hide (blk_later Hq.out hb)
        clear hb
        obtain ⟨q0, q1, q2, q3, q4, q5, q6, q7⟩ := Hq.out.site8
        have lts := Hq.out.lt
        go_wp2_with fail
        refine (within_any _ _ _ _).mono ?_
        rintro e w' ⟨rfl, rfl⟩
        rw [g1]
        go_wp2_with fail
        refine (within_any _ _ _ _).mono ?_
        rintro e w' ⟨rfl, rfl⟩
        rw [g3]
        go_wp2
        refine bodyPost_ret (v := twoE res) (by rw [HR.out]; simp [twoE, results, Try.results46, go_sem]) rfl ⟨rfl, HB.out⟩
    · have g3 : winB t 0 256 = false := by simpa using g1
      rw [if_neg (by rw [g3]; simp)] at hR
      have HR := hide hR
      clear hR
      clear g1
      go_enter Try.func46, Try.ntmps46
      have HB := hide (Below.refl w.heap.size w)
      go_wp2_with fail
      refine at_world fun W hW => ?_
      have bq0 : Blk W w.heap.size 33 #[.string s, .int .i64 sx, .int .i64 sy, .int .i64 z, .int .i64 r, .int .i64 g, .int .i64 st, .int .i64 wd] := by rw [hW]; exact Blk.new _ _ _
      have LW : Later w W := by rw [hW]; exact ((Below.refl _ _).alloc (Nat.le_refl _) _)
      have szW : W.heap.size = w.heap.size + 1 := by rw [hW]; simp
      clear hW
      replace HB := hide (onward HB.out LW)
      have Hq := hide bq0
      clear bq0 LW szW
      refine (Hcs.out _).mono ?_
      rintro e w1 ⟨rfl, hb⟩
      replace HB := hide (onward HB.out hb)
      replace Hq := hide (blk_later Hq.out hb)
      clear hb
      obtain ⟨q0, q1, q2, q3, q4, q5, q6, q7⟩ := Hq.out.site8
      have lts := Hq.out.lt
      go_wp2_with fail
      refine (within_any _ _ _ _).mono ?_
      rintro e w' ⟨rfl, rfl⟩
      rw [g3]
      go_wp2
      refine bodyPost_ret (v := twoE res) (by rw [HR.out]; simp [twoE, results, Try.results46, go_sem]) rfl ⟨rfl, HB.out⟩
  · rw [if_pos h0] at hR
    have h00 : (er != 0) = true := by simpa [bne] using h0
    have HR := hide hR
    clear hR
    go_enter Try.func46, Try.ntmps46
    have HB := hide (Below.refl w.heap.size w)
    go_wp2_with fail
    refine at_world fun W hW => ?_
    have bq0 : Blk W w.heap.size 33 #[.string s, .int .i64 sx, .int .i64 sy, .int .i64 z, .int .i64 r, .int .i64 g, .int .i64 st, .int .i64 wd] := by rw [hW]; exact Blk.new _ _ _
    have LW : Later w W := by rw [hW]; exact ((Below.refl _ _).alloc (Nat.le_refl _) _)
    have szW : W.heap.size = w.heap.size + 1 := by rw [hW]; simp
    clear hW
    replace HB := hide (onward HB.out LW)
    have Hq := hide bq0
    clear bq0 LW szW
    refine (Hcs.out _).mono ?_
    rintro e w1 ⟨rfl, hb⟩
    replace HB := hide (onward HB.out hb)
    replace Hq := hide (blk_later Hq.out hb)
    clear hb
    obtain ⟨q0, q1, q2, q3, q4, q5, q6, q7⟩ := Hq.out.site8
    have lts := Hq.out.lt
    go_wp2
    refine bodyPost_ret (v := twoE res) (by rw [HR.out]; simp [twoE, results, Try.results46, go_sem]) rfl ⟨rfl, HB.out⟩
end Go.Proofs.Ythhhecidogcmjaa
