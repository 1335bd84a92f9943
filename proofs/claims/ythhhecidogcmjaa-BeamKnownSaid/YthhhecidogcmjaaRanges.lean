/-
  Ground ranges, heights and bands: the program's contracts, the reference's.
-/
import Derived.Test.YthhhecidogcmjaaRise3
namespace Go.Proofs.Ythhhecidogcmjaa
open Go.RowKit

theorem nm_any (s : ByteArray) (hs : s.size ≤ 9223372036854775807) : ∀ W, Calls Try.prog 20 #[.string s] W fun e w' => e = .returned (.bool (nameB s)) ∧ Below W.heap.size W w' := fun W => Name_any s W hs

set_option maxHeartbeats 4000000 in
set_option maxRecDepth 100000 in
theorem Height_any (s : ByteArray) (x y z r g st wd t elo ehi gate : Int) (w : World) (hs : s.size ≤ 9223372036854775807) :
    Calls Try.prog 32 #[siteV s x y z r g st wd, .int .i64 t, .agg #[.int .i64 elo, .int .i64 ehi], .int .i64 gate] w fun e w' => e = .returned (spanE (heightR (siteE (nameB s) x y z r g st wd) t gate z g st elo ehi)) ∧ Below w.heap.size w w' := by
  have hcs := fun W => CheckSite_any s (nameB s) x y z r g st wd W (nm_any s hs)
  have hR : ∀ e, siteE (nameB s) x y z r g st wd = e → heightR (siteE (nameB s) x y z r g st wd) t gate z g st elo ehi = if e ≠ 0 then ((0, 0), e) else if (winB t (-8) 264 && okE elo ehi && winB gate 0 (g - 1)) = true then ((riseD z st gate t ehi, riseU z st gate t elo), 0) else ((0, 0), 3) := fun e he => by rw [he]; rfl
  obtain ⟨er, her⟩ : ∃ e, siteE (nameB s) x y z r g st wd = e := ⟨_, rfl⟩
  replace hR := hR er her
  have hok := fun h : er = 0 => siteE_ok (her.trans h)
  generalize heightR (siteE (nameB s) x y z r g st wd) t gate z g st elo ehi = res at *
  rw [her] at hcs
  have hh := fun W => height_any s x y z r g st wd t gate elo ehi W
  unfold siteV at *
  clear her
  have Hcs := hide hcs
  have Hok := hide hok
  have Hh := hide hh
  clear hcs hok hh
  by_cases h0 : er = 0
  · subst h0
    obtain ⟨-, s1, s2, s3, s4, s5, s6, s7, s8, s9, s10, s11, s12, s13, s14⟩ := Hok.out rfl
    rw [if_neg (by simp)] at hR
    by_cases g1 : winB t (-8) 264 = true
    · obtain ⟨t1, t2⟩ := winB_iff.1 g1
      by_cases g2 : okE elo ehi = true
      · by_cases g3 : winB gate 0 (g - 1) = true
        · obtain ⟨t3, t4⟩ := winB_iff.1 g3
          rw [if_pos (by rw [g1, g2, g3]; rfl)] at hR
          have hh := fun W => Hh.out W t1 t2 t3 (by omega) (by omega) s12 s5 s6 g2
          generalize riseD z st gate t ehi = a at *
          generalize riseU z st gate t elo = b at *
          have Hh2 := hide hh
          have HR := hide hR
          clear hh hR
          clear Hh
          go_enter Try.func32, Try.ntmps32
          have HB := hide (Below.refl w.heap.size w)
          go_wp2_with fail
          refine at_world fun W hW => ?_
          have bq0 : Blk W w.heap.size 33 #[.string s, .int .i64 x, .int .i64 y, .int .i64 z, .int .i64 r, .int .i64 g, .int .i64 st, .int .i64 wd] := by rw [hW]; exact ((Blk.new _ _ _).alloc _).alloc _
          have bq1 : Blk W (w.heap.size + 1) 47 #[.int .i64 elo, .int .i64 ehi] := by rw [hW]; exact (blk_new_at (by simp)).alloc _
          have bq2 : Blk W (w.heap.size + 2) 47 #[.int .i64 0, .int .i64 0] := by rw [hW]; exact blk_new_at (by simp)
          have LW : Later w W := by rw [hW]; exact ((((Below.refl _ _).alloc (Nat.le_refl _) _).alloc (by simp; try omega) _).alloc (by simp; try omega) _)
          have szW : W.heap.size = w.heap.size + 3 := by rw [hW]; simp
          clear hW
          replace HB := hide (onward HB.out LW)
          have Hq := hide bq0
          have He := hide bq1
          have Ho := hide bq2
          clear bq0 bq1 bq2 LW szW
          refine (Hcs.out _).mono ?_
          rintro e w1 ⟨rfl, hb⟩
          replace HB := hide (onward HB.out hb)
          replace Hq := hide (blk_later Hq.out hb)
          replace He := hide (blk_later He.out hb)
          replace Ho := hide (blk_later Ho.out hb)
          clear hb
          obtain ⟨q0, q1, q2, q3, q4, q5, q6, q7⟩ := Hq.out.site8
          have lts := Hq.out.lt
          obtain ⟨v0, v1⟩ := He.out.c2
          have ltv := He.out.lt
          go_wp2_with fail
          refine (within_any _ _ _ _).mono ?_
          rintro e w' ⟨rfl, rfl⟩
          rw [g1]
          go_wp2_with fail
          refine (valid_any _ _ _).mono ?_
          rintro e w2 ⟨rfl, hb⟩
          replace HB := hide (onward HB.out hb)
          replace Hq := hide (blk_later Hq.out hb)
          replace He := hide (blk_later He.out hb)
          replace Ho := hide (blk_later Ho.out hb)
          clear hb v0 v1 ltv
          rw [g2]
          clear q0 q1 q2 q3 q4 q5 q6 q7 lts
          obtain ⟨q0, q1, q2, q3, q4, q5, q6, q7⟩ := Hq.out.site8
          have lts := Hq.out.lt
          obtain ⟨v0, v1⟩ := He.out.c2
          have ltv := He.out.lt
          go_wp2_with fail
          refine (within_any _ _ _ _).mono ?_
          rintro e w' ⟨rfl, rfl⟩
          rw [g3]
          clear g1 g2 g3
          go_wp2_with fail
          refine (Hh2.out _).mono ?_
          rintro e w3 ⟨rfl, hb⟩
          replace HB := hide (onward HB.out hb)
          replace Hq := hide (blk_later Hq.out hb)
          replace He := hide (blk_later He.out hb)
          replace Ho := hide (blk_later Ho.out hb)
          clear hb v0 v1 ltv
          obtain ⟨o0, o1⟩ := Ho.out.c2
          have lto := Ho.out.lt
          have fo0 := Ho.out.frozen 0
          have fo1 := Ho.out.frozen 1
          go_wp2
          refine bodyPost_ret (v := spanE res) (by rw [HR.out]; simp [spanE, results, Try.results32, go_sem, o0, o1, fo0, fo1, lto]) rfl ⟨rfl, ?_⟩
          repeat (first | exact HB.out | (refine Below.setCell ?_ (by first | omega | (simp; done) | (simp; omega)) _) | (refine Below.alloc ?_ (by first | omega | (simp; done) | (simp; omega)) _) | (refine below_drewN ?_ _))
        · have g4 : winB gate 0 (g - 1) = false := by simpa using g3
          rw [if_neg (by rw [g4]; simp)] at hR
          have HR := hide hR
          clear hR
          clear g3 Hh
          go_enter Try.func32, Try.ntmps32
          have HB := hide (Below.refl w.heap.size w)
          go_wp2_with fail
          refine at_world fun W hW => ?_
          have bq0 : Blk W w.heap.size 33 #[.string s, .int .i64 x, .int .i64 y, .int .i64 z, .int .i64 r, .int .i64 g, .int .i64 st, .int .i64 wd] := by rw [hW]; exact ((Blk.new _ _ _).alloc _).alloc _
          have bq1 : Blk W (w.heap.size + 1) 47 #[.int .i64 elo, .int .i64 ehi] := by rw [hW]; exact (blk_new_at (by simp)).alloc _
          have bq2 : Blk W (w.heap.size + 2) 47 #[.int .i64 0, .int .i64 0] := by rw [hW]; exact blk_new_at (by simp)
          have LW : Later w W := by rw [hW]; exact ((((Below.refl _ _).alloc (Nat.le_refl _) _).alloc (by simp; try omega) _).alloc (by simp; try omega) _)
          have szW : W.heap.size = w.heap.size + 3 := by rw [hW]; simp
          clear hW
          replace HB := hide (onward HB.out LW)
          have Hq := hide bq0
          have He := hide bq1
          have Ho := hide bq2
          clear bq0 bq1 bq2 LW szW
          refine (Hcs.out _).mono ?_
          rintro e w1 ⟨rfl, hb⟩
          replace HB := hide (onward HB.out hb)
          replace Hq := hide (blk_later Hq.out hb)
          replace He := hide (blk_later He.out hb)
          replace Ho := hide (blk_later Ho.out hb)
          clear hb
          obtain ⟨q0, q1, q2, q3, q4, q5, q6, q7⟩ := Hq.out.site8
          have lts := Hq.out.lt
          obtain ⟨v0, v1⟩ := He.out.c2
          have ltv := He.out.lt
          go_wp2_with fail
          refine (within_any _ _ _ _).mono ?_
          rintro e w' ⟨rfl, rfl⟩
          rw [g1]
          go_wp2_with fail
          refine (valid_any _ _ _).mono ?_
          rintro e w2 ⟨rfl, hb⟩
          replace HB := hide (onward HB.out hb)
          replace Hq := hide (blk_later Hq.out hb)
          replace He := hide (blk_later He.out hb)
          replace Ho := hide (blk_later Ho.out hb)
          clear hb v0 v1 ltv
          rw [g2]
          clear q0 q1 q2 q3 q4 q5 q6 q7 lts
          obtain ⟨q0, q1, q2, q3, q4, q5, q6, q7⟩ := Hq.out.site8
          have lts := Hq.out.lt
          obtain ⟨v0, v1⟩ := He.out.c2
          have ltv := He.out.lt
          go_wp2_with fail
          refine (within_any _ _ _ _).mono ?_
          rintro e w' ⟨rfl, rfl⟩
          rw [g4]
          clear g1 g2 g4
          obtain ⟨o0, o1⟩ := Ho.out.c2
          have lto := Ho.out.lt
          have fo0 := Ho.out.frozen 0
          have fo1 := Ho.out.frozen 1
          go_wp2
          refine bodyPost_ret (v := spanE res) (by rw [HR.out]; simp [spanE, results, Try.results32, go_sem, o0, o1, fo0, fo1, lto]) rfl ⟨rfl, ?_⟩
          repeat (first | exact HB.out | (refine Below.setCell ?_ (by first | omega | (simp; done) | (simp; omega)) _) | (refine Below.alloc ?_ (by first | omega | (simp; done) | (simp; omega)) _) | (refine below_drewN ?_ _))
      · have g4 : okE elo ehi = false := by simpa using g2
        rw [if_neg (by rw [g4]; simp)] at hR
        have HR := hide hR
        clear hR
        clear g2 Hh
        go_enter Try.func32, Try.ntmps32
        have HB := hide (Below.refl w.heap.size w)
        go_wp2_with fail
        refine at_world fun W hW => ?_
        have bq0 : Blk W w.heap.size 33 #[.string s, .int .i64 x, .int .i64 y, .int .i64 z, .int .i64 r, .int .i64 g, .int .i64 st, .int .i64 wd] := by rw [hW]; exact ((Blk.new _ _ _).alloc _).alloc _
        have bq1 : Blk W (w.heap.size + 1) 47 #[.int .i64 elo, .int .i64 ehi] := by rw [hW]; exact (blk_new_at (by simp)).alloc _
        have bq2 : Blk W (w.heap.size + 2) 47 #[.int .i64 0, .int .i64 0] := by rw [hW]; exact blk_new_at (by simp)
        have LW : Later w W := by rw [hW]; exact ((((Below.refl _ _).alloc (Nat.le_refl _) _).alloc (by simp; try omega) _).alloc (by simp; try omega) _)
        have szW : W.heap.size = w.heap.size + 3 := by rw [hW]; simp
        clear hW
        replace HB := hide (onward HB.out LW)
        have Hq := hide bq0
        have He := hide bq1
        have Ho := hide bq2
        clear bq0 bq1 bq2 LW szW
        refine (Hcs.out _).mono ?_
        rintro e w1 ⟨rfl, hb⟩
        replace HB := hide (onward HB.out hb)
        replace Hq := hide (blk_later Hq.out hb)
        replace He := hide (blk_later He.out hb)
        replace Ho := hide (blk_later Ho.out hb)
        clear hb
        obtain ⟨q0, q1, q2, q3, q4, q5, q6, q7⟩ := Hq.out.site8
        have lts := Hq.out.lt
        obtain ⟨v0, v1⟩ := He.out.c2
        have ltv := He.out.lt
        go_wp2_with fail
        refine (within_any _ _ _ _).mono ?_
        rintro e w' ⟨rfl, rfl⟩
        rw [g1]
        go_wp2_with fail
        refine (valid_any _ _ _).mono ?_
        rintro e w2 ⟨rfl, hb⟩
        replace HB := hide (onward HB.out hb)
        replace Hq := hide (blk_later Hq.out hb)
        replace He := hide (blk_later He.out hb)
        replace Ho := hide (blk_later Ho.out hb)
        clear hb v0 v1 ltv
        rw [g4]
        clear g1 g4
        clear q0 q1 q2 q3 q4 q5 q6 q7 lts
        obtain ⟨q0, q1, q2, q3, q4, q5, q6, q7⟩ := Hq.out.site8
        have lts := Hq.out.lt
        obtain ⟨v0, v1⟩ := He.out.c2
        have ltv := He.out.lt
        obtain ⟨o0, o1⟩ := Ho.out.c2
        have lto := Ho.out.lt
        have fo0 := Ho.out.frozen 0
        have fo1 := Ho.out.frozen 1
        go_wp2
        refine bodyPost_ret (v := spanE res) (by rw [HR.out]; simp [spanE, results, Try.results32, go_sem, o0, o1, fo0, fo1, lto]) rfl ⟨rfl, ?_⟩
        repeat (first | exact HB.out | (refine Below.setCell ?_ (by first | omega | (simp; done) | (simp; omega)) _) | (refine Below.alloc ?_ (by first | omega | (simp; done) | (simp; omega)) _) | (refine below_drewN ?_ _))
    · have g4 : winB t (-8) 264 = false := by simpa using g1
      rw [if_neg (by rw [g4]; simp)] at hR
      have HR := hide hR
      clear hR
      clear g1 Hh
      go_enter Try.func32, Try.ntmps32
      have HB := hide (Below.refl w.heap.size w)
      go_wp2_with fail
      refine at_world fun W hW => ?_
      have bq0 : Blk W w.heap.size 33 #[.string s, .int .i64 x, .int .i64 y, .int .i64 z, .int .i64 r, .int .i64 g, .int .i64 st, .int .i64 wd] := by rw [hW]; exact ((Blk.new _ _ _).alloc _).alloc _
      have bq1 : Blk W (w.heap.size + 1) 47 #[.int .i64 elo, .int .i64 ehi] := by rw [hW]; exact (blk_new_at (by simp)).alloc _
      have bq2 : Blk W (w.heap.size + 2) 47 #[.int .i64 0, .int .i64 0] := by rw [hW]; exact blk_new_at (by simp)
      have LW : Later w W := by rw [hW]; exact ((((Below.refl _ _).alloc (Nat.le_refl _) _).alloc (by simp; try omega) _).alloc (by simp; try omega) _)
      have szW : W.heap.size = w.heap.size + 3 := by rw [hW]; simp
      clear hW
      replace HB := hide (onward HB.out LW)
      have Hq := hide bq0
      have He := hide bq1
      have Ho := hide bq2
      clear bq0 bq1 bq2 LW szW
      refine (Hcs.out _).mono ?_
      rintro e w1 ⟨rfl, hb⟩
      replace HB := hide (onward HB.out hb)
      replace Hq := hide (blk_later Hq.out hb)
      replace He := hide (blk_later He.out hb)
      replace Ho := hide (blk_later Ho.out hb)
      clear hb
      obtain ⟨q0, q1, q2, q3, q4, q5, q6, q7⟩ := Hq.out.site8
      have lts := Hq.out.lt
      obtain ⟨v0, v1⟩ := He.out.c2
      have ltv := He.out.lt
      go_wp2_with fail
      refine (within_any _ _ _ _).mono ?_
      rintro e w' ⟨rfl, rfl⟩
      rw [g4]
      clear g4
      obtain ⟨o0, o1⟩ := Ho.out.c2
      have lto := Ho.out.lt
      have fo0 := Ho.out.frozen 0
      have fo1 := Ho.out.frozen 1
      go_wp2
      refine bodyPost_ret (v := spanE res) (by rw [HR.out]; simp [spanE, results, Try.results32, go_sem, o0, o1, fo0, fo1, lto]) rfl ⟨rfl, ?_⟩
      repeat (first | exact HB.out | (refine Below.setCell ?_ (by first | omega | (simp; done) | (simp; omega)) _) | (refine Below.alloc ?_ (by first | omega | (simp; done) | (simp; omega)) _) | (refine below_drewN ?_ _))
  · rw [if_pos h0] at hR
    have h00 : (er != 0) = true := by simpa [bne] using h0
    have HR := hide hR
    clear hR
    clear Hh
    go_enter Try.func32, Try.ntmps32
    have HB := hide (Below.refl w.heap.size w)
    go_wp2_with fail
    refine at_world fun W hW => ?_
    have bq0 : Blk W w.heap.size 33 #[.string s, .int .i64 x, .int .i64 y, .int .i64 z, .int .i64 r, .int .i64 g, .int .i64 st, .int .i64 wd] := by rw [hW]; exact ((Blk.new _ _ _).alloc _).alloc _
    have bq1 : Blk W (w.heap.size + 1) 47 #[.int .i64 elo, .int .i64 ehi] := by rw [hW]; exact (blk_new_at (by simp)).alloc _
    have bq2 : Blk W (w.heap.size + 2) 47 #[.int .i64 0, .int .i64 0] := by rw [hW]; exact blk_new_at (by simp)
    have LW : Later w W := by rw [hW]; exact ((((Below.refl _ _).alloc (Nat.le_refl _) _).alloc (by simp; try omega) _).alloc (by simp; try omega) _)
    have szW : W.heap.size = w.heap.size + 3 := by rw [hW]; simp
    clear hW
    replace HB := hide (onward HB.out LW)
    have Hq := hide bq0
    have He := hide bq1
    have Ho := hide bq2
    clear bq0 bq1 bq2 LW szW
    refine (Hcs.out _).mono ?_
    rintro e w1 ⟨rfl, hb⟩
    replace HB := hide (onward HB.out hb)
    replace Hq := hide (blk_later Hq.out hb)
    replace He := hide (blk_later He.out hb)
    replace Ho := hide (blk_later Ho.out hb)
    clear hb
    obtain ⟨q0, q1, q2, q3, q4, q5, q6, q7⟩ := Hq.out.site8
    have lts := Hq.out.lt
    obtain ⟨v0, v1⟩ := He.out.c2
    have ltv := He.out.lt
    obtain ⟨o0, o1⟩ := Ho.out.c2
    have lto := Ho.out.lt
    have fo0 := Ho.out.frozen 0
    have fo1 := Ho.out.frozen 1
    go_wp2
    refine bodyPost_ret (v := spanE res) (by rw [HR.out]; simp [spanE, results, Try.results32, go_sem, o0, o1, fo0, fo1, lto]) rfl ⟨rfl, ?_⟩
    repeat (first | exact HB.out | (refine Below.setCell ?_ (by first | omega | (simp; done) | (simp; omega)) _) | (refine Below.alloc ?_ (by first | omega | (simp; done) | (simp; omega)) _) | (refine below_drewN ?_ _))
set_option maxHeartbeats 4000000 in
set_option maxRecDepth 100000 in
theorem RefHeight_any (s : ByteArray) (x y z r g st wd t elo ehi gate : Int) (w : World) (hs : s.size ≤ 9223372036854775807) :
    Calls Try.prog 33 #[siteV s x y z r g st wd, .int .i64 t, .agg #[.int .i64 elo, .int .i64 ehi], .int .i64 gate] w fun e w' => e = .returned (spanE (heightR (siteE (nameB s) x y z r g st wd) t gate z g st elo ehi)) ∧ Below w.heap.size w w' := by
  have hcs := fun W => RefCheckSite_any s x y z r g st wd W hs
  have hR : ∀ e, siteE (nameB s) x y z r g st wd = e → heightR (siteE (nameB s) x y z r g st wd) t gate z g st elo ehi = if e ≠ 0 then ((0, 0), e) else if (winB t (-8) 264 && okE elo ehi && winB gate 0 (g - 1)) = true then ((riseD z st gate t ehi, riseU z st gate t elo), 0) else ((0, 0), 3) := fun e he => by rw [he]; rfl
  obtain ⟨er, her⟩ : ∃ e, siteE (nameB s) x y z r g st wd = e := ⟨_, rfl⟩
  replace hR := hR er her
  have hok := fun h : er = 0 => siteE_ok (her.trans h)
  generalize heightR (siteE (nameB s) x y z r g st wd) t gate z g st elo ehi = res at *
  rw [her] at hcs
  have hh := fun W => refheight_any s x y z r g st wd t gate elo ehi W
  unfold siteV at *
  clear her
  have Hcs := hide hcs
  have Hok := hide hok
  have Hh := hide hh
  clear hcs hok hh
  by_cases h0 : er = 0
  · subst h0
    obtain ⟨-, s1, s2, s3, s4, s5, s6, s7, s8, s9, s10, s11, s12, s13, s14⟩ := Hok.out rfl
    rw [if_neg (by simp)] at hR
    by_cases g1 : winB t (-8) 264 = true
    · obtain ⟨t1, t2⟩ := winB_iff.1 g1
      by_cases g2 : okE elo ehi = true
      · by_cases g3 : winB gate 0 (g - 1) = true
        · obtain ⟨t3, t4⟩ := winB_iff.1 g3
          rw [if_pos (by rw [g1, g2, g3]; rfl)] at hR
          have hh := fun W => Hh.out W t1 t2 t3 (by omega) (by omega) s12 s5 s6 g2
          generalize riseD z st gate t ehi = a at *
          generalize riseU z st gate t elo = b at *
          have Hh2 := hide hh
          have HR := hide hR
          clear hh hR
          clear Hh
          go_enter Try.func33, Try.ntmps33
          have HB := hide (Below.refl w.heap.size w)
          go_wp2_with fail
          refine at_world fun W hW => ?_
          have bq0 : Blk W w.heap.size 33 #[.string s, .int .i64 x, .int .i64 y, .int .i64 z, .int .i64 r, .int .i64 g, .int .i64 st, .int .i64 wd] := by rw [hW]; exact ((Blk.new _ _ _).alloc _).alloc _
          have bq1 : Blk W (w.heap.size + 1) 47 #[.int .i64 elo, .int .i64 ehi] := by rw [hW]; exact (blk_new_at (by simp)).alloc _
          have bq2 : Blk W (w.heap.size + 2) 47 #[.int .i64 0, .int .i64 0] := by rw [hW]; exact blk_new_at (by simp)
          have LW : Later w W := by rw [hW]; exact ((((Below.refl _ _).alloc (Nat.le_refl _) _).alloc (by simp; try omega) _).alloc (by simp; try omega) _)
          have szW : W.heap.size = w.heap.size + 3 := by rw [hW]; simp
          clear hW
          replace HB := hide (onward HB.out LW)
          have Hq := hide bq0
          have He := hide bq1
          have Ho := hide bq2
          clear bq0 bq1 bq2 LW szW
          refine (Hcs.out _).mono ?_
          rintro e w1 ⟨rfl, hb⟩
          replace HB := hide (onward HB.out hb)
          replace Hq := hide (blk_later Hq.out hb)
          replace He := hide (blk_later He.out hb)
          replace Ho := hide (blk_later Ho.out hb)
          clear hb
          obtain ⟨q0, q1, q2, q3, q4, q5, q6, q7⟩ := Hq.out.site8
          have lts := Hq.out.lt
          obtain ⟨v0, v1⟩ := He.out.c2
          have ltv := He.out.lt
          go_wp2_with fail
          refine (In_any _ _ _ _).mono ?_
          rintro e w' ⟨rfl, rfl⟩
          rw [g1]
          go_wp2_with fail
          refine (Earth_any _ _ _).mono ?_
          rintro e w2 ⟨rfl, hb⟩
          replace HB := hide (onward HB.out hb)
          replace Hq := hide (blk_later Hq.out hb)
          replace He := hide (blk_later He.out hb)
          replace Ho := hide (blk_later Ho.out hb)
          clear hb v0 v1 ltv
          rw [g2]
          clear q0 q1 q2 q3 q4 q5 q6 q7 lts
          obtain ⟨q0, q1, q2, q3, q4, q5, q6, q7⟩ := Hq.out.site8
          have lts := Hq.out.lt
          obtain ⟨v0, v1⟩ := He.out.c2
          have ltv := He.out.lt
          go_wp2_with fail
          refine (In_any _ _ _ _).mono ?_
          rintro e w' ⟨rfl, rfl⟩
          rw [g3]
          clear g1 g2 g3
          go_wp2_with fail
          refine (Hh2.out _).mono ?_
          rintro e w3 ⟨rfl, hb⟩
          replace HB := hide (onward HB.out hb)
          replace Hq := hide (blk_later Hq.out hb)
          replace He := hide (blk_later He.out hb)
          replace Ho := hide (blk_later Ho.out hb)
          clear hb v0 v1 ltv
          obtain ⟨o0, o1⟩ := Ho.out.c2
          have lto := Ho.out.lt
          have fo0 := Ho.out.frozen 0
          have fo1 := Ho.out.frozen 1
          go_wp2
          refine bodyPost_ret (v := spanE res) (by rw [HR.out]; simp [spanE, results, Try.results33, go_sem, o0, o1, fo0, fo1, lto]) rfl ⟨rfl, ?_⟩
          repeat (first | exact HB.out | (refine Below.setCell ?_ (by first | omega | (simp; done) | (simp; omega)) _) | (refine Below.alloc ?_ (by first | omega | (simp; done) | (simp; omega)) _) | (refine below_drewN ?_ _))
        · have g4 : winB gate 0 (g - 1) = false := by simpa using g3
          rw [if_neg (by rw [g4]; simp)] at hR
          have HR := hide hR
          clear hR
          clear g3 Hh
          go_enter Try.func33, Try.ntmps33
          have HB := hide (Below.refl w.heap.size w)
          go_wp2_with fail
          refine at_world fun W hW => ?_
          have bq0 : Blk W w.heap.size 33 #[.string s, .int .i64 x, .int .i64 y, .int .i64 z, .int .i64 r, .int .i64 g, .int .i64 st, .int .i64 wd] := by rw [hW]; exact ((Blk.new _ _ _).alloc _).alloc _
          have bq1 : Blk W (w.heap.size + 1) 47 #[.int .i64 elo, .int .i64 ehi] := by rw [hW]; exact (blk_new_at (by simp)).alloc _
          have bq2 : Blk W (w.heap.size + 2) 47 #[.int .i64 0, .int .i64 0] := by rw [hW]; exact blk_new_at (by simp)
          have LW : Later w W := by rw [hW]; exact ((((Below.refl _ _).alloc (Nat.le_refl _) _).alloc (by simp; try omega) _).alloc (by simp; try omega) _)
          have szW : W.heap.size = w.heap.size + 3 := by rw [hW]; simp
          clear hW
          replace HB := hide (onward HB.out LW)
          have Hq := hide bq0
          have He := hide bq1
          have Ho := hide bq2
          clear bq0 bq1 bq2 LW szW
          refine (Hcs.out _).mono ?_
          rintro e w1 ⟨rfl, hb⟩
          replace HB := hide (onward HB.out hb)
          replace Hq := hide (blk_later Hq.out hb)
          replace He := hide (blk_later He.out hb)
          replace Ho := hide (blk_later Ho.out hb)
          clear hb
          obtain ⟨q0, q1, q2, q3, q4, q5, q6, q7⟩ := Hq.out.site8
          have lts := Hq.out.lt
          obtain ⟨v0, v1⟩ := He.out.c2
          have ltv := He.out.lt
          go_wp2_with fail
          refine (In_any _ _ _ _).mono ?_
          rintro e w' ⟨rfl, rfl⟩
          rw [g1]
          go_wp2_with fail
          refine (Earth_any _ _ _).mono ?_
          rintro e w2 ⟨rfl, hb⟩
          replace HB := hide (onward HB.out hb)
          replace Hq := hide (blk_later Hq.out hb)
          replace He := hide (blk_later He.out hb)
          replace Ho := hide (blk_later Ho.out hb)
          clear hb v0 v1 ltv
          rw [g2]
          clear q0 q1 q2 q3 q4 q5 q6 q7 lts
          obtain ⟨q0, q1, q2, q3, q4, q5, q6, q7⟩ := Hq.out.site8
          have lts := Hq.out.lt
          obtain ⟨v0, v1⟩ := He.out.c2
          have ltv := He.out.lt
          go_wp2_with fail
          refine (In_any _ _ _ _).mono ?_
          rintro e w' ⟨rfl, rfl⟩
          rw [g4]
          clear g1 g2 g4
          obtain ⟨o0, o1⟩ := Ho.out.c2
          have lto := Ho.out.lt
          have fo0 := Ho.out.frozen 0
          have fo1 := Ho.out.frozen 1
          go_wp2
          refine bodyPost_ret (v := spanE res) (by rw [HR.out]; simp [spanE, results, Try.results33, go_sem, o0, o1, fo0, fo1, lto]) rfl ⟨rfl, ?_⟩
          repeat (first | exact HB.out | (refine Below.setCell ?_ (by first | omega | (simp; done) | (simp; omega)) _) | (refine Below.alloc ?_ (by first | omega | (simp; done) | (simp; omega)) _) | (refine below_drewN ?_ _))
      · have g4 : okE elo ehi = false := by simpa using g2
        rw [if_neg (by rw [g4]; simp)] at hR
        have HR := hide hR
        clear hR
        clear g2 Hh
        go_enter Try.func33, Try.ntmps33
        have HB := hide (Below.refl w.heap.size w)
        go_wp2_with fail
        refine at_world fun W hW => ?_
        have bq0 : Blk W w.heap.size 33 #[.string s, .int .i64 x, .int .i64 y, .int .i64 z, .int .i64 r, .int .i64 g, .int .i64 st, .int .i64 wd] := by rw [hW]; exact ((Blk.new _ _ _).alloc _).alloc _
        have bq1 : Blk W (w.heap.size + 1) 47 #[.int .i64 elo, .int .i64 ehi] := by rw [hW]; exact (blk_new_at (by simp)).alloc _
        have bq2 : Blk W (w.heap.size + 2) 47 #[.int .i64 0, .int .i64 0] := by rw [hW]; exact blk_new_at (by simp)
        have LW : Later w W := by rw [hW]; exact ((((Below.refl _ _).alloc (Nat.le_refl _) _).alloc (by simp; try omega) _).alloc (by simp; try omega) _)
        have szW : W.heap.size = w.heap.size + 3 := by rw [hW]; simp
        clear hW
        replace HB := hide (onward HB.out LW)
        have Hq := hide bq0
        have He := hide bq1
        have Ho := hide bq2
        clear bq0 bq1 bq2 LW szW
        refine (Hcs.out _).mono ?_
        rintro e w1 ⟨rfl, hb⟩
        replace HB := hide (onward HB.out hb)
        replace Hq := hide (blk_later Hq.out hb)
        replace He := hide (blk_later He.out hb)
        replace Ho := hide (blk_later Ho.out hb)
        clear hb
        obtain ⟨q0, q1, q2, q3, q4, q5, q6, q7⟩ := Hq.out.site8
        have lts := Hq.out.lt
        obtain ⟨v0, v1⟩ := He.out.c2
        have ltv := He.out.lt
        go_wp2_with fail
        refine (In_any _ _ _ _).mono ?_
        rintro e w' ⟨rfl, rfl⟩
        rw [g1]
        go_wp2_with fail
        refine (Earth_any _ _ _).mono ?_
        rintro e w2 ⟨rfl, hb⟩
        replace HB := hide (onward HB.out hb)
        replace Hq := hide (blk_later Hq.out hb)
        replace He := hide (blk_later He.out hb)
        replace Ho := hide (blk_later Ho.out hb)
        clear hb v0 v1 ltv
        rw [g4]
        clear g1 g4
        clear q0 q1 q2 q3 q4 q5 q6 q7 lts
        obtain ⟨q0, q1, q2, q3, q4, q5, q6, q7⟩ := Hq.out.site8
        have lts := Hq.out.lt
        obtain ⟨v0, v1⟩ := He.out.c2
        have ltv := He.out.lt
        obtain ⟨o0, o1⟩ := Ho.out.c2
        have lto := Ho.out.lt
        have fo0 := Ho.out.frozen 0
        have fo1 := Ho.out.frozen 1
        go_wp2
        refine bodyPost_ret (v := spanE res) (by rw [HR.out]; simp [spanE, results, Try.results33, go_sem, o0, o1, fo0, fo1, lto]) rfl ⟨rfl, ?_⟩
        repeat (first | exact HB.out | (refine Below.setCell ?_ (by first | omega | (simp; done) | (simp; omega)) _) | (refine Below.alloc ?_ (by first | omega | (simp; done) | (simp; omega)) _) | (refine below_drewN ?_ _))
    · have g4 : winB t (-8) 264 = false := by simpa using g1
      rw [if_neg (by rw [g4]; simp)] at hR
      have HR := hide hR
      clear hR
      clear g1 Hh
      go_enter Try.func33, Try.ntmps33
      have HB := hide (Below.refl w.heap.size w)
      go_wp2_with fail
      refine at_world fun W hW => ?_
      have bq0 : Blk W w.heap.size 33 #[.string s, .int .i64 x, .int .i64 y, .int .i64 z, .int .i64 r, .int .i64 g, .int .i64 st, .int .i64 wd] := by rw [hW]; exact ((Blk.new _ _ _).alloc _).alloc _
      have bq1 : Blk W (w.heap.size + 1) 47 #[.int .i64 elo, .int .i64 ehi] := by rw [hW]; exact (blk_new_at (by simp)).alloc _
      have bq2 : Blk W (w.heap.size + 2) 47 #[.int .i64 0, .int .i64 0] := by rw [hW]; exact blk_new_at (by simp)
      have LW : Later w W := by rw [hW]; exact ((((Below.refl _ _).alloc (Nat.le_refl _) _).alloc (by simp; try omega) _).alloc (by simp; try omega) _)
      have szW : W.heap.size = w.heap.size + 3 := by rw [hW]; simp
      clear hW
      replace HB := hide (onward HB.out LW)
      have Hq := hide bq0
      have He := hide bq1
      have Ho := hide bq2
      clear bq0 bq1 bq2 LW szW
      refine (Hcs.out _).mono ?_
      rintro e w1 ⟨rfl, hb⟩
      replace HB := hide (onward HB.out hb)
      replace Hq := hide (blk_later Hq.out hb)
      replace He := hide (blk_later He.out hb)
      replace Ho := hide (blk_later Ho.out hb)
      clear hb
      obtain ⟨q0, q1, q2, q3, q4, q5, q6, q7⟩ := Hq.out.site8
      have lts := Hq.out.lt
      obtain ⟨v0, v1⟩ := He.out.c2
      have ltv := He.out.lt
      go_wp2_with fail
      refine (In_any _ _ _ _).mono ?_
      rintro e w' ⟨rfl, rfl⟩
      rw [g4]
      clear g4
      obtain ⟨o0, o1⟩ := Ho.out.c2
      have lto := Ho.out.lt
      have fo0 := Ho.out.frozen 0
      have fo1 := Ho.out.frozen 1
      go_wp2
      refine bodyPost_ret (v := spanE res) (by rw [HR.out]; simp [spanE, results, Try.results33, go_sem, o0, o1, fo0, fo1, lto]) rfl ⟨rfl, ?_⟩
      repeat (first | exact HB.out | (refine Below.setCell ?_ (by first | omega | (simp; done) | (simp; omega)) _) | (refine Below.alloc ?_ (by first | omega | (simp; done) | (simp; omega)) _) | (refine below_drewN ?_ _))
  · rw [if_pos h0] at hR
    have h00 : (er != 0) = true := by simpa [bne] using h0
    have HR := hide hR
    clear hR
    clear Hh
    go_enter Try.func33, Try.ntmps33
    have HB := hide (Below.refl w.heap.size w)
    go_wp2_with fail
    refine at_world fun W hW => ?_
    have bq0 : Blk W w.heap.size 33 #[.string s, .int .i64 x, .int .i64 y, .int .i64 z, .int .i64 r, .int .i64 g, .int .i64 st, .int .i64 wd] := by rw [hW]; exact ((Blk.new _ _ _).alloc _).alloc _
    have bq1 : Blk W (w.heap.size + 1) 47 #[.int .i64 elo, .int .i64 ehi] := by rw [hW]; exact (blk_new_at (by simp)).alloc _
    have bq2 : Blk W (w.heap.size + 2) 47 #[.int .i64 0, .int .i64 0] := by rw [hW]; exact blk_new_at (by simp)
    have LW : Later w W := by rw [hW]; exact ((((Below.refl _ _).alloc (Nat.le_refl _) _).alloc (by simp; try omega) _).alloc (by simp; try omega) _)
    have szW : W.heap.size = w.heap.size + 3 := by rw [hW]; simp
    clear hW
    replace HB := hide (onward HB.out LW)
    have Hq := hide bq0
    have He := hide bq1
    have Ho := hide bq2
    clear bq0 bq1 bq2 LW szW
    refine (Hcs.out _).mono ?_
    rintro e w1 ⟨rfl, hb⟩
    replace HB := hide (onward HB.out hb)
    replace Hq := hide (blk_later Hq.out hb)
    replace He := hide (blk_later He.out hb)
    replace Ho := hide (blk_later Ho.out hb)
    clear hb
    obtain ⟨q0, q1, q2, q3, q4, q5, q6, q7⟩ := Hq.out.site8
    have lts := Hq.out.lt
    obtain ⟨v0, v1⟩ := He.out.c2
    have ltv := He.out.lt
    obtain ⟨o0, o1⟩ := Ho.out.c2
    have lto := Ho.out.lt
    have fo0 := Ho.out.frozen 0
    have fo1 := Ho.out.frozen 1
    go_wp2
    refine bodyPost_ret (v := spanE res) (by rw [HR.out]; simp [spanE, results, Try.results33, go_sem, o0, o1, fo0, fo1, lto]) rfl ⟨rfl, ?_⟩
    repeat (first | exact HB.out | (refine Below.setCell ?_ (by first | omega | (simp; done) | (simp; omega)) _) | (refine Below.alloc ?_ (by first | omega | (simp; done) | (simp; omega)) _) | (refine below_drewN ?_ _))
end Go.Proofs.Ythhhecidogcmjaa
