/-
  Places found: the program's exported Find.
-/
import Derived.Test.YthhhecidogcmjaaFind
import Derived.Test.YthhhecidogcmjaaBeamLaw1
namespace Go.Proofs.Ythhhecidogcmjaa
open Go Go.RowKit

set_option maxHeartbeats 2000000 in
set_option maxRecDepth 100000 in
theorem Find_any (s : ByteArray) (sx sy z r g st wd t x y : Int) (w : World) (hs : s.size ≤ 9223372036854775807) :
    Calls Try.prog 39 #[siteV s sx sy z r g st wd, .int .i64 t, .int .i64 x, .int .i64 y] w fun e w' => e = .returned (twoE (findR (siteE (nameB s) sx sy z r g st wd) t r st g sx sy x y)) ∧ Below w.heap.size w w' := by
  have hcs := fun W => CheckSite_any s (nameB s) sx sy z r g st wd W (fun W => Name_any s W hs)
  have hR : ∀ e, siteE (nameB s) sx sy z r g st wd = e → findR (siteE (nameB s) sx sy z r g st wd) t r st g sx sy x y = if e ≠ 0 then ((0, 0), e) else if (winB t 0 256 && winB x (-4194304) 4194304 && winB y (-4194304) 4194304) = true then (if (findZ r st t g (x - sx) (y - sy)).2 = true then ((findZ r st t g (x - sx) (y - sy)).1, 0) else ((0, 0), 29)) else ((0, 0), 3) := fun e he => by rw [he]; rfl
  obtain ⟨er, her⟩ : ∃ e, siteE (nameB s) sx sy z r g st wd = e := ⟨_, rfl⟩
  replace hR := hR er her
  have hok := fun h : er = 0 => siteE_ok (her.trans h)
  generalize findR (siteE (nameB s) sx sy z r g st wd) t r st g sx sy x y = res at *
  rw [her] at hcs
  clear her
  unfold siteV
  have Hcs := hide hcs
  have Hok := hide hok
  clear hcs hok
  by_cases h0 : er = 0
  · subst h0
    obtain ⟨-, s1, s2, s3, s4, s5, s6, s7, s8, s9, s10, s11, s12, s13, s14⟩ := Hok.out rfl
    rw [if_neg (by simp)] at hR
    by_cases g1 : winB t 0 256 = true
    · obtain ⟨t1, t2⟩ := winB_iff.1 g1
      by_cases g2 : winB x (-4194304) 4194304 = true
      · obtain ⟨t3, t4⟩ := winB_iff.1 g2
        by_cases g3 : winB y (-4194304) 4194304 = true
        · obtain ⟨t5, t6⟩ := winB_iff.1 g3
          rw [if_pos (by rw [g1, g2, g3]; rfl)] at hR
          have hf := fun W => find_any s sx sy z r g st wd t x y W (by omega) (by omega) (by omega) (by omega) (by omega) (by omega) (by omega) (by omega) ⟨by omega, by omega⟩ ⟨by omega, by omega⟩
          unfold siteV at hf
          generalize findZ r st t g (x - sx) (y - sy) = fz at *
          obtain ⟨⟨f1, f2⟩, f3⟩ := fz
          simp only at hf hR
          have Hf := hide hf
          clear hf
          cases f3
          · rw [if_neg (by simp)] at hR
            have HR := hide hR
            clear hR
            go_enter Try.func39, Try.ntmps39
            have HB := hide (Below.refl w.heap.size w)
            go_wp2_with fail
            refine at_world fun W hW => ?_
            have bq0 : Blk W w.heap.size 33 #[.string s, .int .i64 sx, .int .i64 sy, .int .i64 z, .int .i64 r, .int .i64 g, .int .i64 st, .int .i64 wd] := by rw [hW]; exact Blk.new _ _ _
            have LW : Later w W := by rw [hW]; exact ((Below.refl _ _).alloc (Nat.le_refl _) _)
            have szW : W.heap.size = w.heap.size + 1 := by rw [hW]; simp
            clear hW
            replace HB := hide (onward HB.out LW)
            have Hq := hide bq0
            clear bq0 LW szW
            refine (Hcs.out _).mono ?_
            rintro e w1 ⟨rfl, hb⟩
            replace HB := hide (onward HB.out hb)
            replace Hq := hide (blk_later Hq.out hb)
            clear hb
            obtain ⟨q0, q1, q2, q3, q4, q5, q6, q7⟩ := Hq.out.site8
            have lts := Hq.out.lt
            go_wp2_with fail
            refine (within_any _ _ _ _).mono ?_
            rintro e w' ⟨rfl, rfl⟩
            rw [g1]
            go_wp2_with fail
            refine (within_any _ _ _ _).mono ?_
            rintro e w' ⟨rfl, rfl⟩
            rw [g2]
            go_wp2_with fail
            refine (within_any _ _ _ _).mono ?_
            rintro e w' ⟨rfl, rfl⟩
            rw [g3]
            clear g1 g2 g3
            go_wp2_with fail
            refine (Hf.out _).mono ?_
            rintro e w2 ⟨rfl, hb⟩
            replace HB := hide (onward HB.out hb)
            replace Hq := hide (blk_later Hq.out hb)
            clear hb
            go_wp2
            refine bodyPost_ret (v := twoE res) (by rw [HR.out]; simp [twoE, results, Try.results39, go_sem]) rfl ⟨rfl, HB.out⟩
          · rw [if_pos rfl] at hR
            have HR := hide hR
            clear hR
            go_enter Try.func39, Try.ntmps39
            have HB := hide (Below.refl w.heap.size w)
            go_wp2_with fail
            refine at_world fun W hW => ?_
            have bq0 : Blk W w.heap.size 33 #[.string s, .int .i64 sx, .int .i64 sy, .int .i64 z, .int .i64 r, .int .i64 g, .int .i64 st, .int .i64 wd] := by rw [hW]; exact Blk.new _ _ _
            have LW : Later w W := by rw [hW]; exact ((Below.refl _ _).alloc (Nat.le_refl _) _)
            have szW : W.heap.size = w.heap.size + 1 := by rw [hW]; simp
            clear hW
            replace HB := hide (onward HB.out LW)
            have Hq := hide bq0
            clear bq0 LW szW
            refine (Hcs.out _).mono ?_
            rintro e w1 ⟨rfl, hb⟩
            replace HB := hide (onward HB.out hb)
            replace Hq := hide (blk_later Hq.out hb)
            clear hb
            obtain ⟨q0, q1, q2, q3, q4, q5, q6, q7⟩ := Hq.out.site8
            have lts := Hq.out.lt
            go_wp2_with fail
            refine (within_any _ _ _ _).mono ?_
            rintro e w' ⟨rfl, rfl⟩
            rw [g1]
            go_wp2_with fail
            refine (within_any _ _ _ _).mono ?_
            rintro e w' ⟨rfl, rfl⟩
            rw [g2]
            go_wp2_with fail
            refine (within_any _ _ _ _).mono ?_
            rintro e w' ⟨rfl, rfl⟩
            rw [g3]
            clear g1 g2 g3
            go_wp2_with fail
            refine (Hf.out _).mono ?_
            rintro e w2 ⟨rfl, hb⟩
            replace HB := hide (onward HB.out hb)
            replace Hq := hide (blk_later Hq.out hb)
            clear hb
            go_wp2
            refine bodyPost_ret (v := twoE res) (by rw [HR.out]; simp [twoE, results, Try.results39, go_sem]) rfl ⟨rfl, HB.out⟩
        · have g4 : winB y (-4194304) 4194304 = false := by simpa using g3
          rw [if_neg (by rw [g4]; simp)] at hR
          have HR := hide hR
          clear hR
          clear g3
          go_enter Try.func39, Try.ntmps39
          have HB := hide (Below.refl w.heap.size w)
          go_wp2_with fail
          refine at_world fun W hW => ?_
          have bq0 : Blk W w.heap.size 33 #[.string s, .int .i64 sx, .int .i64 sy, .int .i64 z, .int .i64 r, .int .i64 g, .int .i64 st, .int .i64 wd] := by rw [hW]; exact Blk.new _ _ _
          have LW : Later w W := by rw [hW]; exact ((Below.refl _ _).alloc (Nat.le_refl _) _)
          have szW : W.heap.size = w.heap.size + 1 := by rw [hW]; simp
          clear hW
          replace HB := hide (onward HB.out LW)
          have Hq := hide bq0
          clear bq0 LW szW
          refine (Hcs.out _).mono ?_
          rintro e w1 ⟨rfl, hb⟩
          replace HB := hide (onward HB.out hb)
          replace Hq := hide (blk_later Hq.out hb)
          clear hb
          obtain ⟨q0, q1, q2, q3, q4, q5, q6, q7⟩ := Hq.out.site8
          have lts := Hq.out.lt
          go_wp2_with fail
          refine (within_any _ _ _ _).mono ?_
          rintro e w' ⟨rfl, rfl⟩
          rw [g1]
          go_wp2_with fail
          refine (within_any _ _ _ _).mono ?_
          rintro e w' ⟨rfl, rfl⟩
          rw [g2]
          go_wp2_with fail
          refine (within_any _ _ _ _).mono ?_
          rintro e w' ⟨rfl, rfl⟩
          rw [g4]
          go_wp2
          refine bodyPost_ret (v := twoE res) (by rw [HR.out]; simp [twoE, results, Try.results39, go_sem]) rfl ⟨rfl, HB.out⟩
      · have g3 : winB x (-4194304) 4194304 = false := by simpa using g2
        rw [if_neg (by rw [g3]; simp)] at hR
        have HR := hide hR
        clear hR
        clear g2
        go_enter Try.func39, Try.ntmps39
        have HB := hide (Below.refl w.heap.size w)
        go_wp2_with fail
        refine at_world fun W hW => ?_
        have bq0 : Blk W w.heap.size 33 #[.string s, .int .i64 sx, .int .i64 sy, .int .i64 z, .int .i64 r, .int .i64 g, .int .i64 st, .int .i64 wd] := by rw [hW]; exact Blk.new _ _ _
        have LW : Later w W := by rw [hW]; exact ((Below.refl _ _).alloc (Nat.le_refl _) _)
        have szW : W.heap.size = w.heap.size + 1 := by rw [hW]; simp
        clear hW
        replace HB := hide (onward HB.out LW)
        have Hq := hide bq0
        clear bq0 LW szW
        refine (Hcs.out _).mono ?_
        rintro e w1 ⟨rfl, hb⟩
        replace HB := hide (onward HB.out hb)
        replace Hq := hide (blk_later Hq.out hb)
        clear hb
        obtain ⟨q0, q1, q2, q3, q4, q5, q6, q7⟩ := Hq.out.site8
        have lts := Hq.out.lt
        go_wp2_with fail
        refine (within_any _ _ _ _).mono ?_
        rintro e w' ⟨rfl, rfl⟩
        rw [g1]
        go_wp2_with fail
        refine (within_any _ _ _ _).mono ?_
        rintro e w' ⟨rfl, rfl⟩
        rw [g3]
        go_wp2
        refine bodyPost_ret (v := twoE res) (by rw [HR.out]; simp [twoE, results, Try.results39, go_sem]) rfl ⟨rfl, HB.out⟩
    · have g3 : winB t 0 256 = false := by simpa using g1
      rw [if_neg (by rw [g3]; simp)] at hR
      have HR := hide hR
      clear hR
      clear g1
      go_enter Try.func39, Try.ntmps39
      have HB := hide (Below.refl w.heap.size w)
      go_wp2_with fail
      refine at_world fun W hW => ?_
      have bq0 : Blk W w.heap.size 33 #[.string s, .int .i64 sx, .int .i64 sy, .int .i64 z, .int .i64 r, .int .i64 g, .int .i64 st, .int .i64 wd] := by rw [hW]; exact Blk.new _ _ _
      have LW : Later w W := by rw [hW]; exact ((Below.refl _ _).alloc (Nat.le_refl _) _)
      have szW : W.heap.size = w.heap.size + 1 := by rw [hW]; simp
      clear hW
      replace HB := hide (onward HB.out LW)
      have Hq := hide bq0
      clear bq0 LW szW
      refine (Hcs.out _).mono ?_
      rintro e w1 ⟨rfl, hb⟩
      replace HB := hide (onward HB.out hb)
      replace Hq := hide (blk_later Hq.out hb)
      clear hb
      obtain ⟨q0, q1, q2, q3, q4, q5, q6, q7⟩ := Hq.out.site8
      have lts := Hq.out.lt
      go_wp2_with fail
      refine (within_any _ _ _ _).mono ?_
      rintro e w' ⟨rfl, rfl⟩
      rw [g3]
      go_wp2
      refine bodyPost_ret (v := twoE res) (by rw [HR.out]; simp [twoE, results, Try.results39, go_sem]) rfl ⟨rfl, HB.out⟩
  · rw [if_pos h0] at hR
    have h00 : (er != 0) = true := by simpa [bne] using h0
    have HR := hide hR
    clear hR
    go_enter Try.func39, Try.ntmps39
    have HB := hide (Below.refl w.heap.size w)
    go_wp2_with fail
    refine at_world fun W hW => ?_
    have bq0 : Blk W w.heap.size 33 #[.string s, .int .i64 sx, .int .i64 sy, .int .i64 z, .int .i64 r, .int .i64 g, .int .i64 st, .int .i64 wd] := by rw [hW]; exact Blk.new _ _ _
    have LW : Later w W := by rw [hW]; exact ((Below.refl _ _).alloc (Nat.le_refl _) _)
    have szW : W.heap.size = w.heap.size + 1 := by rw [hW]; simp
    clear hW
    replace HB := hide (onward HB.out LW)
    have Hq := hide bq0
    clear bq0 LW szW
    refine (Hcs.out _).mono ?_
    rintro e w1 ⟨rfl, hb⟩
    replace HB := hide (onward HB.out hb)
    replace Hq := hide (blk_later Hq.out hb)
    clear hb
    obtain ⟨q0, q1, q2, q3, q4, q5, q6, q7⟩ := Hq.out.site8
    have lts := Hq.out.lt
    go_wp2
    refine bodyPost_ret (v := twoE res) (by rw [HR.out]; simp [twoE, results, Try.results39, go_sem]) rfl ⟨rfl, HB.out⟩
end Go.Proofs.Ythhhecidogcmjaa
