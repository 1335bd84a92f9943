/-
  The reference's CheckSweep: the contract.
  What is true of a sweep that passes all tests.
  The errors of what Rates and Map get: rain's checked.
  A map whose keys are strings, told by a function: what stands at each key, and how many entries there are. Over any program.
  Regions that draw their order: a store into a map.
-/
import Derived.Test.YtepgpihobmjbdaaGreatSweep
import Derived.Test.YtepgpihobmjbdaaGreatEcho3
import Derived.Test.YtepgpihobmjbdaaGreatArr
import Derived.Maps.OwnSet
import Derived.WideKeyEntry
set_option linter.unusedSimpArgs false
set_option linter.unusedVariables false
namespace Go.Proofs.YtepgpihobmjbdaaGreat
open Go Go.RowKit

set_option maxHeartbeats 4000000 in
set_option maxRecDepth 100000 in
theorem RefCheckSweep_any (s : ByteArray) (x y z r g st wd tilt time : Int) (A : Option Addr) (n c : Nat) (rr : Nat → Ray1) (w : World) (hs : s.size ≤ 9223372036854775807) (hn : n ≤ maxLen) (h : RaysAt w w.heap.size A n rr) :
    Calls Tryz.prog 48 #[.agg (sweepC s x y z r g st wd tilt time A n c)] w fun e w' => e = .returned (.int .i64 (sweepE (siteE (nameB s) x y z r g st wd) tilt time r g n rr)) ∧ Below w.heap.size w w' := by
  have hsite := fun W => RefCheckSite_any s x y z r g st wd W hs
  unfold siteV at hsite
  have hrg := @site_rg (nameB s) x y z r g st wd
  obtain ⟨se, hse⟩ : ∃ se, siteE (nameB s) x y z r g st wd = se := ⟨_, rfl⟩
  simp only [hse] at hsite hrg
  rw [hse]
  have hn2 : (n : Int) ≤ 9223372036854775807 := by unfold maxLen at hn; omega
  unfold sweepC
  have HS := hide hsite
  have HR := hide h
  clear hsite h
  clear hse
  by_cases h0 : se = 0
  · obtain ⟨r0, r1, g0, g1⟩ := hrg h0
    subst h0
    have hsw : sweepE 0 tilt time r g n rr = if (win tilt 0 256 && win time 0 4294967296) = false then 3 else if (n : Int) ≠ 4 * r then 11 else if shapeB n (fun i => (rr i).n) g = false then 11 else rowsE n rr := rfl
    rw [hsw]
    clear hsw hrg
    obtain ⟨b1, hb1⟩ : ∃ b, win tilt 0 256 = b := ⟨_, rfl⟩
    obtain ⟨b2, hb2⟩ : ∃ b, win time 0 4294967296 = b := ⟨_, rfl⟩
    rw [hb1, hb2]
    cases b1 with
    | false =>
      rw [if_pos (by simp)]
      go_enter Tryz.func48, Tryz.ntmps48
      have HB := hide (Below.refl w.heap.size w)
      go_wp2_with fail
      refine at_world fun W hW => ?_
      have bq0 : Blk W w.heap.size 31 #[.string s, .int .i64 x, .int .i64 y, .int .i64 z, .int .i64 r, .int .i64 g, .int .i64 st, .int .i64 wd, .int .i64 tilt, .int .i64 time, .slice A n c] := by rw [hW]; exact Blk.new _ _ _
      have LW : Later w W := by rw [hW]; exact ((Below.refl _ _).alloc (Nat.le_refl _) _)
      have szW : W.heap.size = w.heap.size + 1 := by rw [hW]; simp
      clear hW
      replace HB := hide (onward HB.out LW)
      have Hx := hide bq0
      clear bq0 LW szW
      refine (HS.out _).mono ?_
      rintro e w1 ⟨rfl, hb⟩
      replace HB := hide (onward HB.out hb)
      replace Hx := hide (blk_later Hx.out hb)
      clear hb
      have x0 := Hx.out.c 0 rfl
      have x1 := Hx.out.c 1 rfl
      have x2 := Hx.out.c 2 rfl
      have x3 := Hx.out.c 3 rfl
      have x4 := Hx.out.c 4 rfl
      have x5 := Hx.out.c 5 rfl
      have x6 := Hx.out.c 6 rfl
      have x7 := Hx.out.c 7 rfl
      have x8 := Hx.out.c 8 rfl
      have x9 := Hx.out.c 9 rfl
      have x10 := Hx.out.c 10 rfl
      have ltx := Hx.out.lt
      go_wp2_with fail
      refine (In_any _ _ _ _).mono ?_
      rintro e w' ⟨rfl, rfl⟩
      rw [hb1]
      go_wp2
      go_ret
      exact ⟨rfl, HB.out⟩
    | true =>
      cases b2 with
      | false =>
        rw [if_pos (by simp)]
        go_enter Tryz.func48, Tryz.ntmps48
        have HB := hide (Below.refl w.heap.size w)
        go_wp2_with fail
        refine at_world fun W hW => ?_
        have bq0 : Blk W w.heap.size 31 #[.string s, .int .i64 x, .int .i64 y, .int .i64 z, .int .i64 r, .int .i64 g, .int .i64 st, .int .i64 wd, .int .i64 tilt, .int .i64 time, .slice A n c] := by rw [hW]; exact Blk.new _ _ _
        have LW : Later w W := by rw [hW]; exact ((Below.refl _ _).alloc (Nat.le_refl _) _)
        have szW : W.heap.size = w.heap.size + 1 := by rw [hW]; simp
        clear hW
        replace HB := hide (onward HB.out LW)
        have Hx := hide bq0
        clear bq0 LW szW
        refine (HS.out _).mono ?_
        rintro e w1 ⟨rfl, hb⟩
        replace HB := hide (onward HB.out hb)
        replace Hx := hide (blk_later Hx.out hb)
        clear hb
        have x0 := Hx.out.c 0 rfl
        have x1 := Hx.out.c 1 rfl
        have x2 := Hx.out.c 2 rfl
        have x3 := Hx.out.c 3 rfl
        have x4 := Hx.out.c 4 rfl
        have x5 := Hx.out.c 5 rfl
        have x6 := Hx.out.c 6 rfl
        have x7 := Hx.out.c 7 rfl
        have x8 := Hx.out.c 8 rfl
        have x9 := Hx.out.c 9 rfl
        have x10 := Hx.out.c 10 rfl
        have ltx := Hx.out.lt
        go_wp2_with fail
        refine (In_any _ _ _ _).mono ?_
        rintro e w' ⟨rfl, rfl⟩
        rw [hb1]
        go_wp2_with fail
        refine (In_any _ _ _ _).mono ?_
        rintro e w' ⟨rfl, rfl⟩
        rw [hb2]
        go_wp2
        go_ret
        exact ⟨rfl, HB.out⟩
      | true =>
        rw [if_neg (by simp)]
        by_cases h4 : (n : Int) = 4 * r
        · rw [if_neg (by omega)]
          have hd4 : ((n : Int) != 4 * r) = false := by simp [h4]
          obtain ⟨res, hres⟩ : ∃ q, (if shapeB n (fun i => (rr i).n) g = false then 11 else rowsE n rr) = q := ⟨_, rfl⟩
          rw [hres]
          have Hres := hide hres
          clear hres
          go_enter Tryz.func48, Tryz.ntmps48
          have HB := hide (Below.refl w.heap.size w)
          go_wp2_with fail
          refine at_world fun W hW => ?_
          have bq0 : Blk W w.heap.size 31 #[.string s, .int .i64 x, .int .i64 y, .int .i64 z, .int .i64 r, .int .i64 g, .int .i64 st, .int .i64 wd, .int .i64 tilt, .int .i64 time, .slice A n c] := by rw [hW]; exact Blk.new _ _ _
          have LW : Later w W := by rw [hW]; exact ((Below.refl _ _).alloc (Nat.le_refl _) _)
          have szW : W.heap.size = w.heap.size + 1 := by rw [hW]; simp
          clear hW
          replace HB := hide (onward HB.out LW)
          have Hx := hide bq0
          clear bq0 LW szW
          refine (HS.out _).mono ?_
          rintro e w1 ⟨rfl, hb⟩
          replace HB := hide (onward HB.out hb)
          replace Hx := hide (blk_later Hx.out hb)
          clear hb
          have x0 := Hx.out.c 0 rfl
          have x1 := Hx.out.c 1 rfl
          have x2 := Hx.out.c 2 rfl
          have x3 := Hx.out.c 3 rfl
          have x4 := Hx.out.c 4 rfl
          have x5 := Hx.out.c 5 rfl
          have x6 := Hx.out.c 6 rfl
          have x7 := Hx.out.c 7 rfl
          have x8 := Hx.out.c 8 rfl
          have x9 := Hx.out.c 9 rfl
          have x10 := Hx.out.c 10 rfl
          have ltx := Hx.out.lt
          go_wp2_with fail
          refine (In_any _ _ _ _).mono ?_
          rintro e w' ⟨rfl, rfl⟩
          rw [hb1]
          go_wp2_with fail
          refine (In_any _ _ _ _).mono ?_
          rintro e w' ⟨rfl, rfl⟩
          rw [hb2]
          go_wp2_with fail
          go_loopw [4] (fun i wr => ∃ k : Nat, k ≤ n ∧ i = .int .i64 k ∧ Below w.heap.size w wr ∧ Blk wr w.heap.size 31 #[.string s, .int .i64 x, .int .i64 y, .int .i64 z, .int .i64 r, .int .i64 g, .int .i64 st, .int .i64 wd, .int .i64 tilt, .int .i64 time, .slice A n c] ∧ ∀ j, j < k → ((rr j).n : Int) = g) (fun i _ => n - (intOf i).toNat)
          case atStart => exact ⟨0, by omega, rfl, HB.out, Hx.out, fun j hj => absurd hj (by omega)⟩
          case round =>
            obtain ⟨k, hk, rfl, hB, hx, hl⟩ := hrel
            clear HB Hx
            have HB := hide hB
            have Hx := hide hx
            clear hB hx
            by_cases hk2 : k < n
            · have hk3 : (k : Int) < n := by omega
              obtain ⟨b, off, hA, hb, hc⟩ := HR.out (by omega)
              have q := (hc k hk2).1
              rw [← HB.out.cell hb] at q
              have ltb : b < wr.heap.size := Nat.lt_of_lt_of_le hb HB.out.size
              subst hA
              obtain ⟨ln, hln⟩ : ∃ q, (rr k).n = q := ⟨_, rfl⟩
              rw [hln] at q
              clear hc
              by_cases he : (ln : Int) = g
              · have hd : ((ln : Int) != g) = false := by simp [he]
                have x0 := Hx.out.c 0 rfl
                have x1 := Hx.out.c 1 rfl
                have x2 := Hx.out.c 2 rfl
                have x3 := Hx.out.c 3 rfl
                have x4 := Hx.out.c 4 rfl
                have x5 := Hx.out.c 5 rfl
                have x6 := Hx.out.c 6 rfl
                have x7 := Hx.out.c 7 rfl
                have x8 := Hx.out.c 8 rfl
                have x9 := Hx.out.c 9 rfl
                have x10 := Hx.out.c 10 rfl
                have ltx := Hx.out.lt
                go_wp2_with fail
                go_quiet (fail)
                have hL : Below wr.heap.size wr (wr.drewN nq) := below_drewN (Below.refl _ _) _
                generalize (wr.drewN nq : World) = w2 at hL ⊢
                clear q ltb
                replace HB := hide (onward HB.out hL)
                replace Hx := hide (blk_later Hx.out hL)
                clear hL x0 x1 x2 x3 x4 x5 x6 x7 x8 x9 x10 ltx
                go_wp2
                go_roundw
                case rel => exact ⟨k + 1, by omega, by go_num, HB.out, Hx.out, fun j hj => by
                  rcases Nat.lt_or_ge j k with hh | hh
                  · exact hl j hh
                  · obtain rfl : j = k := by omega
                    rw [hln]; exact he⟩
                case measure => simp [intOf] <;> omega
              · have hd : ((ln : Int) != g) = true := by simp [he]
                have hr2 := Hres.out
                rw [if_pos (shapeB_no hk2 (by rw [hln]; exact he))] at hr2
                subst hr2
                clear Hres
                have x0 := Hx.out.c 0 rfl
                have x1 := Hx.out.c 1 rfl
                have x2 := Hx.out.c 2 rfl
                have x3 := Hx.out.c 3 rfl
                have x4 := Hx.out.c 4 rfl
                have x5 := Hx.out.c 5 rfl
                have x6 := Hx.out.c 6 rfl
                have x7 := Hx.out.c 7 rfl
                have x8 := Hx.out.c 8 rfl
                have x9 := Hx.out.c 9 rfl
                have x10 := Hx.out.c 10 rfl
                have ltx := Hx.out.lt
                go_wp2_with fail
                go_quiet (fail)
                have hL : Below wr.heap.size wr (wr.drewN nq) := below_drewN (Below.refl _ _) _
                generalize (wr.drewN nq : World) = w2 at hL ⊢
                clear q ltb
                replace HB := hide (onward HB.out hL)
                replace Hx := hide (blk_later Hx.out hL)
                clear hL x0 x1 x2 x3 x4 x5 x6 x7 x8 x9 x10 ltx
                go_wp2
                go_ret
                exact ⟨rfl, HB.out⟩
            · obtain rfl : k = n := by omega
              have hk3 : ¬ ((k : Int) < k) := by omega
              have hsh := shapeB_yes (len := fun i => (rr i).n) hl
              have hres2 := Hres.out
              rw [if_neg (by rw [hsh]; simp)] at hres2
              unfold rowsE at hres2
              have Hres2 := hide hres2
              clear hres2
              clear Hres hsh
              have x0 := Hx.out.c 0 rfl
              have x1 := Hx.out.c 1 rfl
              have x2 := Hx.out.c 2 rfl
              have x3 := Hx.out.c 3 rfl
              have x4 := Hx.out.c 4 rfl
              have x5 := Hx.out.c 5 rfl
              have x6 := Hx.out.c 6 rfl
              have x7 := Hx.out.c 7 rfl
              have x8 := Hx.out.c 8 rfl
              have x9 := Hx.out.c 9 rfl
              have x10 := Hx.out.c 10 rfl
              have ltx := Hx.out.lt
              go_wp2_with fail
              go_loopw [5] (fun i wr2 => ∃ m : Nat, m ≤ k ∧ i = .int .i64 m ∧ Below w.heap.size w wr2 ∧ Blk wr2 w.heap.size 31 #[.string s, .int .i64 x, .int .i64 y, .int .i64 z, .int .i64 r, .int .i64 g, .int .i64 st, .int .i64 wd, .int .i64 tilt, .int .i64 time, .slice A k c] ∧ firstN (fun i => firstN (fun j => echE ((rr i).e j)) 0 (rr i).n) m (k - m) = res) (fun i _ => k - (intOf i).toNat)
              case atStart => exact ⟨0, by omega, rfl, HB.out, Hx.out, by rw [Nat.sub_zero]; exact Hres2.out⟩
              case round =>
                obtain ⟨m, hm, rfl, hB, hx, hfm⟩ := hrel
                clear HB Hx
                have HB := hide hB
                have Hx := hide hx
                clear hB hx
                by_cases hm2 : m < k
                · have hm3 : (m : Int) < k := by omega
                  have hm3d : decide ((m : Int) < 4 * r) = true := decide_eq_true (by omega)
                  have hm3e : decide ((m : Int) < k) = true := decide_eq_true hm3
                  obtain ⟨b, off, hA, hb, hc⟩ := HR.out (by omega)
                  obtain ⟨hcell, hml, hrow⟩ := hc m hm2
                  subst hA
                  rw [firstN_step _ hm2] at hfm
                  obtain ⟨A1, hA1⟩ : ∃ q, (rr m).A = q := ⟨_, rfl⟩
                  obtain ⟨ln, hln⟩ : ∃ q, (rr m).n = q := ⟨_, rfl⟩
                  obtain ⟨c1, hc1⟩ : ∃ q, (rr m).c = q := ⟨_, rfl⟩
                  rw [hA1, hln, hc1] at hcell
                  rw [hA1, hln] at hrow
                  rw [hln] at hml hfm
                  have hln2 : (ln : Int) ≤ 9223372036854775807 := by unfold maxLen at hml; omega
                  have Hrow := hide hrow
                  have Hfm := hide hfm
                  have Hcell := hide hcell
                  clear hrow hfm hcell
                  clear hc
                  have x0 := Hx.out.c 0 rfl
                  have x1 := Hx.out.c 1 rfl
                  have x2 := Hx.out.c 2 rfl
                  have x3 := Hx.out.c 3 rfl
                  have x4 := Hx.out.c 4 rfl
                  have x5 := Hx.out.c 5 rfl
                  have x6 := Hx.out.c 6 rfl
                  have x7 := Hx.out.c 7 rfl
                  have x8 := Hx.out.c 8 rfl
                  have x9 := Hx.out.c 9 rfl
                  have x10 := Hx.out.c 10 rfl
                  have ltx := Hx.out.lt
                  go_wp2_with fail
                  clear x0 x1 x2 x3 x4 x5 x6 x7 x8 x9 x10 ltx
                  go_loopw [6] (fun i wr2 => ∃ j : Nat, j ≤ ln ∧ i = .int .i64 j ∧ Below w.heap.size w wr2 ∧ Blk wr2 w.heap.size 31 #[.string s, .int .i64 x, .int .i64 y, .int .i64 z, .int .i64 r, .int .i64 g, .int .i64 st, .int .i64 wd, .int .i64 tilt, .int .i64 time, .slice (some ⟨b, off, none⟩) k c] ∧ firstN (fun j => echE ((rr m).e j)) j (ln - j) = firstN (fun j => echE ((rr m).e j)) 0 ln) (fun i _ => ln - (intOf i).toNat)
                  case atStart => exact ⟨0, by omega, rfl, HB.out, Hx.out, by rw [Nat.sub_zero]⟩
                  case round =>
                    obtain ⟨j, hj, rfl, hB, hx, hfj⟩ := hrel
                    clear HB Hx
                    have HB := hide hB
                    have Hx := hide hx
                    clear hB hx
                    have q := Hcell.out
                    rw [← HB.out.cell hb] at q
                    have ltb : b < wr.heap.size := Nat.lt_of_lt_of_le hb HB.out.size
                    by_cases hj2 : j < ln
                    · have hj3 : (j : Int) < ln := by omega
                      obtain ⟨b1, off1, hB1, hb1, hc1⟩ := Hrow.out (by omega)
                      rw [firstN_step _ hj2] at hfj
                      obtain ⟨ee, hee⟩ : ∃ q, (rr m).e j = q := ⟨_, rfl⟩
                      have hc2 := fun i v hv => hc1 j hj2 i v hv
                      simp only [hee] at hc2
                      rw [hee] at hfj
                      have hce := fun W => RefCheckEcho_any ee W
                      obtain ⟨ev, hev⟩ : ∃ q, echE ee = q := ⟨_, rfl⟩
                      simp only [hev] at hce
                      rw [hev] at hfj
                      obtain ⟨k0, p1, p2, s1, s2, s3, s4, sp, r1', r2, m1, m2, t1, t2⟩ := ee
                      unfold echC at hc2 hce
                      have q0 := hc2 0 (.int .i64 k0) rfl
                      have q1 := hc2 1 (.int .i64 p1) rfl
                      have q2 := hc2 2 (.int .i64 p2) rfl
                      have q3 := hc2 3 (.int .i64 s1) rfl
                      have q4 := hc2 4 (.int .i64 s2) rfl
                      have q5 := hc2 5 (.int .i64 s3) rfl
                      have q6 := hc2 6 (.int .i64 s4) rfl
                      have q7 := hc2 7 (.int .i64 sp) rfl
                      have q8 := hc2 8 (.int .i64 r1') rfl
                      have q9 := hc2 9 (.int .i64 r2) rfl
                      have q10 := hc2 10 (.int .i64 m1) rfl
                      have q11 := hc2 11 (.int .i64 m2) rfl
                      have q12 := hc2 12 (.int .i64 t1) rfl
                      have q13 := hc2 13 (.int .i64 t2) rfl
                      rw [Nat.add_zero] at q0
                      rw [← HB.out.cell hb1] at q0 q1 q2 q3 q4 q5 q6 q7 q8 q9 q10 q11 q12 q13
                      have ltb1 : b1 < wr.heap.size := Nat.lt_of_lt_of_le hb1 HB.out.size
                      subst hB1
                      have Hce := hide hce
                      clear hce
                      clear hc1 hc2
                      have x0 := Hx.out.c 0 rfl
                      have x1 := Hx.out.c 1 rfl
                      have x2 := Hx.out.c 2 rfl
                      have x3 := Hx.out.c 3 rfl
                      have x4 := Hx.out.c 4 rfl
                      have x5 := Hx.out.c 5 rfl
                      have x6 := Hx.out.c 6 rfl
                      have x7 := Hx.out.c 7 rfl
                      have x8 := Hx.out.c 8 rfl
                      have x9 := Hx.out.c 9 rfl
                      have x10 := Hx.out.c 10 rfl
                      have ltx := Hx.out.lt
                      go_wp2_with fail
                      clear q0 q1 q2 q3 q4 q5 q6 q7 q8 q9 q10 q11 q12 q13 q
                      refine (Hce.out _).mono ?_
                      rintro e w8 ⟨rfl, hb⟩
                      replace HB := hide (onward HB.out hb)
                      replace Hx := hide (blk_later Hx.out hb)
                      clear hb x0 x1 x2 x3 x4 x5 x6 x7 x8 x9 x10 ltx
                      by_cases hv0 : ev = 0
                      · subst hv0
                        rw [if_neg (by simp)] at hfj
                        go_wp2
                        go_roundw
                        case rel => exact ⟨j + 1, by omega, by go_num, HB.out, Hx.out, hfj⟩
                        case measure => simp [intOf] <;> omega
                      · have hvd : (ev != 0) = true := by simp [hv0]
                        have hvd2 : (ev == 0) = false := by simp [hv0]
                        rw [if_pos hv0] at hfj
                        have hf := Hfm.out
                        rw [← hfj, if_pos hv0] at hf
                        subst hf
                        clear hfj Hfm
                        go_wp2
                        go_ret
                        exact ⟨rfl, HB.out⟩
                    · obtain rfl : j = ln := by omega
                      have hj3 : ¬ ((j : Int) < j) := by omega
                      rw [Nat.sub_self] at hfj
                      have hf := Hfm.out
                      rw [← hfj, if_neg (by simp [firstN])] at hf
                      have x0 := Hx.out.c 0 rfl
                      have x1 := Hx.out.c 1 rfl
                      have x2 := Hx.out.c 2 rfl
                      have x3 := Hx.out.c 3 rfl
                      have x4 := Hx.out.c 4 rfl
                      have x5 := Hx.out.c 5 rfl
                      have x6 := Hx.out.c 6 rfl
                      have x7 := Hx.out.c 7 rfl
                      have x8 := Hx.out.c 8 rfl
                      have x9 := Hx.out.c 9 rfl
                      have x10 := Hx.out.c 10 rfl
                      have ltx := Hx.out.lt
                      go_wp2
                      go_roundw
                      case rel => exact ⟨m + 1, by omega, by go_num, HB.out, Hx.out, hf⟩
                      case measure => simp [intOf] <;> omega
                · obtain rfl : m = k := by omega
                  have hm3 : ¬ ((m : Int) < m) := by omega
                  rw [Nat.sub_self] at hfm
                  replace hfm : 0 = res := hfm
                  subst hfm
                  clear Hres2
                  have x0 := Hx.out.c 0 rfl
                  have x1 := Hx.out.c 1 rfl
                  have x2 := Hx.out.c 2 rfl
                  have x3 := Hx.out.c 3 rfl
                  have x4 := Hx.out.c 4 rfl
                  have x5 := Hx.out.c 5 rfl
                  have x6 := Hx.out.c 6 rfl
                  have x7 := Hx.out.c 7 rfl
                  have x8 := Hx.out.c 8 rfl
                  have x9 := Hx.out.c 9 rfl
                  have x10 := Hx.out.c 10 rfl
                  have ltx := Hx.out.lt
                  go_wp2
                  go_ret
                  exact ⟨rfl, HB.out⟩
        · rw [if_pos h4]
          have hd4 : ((n : Int) != 4 * r) = true := by simp [h4]
          go_enter Tryz.func48, Tryz.ntmps48
          have HB := hide (Below.refl w.heap.size w)
          go_wp2_with fail
          refine at_world fun W hW => ?_
          have bq0 : Blk W w.heap.size 31 #[.string s, .int .i64 x, .int .i64 y, .int .i64 z, .int .i64 r, .int .i64 g, .int .i64 st, .int .i64 wd, .int .i64 tilt, .int .i64 time, .slice A n c] := by rw [hW]; exact Blk.new _ _ _
          have LW : Later w W := by rw [hW]; exact ((Below.refl _ _).alloc (Nat.le_refl _) _)
          have szW : W.heap.size = w.heap.size + 1 := by rw [hW]; simp
          clear hW
          replace HB := hide (onward HB.out LW)
          have Hx := hide bq0
          clear bq0 LW szW
          refine (HS.out _).mono ?_
          rintro e w1 ⟨rfl, hb⟩
          replace HB := hide (onward HB.out hb)
          replace Hx := hide (blk_later Hx.out hb)
          clear hb
          have x0 := Hx.out.c 0 rfl
          have x1 := Hx.out.c 1 rfl
          have x2 := Hx.out.c 2 rfl
          have x3 := Hx.out.c 3 rfl
          have x4 := Hx.out.c 4 rfl
          have x5 := Hx.out.c 5 rfl
          have x6 := Hx.out.c 6 rfl
          have x7 := Hx.out.c 7 rfl
          have x8 := Hx.out.c 8 rfl
          have x9 := Hx.out.c 9 rfl
          have x10 := Hx.out.c 10 rfl
          have ltx := Hx.out.lt
          go_wp2_with fail
          refine (In_any _ _ _ _).mono ?_
          rintro e w' ⟨rfl, rfl⟩
          rw [hb1]
          go_wp2_with fail
          refine (In_any _ _ _ _).mono ?_
          rintro e w' ⟨rfl, rfl⟩
          rw [hb2]
          go_wp2
          go_ret
          exact ⟨rfl, HB.out⟩
  · have hd : (se == 0) = false := beq_eq_false_iff_ne.2 h0
    have hsw : sweepE se tilt time r g n rr = se := by unfold sweepE; rw [if_pos h0]
    rw [hsw]
    go_enter Tryz.func48, Tryz.ntmps48
    have HB := hide (Below.refl w.heap.size w)
    go_wp2_with fail
    refine at_world fun W hW => ?_
    have bq0 : Blk W w.heap.size 31 #[.string s, .int .i64 x, .int .i64 y, .int .i64 z, .int .i64 r, .int .i64 g, .int .i64 st, .int .i64 wd, .int .i64 tilt, .int .i64 time, .slice A n c] := by rw [hW]; exact Blk.new _ _ _
    have LW : Later w W := by rw [hW]; exact ((Below.refl _ _).alloc (Nat.le_refl _) _)
    have szW : W.heap.size = w.heap.size + 1 := by rw [hW]; simp
    clear hW
    replace HB := hide (onward HB.out LW)
    have Hx := hide bq0
    clear bq0 LW szW
    refine (HS.out _).mono ?_
    rintro e w1 ⟨rfl, hb⟩
    replace HB := hide (onward HB.out hb)
    replace Hx := hide (blk_later Hx.out hb)
    clear hb
    have x0 := Hx.out.c 0 rfl
    have x1 := Hx.out.c 1 rfl
    have x2 := Hx.out.c 2 rfl
    have x3 := Hx.out.c 3 rfl
    have x4 := Hx.out.c 4 rfl
    have x5 := Hx.out.c 5 rfl
    have x6 := Hx.out.c 6 rfl
    have x7 := Hx.out.c 7 rfl
    have x8 := Hx.out.c 8 rfl
    have x9 := Hx.out.c 9 rfl
    have x10 := Hx.out.c 10 rfl
    have ltx := Hx.out.lt
    go_wp2
    go_ret
    exact ⟨rfl, HB.out⟩
end Go.Proofs.YtepgpihobmjbdaaGreat
namespace Go.Proofs.YtepgpihobmjbdaaGreat
open Go.RowKit

theorem oneB_leR {a b : Bool} (h : a = true → b = true) : oneB a ≤ oneB b := by
  unfold oneB
  by_cases ha : a = true
  · rw [if_pos ha, if_pos (h ha)]; exact Int.le_refl _
  · rw [if_neg ha]; split <;> omega
theorem anyB_leR {c c' : Nat → Bool} : ∀ {j : Nat}, (∀ i, i ≤ j → c i = true → c' i = true) → anyB c j = true → anyB c' j = true
  | 0, h, hc => h 0 (Nat.le_refl _) hc
  | j + 1, h, hc => by
    unfold anyB at *
    rw [Bool.or_eq_true] at *
    rcases hc with hc | hc
    · exact .inl (anyB_leR (fun i hi => h i (by omega)) hc)
    · exact .inr (h _ (Nat.le_refl _) hc)
theorem rowsZ_inR {cs cm : Nat → Nat → Bool} {j : Nat} : ∀ n, (∀ k i, k < n → i ≤ j → cs k i = true → cm k i = true) → (rowsZ cs cm n j).1 ≤ (rowsZ cs cm n j).2
  | 0, _ => by simp [rowsZ]
  | n + 1, h => by
    have h1 := rowsZ_inR (j := j) n (fun k i hk hi => h k i (by omega) hi)
    have a := oneB_leR (anyB_leR (c := cs n) (c' := cm n) (j := j) (fun i hi => h n i (by omega) hi))
    unfold rowsZ addT
    simp only
    omega
theorem site_all {nb : Bool} {x y z r g st wd : Int} (h : siteE nb x y z r g st wd = 0) : 0 ≤ z ∧ z ≤ 20000 ∧ 1 ≤ r ∧ r ≤ 90 ∧ 1 ≤ g ∧ g ≤ 200 ∧ 50 ≤ st ∧ st ≤ 2000 ∧ 0 ≤ wd ∧ wd ≤ 8 := by
  unfold siteE at h
  split at h
  · omega
  · split at h
    · rename_i hh
      simp only [Bool.and_eq_true, winB, decide_eq_true_eq] at hh
      omega
    · omega
/-- The threads that are in the way, gate by gate. -/
def rowB (gl : List (Int × Int)) (sx sy r z st wd t ray elo ehi gx gy gs wi hi : Int) : Nat → Int × Int :=
  rowsZ (csB (groundZ gl sx sy r st t ray gx gy gs wi hi) z st elo (t - wd)) (cmB (groundZ gl sx sy r st t ray gx gy gs wi hi) z st ehi (t - wd)) (2 * wd + 1).toNat
theorem rowB_ok {gl : List (Int × Int)} {sx sy r z st wd t ray elo ehi gx gy gs wi hi : Int} {n : Nat} {j : Nat} (hn : gl.length = n) (hfe : fieldE (gridE gx gy gs wi hi) n wi hi gl 20000 = 0) (he : okE elo ehi = true) (ht : 0 ≤ t ∧ t ≤ 256) (hst : 50 ≤ st ∧ st ≤ 2000) (hwd : 0 ≤ wd ∧ wd ≤ 8) (hj : j ≤ 199) :
    0 ≤ (rowB gl sx sy r z st wd t ray elo ehi gx gy gs wi hi j).1 ∧ (rowB gl sx sy r z st wd t ray elo ehi gx gy gs wi hi j).1 ≤ (rowB gl sx sy r z st wd t ray elo ehi gx gy gs wi hi j).2 ∧ (rowB gl sx sy r z st wd t ray elo ehi gx gy gs wi hi j).2 ≤ 2 * wd + 1 := by
  unfold rowB
  have bd := rowsZ_bd (cs := csB (groundZ gl sx sy r st t ray gx gy gs wi hi) z st elo (t - wd)) (cm := cmB (groundZ gl sx sy r st t ray gx gy gs wi hi) z st ehi (t - wd)) (2 * wd + 1).toNat j
  have hc : (((2 * wd + 1).toNat : Nat) : Int) = 2 * wd + 1 := by omega
  rw [hc] at bd
  obtain ⟨e1, e2, e3⟩ := okE_iff he
  refine ⟨bd.1, rowsZ_inR _ ?_, bd.2.2.2⟩
  intro k i hk hik hcs
  have hge : gridE gx gy gs wi hi = 0 ∧ (n : Int) = wi * hi ∧ gl.all (okS 20000) = true := by
    unfold fieldE at hfe
    split at hfe
    · omega
    · rename_i h0
      split at hfe
      · omega
      · rename_i h1
        split at hfe
        · rename_i h2; exact ⟨by omega, by omega, h2⟩
        · omega
  have hgr := gridE_ok hge.1
  obtain ⟨g1, g2, g3⟩ := groundZ_ok (sx := sx) (sy := sy) (ro := r) (st := st) (t := t) (ray := ray) (gx := gx) (gy := gy) (j := i) hn hge.2.1 (by omega : 1 ≤ gs) (by omega) (by omega) (by omega) hge.2.2
  have hm := rise_meet (z := z) (st := st) (gate := i) (a := t - wd + k) (b := t - wd + k) (e := elo) (e' := ehi) (by omega) (Int.le_refl _) (by omega) (by omega) (by omega) (by omega) (by omega) e1 e2
  unfold csB at hcs
  have := of_decide_eq_true hcs
  exact decide_eq_true (by omega)
/-- The band of a gate. -/
def bandZ (z st wd t elo ehi : Int) (j : Nat) : Int × Int := (riseD z st j (t - wd) ehi, riseU z st j (t + wd) elo)
theorem band_le {z st wd t elo ehi : Int} {j : Nat} (he : okE elo ehi = true) (ht : 0 ≤ t ∧ t ≤ 256) (hst : 50 ≤ st ∧ st ≤ 2000) (hwd : 0 ≤ wd ∧ wd ≤ 8) (hj : j ≤ 199) : (bandZ z st wd t elo ehi j).1 ≤ (bandZ z st wd t elo ehi j).2 := by
  obtain ⟨e1, e2, e3⟩ := okE_iff he
  exact rise_meet (by omega) (by omega) (by omega) (by omega) (by omega) (by omega) (by omega) e1 e2
theorem band_at {t z g st wd elo ehi : Int} {j : Nat} (he : okE elo ehi = true) (ht : 0 ≤ t ∧ t ≤ 256) (hj : (j : Int) < g) : bandR 0 t j z g st wd elo ehi = (bandZ z st wd t elo ehi j, 0) := by
  unfold bandR
  rw [if_neg (by omega), he, show winB t 0 256 = true from winB_iff.2 ht, show winB (j : Int) 0 (g - 1) = true from winB_iff.2 ⟨by omega, by omega⟩]
  rfl
theorem facS_ok {a0 a1 b0 b1 c0 c1 x y : Int} (ha : a0 ≤ a1) (hx : x ≤ y) (hb : 0 ≤ b0 ∧ b0 ≤ b1 ∧ b1 ≤ 100000) (hc : 0 ≤ c0 ∧ c0 ≤ c1 ∧ c1 ≤ 100000) : FacOk (facS (a0, a1) (b0, b1) (c0, c1) (x, y)) := by
  unfold FacOk facS
  by_cases m1 : x < a0 <;> by_cases m3 : a1 < y
  all_goals
    by_cases m2 : max x a0 ≤ min y a1
    all_goals
      simp only [met1, met2, met3, meetF, m1, m2, m3, decide_true, decide_false, if_true, if_false, Bool.false_eq_true]
      omega
theorem echE_power {x : Ech} (h : echE x = 0) : okM (x.p1, x.p2) = true := by
  unfold echE at h
  have key : spi x.p1 x.p2 0 1073741824 = true := by
    split at h
    · split at h
      · rename_i hh; simp only [Bool.and_eq_true] at hh; exact hh.1
      · omega
    · split at h
      · split at h
        · rename_i hh; simp only [Bool.and_eq_true] at hh; exact hh.1.1
        · omega
      · split at h
        · split at h
          · rename_i hh; simp only [Bool.and_eq_true] at hh; exact hh.1.1
          · omega
        · omega
  unfold spi at key
  simp only [Bool.and_eq_true, decide_eq_true_eq] at key
  exact decide_eq_true (by simp only; omega)
theorem firstN_zero {f : Nat → Int} : ∀ {k n : Nat}, firstN f k n = 0 → ∀ i, i < n → f (k + i) = 0
  | k, 0, _, i, hi => absurd hi (by omega)
  | k, n + 1, h, i, hi => by
    rw [firstN] at h
    split at h
    · rename_i h0; exact absurd h h0
    · rename_i h0
      cases i with
      | zero => simpa using h0
      | succ i => have := firstN_zero h i (by omega); rw [show k + (i + 1) = k + 1 + i by omega]; exact this
theorem sweep_ok {se tilt time r g : Int} {n : Nat} {rr : Nat → Ray1} (h : sweepE se tilt time r g n rr = 0) : se = 0 ∧ (0 ≤ tilt ∧ tilt ≤ 256) ∧ (n : Int) = 4 * r ∧ (∀ i, i < n → ((rr i).n : Int) = g) ∧ ∀ i, i < n → ∀ j, j < (rr i).n → okM (((rr i).e j).p1, ((rr i).e j).p2) = true := by
  unfold sweepE at h
  split at h
  · rename_i h0; exact absurd h h0
  · rename_i h0
    split at h
    · omega
    · rename_i h1
      split at h
      · omega
      · rename_i h2
        split at h
        · omega
        · rename_i h3
          have h1' : (win tilt 0 256 && win time 0 4294967296) = true := by simpa using h1
          have h3' : shapeB n (fun i => (rr i).n) g = true := by simpa using h3
          rw [Bool.and_eq_true] at h1'
          refine ⟨by omega, win_iff.1 h1'.1, by omega, fun i hi => ?_, fun i hi j hj => echE_power ?_⟩
          · have := List.all_eq_true.1 h3' i (List.mem_range.2 hi)
            simpa using this
          · have h5 := firstN_zero h i hi
            rw [Nat.zero_add] at h5
            have := firstN_zero h5 j hj
            rw [Nat.zero_add] at this
            exact this
theorem model_ok {l rt : List (Int × Int)} {a0 a1 b0 b1 c0 c1 : Int} (h : chkModel l rt (a0, a1) (b0, b1) (c0, c1) = 0) : chk l 32768 = 0 ∧ chk rt 1000000 = 0 ∧ a0 ≤ a1 ∧ (0 ≤ b0 ∧ b0 ≤ b1 ∧ b1 ≤ 100000) ∧ (0 ≤ c0 ∧ c0 ≤ c1 ∧ c1 ≤ 100000) := by
  unfold chkModel at h
  split at h
  · rename_i h0; exact absurd h h0
  · rename_i h0
    split at h
    · rename_i h1; exact absurd h h1
    · rename_i h1
      split at h
      · omega
      · rename_i h2
        have h2' : (ins a0 a1 20000 && ins b0 b1 100000 && ins c0 c1 100000) = true := by
          cases hq : (ins a0 a1 20000 && ins b0 b1 100000 && ins c0 c1 100000) with
          | true => rfl
          | false => exact absurd hq h2
        simp only [Bool.and_eq_true, ins, decide_eq_true_eq] at h2'
        omega
theorem block_ok {se fe t elo ehi ray r : Int} (h : blockE se fe t elo ehi ray r = 0) : se = 0 ∧ fe = 0 ∧ okE elo ehi = true ∧ 0 ≤ ray ∧ ray < 4 * r := by
  unfold blockE at h
  split at h
  · rename_i h0; exact absurd h h0
  · rename_i h0
    split at h
    · rename_i h1; exact absurd h h1
    · rename_i h1
      split at h
      · rename_i h2
        simp only [Bool.and_eq_true] at h2
        have := winB_iff.1 h2.2
        exact ⟨by omega, by omega, h2.1.2, by omega, by omega⟩
      · omega
/-- The powers of a ray, as they were measured. -/
def powL (x : Ray1) (k : Nat) : List (Int × Int) := (List.range k).map fun j => ((x.e j).p1, (x.e j).p2)
theorem powL_length (x : Ray1) (k : Nat) : (powL x k).length = k := by simp [powL]
theorem powL_get {x : Ray1} {k j : Nat} (h : j < k) : (powL x k).getD j (0, 0) = ((x.e j).p1, (x.e j).p2) := by simp [powL, List.getD, h]
theorem powL_succ (x : Ray1) (k : Nat) : powL x (k + 1) = powL x k ++ [((x.e k).p1, (x.e k).p2)] := by simp [powL, List.range_succ]
end Go.Proofs.YtepgpihobmjbdaaGreat
namespace Go.Proofs.YtepgpihobmjbdaaGreat
open Go.RowKit

def readyE (mE swE blE : Int) : Int := if mE ≠ 0 then mE else if swE ≠ 0 then swE else blE
/-- The model's cells. -/
def mdlC (A : Option Addr) (n c : Nat) (Ar : Option Addr) (nr cr : Nat) (a0 a1 b0 b1 c0 c1 : Int) : Array Value := #[.slice A n c, .slice Ar nr cr, .int .i64 a0, .int .i64 a1, .int .i64 b0, .int .i64 b1, .int .i64 c0, .int .i64 c1]
def fldC (gx gy gs wi hi : Int) (Ag : Option Addr) (ng cg : Nat) : Array Value := #[.int .i64 gx, .int .i64 gy, .int .i64 gs, .int .i64 wi, .int .i64 hi, .slice Ag ng cg]
/-- The error of a sweep, its model and its ground. -/
def allE (s : ByteArray) (sx sy z r g st wd tilt time elo ehi gx gy gs wi hi ray : Int) (l rt gl : List (Int × Int)) (a0 a1 b0 b1 c0 c1 : Int) (n ng : Nat) (rr : Nat → Ray1) : Int :=
  readyE (chkModel l rt (a0, a1) (b0, b1) (c0, c1)) (sweepE (siteE (nameB s) sx sy z r g st wd) tilt time r g n rr) (blockE (siteE (nameB s) sx sy z r g st wd) (fieldE (gridE gx gy gs wi hi) ng wi hi gl 20000) tilt elo ehi ray r)

set_option maxHeartbeats 4000000 in
set_option maxRecDepth 100000 in
theorem checked_any (s : ByteArray) (sx sy z r g st wd tilt time elo ehi gx gy gs wi hi ray : Int) (l rt gl : List (Int × Int)) (a0 a1 b0 b1 c0 c1 : Int) (n ng : Nat) (rr : Nat → Ray1) (A : Option Addr) (nl cl : Nat) (Ar : Option Addr) (nr cr : Nat) (As : Option Addr) (cs : Nat) (Ag : Option Addr) (cg : Nat) (w : World)
    (hs : s.size ≤ 9223372036854775807) (hn : l.length = nl) (hmax : nl ≤ 9223372036854775807) (hnr : rt.length = nr) (hmaxr : nr ≤ 9223372036854775807) (hng : gl.length = ng) (hmaxg : ng ≤ 9223372036854775807) (hns : n ≤ maxLen)
    (hl : Ints w w.heap.size .i64 A (flat2 l)) (hlr : Ints w w.heap.size .i64 Ar (flat2 rt)) (hlg : Ints w w.heap.size .i64 Ag (flat2Q gl)) (hrs : RaysAt w w.heap.size As n rr) :
    Calls Tryz.prog 19 #[.agg (mdlC A nl cl Ar nr cr a0 a1 b0 b1 c0 c1), .agg (sweepC s sx sy z r g st wd tilt time As n cs), .agg #[.int .i64 elo, .int .i64 ehi], .agg (fldC gx gy gs wi hi Ag ng cg), .int .i64 ray] w fun e w' => e = .returned (.int .i64 (allE s sx sy z r g st wd tilt time elo ehi gx gy gs wi hi ray l rt gl a0 a1 b0 b1 c0 c1 n ng rr)) ∧ Below w.heap.size w w' := by
  have cM := fun (W : World) (h1 : Ints W W.heap.size .i64 A (flat2 l)) (h2 : Ints W W.heap.size .i64 Ar (flat2 rt)) => CheckModel_any A nl cl l Ar nr cr rt (a0, a1) (b0, b1) (c0, c1) W hn hmax hnr hmaxr h1 h2
  have cS := fun (W : World) (h1 : RaysAt W W.heap.size As n rr) => CheckSweep_any s sx sy z r g st wd tilt time As n cs rr W hs hns h1
  have cB := fun (W : World) (h1 : Ints W W.heap.size .i64 Ag (flat2Q gl)) => Blocked_any s sx sy z r g st wd tilt elo ehi gx gy gs wi hi Ag ng cg gl ray W hs hng hmaxg h1
  unfold allE readyE
  unfold BlockPost at cB
  unfold mdlV at cM
  unfold siteV fieldV at cB
  unfold sweepC at cS ⊢
  unfold mdlC fldC
  generalize chkModel l rt (a0, a1) (b0, b1) (c0, c1) = mE at *
  generalize blockE (siteE (nameB s) sx sy z r g st wd) (fieldE (gridE gx gy gs wi hi) ng wi hi gl 20000) tilt elo ehi ray r = bE at *
  generalize sweepE (siteE (nameB s) sx sy z r g st wd) tilt time r g n rr = sE at *
  simp only at cM
  obtain ⟨nB, hnB⟩ : ∃ q, (if bE = 0 then g.toNat else 0) = q := ⟨_, rfl⟩
  simp only [hnB] at cB
  clear hnB
  have CM := hide cM
  have CS := hide cS
  have CB := hide cB
  have Hl := hide hl
  have Hlr := hide hlr
  have Hlg := hide hlg
  have Hrs := hide hrs
  clear cM cS cB hl hlr hlg hrs
  clear hn hmax hnr hmaxr hng hmaxg hns hs
  by_cases hm : mE = 0
  · subst hm
    rw [if_neg (by simp)]
    by_cases hsw : sE = 0
    · subst hsw
      rw [if_neg (by simp)]
      go_enter Tryz.func19, Tryz.ntmps19
      have HB := hide (Below.refl w.heap.size w)
      go_wp2_with fail
      refine at_world fun W hW => ?_
      have bq0 : Blk W w.heap.size 26 #[.slice A nl cl, .slice Ar nr cr, .int .i64 a0, .int .i64 a1, .int .i64 b0, .int .i64 b1, .int .i64 c0, .int .i64 c1] := by rw [hW]; exact (((Blk.new _ _ _).alloc _).alloc _).alloc _
      have bq1 : Blk W (w.heap.size + 1) 31 #[.string s, .int .i64 sx, .int .i64 sy, .int .i64 z, .int .i64 r, .int .i64 g, .int .i64 st, .int .i64 wd, .int .i64 tilt, .int .i64 time, .slice As n cs] := by rw [hW]; exact ((blk_new_at (by simp)).alloc _).alloc _
      have bq2 : Blk W (w.heap.size + 2) 24 #[.int .i64 elo, .int .i64 ehi] := by rw [hW]; exact (blk_new_at (by simp)).alloc _
      have bq3 : Blk W (w.heap.size + 3) 36 #[.int .i64 gx, .int .i64 gy, .int .i64 gs, .int .i64 wi, .int .i64 hi, .slice Ag ng cg] := by rw [hW]; exact blk_new_at (by simp)
      have LW : Later w W := by rw [hW]; exact (((((Below.refl _ _).alloc (Nat.le_refl _) _).alloc (by simp; try omega) _).alloc (by simp; try omega) _).alloc (by simp; try omega) _)
      have szW : W.heap.size = w.heap.size + 4 := by rw [hW]; simp
      clear hW
      replace HB := hide (onward HB.out LW)
      have Hm := hide bq0
      have Hsw := hide bq1
      have He := hide bq2
      have Hf := hide bq3
      clear bq0 bq1 bq2 bq3 LW szW
      refine (CM.out _ ((Hl.out.below HB.out).more HB.out.size) ((Hlr.out.below HB.out).more HB.out.size)).mono ?_
      rintro e w1 ⟨rfl, hb⟩
      replace HB := hide (onward HB.out hb)
      replace Hm := hide (blk_later Hm.out hb)
      replace Hsw := hide (blk_later Hsw.out hb)
      replace He := hide (blk_later He.out hb)
      replace Hf := hide (blk_later Hf.out hb)
      clear hb
      have x0 := Hsw.out.c 0 rfl
      have x1 := Hsw.out.c 1 rfl
      have x2 := Hsw.out.c 2 rfl
      have x3 := Hsw.out.c 3 rfl
      have x4 := Hsw.out.c 4 rfl
      have x5 := Hsw.out.c 5 rfl
      have x6 := Hsw.out.c 6 rfl
      have x7 := Hsw.out.c 7 rfl
      have x8 := Hsw.out.c 8 rfl
      have x9 := Hsw.out.c 9 rfl
      have x10 := Hsw.out.c 10 rfl
      have ltx := Hsw.out.lt
      go_wp2_with fail
      refine (CS.out _ ((Hrs.out.below HB.out).more HB.out.size)).mono ?_
      rintro e w2 ⟨rfl, hb⟩
      replace HB := hide (onward HB.out hb)
      replace Hm := hide (blk_later Hm.out hb)
      replace Hsw := hide (blk_later Hsw.out hb)
      replace He := hide (blk_later He.out hb)
      replace Hf := hide (blk_later Hf.out hb)
      clear hb x0 x1 x2 x3 x4 x5 x6 x7 x8 x9 x10 ltx
      have x0 := Hsw.out.c 0 rfl
      have x1 := Hsw.out.c 1 rfl
      have x2 := Hsw.out.c 2 rfl
      have x3 := Hsw.out.c 3 rfl
      have x4 := Hsw.out.c 4 rfl
      have x5 := Hsw.out.c 5 rfl
      have x6 := Hsw.out.c 6 rfl
      have x7 := Hsw.out.c 7 rfl
      have x8 := Hsw.out.c 8 rfl
      have x9 := Hsw.out.c 9 rfl
      have x10 := Hsw.out.c 10 rfl
      have ltx := Hsw.out.lt
      obtain ⟨y0, y1⟩ := He.out.c2
      have lty := He.out.lt
      obtain ⟨z0, z1, z2, z3, z4, z5⟩ := Hf.out.c6
      have ltz := Hf.out.lt
      go_wp2_with fail
      refine (CB.out _ ((Hlg.out.below HB.out).more HB.out.size)).mono ?_
      rintro e w3 ⟨A1, c1', rfl, hb, hi1⟩
      replace HB := hide (onward HB.out hb)
      replace Hm := hide (blk_later Hm.out hb)
      replace Hsw := hide (blk_later Hsw.out hb)
      replace He := hide (blk_later He.out hb)
      replace Hf := hide (blk_later Hf.out hb)
      clear hb x0 x1 x2 x3 x4 x5 x6 x7 x8 x9 x10 ltx y0 y1 lty z0 z1 z2 z3 z4 z5 ltz
      clear hi1
      go_wp2
      go_ret
      exact ⟨rfl, HB.out⟩
    · have hd : (sE != 0) = true := by simp [hsw]
      rw [if_pos hsw]
      go_enter Tryz.func19, Tryz.ntmps19
      have HB := hide (Below.refl w.heap.size w)
      go_wp2_with fail
      refine at_world fun W hW => ?_
      have bq0 : Blk W w.heap.size 26 #[.slice A nl cl, .slice Ar nr cr, .int .i64 a0, .int .i64 a1, .int .i64 b0, .int .i64 b1, .int .i64 c0, .int .i64 c1] := by rw [hW]; exact (((Blk.new _ _ _).alloc _).alloc _).alloc _
      have bq1 : Blk W (w.heap.size + 1) 31 #[.string s, .int .i64 sx, .int .i64 sy, .int .i64 z, .int .i64 r, .int .i64 g, .int .i64 st, .int .i64 wd, .int .i64 tilt, .int .i64 time, .slice As n cs] := by rw [hW]; exact ((blk_new_at (by simp)).alloc _).alloc _
      have bq2 : Blk W (w.heap.size + 2) 24 #[.int .i64 elo, .int .i64 ehi] := by rw [hW]; exact (blk_new_at (by simp)).alloc _
      have bq3 : Blk W (w.heap.size + 3) 36 #[.int .i64 gx, .int .i64 gy, .int .i64 gs, .int .i64 wi, .int .i64 hi, .slice Ag ng cg] := by rw [hW]; exact blk_new_at (by simp)
      have LW : Later w W := by rw [hW]; exact (((((Below.refl _ _).alloc (Nat.le_refl _) _).alloc (by simp; try omega) _).alloc (by simp; try omega) _).alloc (by simp; try omega) _)
      have szW : W.heap.size = w.heap.size + 4 := by rw [hW]; simp
      clear hW
      replace HB := hide (onward HB.out LW)
      have Hm := hide bq0
      have Hsw := hide bq1
      have He := hide bq2
      have Hf := hide bq3
      clear bq0 bq1 bq2 bq3 LW szW
      refine (CM.out _ ((Hl.out.below HB.out).more HB.out.size) ((Hlr.out.below HB.out).more HB.out.size)).mono ?_
      rintro e w1 ⟨rfl, hb⟩
      replace HB := hide (onward HB.out hb)
      replace Hm := hide (blk_later Hm.out hb)
      replace Hsw := hide (blk_later Hsw.out hb)
      replace He := hide (blk_later He.out hb)
      replace Hf := hide (blk_later Hf.out hb)
      clear hb
      have x0 := Hsw.out.c 0 rfl
      have x1 := Hsw.out.c 1 rfl
      have x2 := Hsw.out.c 2 rfl
      have x3 := Hsw.out.c 3 rfl
      have x4 := Hsw.out.c 4 rfl
      have x5 := Hsw.out.c 5 rfl
      have x6 := Hsw.out.c 6 rfl
      have x7 := Hsw.out.c 7 rfl
      have x8 := Hsw.out.c 8 rfl
      have x9 := Hsw.out.c 9 rfl
      have x10 := Hsw.out.c 10 rfl
      have ltx := Hsw.out.lt
      go_wp2_with fail
      refine (CS.out _ ((Hrs.out.below HB.out).more HB.out.size)).mono ?_
      rintro e w2 ⟨rfl, hb⟩
      replace HB := hide (onward HB.out hb)
      replace Hm := hide (blk_later Hm.out hb)
      replace Hsw := hide (blk_later Hsw.out hb)
      replace He := hide (blk_later He.out hb)
      replace Hf := hide (blk_later Hf.out hb)
      clear hb x0 x1 x2 x3 x4 x5 x6 x7 x8 x9 x10 ltx
      go_wp2
      go_ret
      exact ⟨rfl, HB.out⟩
  · have hd : (mE != 0) = true := by simp [hm]
    rw [if_pos hm]
    go_enter Tryz.func19, Tryz.ntmps19
    have HB := hide (Below.refl w.heap.size w)
    go_wp2_with fail
    refine at_world fun W hW => ?_
    have bq0 : Blk W w.heap.size 26 #[.slice A nl cl, .slice Ar nr cr, .int .i64 a0, .int .i64 a1, .int .i64 b0, .int .i64 b1, .int .i64 c0, .int .i64 c1] := by rw [hW]; exact (((Blk.new _ _ _).alloc _).alloc _).alloc _
    have bq1 : Blk W (w.heap.size + 1) 31 #[.string s, .int .i64 sx, .int .i64 sy, .int .i64 z, .int .i64 r, .int .i64 g, .int .i64 st, .int .i64 wd, .int .i64 tilt, .int .i64 time, .slice As n cs] := by rw [hW]; exact ((blk_new_at (by simp)).alloc _).alloc _
    have bq2 : Blk W (w.heap.size + 2) 24 #[.int .i64 elo, .int .i64 ehi] := by rw [hW]; exact (blk_new_at (by simp)).alloc _
    have bq3 : Blk W (w.heap.size + 3) 36 #[.int .i64 gx, .int .i64 gy, .int .i64 gs, .int .i64 wi, .int .i64 hi, .slice Ag ng cg] := by rw [hW]; exact blk_new_at (by simp)
    have LW : Later w W := by rw [hW]; exact (((((Below.refl _ _).alloc (Nat.le_refl _) _).alloc (by simp; try omega) _).alloc (by simp; try omega) _).alloc (by simp; try omega) _)
    have szW : W.heap.size = w.heap.size + 4 := by rw [hW]; simp
    clear hW
    replace HB := hide (onward HB.out LW)
    have Hm := hide bq0
    have Hsw := hide bq1
    have He := hide bq2
    have Hf := hide bq3
    clear bq0 bq1 bq2 bq3 LW szW
    refine (CM.out _ ((Hl.out.below HB.out).more HB.out.size) ((Hlr.out.below HB.out).more HB.out.size)).mono ?_
    rintro e w1 ⟨rfl, hb⟩
    replace HB := hide (onward HB.out hb)
    replace Hm := hide (blk_later Hm.out hb)
    replace Hsw := hide (blk_later Hsw.out hb)
    replace He := hide (blk_later He.out hb)
    replace Hf := hide (blk_later Hf.out hb)
    clear hb
    go_wp2
    go_ret
    exact ⟨rfl, HB.out⟩
end Go.Proofs.YtepgpihobmjbdaaGreat
namespace Go.Proofs.YtepgpihobmjbdaaGreat
open Go Go.RowKit Go.WideShapes
open Go.Maps (Keyed IsMap Tidy)

section
variable {P : Program} {k t e : TypeId} {w : World} {b c : Nat} {f : ByteArray → Option Value}

end
end Go.Proofs.YtepgpihobmjbdaaGreat
namespace Go.Proofs.YtepgpihobmjbdaaGreat
open Go Go.RowKit

section
variable {P : Program} {lops : List Oper} {an : List (List Nat)} {m1 m2 : List Bool} {st : List St} {w0 : World} {a0 : Act} {af : (Nat → Par) → Act} {shape : Nat → Par → Value} {wr : Nat → Nat → Prop} {R : Nat → (Nat → Par) → (Nat → Prop) → World → Prop} {s : St} {o : Oper}

end

/-! ### A row's own block, and any other blocks -/
def fillL (i : Nat) (v : Value) (cs : List (Nat × Nat)) : List (Nat × Nat) := ownFill i v ++ cs
theorem mem_fillL {i : Nat} {v : Value} {cs : List (Nat × Nat)} {p : Nat × Nat} : p ∈ fillL i v cs ↔ (p.1 = i ∧ v.ownBlock = some p.2) ∨ p ∈ cs := by
  unfold fillL
  rw [List.mem_append, mem_ownFill]
section
variable {P : Program} {lops : List Oper} {an : List (List Nat)} {m1 m2 : List Bool} {st : List St} {w0 : World} {a0 : Act} {af : (Nat → Par) → Act} {shape : Nat → Par → Value} {wr : Nat → Nat → Prop} {R : Nat → (Nat → Par) → (Nat → Prop) → World → Prop} {s : St} {o : Oper}
variable {i f T B k : Nat} {v : Value} {cs : List (Nat × Nat)} {early : List Nat}
theorem fillL_lt (h : ∀ g, v.ownBlock = some g → g < B) (hc : ∀ q ∈ cs, q.2 < B) : ∀ p ∈ fillL i v cs, p.2 < B := fun p hp => by
  rcases mem_fillL.1 hp with ⟨_, h2⟩ | h2
  · exact h _ h2
  · exact hc _ h2
theorem fillL_ne (hne : ∀ q ∈ cs, v.ownBlock ≠ some q.2) (hcc : ∀ p ∈ cs, ∀ q ∈ cs, p.1 ≠ q.1 → p.2 ≠ q.2) : ∀ p ∈ fillL i v cs, ∀ q ∈ fillL i v cs, p.1 ≠ q.1 → p.2 ≠ q.2 := fun p hp q hq h e => by
  rcases mem_fillL.1 hp with ⟨h1, h2⟩ | h1 <;> rcases mem_fillL.1 hq with ⟨h3, h4⟩ | h3
  · exact h (h1.trans h3.symm)
  · exact hne q h3 (by rw [h2, e])
  · exact hne p h1 (by rw [h4, e])
  · exact hcc p h1 q h3 h e
theorem ebL_row {g : Nat} (hg : v.ownBlock = some g) (hne : ∀ q ∈ cs, v.ownBlock ≠ some q.2) : Eb an st (wrF (fillL i v cs)) i g := fun s _ h => by
  rcases mem_fillL.1 h with ⟨h1, _⟩ | h1
  · exact .inl h1
  · exact absurd hg (hne _ h1)
theorem ebL_cell (hq : (f, T) ∈ cs) (hne : v.ownBlock ≠ some T) (hcc : ∀ p ∈ cs, ∀ q ∈ cs, p.1 ≠ q.1 → p.2 ≠ q.2) : Eb an st (wrF (fillL i v cs)) f T := fun s _ h => by
  rcases mem_fillL.1 h with ⟨_, h2⟩ | h1
  · exact absurd h2 hne
  · left
    by_cases e : s.i = f
    · exact e
    · exact (hcc (s.i, T) h1 (f, T) hq e rfl).elim
theorem earlyL (h : k < B) (hne : v.ownBlock ≠ some k) (hq : ∀ q ∈ cs, q.2 = k → q.1 ∈ early) : k < B ∧ ∀ p ∈ fillL i v cs, p.2 = k → p.1 ∈ early :=
  ⟨h, fun p hp e => by
    rcases mem_fillL.1 hp with ⟨_, h2⟩ | h1
    · exact absurd (e ▸ h2) hne
    · exact hq p h1 e⟩
theorem freeL (hne : v.ownBlock ≠ some k) (hq : ∀ q ∈ cs, q.2 ≠ k) : free (fillL i v cs) k := fun p hp e => by
  rcases mem_fillL.1 hp with ⟨_, h2⟩ | h1
  · exact hne (e ▸ h2)
  · exact hq p h1 e
theorem wrL_row : ∀ g, v.ownBlock = some g → wrF (fillL i v cs) i g := fun g hg => by
  unfold wrF
  exact mem_fillL.2 (.inl ⟨rfl, hg⟩)
theorem wrL_cell (h : (f, T) ∈ cs) : wrF (fillL i v cs) f T := by
  unfold wrF
  exact mem_fillL.2 (.inr h)
theorem row_thenL {base : Nat} {e : TypeId} {size n : Nat} {xs : List Value} {w : World} (h : w0.ownsRow base e size v n xs) (hne : ∀ q ∈ cs, v.ownBlock ≠ some q.2) (hk : Kept (fun k => k < w0.heap.size ∧ Eb an st (wrF (fillL i v cs)) i k) w0 w) : w.ownsRow base e size v n xs := by
  refine ⟨h.1, ?_⟩
  rcases h.2 with h0 | ⟨g, cap, cur, hv, hb, hg, r⟩
  · exact .inl h0
  · refine .inr ⟨g, cap, cur, hv, hb, ?_, r⟩
    have hlt : g < w0.heap.size := (Array.getElem?_eq_some_iff.1 hg).1
    rw [hk.block g ⟨hlt, ebL_row (by rw [hv]; rfl) hne⟩]; exact hg

theorem row_thenC {v2 : Value} {base : Nat} {e : TypeId} {size n : Nat} {xs : List Value} {w : World} (h : w0.ownsRow base e size v2 n xs) (ha : Apart v v2) (hk : Kept (fun k => k < w0.heap.size ∧ Eb an st (wrF (fillL i v (ownFill f v2))) f k) w0 w) : w.ownsRow base e size v2 n xs := by
  refine ⟨h.1, ?_⟩
  rcases h.2 with h0 | ⟨g, cap, cur, hv, hb, hg, r⟩
  · exact .inl h0
  · refine .inr ⟨g, cap, cur, hv, hb, ?_, r⟩
    have hlt : g < w0.heap.size := (Array.getElem?_eq_some_iff.1 hg).1
    have hgo : v2.ownBlock = some g := by rw [hv]; rfl
    rw [hk.block g ⟨hlt, ebL_cell (mem_ownFill.2 ⟨rfl, hgo⟩) (apart_ne ha hgo) fun p hp q hq hne => absurd ((mem_ownFill.1 hp).1.trans (mem_ownFill.1 hq).1.symm) hne⟩]; exact hg
theorem wrL_own {v2 : Value} : ∀ g, v2.ownBlock = some g → wrF (fillL i v (ownFill f v2)) f g := fun g hg => wrL_cell (mem_ownFill.2 ⟨rfl, hg⟩)

/-! ### 'm[k] = v' in two steps -/
end
end Go.Proofs.YtepgpihobmjbdaaGreat
