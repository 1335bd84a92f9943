/-
  CheckEcho: the contract.
-/
import Derived.Test.YtepgpihobmjbdaaGreatEcho
set_option linter.unusedSimpArgs false
set_option linter.unusedVariables false
namespace Go.Proofs.YtepgpihobmjbdaaGreat
open Go Go.RowKit

set_option maxHeartbeats 4000000 in
set_option maxRecDepth 100000 in
theorem CheckEcho_any (x : Ech) (w : World) : Calls Tryz.prog 66 #[.agg (echC x)] w fun e w' => e = .returned (.int .i64 (echE x)) ∧ Below w.heap.size w w' := by
  obtain ⟨k, p1, p2, s1, s2, s3, s4, sp, r1, r2, m1, m2, t1, t2⟩ := x
  unfold echC echE
  simp only
  have heqa := eqSS s1 s2 s3 s4 0 0 0 0
  have heqz := eqSS 0 0 0 0 0 0 0 0
  have heta := eqST s1 s2 s3 s4 0 0 0 0
  have hetz := eqST 0 0 0 0 0 0 0 0
  obtain ⟨g1, hg1⟩ : ∃ g, spi p1 p2 0 1073741824 = g := ⟨_, rfl⟩
  rw [hg1]
  by_cases hk1 : k = 1
  · subst hk1
    rw [if_pos rfl]
    cases g1 with
    | false =>
      go_enter Tryz.func66, Tryz.ntmps66
      have HB := hide (Below.refl w.heap.size w)
      go_wp2_with fail
      refine at_world fun W hW => ?_
      have bq0 : Blk W w.heap.size 68 #[.int .i64 1, .int .i64 p1, .int .i64 p2, .int .i64 s1, .int .i64 s2, .int .i64 s3, .int .i64 s4, .int .i64 sp, .int .i64 r1, .int .i64 r2, .int .i64 m1, .int .i64 m2, .int .i64 t1, .int .i64 t2] := by rw [hW]; exact Blk.new _ _ _
      have LW : Later w W := by rw [hW]; exact ((Below.refl _ _).alloc (Nat.le_refl _) _)
      have szW : W.heap.size = w.heap.size + 1 := by rw [hW]; simp
      clear hW
      replace HB := hide (onward HB.out LW)
      have Hx := hide bq0
      clear bq0 LW szW
      refine (pinside_any _ _ _ _ _).mono ?_
      rintro e w1 ⟨rfl, hb⟩
      replace HB := hide (onward HB.out hb)
      replace Hx := hide (blk_later Hx.out hb)
      clear hb
      have x0 := Hx.out.c 0 rfl
      have x1 := Hx.out.c 1 rfl
      have x2 := Hx.out.c 2 rfl
      have x3 := Hx.out.c 3 rfl
      have x4 := Hx.out.c 4 rfl
      have x5 := Hx.out.c 5 rfl
      have x6 := Hx.out.c 6 rfl
      have x7 := Hx.out.c 7 rfl
      have x8 := Hx.out.c 8 rfl
      have x9 := Hx.out.c 9 rfl
      have x10 := Hx.out.c 10 rfl
      have x11 := Hx.out.c 11 rfl
      have x12 := Hx.out.c 12 rfl
      have x13 := Hx.out.c 13 rfl
      have ltx := Hx.out.lt
      rw [hg1]
      go_wp2
      go_ret
      exact ⟨rfl, HB.out⟩
    | true =>
      by_cases hq : quietB ⟨1, p1, p2, s1, s2, s3, s4, sp, r1, r2, m1, m2, t1, t2⟩ = true
      · rw [hq]
        have hq2 := hq
        simp only [quietB, decide_eq_true_eq] at hq2
        obtain ⟨rfl, ⟨rfl, rfl⟩, ⟨rfl, rfl⟩, rfl, ⟨rfl, rfl⟩, ⟨rfl, rfl⟩, rfl, rfl⟩ := hq2
        clear hq
        go_enter Tryz.func66, Tryz.ntmps66
        have HB := hide (Below.refl w.heap.size w)
        go_wp2_with fail
        refine at_world fun W hW => ?_
        have bq0 : Blk W w.heap.size 68 #[.int .i64 1, .int .i64 0, .int .i64 p2, .int .i64 0, .int .i64 0, .int .i64 0, .int .i64 0, .int .i64 0, .int .i64 0, .int .i64 0, .int .i64 0, .int .i64 0, .int .i64 0, .int .i64 0] := by rw [hW]; exact Blk.new _ _ _
        have LW : Later w W := by rw [hW]; exact ((Below.refl _ _).alloc (Nat.le_refl _) _)
        have szW : W.heap.size = w.heap.size + 1 := by rw [hW]; simp
        clear hW
        replace HB := hide (onward HB.out LW)
        have Hx := hide bq0
        clear bq0 LW szW
        refine (pinside_any _ _ _ _ _).mono ?_
        rintro e w1 ⟨rfl, hb⟩
        replace HB := hide (onward HB.out hb)
        replace Hx := hide (blk_later Hx.out hb)
        clear hb
        have x0 := Hx.out.c 0 rfl
        have x1 := Hx.out.c 1 rfl
        have x2 := Hx.out.c 2 rfl
        have x3 := Hx.out.c 3 rfl
        have x4 := Hx.out.c 4 rfl
        have x5 := Hx.out.c 5 rfl
        have x6 := Hx.out.c 6 rfl
        have x7 := Hx.out.c 7 rfl
        have x8 := Hx.out.c 8 rfl
        have x9 := Hx.out.c 9 rfl
        have x10 := Hx.out.c 10 rfl
        have x11 := Hx.out.c 11 rfl
        have x12 := Hx.out.c 12 rfl
        have x13 := Hx.out.c 13 rfl
        have ltx := Hx.out.lt
        rw [hg1]
        go_wp2
        go_ret
        exact ⟨rfl, HB.out⟩
      · have hq3 : quietB ⟨1, p1, p2, s1, s2, s3, s4, sp, r1, r2, m1, m2, t1, t2⟩ = false := by simpa using hq
        rw [hq3]
        simp only [quietB, decide_eq_true_eq] at hq
        have Hq := hide hq
        clear hq
        clear hq3
        go_enter Tryz.func66, Tryz.ntmps66
        have HB := hide (Below.refl w.heap.size w)
        go_wp2_with fail
        refine at_world fun W hW => ?_
        have bq0 : Blk W w.heap.size 68 #[.int .i64 1, .int .i64 p1, .int .i64 p2, .int .i64 s1, .int .i64 s2, .int .i64 s3, .int .i64 s4, .int .i64 sp, .int .i64 r1, .int .i64 r2, .int .i64 m1, .int .i64 m2, .int .i64 t1, .int .i64 t2] := by rw [hW]; exact Blk.new _ _ _
        have LW : Later w W := by rw [hW]; exact ((Below.refl _ _).alloc (Nat.le_refl _) _)
        have szW : W.heap.size = w.heap.size + 1 := by rw [hW]; simp
        clear hW
        replace HB := hide (onward HB.out LW)
        have Hx := hide bq0
        clear bq0 LW szW
        refine (pinside_any _ _ _ _ _).mono ?_
        rintro e w1 ⟨rfl, hb⟩
        replace HB := hide (onward HB.out hb)
        replace Hx := hide (blk_later Hx.out hb)
        clear hb
        have x0 := Hx.out.c 0 rfl
        have x1 := Hx.out.c 1 rfl
        have x2 := Hx.out.c 2 rfl
        have x3 := Hx.out.c 3 rfl
        have x4 := Hx.out.c 4 rfl
        have x5 := Hx.out.c 5 rfl
        have x6 := Hx.out.c 6 rfl
        have x7 := Hx.out.c 7 rfl
        have x8 := Hx.out.c 8 rfl
        have x9 := Hx.out.c 9 rfl
        have x10 := Hx.out.c 10 rfl
        have x11 := Hx.out.c 11 rfl
        have x12 := Hx.out.c 12 rfl
        have x13 := Hx.out.c 13 rfl
        have ltx := Hx.out.lt
        rw [hg1]
        go_wp2
        all_goals first
          | (go_ret; exact ⟨rfl, HB.out⟩)
          | (exfalso; have hq9 := Hq.out; omega)
  rw [if_neg hk1]
  obtain ⟨g2, hg2⟩ : ∃ g, spi r1 r2 0 1000000 = g := ⟨_, rfl⟩
  obtain ⟨g3, hg3⟩ : ∃ g, spi m1 m2 0 1000 = g := ⟨_, rfl⟩
  obtain ⟨g4, hg4⟩ : ∃ g, win sp 0 65535 = g := ⟨_, rfl⟩
  by_cases hk2 : k = 2
  · subst hk2
    rw [if_pos rfl]
    have hmid : midE ⟨2, p1, p2, s1, s2, s3, s4, sp, r1, r2, m1, m2, t1, t2⟩ = (decide (1 ≤ p1) && g2 && g3 && g4) := by unfold midE; rw [hg2, hg3, hg4]
    rw [hmid]
    clear hmid
    cases g1 with
    | false =>
      rw [if_neg (by simp)]
      go_enter Tryz.func66, Tryz.ntmps66
      have HB := hide (Below.refl w.heap.size w)
      go_wp2_with fail
      refine at_world fun W hW => ?_
      have bq0 : Blk W w.heap.size 68 #[.int .i64 2, .int .i64 p1, .int .i64 p2, .int .i64 s1, .int .i64 s2, .int .i64 s3, .int .i64 s4, .int .i64 sp, .int .i64 r1, .int .i64 r2, .int .i64 m1, .int .i64 m2, .int .i64 t1, .int .i64 t2] := by rw [hW]; exact Blk.new _ _ _
      have LW : Later w W := by rw [hW]; exact ((Below.refl _ _).alloc (Nat.le_refl _) _)
      have szW : W.heap.size = w.heap.size + 1 := by rw [hW]; simp
      clear hW
      replace HB := hide (onward HB.out LW)
      have Hx := hide bq0
      clear bq0 LW szW
      refine (pinside_any _ _ _ _ _).mono ?_
      rintro e w1 ⟨rfl, hb⟩
      replace HB := hide (onward HB.out hb)
      replace Hx := hide (blk_later Hx.out hb)
      clear hb
      have x0 := Hx.out.c 0 rfl
      have x1 := Hx.out.c 1 rfl
      have x2 := Hx.out.c 2 rfl
      have x3 := Hx.out.c 3 rfl
      have x4 := Hx.out.c 4 rfl
      have x5 := Hx.out.c 5 rfl
      have x6 := Hx.out.c 6 rfl
      have x7 := Hx.out.c 7 rfl
      have x8 := Hx.out.c 8 rfl
      have x9 := Hx.out.c 9 rfl
      have x10 := Hx.out.c 10 rfl
      have x11 := Hx.out.c 11 rfl
      have x12 := Hx.out.c 12 rfl
      have x13 := Hx.out.c 13 rfl
      have ltx := Hx.out.lt
      rw [hg1]
      go_wp2
      go_ret
      exact ⟨rfl, HB.out⟩
    | true =>
      by_cases hp : 0 < p1
      · have hp1 : decide (1 ≤ p1) = true := decide_eq_true (by omega)
        rw [hp1]
        clear hp1
        have hp2 : decide (0 < p1) = true := decide_eq_true hp
        cases g2 with
        | false =>
          rw [if_neg (by simp)]
          go_enter Tryz.func66, Tryz.ntmps66
          have HB := hide (Below.refl w.heap.size w)
          go_wp2_with fail
          refine at_world fun W hW => ?_
          have bq0 : Blk W w.heap.size 68 #[.int .i64 2, .int .i64 p1, .int .i64 p2, .int .i64 s1, .int .i64 s2, .int .i64 s3, .int .i64 s4, .int .i64 sp, .int .i64 r1, .int .i64 r2, .int .i64 m1, .int .i64 m2, .int .i64 t1, .int .i64 t2] := by rw [hW]; exact Blk.new _ _ _
          have LW : Later w W := by rw [hW]; exact ((Below.refl _ _).alloc (Nat.le_refl _) _)
          have szW : W.heap.size = w.heap.size + 1 := by rw [hW]; simp
          clear hW
          replace HB := hide (onward HB.out LW)
          have Hx := hide bq0
          clear bq0 LW szW
          refine (pinside_any _ _ _ _ _).mono ?_
          rintro e w1 ⟨rfl, hb⟩
          replace HB := hide (onward HB.out hb)
          replace Hx := hide (blk_later Hx.out hb)
          clear hb
          have x0 := Hx.out.c 0 rfl
          have x1 := Hx.out.c 1 rfl
          have x2 := Hx.out.c 2 rfl
          have x3 := Hx.out.c 3 rfl
          have x4 := Hx.out.c 4 rfl
          have x5 := Hx.out.c 5 rfl
          have x6 := Hx.out.c 6 rfl
          have x7 := Hx.out.c 7 rfl
          have x8 := Hx.out.c 8 rfl
          have x9 := Hx.out.c 9 rfl
          have x10 := Hx.out.c 10 rfl
          have x11 := Hx.out.c 11 rfl
          have x12 := Hx.out.c 12 rfl
          have x13 := Hx.out.c 13 rfl
          have ltx := Hx.out.lt
          rw [hg1]
          go_wp2_with fail
          refine (pinside_any _ _ _ _ _).mono ?_
          rintro e w2 ⟨rfl, hb⟩
          replace HB := hide (onward HB.out hb)
          replace Hx := hide (blk_later Hx.out hb)
          clear hb x0 x1 x2 x3 x4 x5 x6 x7 x8 x9 x10 x11 x12 x13 ltx
          rw [hg2]
          have x0 := Hx.out.c 0 rfl
          have x1 := Hx.out.c 1 rfl
          have x2 := Hx.out.c 2 rfl
          have x3 := Hx.out.c 3 rfl
          have x4 := Hx.out.c 4 rfl
          have x5 := Hx.out.c 5 rfl
          have x6 := Hx.out.c 6 rfl
          have x7 := Hx.out.c 7 rfl
          have x8 := Hx.out.c 8 rfl
          have x9 := Hx.out.c 9 rfl
          have x10 := Hx.out.c 10 rfl
          have x11 := Hx.out.c 11 rfl
          have x12 := Hx.out.c 12 rfl
          have x13 := Hx.out.c 13 rfl
          have ltx := Hx.out.lt
          go_wp2
          go_ret
          exact ⟨rfl, HB.out⟩
        | true =>
          cases g3 with
          | false =>
            rw [if_neg (by simp)]
            go_enter Tryz.func66, Tryz.ntmps66
            have HB := hide (Below.refl w.heap.size w)
            go_wp2_with fail
            refine at_world fun W hW => ?_
            have bq0 : Blk W w.heap.size 68 #[.int .i64 2, .int .i64 p1, .int .i64 p2, .int .i64 s1, .int .i64 s2, .int .i64 s3, .int .i64 s4, .int .i64 sp, .int .i64 r1, .int .i64 r2, .int .i64 m1, .int .i64 m2, .int .i64 t1, .int .i64 t2] := by rw [hW]; exact Blk.new _ _ _
            have LW : Later w W := by rw [hW]; exact ((Below.refl _ _).alloc (Nat.le_refl _) _)
            have szW : W.heap.size = w.heap.size + 1 := by rw [hW]; simp
            clear hW
            replace HB := hide (onward HB.out LW)
            have Hx := hide bq0
            clear bq0 LW szW
            refine (pinside_any _ _ _ _ _).mono ?_
            rintro e w1 ⟨rfl, hb⟩
            replace HB := hide (onward HB.out hb)
            replace Hx := hide (blk_later Hx.out hb)
            clear hb
            have x0 := Hx.out.c 0 rfl
            have x1 := Hx.out.c 1 rfl
            have x2 := Hx.out.c 2 rfl
            have x3 := Hx.out.c 3 rfl
            have x4 := Hx.out.c 4 rfl
            have x5 := Hx.out.c 5 rfl
            have x6 := Hx.out.c 6 rfl
            have x7 := Hx.out.c 7 rfl
            have x8 := Hx.out.c 8 rfl
            have x9 := Hx.out.c 9 rfl
            have x10 := Hx.out.c 10 rfl
            have x11 := Hx.out.c 11 rfl
            have x12 := Hx.out.c 12 rfl
            have x13 := Hx.out.c 13 rfl
            have ltx := Hx.out.lt
            rw [hg1]
            go_wp2_with fail
            refine (pinside_any _ _ _ _ _).mono ?_
            rintro e w2 ⟨rfl, hb⟩
            replace HB := hide (onward HB.out hb)
            replace Hx := hide (blk_later Hx.out hb)
            clear hb x0 x1 x2 x3 x4 x5 x6 x7 x8 x9 x10 x11 x12 x13 ltx
            rw [hg2]
            have x0 := Hx.out.c 0 rfl
            have x1 := Hx.out.c 1 rfl
            have x2 := Hx.out.c 2 rfl
            have x3 := Hx.out.c 3 rfl
            have x4 := Hx.out.c 4 rfl
            have x5 := Hx.out.c 5 rfl
            have x6 := Hx.out.c 6 rfl
            have x7 := Hx.out.c 7 rfl
            have x8 := Hx.out.c 8 rfl
            have x9 := Hx.out.c 9 rfl
            have x10 := Hx.out.c 10 rfl
            have x11 := Hx.out.c 11 rfl
            have x12 := Hx.out.c 12 rfl
            have x13 := Hx.out.c 13 rfl
            have ltx := Hx.out.lt
            go_wp2_with fail
            refine (pinside_any _ _ _ _ _).mono ?_
            rintro e w3 ⟨rfl, hb⟩
            replace HB := hide (onward HB.out hb)
            replace Hx := hide (blk_later Hx.out hb)
            clear hb x0 x1 x2 x3 x4 x5 x6 x7 x8 x9 x10 x11 x12 x13 ltx
            rw [hg3]
            have x0 := Hx.out.c 0 rfl
            have x1 := Hx.out.c 1 rfl
            have x2 := Hx.out.c 2 rfl
            have x3 := Hx.out.c 3 rfl
            have x4 := Hx.out.c 4 rfl
            have x5 := Hx.out.c 5 rfl
            have x6 := Hx.out.c 6 rfl
            have x7 := Hx.out.c 7 rfl
            have x8 := Hx.out.c 8 rfl
            have x9 := Hx.out.c 9 rfl
            have x10 := Hx.out.c 10 rfl
            have x11 := Hx.out.c 11 rfl
            have x12 := Hx.out.c 12 rfl
            have x13 := Hx.out.c 13 rfl
            have ltx := Hx.out.lt
            go_wp2
            go_ret
            exact ⟨rfl, HB.out⟩
          | true =>
            cases g4 with
            | false =>
              rw [if_neg (by simp)]
              go_enter Tryz.func66, Tryz.ntmps66
              have HB := hide (Below.refl w.heap.size w)
              go_wp2_with fail
              refine at_world fun W hW => ?_
              have bq0 : Blk W w.heap.size 68 #[.int .i64 2, .int .i64 p1, .int .i64 p2, .int .i64 s1, .int .i64 s2, .int .i64 s3, .int .i64 s4, .int .i64 sp, .int .i64 r1, .int .i64 r2, .int .i64 m1, .int .i64 m2, .int .i64 t1, .int .i64 t2] := by rw [hW]; exact Blk.new _ _ _
              have LW : Later w W := by rw [hW]; exact ((Below.refl _ _).alloc (Nat.le_refl _) _)
              have szW : W.heap.size = w.heap.size + 1 := by rw [hW]; simp
              clear hW
              replace HB := hide (onward HB.out LW)
              have Hx := hide bq0
              clear bq0 LW szW
              refine (pinside_any _ _ _ _ _).mono ?_
              rintro e w1 ⟨rfl, hb⟩
              replace HB := hide (onward HB.out hb)
              replace Hx := hide (blk_later Hx.out hb)
              clear hb
              have x0 := Hx.out.c 0 rfl
              have x1 := Hx.out.c 1 rfl
              have x2 := Hx.out.c 2 rfl
              have x3 := Hx.out.c 3 rfl
              have x4 := Hx.out.c 4 rfl
              have x5 := Hx.out.c 5 rfl
              have x6 := Hx.out.c 6 rfl
              have x7 := Hx.out.c 7 rfl
              have x8 := Hx.out.c 8 rfl
              have x9 := Hx.out.c 9 rfl
              have x10 := Hx.out.c 10 rfl
              have x11 := Hx.out.c 11 rfl
              have x12 := Hx.out.c 12 rfl
              have x13 := Hx.out.c 13 rfl
              have ltx := Hx.out.lt
              rw [hg1]
              go_wp2_with fail
              refine (pinside_any _ _ _ _ _).mono ?_
              rintro e w2 ⟨rfl, hb⟩
              replace HB := hide (onward HB.out hb)
              replace Hx := hide (blk_later Hx.out hb)
              clear hb x0 x1 x2 x3 x4 x5 x6 x7 x8 x9 x10 x11 x12 x13 ltx
              rw [hg2]
              have x0 := Hx.out.c 0 rfl
              have x1 := Hx.out.c 1 rfl
              have x2 := Hx.out.c 2 rfl
              have x3 := Hx.out.c 3 rfl
              have x4 := Hx.out.c 4 rfl
              have x5 := Hx.out.c 5 rfl
              have x6 := Hx.out.c 6 rfl
              have x7 := Hx.out.c 7 rfl
              have x8 := Hx.out.c 8 rfl
              have x9 := Hx.out.c 9 rfl
              have x10 := Hx.out.c 10 rfl
              have x11 := Hx.out.c 11 rfl
              have x12 := Hx.out.c 12 rfl
              have x13 := Hx.out.c 13 rfl
              have ltx := Hx.out.lt
              go_wp2_with fail
              refine (pinside_any _ _ _ _ _).mono ?_
              rintro e w3 ⟨rfl, hb⟩
              replace HB := hide (onward HB.out hb)
              replace Hx := hide (blk_later Hx.out hb)
              clear hb x0 x1 x2 x3 x4 x5 x6 x7 x8 x9 x10 x11 x12 x13 ltx
              rw [hg3]
              have x0 := Hx.out.c 0 rfl
              have x1 := Hx.out.c 1 rfl
              have x2 := Hx.out.c 2 rfl
              have x3 := Hx.out.c 3 rfl
              have x4 := Hx.out.c 4 rfl
              have x5 := Hx.out.c 5 rfl
              have x6 := Hx.out.c 6 rfl
              have x7 := Hx.out.c 7 rfl
              have x8 := Hx.out.c 8 rfl
              have x9 := Hx.out.c 9 rfl
              have x10 := Hx.out.c 10 rfl
              have x11 := Hx.out.c 11 rfl
              have x12 := Hx.out.c 12 rfl
              have x13 := Hx.out.c 13 rfl
              have ltx := Hx.out.lt
              go_wp2_with fail
              refine (pwithin_any _ _ _ _).mono ?_
              rintro e w' ⟨rfl, rfl⟩
              rw [hg4]
              go_wp2
              go_ret
              exact ⟨rfl, HB.out⟩
            | true =>
              by_cases hq : mixedB ⟨2, p1, p2, s1, s2, s3, s4, sp, r1, r2, m1, m2, t1, t2⟩ = true
              · rw [if_pos (by rw [hq]; rfl)]
                have hq2 := hq
                simp only [mixedB, decide_eq_true_eq] at hq2
                obtain ⟨⟨rfl, rfl⟩, ⟨rfl, rfl⟩, rfl, rfl⟩ := hq2
                clear hq
                go_enter Tryz.func66, Tryz.ntmps66
                have HB := hide (Below.refl w.heap.size w)
                go_wp2_with fail
                refine at_world fun W hW => ?_
                have bq0 : Blk W w.heap.size 68 #[.int .i64 2, .int .i64 p1, .int .i64 p2, .int .i64 0, .int .i64 0, .int .i64 0, .int .i64 0, .int .i64 sp, .int .i64 r1, .int .i64 r2, .int .i64 m1, .int .i64 m2, .int .i64 0, .int .i64 0] := by rw [hW]; exact Blk.new _ _ _
                have LW : Later w W := by rw [hW]; exact ((Below.refl _ _).alloc (Nat.le_refl _) _)
                have szW : W.heap.size = w.heap.size + 1 := by rw [hW]; simp
                clear hW
                replace HB := hide (onward HB.out LW)
                have Hx := hide bq0
                clear bq0 LW szW
                refine (pinside_any _ _ _ _ _).mono ?_
                rintro e w1 ⟨rfl, hb⟩
                replace HB := hide (onward HB.out hb)
                replace Hx := hide (blk_later Hx.out hb)
                clear hb
                have x0 := Hx.out.c 0 rfl
                have x1 := Hx.out.c 1 rfl
                have x2 := Hx.out.c 2 rfl
                have x3 := Hx.out.c 3 rfl
                have x4 := Hx.out.c 4 rfl
                have x5 := Hx.out.c 5 rfl
                have x6 := Hx.out.c 6 rfl
                have x7 := Hx.out.c 7 rfl
                have x8 := Hx.out.c 8 rfl
                have x9 := Hx.out.c 9 rfl
                have x10 := Hx.out.c 10 rfl
                have x11 := Hx.out.c 11 rfl
                have x12 := Hx.out.c 12 rfl
                have x13 := Hx.out.c 13 rfl
                have ltx := Hx.out.lt
                rw [hg1]
                go_wp2_with fail
                refine (pinside_any _ _ _ _ _).mono ?_
                rintro e w2 ⟨rfl, hb⟩
                replace HB := hide (onward HB.out hb)
                replace Hx := hide (blk_later Hx.out hb)
                clear hb x0 x1 x2 x3 x4 x5 x6 x7 x8 x9 x10 x11 x12 x13 ltx
                rw [hg2]
                have x0 := Hx.out.c 0 rfl
                have x1 := Hx.out.c 1 rfl
                have x2 := Hx.out.c 2 rfl
                have x3 := Hx.out.c 3 rfl
                have x4 := Hx.out.c 4 rfl
                have x5 := Hx.out.c 5 rfl
                have x6 := Hx.out.c 6 rfl
                have x7 := Hx.out.c 7 rfl
                have x8 := Hx.out.c 8 rfl
                have x9 := Hx.out.c 9 rfl
                have x10 := Hx.out.c 10 rfl
                have x11 := Hx.out.c 11 rfl
                have x12 := Hx.out.c 12 rfl
                have x13 := Hx.out.c 13 rfl
                have ltx := Hx.out.lt
                go_wp2_with fail
                refine (pinside_any _ _ _ _ _).mono ?_
                rintro e w3 ⟨rfl, hb⟩
                replace HB := hide (onward HB.out hb)
                replace Hx := hide (blk_later Hx.out hb)
                clear hb x0 x1 x2 x3 x4 x5 x6 x7 x8 x9 x10 x11 x12 x13 ltx
                rw [hg3]
                have x0 := Hx.out.c 0 rfl
                have x1 := Hx.out.c 1 rfl
                have x2 := Hx.out.c 2 rfl
                have x3 := Hx.out.c 3 rfl
                have x4 := Hx.out.c 4 rfl
                have x5 := Hx.out.c 5 rfl
                have x6 := Hx.out.c 6 rfl
                have x7 := Hx.out.c 7 rfl
                have x8 := Hx.out.c 8 rfl
                have x9 := Hx.out.c 9 rfl
                have x10 := Hx.out.c 10 rfl
                have x11 := Hx.out.c 11 rfl
                have x12 := Hx.out.c 12 rfl
                have x13 := Hx.out.c 13 rfl
                have ltx := Hx.out.lt
                go_wp2_with fail
                refine (pwithin_any _ _ _ _).mono ?_
                rintro e w' ⟨rfl, rfl⟩
                rw [hg4]
                go_wp2
                go_ret
                exact ⟨rfl, HB.out⟩
              · rw [if_neg (by simpa using hq)]
                simp only [mixedB, decide_eq_true_eq] at hq
                have Hq := hide hq
                clear hq
                go_enter Tryz.func66, Tryz.ntmps66
                have HB := hide (Below.refl w.heap.size w)
                go_wp2_with fail
                refine at_world fun W hW => ?_
                have bq0 : Blk W w.heap.size 68 #[.int .i64 2, .int .i64 p1, .int .i64 p2, .int .i64 s1, .int .i64 s2, .int .i64 s3, .int .i64 s4, .int .i64 sp, .int .i64 r1, .int .i64 r2, .int .i64 m1, .int .i64 m2, .int .i64 t1, .int .i64 t2] := by rw [hW]; exact Blk.new _ _ _
                have LW : Later w W := by rw [hW]; exact ((Below.refl _ _).alloc (Nat.le_refl _) _)
                have szW : W.heap.size = w.heap.size + 1 := by rw [hW]; simp
                clear hW
                replace HB := hide (onward HB.out LW)
                have Hx := hide bq0
                clear bq0 LW szW
                refine (pinside_any _ _ _ _ _).mono ?_
                rintro e w1 ⟨rfl, hb⟩
                replace HB := hide (onward HB.out hb)
                replace Hx := hide (blk_later Hx.out hb)
                clear hb
                have x0 := Hx.out.c 0 rfl
                have x1 := Hx.out.c 1 rfl
                have x2 := Hx.out.c 2 rfl
                have x3 := Hx.out.c 3 rfl
                have x4 := Hx.out.c 4 rfl
                have x5 := Hx.out.c 5 rfl
                have x6 := Hx.out.c 6 rfl
                have x7 := Hx.out.c 7 rfl
                have x8 := Hx.out.c 8 rfl
                have x9 := Hx.out.c 9 rfl
                have x10 := Hx.out.c 10 rfl
                have x11 := Hx.out.c 11 rfl
                have x12 := Hx.out.c 12 rfl
                have x13 := Hx.out.c 13 rfl
                have ltx := Hx.out.lt
                rw [hg1]
                go_wp2_with fail
                refine (pinside_any _ _ _ _ _).mono ?_
                rintro e w2 ⟨rfl, hb⟩
                replace HB := hide (onward HB.out hb)
                replace Hx := hide (blk_later Hx.out hb)
                clear hb x0 x1 x2 x3 x4 x5 x6 x7 x8 x9 x10 x11 x12 x13 ltx
                rw [hg2]
                have x0 := Hx.out.c 0 rfl
                have x1 := Hx.out.c 1 rfl
                have x2 := Hx.out.c 2 rfl
                have x3 := Hx.out.c 3 rfl
                have x4 := Hx.out.c 4 rfl
                have x5 := Hx.out.c 5 rfl
                have x6 := Hx.out.c 6 rfl
                have x7 := Hx.out.c 7 rfl
                have x8 := Hx.out.c 8 rfl
                have x9 := Hx.out.c 9 rfl
                have x10 := Hx.out.c 10 rfl
                have x11 := Hx.out.c 11 rfl
                have x12 := Hx.out.c 12 rfl
                have x13 := Hx.out.c 13 rfl
                have ltx := Hx.out.lt
                go_wp2_with fail
                refine (pinside_any _ _ _ _ _).mono ?_
                rintro e w3 ⟨rfl, hb⟩
                replace HB := hide (onward HB.out hb)
                replace Hx := hide (blk_later Hx.out hb)
                clear hb x0 x1 x2 x3 x4 x5 x6 x7 x8 x9 x10 x11 x12 x13 ltx
                rw [hg3]
                have x0 := Hx.out.c 0 rfl
                have x1 := Hx.out.c 1 rfl
                have x2 := Hx.out.c 2 rfl
                have x3 := Hx.out.c 3 rfl
                have x4 := Hx.out.c 4 rfl
                have x5 := Hx.out.c 5 rfl
                have x6 := Hx.out.c 6 rfl
                have x7 := Hx.out.c 7 rfl
                have x8 := Hx.out.c 8 rfl
                have x9 := Hx.out.c 9 rfl
                have x10 := Hx.out.c 10 rfl
                have x11 := Hx.out.c 11 rfl
                have x12 := Hx.out.c 12 rfl
                have x13 := Hx.out.c 13 rfl
                have ltx := Hx.out.lt
                go_wp2_with fail
                refine (pwithin_any _ _ _ _).mono ?_
                rintro e w' ⟨rfl, rfl⟩
                rw [hg4]
                go_wp2
                all_goals first
                  | (go_ret; exact ⟨rfl, HB.out⟩)
                  | (exfalso; have hq9 := Hq.out; omega)
      · have hp1 : decide (1 ≤ p1) = false := decide_eq_false (by omega)
        rw [hp1, if_neg (by simp)]
        clear hp1
        have hp2 : decide (0 < p1) = false := decide_eq_false hp
        go_enter Tryz.func66, Tryz.ntmps66
        have HB := hide (Below.refl w.heap.size w)
        go_wp2_with fail
        refine at_world fun W hW => ?_
        have bq0 : Blk W w.heap.size 68 #[.int .i64 2, .int .i64 p1, .int .i64 p2, .int .i64 s1, .int .i64 s2, .int .i64 s3, .int .i64 s4, .int .i64 sp, .int .i64 r1, .int .i64 r2, .int .i64 m1, .int .i64 m2, .int .i64 t1, .int .i64 t2] := by rw [hW]; exact Blk.new _ _ _
        have LW : Later w W := by rw [hW]; exact ((Below.refl _ _).alloc (Nat.le_refl _) _)
        have szW : W.heap.size = w.heap.size + 1 := by rw [hW]; simp
        clear hW
        replace HB := hide (onward HB.out LW)
        have Hx := hide bq0
        clear bq0 LW szW
        refine (pinside_any _ _ _ _ _).mono ?_
        rintro e w1 ⟨rfl, hb⟩
        replace HB := hide (onward HB.out hb)
        replace Hx := hide (blk_later Hx.out hb)
        clear hb
        have x0 := Hx.out.c 0 rfl
        have x1 := Hx.out.c 1 rfl
        have x2 := Hx.out.c 2 rfl
        have x3 := Hx.out.c 3 rfl
        have x4 := Hx.out.c 4 rfl
        have x5 := Hx.out.c 5 rfl
        have x6 := Hx.out.c 6 rfl
        have x7 := Hx.out.c 7 rfl
        have x8 := Hx.out.c 8 rfl
        have x9 := Hx.out.c 9 rfl
        have x10 := Hx.out.c 10 rfl
        have x11 := Hx.out.c 11 rfl
        have x12 := Hx.out.c 12 rfl
        have x13 := Hx.out.c 13 rfl
        have ltx := Hx.out.lt
        rw [hg1]
        go_wp2
        go_ret
        exact ⟨rfl, HB.out⟩
  rw [if_neg hk2]
  by_cases hk3 : k = 3
  · subst hk3
    rw [if_pos rfl]
    have hmid : midE ⟨3, p1, p2, s1, s2, s3, s4, sp, r1, r2, m1, m2, t1, t2⟩ = (decide (1 ≤ p1) && g2 && g3 && g4) := by unfold midE; rw [hg2, hg3, hg4]
    rw [hmid]
    clear hmid
    cases g1 with
    | false =>
      rw [if_neg (by simp)]
      go_enter Tryz.func66, Tryz.ntmps66
      have HB := hide (Below.refl w.heap.size w)
      go_wp2_with fail
      refine at_world fun W hW => ?_
      have bq0 : Blk W w.heap.size 68 #[.int .i64 3, .int .i64 p1, .int .i64 p2, .int .i64 s1, .int .i64 s2, .int .i64 s3, .int .i64 s4, .int .i64 sp, .int .i64 r1, .int .i64 r2, .int .i64 m1, .int .i64 m2, .int .i64 t1, .int .i64 t2] := by rw [hW]; exact Blk.new _ _ _
      have LW : Later w W := by rw [hW]; exact ((Below.refl _ _).alloc (Nat.le_refl _) _)
      have szW : W.heap.size = w.heap.size + 1 := by rw [hW]; simp
      clear hW
      replace HB := hide (onward HB.out LW)
      have Hx := hide bq0
      clear bq0 LW szW
      refine (pinside_any _ _ _ _ _).mono ?_
      rintro e w1 ⟨rfl, hb⟩
      replace HB := hide (onward HB.out hb)
      replace Hx := hide (blk_later Hx.out hb)
      clear hb
      have x0 := Hx.out.c 0 rfl
      have x1 := Hx.out.c 1 rfl
      have x2 := Hx.out.c 2 rfl
      have x3 := Hx.out.c 3 rfl
      have x4 := Hx.out.c 4 rfl
      have x5 := Hx.out.c 5 rfl
      have x6 := Hx.out.c 6 rfl
      have x7 := Hx.out.c 7 rfl
      have x8 := Hx.out.c 8 rfl
      have x9 := Hx.out.c 9 rfl
      have x10 := Hx.out.c 10 rfl
      have x11 := Hx.out.c 11 rfl
      have x12 := Hx.out.c 12 rfl
      have x13 := Hx.out.c 13 rfl
      have ltx := Hx.out.lt
      rw [hg1]
      go_wp2
      go_ret
      exact ⟨rfl, HB.out⟩
    | true =>
      by_cases hp : 0 < p1
      · have hp1 : decide (1 ≤ p1) = true := decide_eq_true (by omega)
        rw [hp1]
        clear hp1
        have hp2 : decide (0 < p1) = true := decide_eq_true hp
        cases g2 with
        | false =>
          rw [if_neg (by simp)]
          go_enter Tryz.func66, Tryz.ntmps66
          have HB := hide (Below.refl w.heap.size w)
          go_wp2_with fail
          refine at_world fun W hW => ?_
          have bq0 : Blk W w.heap.size 68 #[.int .i64 3, .int .i64 p1, .int .i64 p2, .int .i64 s1, .int .i64 s2, .int .i64 s3, .int .i64 s4, .int .i64 sp, .int .i64 r1, .int .i64 r2, .int .i64 m1, .int .i64 m2, .int .i64 t1, .int .i64 t2] := by rw [hW]; exact Blk.new _ _ _
          have LW : Later w W := by rw [hW]; exact ((Below.refl _ _).alloc (Nat.le_refl _) _)
          have szW : W.heap.size = w.heap.size + 1 := by rw [hW]; simp
          clear hW
          replace HB := hide (onward HB.out LW)
          have Hx := hide bq0
          clear bq0 LW szW
          refine (pinside_any _ _ _ _ _).mono ?_
          rintro e w1 ⟨rfl, hb⟩
          replace HB := hide (onward HB.out hb)
          replace Hx := hide (blk_later Hx.out hb)
          clear hb
          have x0 := Hx.out.c 0 rfl
          have x1 := Hx.out.c 1 rfl
          have x2 := Hx.out.c 2 rfl
          have x3 := Hx.out.c 3 rfl
          have x4 := Hx.out.c 4 rfl
          have x5 := Hx.out.c 5 rfl
          have x6 := Hx.out.c 6 rfl
          have x7 := Hx.out.c 7 rfl
          have x8 := Hx.out.c 8 rfl
          have x9 := Hx.out.c 9 rfl
          have x10 := Hx.out.c 10 rfl
          have x11 := Hx.out.c 11 rfl
          have x12 := Hx.out.c 12 rfl
          have x13 := Hx.out.c 13 rfl
          have ltx := Hx.out.lt
          rw [hg1]
          go_wp2_with fail
          refine (pinside_any _ _ _ _ _).mono ?_
          rintro e w2 ⟨rfl, hb⟩
          replace HB := hide (onward HB.out hb)
          replace Hx := hide (blk_later Hx.out hb)
          clear hb x0 x1 x2 x3 x4 x5 x6 x7 x8 x9 x10 x11 x12 x13 ltx
          rw [hg2]
          have x0 := Hx.out.c 0 rfl
          have x1 := Hx.out.c 1 rfl
          have x2 := Hx.out.c 2 rfl
          have x3 := Hx.out.c 3 rfl
          have x4 := Hx.out.c 4 rfl
          have x5 := Hx.out.c 5 rfl
          have x6 := Hx.out.c 6 rfl
          have x7 := Hx.out.c 7 rfl
          have x8 := Hx.out.c 8 rfl
          have x9 := Hx.out.c 9 rfl
          have x10 := Hx.out.c 10 rfl
          have x11 := Hx.out.c 11 rfl
          have x12 := Hx.out.c 12 rfl
          have x13 := Hx.out.c 13 rfl
          have ltx := Hx.out.lt
          go_wp2
          go_ret
          exact ⟨rfl, HB.out⟩
        | true =>
          cases g3 with
          | false =>
            rw [if_neg (by simp)]
            go_enter Tryz.func66, Tryz.ntmps66
            have HB := hide (Below.refl w.heap.size w)
            go_wp2_with fail
            refine at_world fun W hW => ?_
            have bq0 : Blk W w.heap.size 68 #[.int .i64 3, .int .i64 p1, .int .i64 p2, .int .i64 s1, .int .i64 s2, .int .i64 s3, .int .i64 s4, .int .i64 sp, .int .i64 r1, .int .i64 r2, .int .i64 m1, .int .i64 m2, .int .i64 t1, .int .i64 t2] := by rw [hW]; exact Blk.new _ _ _
            have LW : Later w W := by rw [hW]; exact ((Below.refl _ _).alloc (Nat.le_refl _) _)
            have szW : W.heap.size = w.heap.size + 1 := by rw [hW]; simp
            clear hW
            replace HB := hide (onward HB.out LW)
            have Hx := hide bq0
            clear bq0 LW szW
            refine (pinside_any _ _ _ _ _).mono ?_
            rintro e w1 ⟨rfl, hb⟩
            replace HB := hide (onward HB.out hb)
            replace Hx := hide (blk_later Hx.out hb)
            clear hb
            have x0 := Hx.out.c 0 rfl
            have x1 := Hx.out.c 1 rfl
            have x2 := Hx.out.c 2 rfl
            have x3 := Hx.out.c 3 rfl
            have x4 := Hx.out.c 4 rfl
            have x5 := Hx.out.c 5 rfl
            have x6 := Hx.out.c 6 rfl
            have x7 := Hx.out.c 7 rfl
            have x8 := Hx.out.c 8 rfl
            have x9 := Hx.out.c 9 rfl
            have x10 := Hx.out.c 10 rfl
            have x11 := Hx.out.c 11 rfl
            have x12 := Hx.out.c 12 rfl
            have x13 := Hx.out.c 13 rfl
            have ltx := Hx.out.lt
            rw [hg1]
            go_wp2_with fail
            refine (pinside_any _ _ _ _ _).mono ?_
            rintro e w2 ⟨rfl, hb⟩
            replace HB := hide (onward HB.out hb)
            replace Hx := hide (blk_later Hx.out hb)
            clear hb x0 x1 x2 x3 x4 x5 x6 x7 x8 x9 x10 x11 x12 x13 ltx
            rw [hg2]
            have x0 := Hx.out.c 0 rfl
            have x1 := Hx.out.c 1 rfl
            have x2 := Hx.out.c 2 rfl
            have x3 := Hx.out.c 3 rfl
            have x4 := Hx.out.c 4 rfl
            have x5 := Hx.out.c 5 rfl
            have x6 := Hx.out.c 6 rfl
            have x7 := Hx.out.c 7 rfl
            have x8 := Hx.out.c 8 rfl
            have x9 := Hx.out.c 9 rfl
            have x10 := Hx.out.c 10 rfl
            have x11 := Hx.out.c 11 rfl
            have x12 := Hx.out.c 12 rfl
            have x13 := Hx.out.c 13 rfl
            have ltx := Hx.out.lt
            go_wp2_with fail
            refine (pinside_any _ _ _ _ _).mono ?_
            rintro e w3 ⟨rfl, hb⟩
            replace HB := hide (onward HB.out hb)
            replace Hx := hide (blk_later Hx.out hb)
            clear hb x0 x1 x2 x3 x4 x5 x6 x7 x8 x9 x10 x11 x12 x13 ltx
            rw [hg3]
            have x0 := Hx.out.c 0 rfl
            have x1 := Hx.out.c 1 rfl
            have x2 := Hx.out.c 2 rfl
            have x3 := Hx.out.c 3 rfl
            have x4 := Hx.out.c 4 rfl
            have x5 := Hx.out.c 5 rfl
            have x6 := Hx.out.c 6 rfl
            have x7 := Hx.out.c 7 rfl
            have x8 := Hx.out.c 8 rfl
            have x9 := Hx.out.c 9 rfl
            have x10 := Hx.out.c 10 rfl
            have x11 := Hx.out.c 11 rfl
            have x12 := Hx.out.c 12 rfl
            have x13 := Hx.out.c 13 rfl
            have ltx := Hx.out.lt
            go_wp2
            go_ret
            exact ⟨rfl, HB.out⟩
          | true =>
            cases g4 with
            | false =>
              rw [if_neg (by simp)]
              go_enter Tryz.func66, Tryz.ntmps66
              have HB := hide (Below.refl w.heap.size w)
              go_wp2_with fail
              refine at_world fun W hW => ?_
              have bq0 : Blk W w.heap.size 68 #[.int .i64 3, .int .i64 p1, .int .i64 p2, .int .i64 s1, .int .i64 s2, .int .i64 s3, .int .i64 s4, .int .i64 sp, .int .i64 r1, .int .i64 r2, .int .i64 m1, .int .i64 m2, .int .i64 t1, .int .i64 t2] := by rw [hW]; exact Blk.new _ _ _
              have LW : Later w W := by rw [hW]; exact ((Below.refl _ _).alloc (Nat.le_refl _) _)
              have szW : W.heap.size = w.heap.size + 1 := by rw [hW]; simp
              clear hW
              replace HB := hide (onward HB.out LW)
              have Hx := hide bq0
              clear bq0 LW szW
              refine (pinside_any _ _ _ _ _).mono ?_
              rintro e w1 ⟨rfl, hb⟩
              replace HB := hide (onward HB.out hb)
              replace Hx := hide (blk_later Hx.out hb)
              clear hb
              have x0 := Hx.out.c 0 rfl
              have x1 := Hx.out.c 1 rfl
              have x2 := Hx.out.c 2 rfl
              have x3 := Hx.out.c 3 rfl
              have x4 := Hx.out.c 4 rfl
              have x5 := Hx.out.c 5 rfl
              have x6 := Hx.out.c 6 rfl
              have x7 := Hx.out.c 7 rfl
              have x8 := Hx.out.c 8 rfl
              have x9 := Hx.out.c 9 rfl
              have x10 := Hx.out.c 10 rfl
              have x11 := Hx.out.c 11 rfl
              have x12 := Hx.out.c 12 rfl
              have x13 := Hx.out.c 13 rfl
              have ltx := Hx.out.lt
              rw [hg1]
              go_wp2_with fail
              refine (pinside_any _ _ _ _ _).mono ?_
              rintro e w2 ⟨rfl, hb⟩
              replace HB := hide (onward HB.out hb)
              replace Hx := hide (blk_later Hx.out hb)
              clear hb x0 x1 x2 x3 x4 x5 x6 x7 x8 x9 x10 x11 x12 x13 ltx
              rw [hg2]
              have x0 := Hx.out.c 0 rfl
              have x1 := Hx.out.c 1 rfl
              have x2 := Hx.out.c 2 rfl
              have x3 := Hx.out.c 3 rfl
              have x4 := Hx.out.c 4 rfl
              have x5 := Hx.out.c 5 rfl
              have x6 := Hx.out.c 6 rfl
              have x7 := Hx.out.c 7 rfl
              have x8 := Hx.out.c 8 rfl
              have x9 := Hx.out.c 9 rfl
              have x10 := Hx.out.c 10 rfl
              have x11 := Hx.out.c 11 rfl
              have x12 := Hx.out.c 12 rfl
              have x13 := Hx.out.c 13 rfl
              have ltx := Hx.out.lt
              go_wp2_with fail
              refine (pinside_any _ _ _ _ _).mono ?_
              rintro e w3 ⟨rfl, hb⟩
              replace HB := hide (onward HB.out hb)
              replace Hx := hide (blk_later Hx.out hb)
              clear hb x0 x1 x2 x3 x4 x5 x6 x7 x8 x9 x10 x11 x12 x13 ltx
              rw [hg3]
              have x0 := Hx.out.c 0 rfl
              have x1 := Hx.out.c 1 rfl
              have x2 := Hx.out.c 2 rfl
              have x3 := Hx.out.c 3 rfl
              have x4 := Hx.out.c 4 rfl
              have x5 := Hx.out.c 5 rfl
              have x6 := Hx.out.c 6 rfl
              have x7 := Hx.out.c 7 rfl
              have x8 := Hx.out.c 8 rfl
              have x9 := Hx.out.c 9 rfl
              have x10 := Hx.out.c 10 rfl
              have x11 := Hx.out.c 11 rfl
              have x12 := Hx.out.c 12 rfl
              have x13 := Hx.out.c 13 rfl
              have ltx := Hx.out.lt
              go_wp2_with fail
              refine (pwithin_any _ _ _ _).mono ?_
              rintro e w' ⟨rfl, rfl⟩
              rw [hg4]
              go_wp2
              go_ret
              exact ⟨rfl, HB.out⟩
            | true =>
              obtain ⟨tb, htb⟩ : ∃ b, (turnB s1 s2 && turnB s3 s4 && turnB t1 t2) = b := ⟨_, rfl⟩
              rw [htb]
              have Htb := hide htb
              clear htb
              cases tb with
              | true =>
                rw [show (if (true && (true && true && true && true) && true) = true then (0 : Int) else 3) = 0 from rfl]
                go_enter Tryz.func66, Tryz.ntmps66
                have HB := hide (Below.refl w.heap.size w)
                go_wp2_with fail
                refine at_world fun W hW => ?_
                have bq0 : Blk W w.heap.size 68 #[.int .i64 3, .int .i64 p1, .int .i64 p2, .int .i64 s1, .int .i64 s2, .int .i64 s3, .int .i64 s4, .int .i64 sp, .int .i64 r1, .int .i64 r2, .int .i64 m1, .int .i64 m2, .int .i64 t1, .int .i64 t2] := by rw [hW]; exact Blk.new _ _ _
                have LW : Later w W := by rw [hW]; exact ((Below.refl _ _).alloc (Nat.le_refl _) _)
                have szW : W.heap.size = w.heap.size + 1 := by rw [hW]; simp
                clear hW
                replace HB := hide (onward HB.out LW)
                have Hx := hide bq0
                clear bq0 LW szW
                refine (pinside_any _ _ _ _ _).mono ?_
                rintro e w1 ⟨rfl, hb⟩
                replace HB := hide (onward HB.out hb)
                replace Hx := hide (blk_later Hx.out hb)
                clear hb
                have x0 := Hx.out.c 0 rfl
                have x1 := Hx.out.c 1 rfl
                have x2 := Hx.out.c 2 rfl
                have x3 := Hx.out.c 3 rfl
                have x4 := Hx.out.c 4 rfl
                have x5 := Hx.out.c 5 rfl
                have x6 := Hx.out.c 6 rfl
                have x7 := Hx.out.c 7 rfl
                have x8 := Hx.out.c 8 rfl
                have x9 := Hx.out.c 9 rfl
                have x10 := Hx.out.c 10 rfl
                have x11 := Hx.out.c 11 rfl
                have x12 := Hx.out.c 12 rfl
                have x13 := Hx.out.c 13 rfl
                have ltx := Hx.out.lt
                rw [hg1]
                go_wp2_with fail
                refine (pinside_any _ _ _ _ _).mono ?_
                rintro e w2 ⟨rfl, hb⟩
                replace HB := hide (onward HB.out hb)
                replace Hx := hide (blk_later Hx.out hb)
                clear hb x0 x1 x2 x3 x4 x5 x6 x7 x8 x9 x10 x11 x12 x13 ltx
                rw [hg2]
                have x0 := Hx.out.c 0 rfl
                have x1 := Hx.out.c 1 rfl
                have x2 := Hx.out.c 2 rfl
                have x3 := Hx.out.c 3 rfl
                have x4 := Hx.out.c 4 rfl
                have x5 := Hx.out.c 5 rfl
                have x6 := Hx.out.c 6 rfl
                have x7 := Hx.out.c 7 rfl
                have x8 := Hx.out.c 8 rfl
                have x9 := Hx.out.c 9 rfl
                have x10 := Hx.out.c 10 rfl
                have x11 := Hx.out.c 11 rfl
                have x12 := Hx.out.c 12 rfl
                have x13 := Hx.out.c 13 rfl
                have ltx := Hx.out.lt
                go_wp2_with fail
                refine (pinside_any _ _ _ _ _).mono ?_
                rintro e w3 ⟨rfl, hb⟩
                replace HB := hide (onward HB.out hb)
                replace Hx := hide (blk_later Hx.out hb)
                clear hb x0 x1 x2 x3 x4 x5 x6 x7 x8 x9 x10 x11 x12 x13 ltx
                rw [hg3]
                have x0 := Hx.out.c 0 rfl
                have x1 := Hx.out.c 1 rfl
                have x2 := Hx.out.c 2 rfl
                have x3 := Hx.out.c 3 rfl
                have x4 := Hx.out.c 4 rfl
                have x5 := Hx.out.c 5 rfl
                have x6 := Hx.out.c 6 rfl
                have x7 := Hx.out.c 7 rfl
                have x8 := Hx.out.c 8 rfl
                have x9 := Hx.out.c 9 rfl
                have x10 := Hx.out.c 10 rfl
                have x11 := Hx.out.c 11 rfl
                have x12 := Hx.out.c 12 rfl
                have x13 := Hx.out.c 13 rfl
                have ltx := Hx.out.lt
                go_wp2_with fail
                refine (pwithin_any _ _ _ _).mono ?_
                rintro e w' ⟨rfl, rfl⟩
                rw [hg4]
                go_wp2_with fail
                refine at_world fun w5 hW => ?_
                have bq0 : Blk w5 w3.heap.size 24 #[.int .i64 s1, .int .i64 s2, .int .i64 s3, .int .i64 s4, .int .i64 t1, .int .i64 t2] := by rw [hW]; exact Blk.new _ _ _
                have LW : Later w3 w5 := by rw [hW]; exact ((Below.refl _ _).alloc (Nat.le_refl _) _)
                have szW : w5.heap.size = w3.heap.size + 1 := by rw [hW]; simp
                clear hW x0 x1 x2 x3 x4 x5 x6 x7 x8 x9 x10 x11 x12 x13 ltx
                replace HB := hide (onward HB.out LW)
                replace Hx := hide (blk_later Hx.out LW)
                have Hs := hide bq0
                clear bq0 LW szW
                refine (pturning_any _ _ _ _ _ _ _ _ Hs.out).mono ?_
                rintro e w6 ⟨rfl, hb⟩
                replace HB := hide (onward HB.out hb)
                replace Hx := hide (blk_later Hx.out hb)
                replace Hs := hide (blk_later Hs.out hb)
                clear hb
                rw [Htb.out]
                go_wp2
                go_ret
                exact ⟨rfl, HB.out⟩
              | false =>
                rw [if_neg (by simp)]
                go_enter Tryz.func66, Tryz.ntmps66
                have HB := hide (Below.refl w.heap.size w)
                go_wp2_with fail
                refine at_world fun W hW => ?_
                have bq0 : Blk W w.heap.size 68 #[.int .i64 3, .int .i64 p1, .int .i64 p2, .int .i64 s1, .int .i64 s2, .int .i64 s3, .int .i64 s4, .int .i64 sp, .int .i64 r1, .int .i64 r2, .int .i64 m1, .int .i64 m2, .int .i64 t1, .int .i64 t2] := by rw [hW]; exact Blk.new _ _ _
                have LW : Later w W := by rw [hW]; exact ((Below.refl _ _).alloc (Nat.le_refl _) _)
                have szW : W.heap.size = w.heap.size + 1 := by rw [hW]; simp
                clear hW
                replace HB := hide (onward HB.out LW)
                have Hx := hide bq0
                clear bq0 LW szW
                refine (pinside_any _ _ _ _ _).mono ?_
                rintro e w1 ⟨rfl, hb⟩
                replace HB := hide (onward HB.out hb)
                replace Hx := hide (blk_later Hx.out hb)
                clear hb
                have x0 := Hx.out.c 0 rfl
                have x1 := Hx.out.c 1 rfl
                have x2 := Hx.out.c 2 rfl
                have x3 := Hx.out.c 3 rfl
                have x4 := Hx.out.c 4 rfl
                have x5 := Hx.out.c 5 rfl
                have x6 := Hx.out.c 6 rfl
                have x7 := Hx.out.c 7 rfl
                have x8 := Hx.out.c 8 rfl
                have x9 := Hx.out.c 9 rfl
                have x10 := Hx.out.c 10 rfl
                have x11 := Hx.out.c 11 rfl
                have x12 := Hx.out.c 12 rfl
                have x13 := Hx.out.c 13 rfl
                have ltx := Hx.out.lt
                rw [hg1]
                go_wp2_with fail
                refine (pinside_any _ _ _ _ _).mono ?_
                rintro e w2 ⟨rfl, hb⟩
                replace HB := hide (onward HB.out hb)
                replace Hx := hide (blk_later Hx.out hb)
                clear hb x0 x1 x2 x3 x4 x5 x6 x7 x8 x9 x10 x11 x12 x13 ltx
                rw [hg2]
                have x0 := Hx.out.c 0 rfl
                have x1 := Hx.out.c 1 rfl
                have x2 := Hx.out.c 2 rfl
                have x3 := Hx.out.c 3 rfl
                have x4 := Hx.out.c 4 rfl
                have x5 := Hx.out.c 5 rfl
                have x6 := Hx.out.c 6 rfl
                have x7 := Hx.out.c 7 rfl
                have x8 := Hx.out.c 8 rfl
                have x9 := Hx.out.c 9 rfl
                have x10 := Hx.out.c 10 rfl
                have x11 := Hx.out.c 11 rfl
                have x12 := Hx.out.c 12 rfl
                have x13 := Hx.out.c 13 rfl
                have ltx := Hx.out.lt
                go_wp2_with fail
                refine (pinside_any _ _ _ _ _).mono ?_
                rintro e w3 ⟨rfl, hb⟩
                replace HB := hide (onward HB.out hb)
                replace Hx := hide (blk_later Hx.out hb)
                clear hb x0 x1 x2 x3 x4 x5 x6 x7 x8 x9 x10 x11 x12 x13 ltx
                rw [hg3]
                have x0 := Hx.out.c 0 rfl
                have x1 := Hx.out.c 1 rfl
                have x2 := Hx.out.c 2 rfl
                have x3 := Hx.out.c 3 rfl
                have x4 := Hx.out.c 4 rfl
                have x5 := Hx.out.c 5 rfl
                have x6 := Hx.out.c 6 rfl
                have x7 := Hx.out.c 7 rfl
                have x8 := Hx.out.c 8 rfl
                have x9 := Hx.out.c 9 rfl
                have x10 := Hx.out.c 10 rfl
                have x11 := Hx.out.c 11 rfl
                have x12 := Hx.out.c 12 rfl
                have x13 := Hx.out.c 13 rfl
                have ltx := Hx.out.lt
                go_wp2_with fail
                refine (pwithin_any _ _ _ _).mono ?_
                rintro e w' ⟨rfl, rfl⟩
                rw [hg4]
                go_wp2_with fail
                refine at_world fun w5 hW => ?_
                have bq0 : Blk w5 w3.heap.size 24 #[.int .i64 s1, .int .i64 s2, .int .i64 s3, .int .i64 s4, .int .i64 t1, .int .i64 t2] := by rw [hW]; exact Blk.new _ _ _
                have LW : Later w3 w5 := by rw [hW]; exact ((Below.refl _ _).alloc (Nat.le_refl _) _)
                have szW : w5.heap.size = w3.heap.size + 1 := by rw [hW]; simp
                clear hW x0 x1 x2 x3 x4 x5 x6 x7 x8 x9 x10 x11 x12 x13 ltx
                replace HB := hide (onward HB.out LW)
                replace Hx := hide (blk_later Hx.out LW)
                have Hs := hide bq0
                clear bq0 LW szW
                refine (pturning_any _ _ _ _ _ _ _ _ Hs.out).mono ?_
                rintro e w6 ⟨rfl, hb⟩
                replace HB := hide (onward HB.out hb)
                replace Hx := hide (blk_later Hx.out hb)
                replace Hs := hide (blk_later Hs.out hb)
                clear hb
                rw [Htb.out]
                go_wp2
                go_ret
                exact ⟨rfl, HB.out⟩
      · have hp1 : decide (1 ≤ p1) = false := decide_eq_false (by omega)
        rw [hp1, if_neg (by simp)]
        clear hp1
        have hp2 : decide (0 < p1) = false := decide_eq_false hp
        go_enter Tryz.func66, Tryz.ntmps66
        have HB := hide (Below.refl w.heap.size w)
        go_wp2_with fail
        refine at_world fun W hW => ?_
        have bq0 : Blk W w.heap.size 68 #[.int .i64 3, .int .i64 p1, .int .i64 p2, .int .i64 s1, .int .i64 s2, .int .i64 s3, .int .i64 s4, .int .i64 sp, .int .i64 r1, .int .i64 r2, .int .i64 m1, .int .i64 m2, .int .i64 t1, .int .i64 t2] := by rw [hW]; exact Blk.new _ _ _
        have LW : Later w W := by rw [hW]; exact ((Below.refl _ _).alloc (Nat.le_refl _) _)
        have szW : W.heap.size = w.heap.size + 1 := by rw [hW]; simp
        clear hW
        replace HB := hide (onward HB.out LW)
        have Hx := hide bq0
        clear bq0 LW szW
        refine (pinside_any _ _ _ _ _).mono ?_
        rintro e w1 ⟨rfl, hb⟩
        replace HB := hide (onward HB.out hb)
        replace Hx := hide (blk_later Hx.out hb)
        clear hb
        have x0 := Hx.out.c 0 rfl
        have x1 := Hx.out.c 1 rfl
        have x2 := Hx.out.c 2 rfl
        have x3 := Hx.out.c 3 rfl
        have x4 := Hx.out.c 4 rfl
        have x5 := Hx.out.c 5 rfl
        have x6 := Hx.out.c 6 rfl
        have x7 := Hx.out.c 7 rfl
        have x8 := Hx.out.c 8 rfl
        have x9 := Hx.out.c 9 rfl
        have x10 := Hx.out.c 10 rfl
        have x11 := Hx.out.c 11 rfl
        have x12 := Hx.out.c 12 rfl
        have x13 := Hx.out.c 13 rfl
        have ltx := Hx.out.lt
        rw [hg1]
        go_wp2
        go_ret
        exact ⟨rfl, HB.out⟩
  · rw [if_neg hk3]
    have hk1' : (k == 1) = false := beq_eq_false_iff_ne.2 hk1
    have hk2' : (k == 2) = false := beq_eq_false_iff_ne.2 hk2
    have hk3' : (k == 3) = false := beq_eq_false_iff_ne.2 hk3
    go_enter Tryz.func66, Tryz.ntmps66
    have HB := hide (Below.refl w.heap.size w)
    go_wp2_with fail
    refine at_world fun W hW => ?_
    have bq0 : Blk W w.heap.size 68 #[.int .i64 k, .int .i64 p1, .int .i64 p2, .int .i64 s1, .int .i64 s2, .int .i64 s3, .int .i64 s4, .int .i64 sp, .int .i64 r1, .int .i64 r2, .int .i64 m1, .int .i64 m2, .int .i64 t1, .int .i64 t2] := by rw [hW]; exact Blk.new _ _ _
    have LW : Later w W := by rw [hW]; exact ((Below.refl _ _).alloc (Nat.le_refl _) _)
    have szW : W.heap.size = w.heap.size + 1 := by rw [hW]; simp
    clear hW
    replace HB := hide (onward HB.out LW)
    have Hx := hide bq0
    clear bq0 LW szW
    refine (pinside_any _ _ _ _ _).mono ?_
    rintro e w1 ⟨rfl, hb⟩
    replace HB := hide (onward HB.out hb)
    replace Hx := hide (blk_later Hx.out hb)
    clear hb
    have x0 := Hx.out.c 0 rfl
    have x1 := Hx.out.c 1 rfl
    have x2 := Hx.out.c 2 rfl
    have x3 := Hx.out.c 3 rfl
    have x4 := Hx.out.c 4 rfl
    have x5 := Hx.out.c 5 rfl
    have x6 := Hx.out.c 6 rfl
    have x7 := Hx.out.c 7 rfl
    have x8 := Hx.out.c 8 rfl
    have x9 := Hx.out.c 9 rfl
    have x10 := Hx.out.c 10 rfl
    have x11 := Hx.out.c 11 rfl
    have x12 := Hx.out.c 12 rfl
    have x13 := Hx.out.c 13 rfl
    have ltx := Hx.out.lt
    rw [hg1]
    go_wp2
    go_ret
    exact ⟨rfl, HB.out⟩
end Go.Proofs.YtepgpihobmjbdaaGreat
