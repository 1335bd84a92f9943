/-
  The law BeamBounds returns true: the walk.
-/
import Derived.Test.YthhhecidogcmjaaBoundsMath
import Derived.Test.YthhhecidogcmjaaInnerB
import Derived.Test.YthhhecidogcmjaaBands
import Derived.Test.YthhhecidogcmjaaBeamLaw1
namespace Go.Proofs.Ythhhecidogcmjaa
open Go Go.RowKit

theorem bandR_inv {e t gate z g st wd elo ehi b1 b2 : Int} (h : bandR e t gate z g st wd elo ehi = ((b1, b2), 0)) : e = 0 ∧ winB t 0 256 = true ∧ okE elo ehi = true ∧ winB gate 0 (g - 1) = true ∧ b1 = riseD z st gate (t - wd) ehi ∧ b2 = riseU z st gate (t + wd) elo := by
  unfold bandR at h
  split at h
  · rename_i h1
    exact absurd (congrArg Prod.snd h) h1
  · rename_i h1
    split at h
    · rename_i h2
      simp only [Bool.and_eq_true] at h2
      have e1 := congrArg (fun p => p.1.1) h
      have e2 := congrArg (fun p => p.1.2) h
      exact ⟨Decidable.not_not.1 h1, h2.1.1, h2.1.2, h2.2, e1.symm, e2.symm⟩
    · have := congrArg Prod.snd h
      simp at this

set_option maxHeartbeats 4000000 in
set_option maxRecDepth 100000 in
theorem BeamBounds_any (s : ByteArray) (x y z r g st wd t elo ehi gate lo hi pt : Int) (w : World) (hs : s.size ≤ 9223372036854775807) (l0 : 0 ≤ lo) (l1 : lo ≤ 4294967295) (m0 : 0 ≤ hi) (m1 : hi ≤ 4294967295) (p0 : 0 ≤ pt) (p1 : pt ≤ 255) :
    Calls Try.prog 7 #[siteV s x y z r g st wd, .int .i64 t, .agg #[.int .i64 elo, .int .i64 ehi], .int .i64 gate, .int .u32 lo, .int .u32 hi, .int .u8 pt] w fun e w' => e = .returned (.bool true) ∧ Below w.heap.size w w' := by
  have c1 := fun W => Band_any s x y z r g st wd t elo ehi gate W hs
  have c2 := fun W e1 e2 => Band_any s x y z r g st wd t e1 e2 gate W hs
  have c3 := fun W tt e1 e2 => Height_any s x y z r g st wd tt e1 e2 gate W hs
  have hsite := fun h : siteE (nameB s) x y z r g st wd = 0 => siteE_ok h
  generalize siteE (nameB s) x y z r g st wd = se at *
  obtain ⟨⟨⟨b1, b2⟩, b3⟩, hb⟩ : ∃ q, bandR se t gate z g st wd elo ehi = q := ⟨_, rfl⟩
  rw [hb] at c1
  unfold spanE at c1 c2 c3
  unfold siteV at *
  simp only at c1
  have C1 := hide c1
  clear c1
  by_cases h1 : (40 : Int) < s.size
  · clear hb c2 c3 hsite
    go_enter Try.func7, Try.ntmps7
    have HB := hide (Below.refl w.heap.size w)
    go_wp2_with fail
    refine at_world fun W hW => ?_
    have bq0 : Blk W w.heap.size 33 #[.string s, .int .i64 x, .int .i64 y, .int .i64 z, .int .i64 r, .int .i64 g, .int .i64 st, .int .i64 wd] := by rw [hW]; exact (Blk.new _ _ _).alloc _
    have bq1 : Blk W (w.heap.size + 1) 47 #[.int .i64 elo, .int .i64 ehi] := by rw [hW]; exact blk_new_at (by simp)
    have LW : Later w W := by rw [hW]; exact (((Below.refl _ _).alloc (Nat.le_refl _) _).alloc (by simp; try omega) _)
    have szW : W.heap.size = w.heap.size + 2 := by rw [hW]; simp
    clear hW
    replace HB := hide (onward HB.out LW)
    have Hq := hide bq0
    have He := hide bq1
    clear bq0 bq1 LW szW
    refine (works_any _).mono ?_
    rintro e w9 ⟨rfl, hb⟩
    replace HB := hide (onward HB.out hb)
    replace Hq := hide (blk_later Hq.out hb)
    replace He := hide (blk_later He.out hb)
    clear hb
    go_wp2
    go_ret
    exact ⟨rfl, HB.out⟩
  by_cases h2 : b3 = 0
  · subst h2
    obtain ⟨rfl, g1, g2, g3, rfl, rfl⟩ := bandR_inv hb
    obtain ⟨-, s1, s2, s3, s4, s5, s6, s7, s8, s9, s10, s11, s12, s13, s14⟩ := hsite rfl
    obtain ⟨t1, t2⟩ := winB_iff.1 g1
    obtain ⟨t3, t4⟩ := winB_iff.1 g3
    obtain ⟨o1, o2, o3⟩ := okE_iff g2
    obtain ⟨e1, hq1⟩ : ∃ q, elo + lo % (ehi - elo + 1) = q := ⟨_, rfl⟩
    obtain ⟨e2, hq2⟩ : ∃ q, e1 + hi % (ehi - e1 + 1) = q := ⟨_, rfl⟩
    have hbd := inner_bd (a := elo) (b := ehi) (x := lo) (y := hi) o2 l0 m0
    have hin : ∀ W, Calls Try.prog 36 #[.agg #[.int .i64 elo, .int .i64 ehi], .int .u32 lo, .int .u32 hi] W fun e w' => e = .returned (.agg #[.int .i64 e1, .int .i64 e2]) ∧ Below W.heap.size W w' := fun W => by
      have := inner_any elo ehi lo hi W (by omega) o2 (by omega) l0 l1 m0 m1
      rw [hq1, hq2] at this
      exact this
    rw [hq1, hq2] at hbd
    obtain ⟨k1, k2, k3⟩ := hbd
    have g4 : okE e1 e2 = true := decide_eq_true ⟨by omega, by omega, by omega⟩
    obtain ⟨pr, hpr⟩ : ∃ pr, pt % (2 * wd + 1) = pr := ⟨_, rfl⟩
    have pr1 : 0 ≤ pr := by rw [← hpr]; exact Int.emod_nonneg _ (by omega)
    have pr2 : pr < 2 * wd + 1 := by rw [← hpr]; exact Int.emod_lt_of_pos _ (by omega)
    have wd0 : 2 * wd + 1 ≠ 0 := by omega
    have wd1 : 0 < 2 * wd + 1 := by omega
    have g5 : winB (t - wd + pr) (-8) 264 = true := winB_iff.2 ⟨by omega, by omega⟩
    have c2 : ∀ W, Calls Try.prog 34 #[.agg #[.string s, .int .i64 x, .int .i64 y, .int .i64 z, .int .i64 r, .int .i64 g, .int .i64 st, .int .i64 wd], .int .i64 t, .agg #[.int .i64 e1, .int .i64 e2], .int .i64 gate] W fun e w' => e = .returned (.tuple #[.agg #[.int .i64 (riseD z st gate (t - wd) e2), .int .i64 (riseU z st gate (t + wd) e1)], .int .i64 0]) ∧ Below W.heap.size W w' := fun W => by
      have := c2 W e1 e2
      rw [show bandR 0 t gate z g st wd e1 e2 = ((riseD z st gate (t - wd) e2, riseU z st gate (t + wd) e1), 0) by unfold bandR; rw [if_neg (by simp), if_pos (by rw [g1, g4, g3]; rfl)]] at this
      exact this
    have c4 : ∀ W, Calls Try.prog 32 #[.agg #[.string s, .int .i64 x, .int .i64 y, .int .i64 z, .int .i64 r, .int .i64 g, .int .i64 st, .int .i64 wd], .int .i64 (t - wd + pr), .agg #[.int .i64 elo, .int .i64 ehi], .int .i64 gate] W fun e w' => e = .returned (.tuple #[.agg #[.int .i64 (riseD z st gate (t - wd + pr) ehi), .int .i64 (riseU z st gate (t - wd + pr) elo)], .int .i64 0]) ∧ Below W.heap.size W w' := fun W => by
      have := c3 W (t - wd + pr) elo ehi
      rw [show heightR 0 (t - wd + pr) gate z g st elo ehi = ((riseD z st gate (t - wd + pr) ehi, riseU z st gate (t - wd + pr) elo), 0) by unfold heightR; rw [if_neg (by simp), if_pos (by rw [g5, g2, g3]; rfl)]] at this
      exact this
    have c5 : ∀ W, Calls Try.prog 32 #[.agg #[.string s, .int .i64 x, .int .i64 y, .int .i64 z, .int .i64 r, .int .i64 g, .int .i64 st, .int .i64 wd], .int .i64 (t - wd + pr), .agg #[.int .i64 e1, .int .i64 e2], .int .i64 gate] W fun e w' => e = .returned (.tuple #[.agg #[.int .i64 (riseD z st gate (t - wd + pr) e2), .int .i64 (riseU z st gate (t - wd + pr) e1)], .int .i64 0]) ∧ Below W.heap.size W w' := fun W => by
      have := c3 W (t - wd + pr) e1 e2
      rw [show heightR 0 (t - wd + pr) gate z g st e1 e2 = ((riseD z st gate (t - wd + pr) e2, riseU z st gate (t - wd + pr) e1), 0) by unfold heightR; rw [if_neg (by simp), if_pos (by rw [g5, g4, g3]; rfl)]] at this
      exact this
    have n1 := riseD_anti (z := z) (st := st) (gate := gate) (t := t - wd) (e := e2) (e' := ehi) (by omega) k3
    have n2 := riseU_anti (z := z) (st := st) (gate := gate) (t := t + wd) (e := elo) (e' := e1) (by omega) k1
    have n3 := riseD_anti (z := z) (st := st) (gate := gate) (t := t - wd + pr) (e := e2) (e' := ehi) (by omega) k3
    have n4 := riseU_anti (z := z) (st := st) (gate := gate) (t := t - wd + pr) (e := elo) (e' := e1) (by omega) k1
    have n5 := rise_meet (z := z) (st := st) (gate := gate) (a := t - wd) (b := t + wd) (e := e1) (e' := e2) (by omega) (by omega) (by omega) t3 (by omega) (by omega) s12 (by omega) k2
    have n6 := rise_meet (z := z) (st := st) (gate := gate) (a := t - wd + pr) (b := t - wd + pr) (e := e1) (e' := e2) (by omega) (by omega) (by omega) t3 (by omega) (by omega) s12 (by omega) k2
    have n7 := rise_meet (z := z) (st := st) (gate := gate) (a := t - wd + pr) (b := t + wd) (e := elo) (e' := ehi) (by omega) (by omega) (by omega) t3 (by omega) (by omega) s12 (by omega) o2
    have n8 := rise_meet (z := z) (st := st) (gate := gate) (a := t - wd) (b := t - wd + pr) (e := elo) (e' := ehi) (by omega) (by omega) (by omega) t3 (by omega) (by omega) s12 (by omega) o2
    clear hb c3 hsite hq1 hq2
    generalize riseD z st gate (t - wd) ehi = A1 at *
    generalize riseU z st gate (t + wd) elo = A2 at *
    generalize riseD z st gate (t - wd) e2 = B1 at *
    generalize riseU z st gate (t + wd) e1 = B2 at *
    generalize riseD z st gate (t - wd + pr) ehi = H1 at *
    generalize riseU z st gate (t - wd + pr) elo = H2 at *
    generalize riseD z st gate (t - wd + pr) e2 = K1 at *
    generalize riseU z st gate (t - wd + pr) e1 = K2 at *
    have lies1 : ∀ W, Calls Try.prog 37 #[.agg #[.int .i64 B1, .int .i64 B2], .agg #[.int .i64 A1, .int .i64 A2]] W fun e w' => e = .returned (.bool true) ∧ Below W.heap.size W w' := fun W => by
      have := lies_any B1 B2 A1 A2 W
      rwa [show decide (B1 ≤ B2 ∧ A1 ≤ B1 ∧ B2 ≤ A2) = true from decide_eq_true ⟨by omega, by omega, by omega⟩] at this
    have lies2 : ∀ W, Calls Try.prog 37 #[.agg #[.int .i64 K1, .int .i64 K2], .agg #[.int .i64 H1, .int .i64 H2]] W fun e w' => e = .returned (.bool true) ∧ Below W.heap.size W w' := fun W => by
      have := lies_any K1 K2 H1 H2 W
      rwa [show decide (K1 ≤ K2 ∧ H1 ≤ K1 ∧ K2 ≤ H2) = true from decide_eq_true ⟨by omega, by omega, by omega⟩] at this
    have Hin := hide hin
    have C2 := hide c2
    have C4 := hide c4
    have C5 := hide c5
    have Lies1 := hide lies1
    have Lies2 := hide lies2
    have Hpr := hide hpr
    clear hin c2 c4 c5 lies1 lies2 hpr
    clear g1 g2 g3 g4 g5
    have d1 : decide (ehi < elo) = false := decide_eq_false (by omega)
    have d2 : decide (wd < 0) = false := decide_eq_false (by omega)
    go_enter Try.func7, Try.ntmps7
    have HB := hide (Below.refl w.heap.size w)
    go_wp2_with fail
    refine at_world fun W hW => ?_
    have bq0 : Blk W w.heap.size 33 #[.string s, .int .i64 x, .int .i64 y, .int .i64 z, .int .i64 r, .int .i64 g, .int .i64 st, .int .i64 wd] := by rw [hW]; exact (Blk.new _ _ _).alloc _
    have bq1 : Blk W (w.heap.size + 1) 47 #[.int .i64 elo, .int .i64 ehi] := by rw [hW]; exact blk_new_at (by simp)
    have LW : Later w W := by rw [hW]; exact (((Below.refl _ _).alloc (Nat.le_refl _) _).alloc (by simp; try omega) _)
    have szW : W.heap.size = w.heap.size + 2 := by rw [hW]; simp
    clear hW
    replace HB := hide (onward HB.out LW)
    have Hq := hide bq0
    have He := hide bq1
    clear bq0 bq1 LW szW
    obtain ⟨q0, q1, q2, q3, q4, q5, q6, q7⟩ := Hq.out.site8
    have lts := Hq.out.lt
    obtain ⟨v0, v1⟩ := He.out.c2
    have ltv := He.out.lt
    refine (C1.out _).mono ?_
    rintro e w1 ⟨rfl, hb⟩
    replace HB := hide (onward HB.out hb)
    replace Hq := hide (blk_later Hq.out hb)
    replace He := hide (blk_later He.out hb)
    clear hb v0 v1 ltv
    clear q0 q1 q2 q3 q4 q5 q6 q7 lts
    obtain ⟨q0, q1, q2, q3, q4, q5, q6, q7⟩ := Hq.out.site8
    have lts := Hq.out.lt
    obtain ⟨v0, v1⟩ := He.out.c2
    have ltv := He.out.lt
    go_wp2_with fail
    clear q0 q1 q2 q3 q4 q5 q6 q7 lts
    refine at_world fun W1 hW => ?_
    have bq0 : Blk W1 w1.heap.size 47 #[.int .i64 A1, .int .i64 A2] := by rw [hW]; exact Blk.new _ _ _
    have LW : Later w1 W1 := by rw [hW]; exact ((Below.refl _ _).alloc (Nat.le_refl _) _)
    have szW : W1.heap.size = w1.heap.size + 1 := by rw [hW]; simp
    clear hW v0 v1 ltv
    replace HB := hide (onward HB.out LW)
    replace Hq := hide (blk_later Hq.out LW)
    replace He := hide (blk_later He.out LW)
    have Hb1 := hide bq0
    clear bq0 LW szW
    refine (Hin.out _).mono ?_
    rintro e w2 ⟨rfl, hb⟩
    replace HB := hide (onward HB.out hb)
    replace Hq := hide (blk_later Hq.out hb)
    replace He := hide (blk_later He.out hb)
    replace Hb1 := hide (blk_later Hb1.out hb)
    clear hb
    obtain ⟨q0, q1, q2, q3, q4, q5, q6, q7⟩ := Hq.out.site8
    have lts := Hq.out.lt
    obtain ⟨v0, v1⟩ := He.out.c2
    have ltv := He.out.lt
    go_wp2_with fail
    clear q0 q1 q2 q3 q4 q5 q6 q7 lts
    refine at_world fun W2 hW => ?_
    have bq0 : Blk W2 w2.heap.size 47 #[.int .i64 e1, .int .i64 e2] := by rw [hW]; exact Blk.new _ _ _
    have LW : Later w2 W2 := by rw [hW]; exact ((Below.refl _ _).alloc (Nat.le_refl _) _)
    have szW : W2.heap.size = w2.heap.size + 1 := by rw [hW]; simp
    clear hW v0 v1 ltv
    replace HB := hide (onward HB.out LW)
    replace Hq := hide (blk_later Hq.out LW)
    replace He := hide (blk_later He.out LW)
    replace Hb1 := hide (blk_later Hb1.out LW)
    have Hsm := hide bq0
    clear bq0 LW szW
    refine (C2.out _).mono ?_
    rintro e w3 ⟨rfl, hb⟩
    replace HB := hide (onward HB.out hb)
    replace Hq := hide (blk_later Hq.out hb)
    replace He := hide (blk_later He.out hb)
    replace Hb1 := hide (blk_later Hb1.out hb)
    replace Hsm := hide (blk_later Hsm.out hb)
    clear hb
    obtain ⟨q0, q1, q2, q3, q4, q5, q6, q7⟩ := Hq.out.site8
    have lts := Hq.out.lt
    obtain ⟨v0, v1⟩ := He.out.c2
    have ltv := He.out.lt
    go_wp2_with fail
    clear q0 q1 q2 q3 q4 q5 q6 q7 lts
    refine code_world fun W3 hW => ?_
    have bq0 : Blk W3 w3.heap.size 47 #[.int .i64 B1, .int .i64 B2] := by rw [hW]; exact Blk.new _ _ _
    have LW : Later w3 W3 := by rw [hW]; exact ((Below.refl _ _).alloc (Nat.le_refl _) _)
    have szW : W3.heap.size = w3.heap.size + 1 := by rw [hW]; simp
    clear hW v0 v1 ltv
    replace HB := hide (onward HB.out LW)
    replace Hq := hide (blk_later Hq.out LW)
    replace He := hide (blk_later He.out LW)
    replace Hb1 := hide (blk_later Hb1.out LW)
    replace Hsm := hide (blk_later Hsm.out LW)
    have Hb2 := hide bq0
    clear bq0 LW szW
    obtain ⟨q0, q1, q2, q3, q4, q5, q6, q7⟩ := Hq.out.site8
    have lts := Hq.out.lt
    obtain ⟨v0, v1⟩ := He.out.c2
    have ltv := He.out.lt
    have hpr := Hpr.out
    apply wp_region_L (w0 := W3) [[], [], [], [], [], [], [], [], [], [], [], [], []] [true, true, true, true, true, true, true, true, true, true, true, true, true] [] (fun ixq y => match ixq with  | _ => undef) (fun ixq x F wq => match ixq with  | _ => True) (fun a x => a) (by kernel_rfl) (by kernel_rfl) (fun _ => rfl) [] (by kernel_rfl)
    · intro x D hD
      have hne := hD.some
      have k7 := liftB hD q7 (by first | assumption | omega)
      simp only [takeOps, Act.put, List.setIfInBounds_toArray, List.set_cons_succ, List.set_cons_zero]
      repeat (go_big_quiet_step (fail))
      exact wpQuiet_nil rfl
    · exact fun _ h => absurd h (by simp)
    · exact trivial
    · exact trivial
    intro xx w4 F hL hlv1
    clear hlv1
    clear q0 q1 q2 q3 q4 q5 q6 q7 lts hpr
    replace HB := hide (onward HB.out hL)
    replace Hq := hide (blk_later Hq.out hL)
    replace He := hide (blk_later He.out hL)
    replace Hb1 := hide (blk_later Hb1.out hL)
    replace Hsm := hide (blk_later Hsm.out hL)
    replace Hb2 := hide (blk_later Hb2.out hL)
    clear hL v0 v1 ltv
    obtain ⟨q0, q1, q2, q3, q4, q5, q6, q7⟩ := Hq.out.site8
    have lts := Hq.out.lt
    obtain ⟨v0, v1⟩ := He.out.c2
    have ltv := He.out.lt
    go_wp2_with fail
    refine (C4.out _).mono ?_
    rintro e w5 ⟨rfl, hb⟩
    replace HB := hide (onward HB.out hb)
    replace Hq := hide (blk_later Hq.out hb)
    replace He := hide (blk_later He.out hb)
    replace Hb1 := hide (blk_later Hb1.out hb)
    replace Hsm := hide (blk_later Hsm.out hb)
    replace Hb2 := hide (blk_later Hb2.out hb)
    clear hb v0 v1 ltv
    clear q0 q1 q2 q3 q4 q5 q6 q7 lts
    obtain ⟨q0, q1, q2, q3, q4, q5, q6, q7⟩ := Hq.out.site8
    have lts := Hq.out.lt
    obtain ⟨v0, v1⟩ := He.out.c2
    have ltv := He.out.lt
    obtain ⟨a0, a1⟩ := Hsm.out.c2
    have lta := Hsm.out.lt
    go_wp2_with fail
    clear q0 q1 q2 q3 q4 q5 q6 q7 lts
    refine at_world fun W5 hW => ?_
    have bq0 : Blk W5 w5.heap.size 47 #[.int .i64 H1, .int .i64 H2] := by rw [hW]; exact Blk.new _ _ _
    have LW : Later w5 W5 := by rw [hW]; exact ((Below.refl _ _).alloc (Nat.le_refl _) _)
    have szW : W5.heap.size = w5.heap.size + 1 := by rw [hW]; simp
    clear hW v0 v1 ltv a0 a1 lta
    replace HB := hide (onward HB.out LW)
    replace Hq := hide (blk_later Hq.out LW)
    replace He := hide (blk_later He.out LW)
    replace Hb1 := hide (blk_later Hb1.out LW)
    replace Hsm := hide (blk_later Hsm.out LW)
    replace Hb2 := hide (blk_later Hb2.out LW)
    have Hh := hide bq0
    clear bq0 LW szW
    refine (C5.out _).mono ?_
    rintro e w6 ⟨rfl, hb⟩
    replace HB := hide (onward HB.out hb)
    replace Hq := hide (blk_later Hq.out hb)
    replace He := hide (blk_later He.out hb)
    replace Hb1 := hide (blk_later Hb1.out hb)
    replace Hsm := hide (blk_later Hsm.out hb)
    replace Hb2 := hide (blk_later Hb2.out hb)
    replace Hh := hide (blk_later Hh.out hb)
    clear hb
    obtain ⟨a0, a1⟩ := Hb1.out.c2
    have lta := Hb1.out.lt
    obtain ⟨b0, b1⟩ := Hb2.out.c2
    have ltb := Hb2.out.lt
    obtain ⟨c0, c1⟩ := Hh.out.c2
    have ltc := Hh.out.lt
    go_wp2_with fail
    refine at_world fun W6 hW => ?_
    have bq0 : Blk W6 w6.heap.size 47 #[.int .i64 K1, .int .i64 K2] := by rw [hW]; exact Blk.new _ _ _
    have LW : Later w6 W6 := by rw [hW]; exact ((Below.refl _ _).alloc (Nat.le_refl _) _)
    have szW : W6.heap.size = w6.heap.size + 1 := by rw [hW]; simp
    clear hW a0 a1 lta b0 b1 ltb c0 c1 ltc
    replace HB := hide (onward HB.out LW)
    replace Hq := hide (blk_later Hq.out LW)
    replace He := hide (blk_later He.out LW)
    replace Hb1 := hide (blk_later Hb1.out LW)
    replace Hsm := hide (blk_later Hsm.out LW)
    replace Hb2 := hide (blk_later Hb2.out LW)
    replace Hh := hide (blk_later Hh.out LW)
    have Hk := hide bq0
    clear bq0 LW szW
    refine (Lies1.out _).mono ?_
    rintro e w7 ⟨rfl, hb⟩
    replace HB := hide (onward HB.out hb)
    replace Hq := hide (blk_later Hq.out hb)
    replace He := hide (blk_later He.out hb)
    replace Hb1 := hide (blk_later Hb1.out hb)
    replace Hsm := hide (blk_later Hsm.out hb)
    replace Hb2 := hide (blk_later Hb2.out hb)
    replace Hh := hide (blk_later Hh.out hb)
    replace Hk := hide (blk_later Hk.out hb)
    clear hb
    obtain ⟨d0, d1⟩ := Hk.out.c2
    have ltd := Hk.out.lt
    obtain ⟨c0, c1⟩ := Hh.out.c2
    have ltc := Hh.out.lt
    go_wp2_with fail
    refine (Lies2.out _).mono ?_
    rintro e w8 ⟨rfl, hb⟩
    replace HB := hide (onward HB.out hb)
    replace Hq := hide (blk_later Hq.out hb)
    replace He := hide (blk_later He.out hb)
    replace Hb1 := hide (blk_later Hb1.out hb)
    replace Hsm := hide (blk_later Hsm.out hb)
    replace Hb2 := hide (blk_later Hb2.out hb)
    replace Hh := hide (blk_later Hh.out hb)
    replace Hk := hide (blk_later Hk.out hb)
    clear hb d0 d1 ltd c0 c1 ltc
    obtain ⟨a0, a1⟩ := Hb1.out.c2
    have lta := Hb1.out.lt
    obtain ⟨c0, c1⟩ := Hh.out.c2
    have ltc := Hh.out.lt
    go_wp2_with fail
    refine (works_any _).mono ?_
    rintro e w9 ⟨rfl, hb⟩
    replace HB := hide (onward HB.out hb)
    replace Hq := hide (blk_later Hq.out hb)
    replace He := hide (blk_later He.out hb)
    replace Hb1 := hide (blk_later Hb1.out hb)
    replace Hsm := hide (blk_later Hsm.out hb)
    replace Hb2 := hide (blk_later Hb2.out hb)
    replace Hh := hide (blk_later Hh.out hb)
    replace Hk := hide (blk_later Hk.out hb)
    clear hb a0 a1 lta c0 c1 ltc
    go_wp2
    go_ret
    exact ⟨rfl, HB.out⟩
  · clear hb c2 c3 hsite
    have h20 : (b3 != 0) = true := by simpa [bne] using h2
    go_enter Try.func7, Try.ntmps7
    have HB := hide (Below.refl w.heap.size w)
    go_wp2_with fail
    refine at_world fun W hW => ?_
    have bq0 : Blk W w.heap.size 33 #[.string s, .int .i64 x, .int .i64 y, .int .i64 z, .int .i64 r, .int .i64 g, .int .i64 st, .int .i64 wd] := by rw [hW]; exact (Blk.new _ _ _).alloc _
    have bq1 : Blk W (w.heap.size + 1) 47 #[.int .i64 elo, .int .i64 ehi] := by rw [hW]; exact blk_new_at (by simp)
    have LW : Later w W := by rw [hW]; exact (((Below.refl _ _).alloc (Nat.le_refl _) _).alloc (by simp; try omega) _)
    have szW : W.heap.size = w.heap.size + 2 := by rw [hW]; simp
    clear hW
    replace HB := hide (onward HB.out LW)
    have Hq := hide bq0
    have He := hide bq1
    clear bq0 bq1 LW szW
    refine (C1.out _).mono ?_
    rintro e w1 ⟨rfl, hb⟩
    replace HB := hide (onward HB.out hb)
    replace Hq := hide (blk_later Hq.out hb)
    replace He := hide (blk_later He.out hb)
    clear hb
    go_wp2_with fail
    refine at_world fun W1 hW => ?_
    have bq0 : Blk W1 w1.heap.size 47 #[.int .i64 b1, .int .i64 b2] := by rw [hW]; exact Blk.new _ _ _
    have LW : Later w1 W1 := by rw [hW]; exact ((Below.refl _ _).alloc (Nat.le_refl _) _)
    have szW : W1.heap.size = w1.heap.size + 1 := by rw [hW]; simp
    clear hW
    replace HB := hide (onward HB.out LW)
    replace Hq := hide (blk_later Hq.out LW)
    replace He := hide (blk_later He.out LW)
    have Hb1 := hide bq0
    clear bq0 LW szW
    refine (works_any _).mono ?_
    rintro e w9 ⟨rfl, hb⟩
    replace HB := hide (onward HB.out hb)
    replace Hq := hide (blk_later Hq.out hb)
    replace He := hide (blk_later He.out hb)
    replace Hb1 := hide (blk_later Hb1.out hb)
    clear hb
    go_wp2
    go_ret
    exact ⟨rfl, HB.out⟩
end Go.Proofs.Ythhhecidogcmjaa
