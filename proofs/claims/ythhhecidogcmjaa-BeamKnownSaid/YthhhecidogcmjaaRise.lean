/-
  Heights of gates: the program's inner contracts.
-/
import Derived.Test.YthhhecidogcmjaaRiseMath
import Derived.Test.YthhhecidogcmjaaRefDivs
import Derived.Test.YthhhecidogcmjaaChecks
import Derived.Test.YthhhecidogcmjaaFields
namespace Go.Proofs.Ythhhecidogcmjaa
open Go.RowKit

set_option maxHeartbeats 2000000 in
set_option maxRecDepth 100000 in
theorem riseDown_any (s : ByteArray) (x y z r g st wd t gate e : Int) (w : World) (h1 : -8 ≤ t) (h2 : t ≤ 264) (h3 : 0 ≤ gate) (h4 : gate ≤ 199) (h5 : 0 ≤ st) (h6 : st ≤ 2000) (z0 : 0 ≤ z) (z1 : z ≤ 20000) (e0 : 1000000 ≤ e) (e1 : e ≤ 100000000) :
    Calls Try.prog 73 #[siteV s x y z r g st wd, .int .i64 t, .int .i64 gate, .int .i64 e, .func (.func 66) #[] #[]] w fun e' w' => e' = .returned (.int .i64 (riseD z st gate t e)) ∧ Below w.heap.size w w' := by
  obtain ⟨a1, a2, a3, a4, a5, a6⟩ := reach_bd h1 h2 h3 h4 h5 h6
  obtain ⟨s1, s2⟩ := sine_bd h1 h2 a3 a4
  obtain ⟨b1, b2, -, -, -⟩ := r_bd h1 h2 h3 h4 h5 h6
  obtain ⟨c1, c2⟩ := sq_bd b1 b2
  obtain ⟨u1, u2, -, -⟩ := q_bd (b := 2 * (262144 + t * t)) (by omega) s1 s2 (by omega)
  obtain ⟨v1, v2, -, -⟩ := q_bd (a := rD st gate t * rD st gate t) (b := 2 * e) (C := 160000000000) (by omega) (by omega) c2 (by omega)
  have hs := fun W => slantOf_any t W h1 h2
  have hr := fun W => reachDown_any s x y z r g st wd t gate W h1 h2 h3 h4 h5 h6
  have hf1 := fun W => round_down ((2 * gate + 1) * st * (1024 * t)) (2 * (262144 + t * t)) W (by omega) (by omega) (by omega) (by omega)
  have hf2 := fun W => round_down (rD st gate t * rD st gate t) (2 * e) W (by omega) (by omega) (by omega) (by omega)
  have hQ : riseD z st gate t e = z + (sineN st gate t / reachD t) + (rD st gate t * rD st gate t / (2 * e)) := rfl
  have hr' : ∀ W, Calls Try.prog 65 #[siteV s x y z r g st wd, .int .i64 t, .int .i64 gate, .func (.func 66) #[] #[]] W fun e w' => e = .returned (.int .i64 (rD st gate t)) ∧ Below W.heap.size W w' := hr
  unfold sineN reachD at hQ
  unfold vecV slantV at hs
  unfold siteV at hr' ⊢
  simp only at hs hf1 hf2 u1 u2 v1 v2
  rw [hQ]
  clear hQ hr
  generalize rD st gate t = G at *
  generalize hP1 : ((2 * gate + 1) * st * (1024 * t) / (2 * (262144 + t * t))) = P1 at *
  generalize hP2 : (G * G / (2 * e)) = P2 at *
  have Hs := hide hs
  have Hr := hide hr'
  have Hf1 := hide hf1
  have Hf2 := hide hf2
  clear hs hr' hf1 hf2
  clear hP1 hP2 a5 a6
  go_enter Try.func73, Try.ntmps73
  have HB := hide (Below.refl w.heap.size w)
  go_wp2_with fail
  refine at_world fun W hW => ?_
  have bq0 : Blk W w.heap.size 33 #[.string s, .int .i64 x, .int .i64 y, .int .i64 z, .int .i64 r, .int .i64 g, .int .i64 st, .int .i64 wd] := by rw [hW]; exact Blk.new _ _ _
  have LW : Later w W := by rw [hW]; exact ((Below.refl _ _).alloc (Nat.le_refl _) _)
  have szW : W.heap.size = w.heap.size + 1 := by rw [hW]; simp
  clear hW
  replace HB := hide (onward HB.out LW)
  have Hq := hide bq0
  clear bq0 LW szW
  refine (Hs.out _).mono ?_
  rintro e w1 ⟨rfl, hb⟩
  replace HB := hide (onward HB.out hb)
  replace Hq := hide (blk_later Hq.out hb)
  clear hb
  obtain ⟨q0, q1, q2, q3, q4, q5, q6, q7⟩ := Hq.out.site8
  have lts := Hq.out.lt
  go_wp2_with fail
  refine at_world fun W1 hW => ?_
  have bq0 : Blk W1 w1.heap.size 82 #[.int .i64 (262144 - t * t), .int .i64 (1024 * t), .int .i64 (262144 + t * t)] := by rw [hW]; exact Blk.new _ _ _
  have LW : Later w1 W1 := by rw [hW]; exact ((Below.refl _ _).alloc (Nat.le_refl _) _)
  have szW : W1.heap.size = w1.heap.size + 1 := by rw [hW]; simp
  clear hW
  replace HB := hide (onward HB.out LW)
  replace Hq := hide (blk_later Hq.out LW)
  have Hx := hide bq0
  clear bq0 LW szW
  refine (Hr.out _).mono ?_
  rintro e w2 ⟨rfl, hb⟩
  replace HB := hide (onward HB.out hb)
  replace Hq := hide (blk_later Hq.out hb)
  replace Hx := hide (blk_later Hx.out hb)
  clear hb
  clear q0 q1 q2 q3 q4 q5 q6 q7 lts
  obtain ⟨q0, q1, q2, q3, q4, q5, q6, q7⟩ := Hq.out.site8
  have lts := Hq.out.lt
  obtain ⟨x0, x1, x2⟩ := Hx.out.c3
  have ltx := Hx.out.lt
  go_wp2_with fail
  apply wp_region_L (w0 := w2) [[], [], [], [], [], [], [], [], [], [], [], [], [], [], [], [], [], [], [], [], [], [], [], [], [], []] [true, true, true, true, true, true, true, true, true, true, true, true, true, true, true, true, true, true, true, true, true, true, true, true, true, true] [] (fun ixq y => match ixq with  | _ => undef) (fun ixq x F wq => match ixq with  | _ => True) (fun a x => a) (by kernel_rfl) (by kernel_rfl) (fun _ => rfl) [35, 43] (by kernel_rfl)
  · intro x D hD
    have hne := hD.some
    have k3 := liftB hD q3 (by first | assumption | omega)
    have k6 := liftB hD q6 (by first | assumption | omega)
    have l1 := liftB hD x1 (by first | assumption | omega)
    have l2 := liftB hD x2 (by first | assumption | omega)
    simp only [takeOps, Act.put, List.setIfInBounds_toArray, List.set_cons_succ, List.set_cons_zero]
    repeat (go_big_quiet_step ((go_at_call 66; first | (with_reducible exact calls_same _ (Hf1.out _)) | (with_reducible exact calls_same _ (Hf2.out _)))))
    exact wpQuiet_nil rfl
  · intro d hd x x'
    simp only [List.mem_cons, List.not_mem_nil, or_false] at hd
    rcases hd with rfl | rfl
    all_goals rfl
  · exact trivial
  · exact trivial
  intro xx w3 F hL hlv1
  clear hlv1
  replace HB := hide (onward HB.out hL)
  replace Hq := hide (blk_later Hq.out hL)
  replace Hx := hide (blk_later Hx.out hL)
  clear hL x0 x1 x2 ltx
  go_wp2
  go_ret
  exact ⟨rfl, HB.out⟩
set_option maxHeartbeats 2000000 in
set_option maxRecDepth 100000 in
theorem riseUp_any (s : ByteArray) (x y z r g st wd t gate e : Int) (w : World) (h1 : -8 ≤ t) (h2 : t ≤ 264) (h3 : 0 ≤ gate) (h4 : gate ≤ 199) (h5 : 0 ≤ st) (h6 : st ≤ 2000) (z0 : 0 ≤ z) (z1 : z ≤ 20000) (e0 : 1000000 ≤ e) (e1 : e ≤ 100000000) :
    Calls Try.prog 73 #[siteV s x y z r g st wd, .int .i64 t, .int .i64 gate, .int .i64 e, .func (.func 67) #[] #[]] w fun e' w' => e' = .returned (.int .i64 (riseU z st gate t e)) ∧ Below w.heap.size w w' := by
  obtain ⟨a1, a2, a3, a4, a5, a6⟩ := reach_bd h1 h2 h3 h4 h5 h6
  obtain ⟨s1, s2⟩ := sine_bd h1 h2 a3 a4
  obtain ⟨-, -, b1, b2, -⟩ := r_bd h1 h2 h3 h4 h5 h6
  obtain ⟨c1, c2⟩ := sq_bd b1 b2
  obtain ⟨-, -, u1, u2⟩ := q_bd (b := 2 * (262144 + t * t)) (by omega) s1 s2 (by omega)
  obtain ⟨-, -, v1, v2⟩ := q_bd (a := rU st gate t * rU st gate t) (b := 2 * e) (C := 160000000000) (by omega) (by omega) c2 (by omega)
  have hs := fun W => slantOf_any t W h1 h2
  have hr := fun W => reachUp_any s x y z r g st wd t gate W h1 h2 h3 h4 h5 h6
  have hf1 := fun W => round_up ((2 * gate + 1) * st * (1024 * t)) (2 * (262144 + t * t)) W (by omega) (by omega) (by omega) (by omega)
  have hf2 := fun W => round_up (rU st gate t * rU st gate t) (2 * e) W (by omega) (by omega) (by omega) (by omega)
  have hQ : riseU z st gate t e = z + (cdiv (sineN st gate t) (reachD t)) + (cdiv (rU st gate t * rU st gate t) (2 * e)) := rfl
  have hr' : ∀ W, Calls Try.prog 65 #[siteV s x y z r g st wd, .int .i64 t, .int .i64 gate, .func (.func 67) #[] #[]] W fun e w' => e = .returned (.int .i64 (rU st gate t)) ∧ Below W.heap.size W w' := hr
  unfold sineN reachD at hQ
  unfold vecV slantV at hs
  unfold siteV at hr' ⊢
  simp only at hs hf1 hf2 u1 u2 v1 v2
  rw [hQ]
  clear hQ hr
  generalize rU st gate t = G at *
  generalize hP1 : (cdiv ((2 * gate + 1) * st * (1024 * t)) (2 * (262144 + t * t))) = P1 at *
  generalize hP2 : (cdiv (G * G) (2 * e)) = P2 at *
  have Hs := hide hs
  have Hr := hide hr'
  have Hf1 := hide hf1
  have Hf2 := hide hf2
  clear hs hr' hf1 hf2
  clear hP1 hP2 a5 a6
  go_enter Try.func73, Try.ntmps73
  have HB := hide (Below.refl w.heap.size w)
  go_wp2_with fail
  refine at_world fun W hW => ?_
  have bq0 : Blk W w.heap.size 33 #[.string s, .int .i64 x, .int .i64 y, .int .i64 z, .int .i64 r, .int .i64 g, .int .i64 st, .int .i64 wd] := by rw [hW]; exact Blk.new _ _ _
  have LW : Later w W := by rw [hW]; exact ((Below.refl _ _).alloc (Nat.le_refl _) _)
  have szW : W.heap.size = w.heap.size + 1 := by rw [hW]; simp
  clear hW
  replace HB := hide (onward HB.out LW)
  have Hq := hide bq0
  clear bq0 LW szW
  refine (Hs.out _).mono ?_
  rintro e w1 ⟨rfl, hb⟩
  replace HB := hide (onward HB.out hb)
  replace Hq := hide (blk_later Hq.out hb)
  clear hb
  obtain ⟨q0, q1, q2, q3, q4, q5, q6, q7⟩ := Hq.out.site8
  have lts := Hq.out.lt
  go_wp2_with fail
  refine at_world fun W1 hW => ?_
  have bq0 : Blk W1 w1.heap.size 82 #[.int .i64 (262144 - t * t), .int .i64 (1024 * t), .int .i64 (262144 + t * t)] := by rw [hW]; exact Blk.new _ _ _
  have LW : Later w1 W1 := by rw [hW]; exact ((Below.refl _ _).alloc (Nat.le_refl _) _)
  have szW : W1.heap.size = w1.heap.size + 1 := by rw [hW]; simp
  clear hW
  replace HB := hide (onward HB.out LW)
  replace Hq := hide (blk_later Hq.out LW)
  have Hx := hide bq0
  clear bq0 LW szW
  refine (Hr.out _).mono ?_
  rintro e w2 ⟨rfl, hb⟩
  replace HB := hide (onward HB.out hb)
  replace Hq := hide (blk_later Hq.out hb)
  replace Hx := hide (blk_later Hx.out hb)
  clear hb
  clear q0 q1 q2 q3 q4 q5 q6 q7 lts
  obtain ⟨q0, q1, q2, q3, q4, q5, q6, q7⟩ := Hq.out.site8
  have lts := Hq.out.lt
  obtain ⟨x0, x1, x2⟩ := Hx.out.c3
  have ltx := Hx.out.lt
  go_wp2_with fail
  apply wp_region_L (w0 := w2) [[], [], [], [], [], [], [], [], [], [], [], [], [], [], [], [], [], [], [], [], [], [], [], [], [], []] [true, true, true, true, true, true, true, true, true, true, true, true, true, true, true, true, true, true, true, true, true, true, true, true, true, true] [] (fun ixq y => match ixq with  | _ => undef) (fun ixq x F wq => match ixq with  | _ => True) (fun a x => a) (by kernel_rfl) (by kernel_rfl) (fun _ => rfl) [35, 43] (by kernel_rfl)
  · intro x D hD
    have hne := hD.some
    have k3 := liftB hD q3 (by first | assumption | omega)
    have k6 := liftB hD q6 (by first | assumption | omega)
    have l1 := liftB hD x1 (by first | assumption | omega)
    have l2 := liftB hD x2 (by first | assumption | omega)
    simp only [takeOps, Act.put, List.setIfInBounds_toArray, List.set_cons_succ, List.set_cons_zero]
    repeat (go_big_quiet_step ((go_at_call 67; first | (with_reducible exact calls_same _ (Hf1.out _)) | (with_reducible exact calls_same _ (Hf2.out _)))))
    exact wpQuiet_nil rfl
  · intro d hd x x'
    simp only [List.mem_cons, List.not_mem_nil, or_false] at hd
    rcases hd with rfl | rfl
    all_goals rfl
  · exact trivial
  · exact trivial
  intro xx w3 F hL hlv2
  clear hlv2
  replace HB := hide (onward HB.out hL)
  replace Hq := hide (blk_later Hq.out hL)
  replace Hx := hide (blk_later Hx.out hL)
  clear hL x0 x1 x2 ltx
  go_wp2
  go_ret
  exact ⟨rfl, HB.out⟩
end Go.Proofs.Ythhhecidogcmjaa
