/-
  Heights of gates: the reference's inner contracts.
-/
import Derived.Test.YthhhecidogcmjaaRise2
namespace Go.Proofs.Ythhhecidogcmjaa
open Go.RowKit

set_option maxHeartbeats 2000000 in
set_option maxRecDepth 100000 in
theorem refground_any (s : ByteArray) (x y z r g st wd t gate : Int) (w : World) (h1 : -8 ≤ t) (h2 : t ≤ 264) (h3 : 0 ≤ gate) (h4 : gate ≤ 199) (h5 : 0 ≤ st) (h6 : st ≤ 2000) :
    Calls Try.prog 68 #[siteV s x y z r g st wd, .int .i64 t, .int .i64 gate] w fun e w' => e = .returned (.agg #[.int .i64 (rD st gate t), .int .i64 (rU st gate t)]) ∧ Below w.heap.size w w' := by
  obtain ⟨a1, a2, a3, a4, a5, a6⟩ := reach_bd h1 h2 h3 h4 h5 h6
  have hs := fun W => RefSlant_any t W
  have hd := fun W => Down_any ((2 * gate + 1) * st * (262144 - t * t)) (2 * (262144 + t * t)) W (by omega) (by omega) (by omega) (by omega)
  have hu := fun W => Up_any ((2 * gate + 1) * st * (262144 - t * t)) (2 * (262144 + t * t)) W (by omega) (by omega) (by omega) (by omega)
  have eD : rD st gate t = (2 * gate + 1) * st * (262144 - t * t) / (2 * (262144 + t * t)) := rfl
  have eU : rU st gate t = cdiv ((2 * gate + 1) * st * (262144 - t * t)) (2 * (262144 + t * t)) := rfl
  have hsl : slantR t = (⟨262144 - t * t, 1024 * t, 262144 + t * t⟩, 0) := by unfold slantR; rw [if_pos (winB_iff.2 ⟨h1, h2⟩)]; rfl
  rw [← eD] at hd
  rw [← eU] at hu
  rw [hsl] at hs
  unfold vecE at hs
  unfold siteV
  simp only at hs
  clear eD eU hsl
  generalize rD st gate t = a at *
  generalize rU st gate t = b at *
  have Hs := hide hs
  have Hd := hide hd
  have Hu := hide hu
  clear hs hd hu
  go_enter Try.func68, Try.ntmps68
  have HB := hide (Below.refl w.heap.size w)
  go_wp2_with fail
  refine at_world fun W hW => ?_
  have bq0 : Blk W w.heap.size 33 #[.string s, .int .i64 x, .int .i64 y, .int .i64 z, .int .i64 r, .int .i64 g, .int .i64 st, .int .i64 wd] := by rw [hW]; exact (Blk.new _ _ _).alloc _
  have bq1 : Blk W (w.heap.size + 1) 47 #[.int .i64 0, .int .i64 0] := by rw [hW]; exact blk_new_at (by simp)
  have LW : Later w W := by rw [hW]; exact (((Below.refl _ _).alloc (Nat.le_refl _) _).alloc (by simp; try omega) _)
  have szW : W.heap.size = w.heap.size + 2 := by rw [hW]; simp
  clear hW
  replace HB := hide (onward HB.out LW)
  have Hq := hide bq0
  have Ho := hide bq1
  clear bq0 bq1 LW szW
  refine (Hs.out _).mono ?_
  rintro e w' ⟨rfl, rfl⟩
  obtain ⟨q0, q1, q2, q3, q4, q5, q6, q7⟩ := Hq.out.site8
  have lts := Hq.out.lt
  obtain ⟨o0, o1⟩ := Ho.out.c2
  have lto := Ho.out.lt
  have fo0 := Ho.out.frozen 0
  have fo1 := Ho.out.frozen 1
  go_wp2_with (first | (go_at_call 78; refine (Hd.out _).mono ?_; rintro e w' ⟨rfl, rfl⟩) | (go_at_call 86; refine (Hu.out _).mono ?_; rintro e w' ⟨rfl, rfl⟩))
  refine bodyPost_ret (v := .agg #[.int .i64 a, .int .i64 b]) (by simp [results, Try.results68, go_sem, o0, o1, lto]) rfl ⟨rfl, ?_⟩
  repeat (first | exact HB.out | (refine Below.setCell ?_ (by first | omega | (simp; done) | (simp; omega)) _) | (refine Below.alloc ?_ (by first | omega | (simp; done) | (simp; omega)) _) | (refine below_drewN ?_ _))
set_option maxHeartbeats 4000000 in
set_option maxRecDepth 100000 in
theorem refheight_any (s : ByteArray) (x y z r g st wd t gate elo ehi : Int) (w : World) (h1 : -8 ≤ t) (h2 : t ≤ 264) (h3 : 0 ≤ gate) (h4 : gate ≤ 199) (h5 : 0 ≤ st) (h6 : st ≤ 2000) (z0 : 0 ≤ z) (z1 : z ≤ 20000) (he : okE elo ehi = true) :
    Calls Try.prog 72 #[siteV s x y z r g st wd, .int .i64 t, .agg #[.int .i64 elo, .int .i64 ehi], .int .i64 gate] w fun e w' => e = .returned (.agg #[.int .i64 (riseD z st gate t ehi), .int .i64 (riseU z st gate t elo)]) ∧ Below w.heap.size w w' := by
  obtain ⟨e1, e2, e3⟩ := okE_iff he
  obtain ⟨a1, a2, a3, a4, a5, a6⟩ := reach_bd h1 h2 h3 h4 h5 h6
  obtain ⟨s1, s2⟩ := sine_bd h1 h2 a3 a4
  obtain ⟨b1, b2, b3, b4, b5⟩ := r_bd h1 h2 h3 h4 h5 h6
  obtain ⟨c1, c2⟩ := sq_bd b1 b2
  obtain ⟨c3, c4⟩ := sq_bd b3 b4
  obtain ⟨u1, u2, u3, u4⟩ := q_bd (b := 2 * (262144 + t * t)) (by omega) s1 s2 (by omega)
  obtain ⟨v1, v2, -, -⟩ := q_bd (a := rD st gate t * rD st gate t) (b := 2 * ehi) (C := 160000000000) (by omega) (by omega) c2 (by omega)
  obtain ⟨-, -, v3, v4⟩ := q_bd (a := rU st gate t * rU st gate t) (b := 2 * elo) (C := 160000000000) (by omega) (by omega) c4 (by omega)
  have hs := fun W => RefSlant_any t W
  have hg := fun W => refground_any s x y z r g st wd t gate W h1 h2 h3 h4 h5 h6
  have d1 := fun W => Down_any ((2 * gate + 1) * st * (1024 * t)) (2 * (262144 + t * t)) W (by omega) (by omega) (by omega) (by omega)
  have d2 := fun W => Down_any (rD st gate t * rD st gate t) (2 * ehi) W (by omega) (by omega) (by omega) (by omega)
  have d3 := fun W => Up_any ((2 * gate + 1) * st * (1024 * t)) (2 * (262144 + t * t)) W (by omega) (by omega) (by omega) (by omega)
  have d4 := fun W => Up_any (rU st gate t * rU st gate t) (2 * elo) W (by omega) (by omega) (by omega) (by omega)
  have eD : riseD z st gate t ehi = z + (2 * gate + 1) * st * (1024 * t) / (2 * (262144 + t * t)) + rD st gate t * rD st gate t / (2 * ehi) := rfl
  have eU : riseU z st gate t elo = z + cdiv ((2 * gate + 1) * st * (1024 * t)) (2 * (262144 + t * t)) + cdiv (rU st gate t * rU st gate t) (2 * elo) := rfl
  have hsl : slantR t = (⟨262144 - t * t, 1024 * t, 262144 + t * t⟩, 0) := by unfold slantR; rw [if_pos (winB_iff.2 ⟨h1, h2⟩)]; rfl
  rw [hsl] at hs
  unfold vecE at hs
  unfold siteV at *
  simp only at hs
  rw [eD, eU]
  clear eD eU hsl he
  generalize rD st gate t = G1 at *
  generalize rU st gate t = G2 at *
  generalize hP1 : (2 * gate + 1) * st * (1024 * t) / (2 * (262144 + t * t)) = P1 at *
  generalize hP2 : cdiv ((2 * gate + 1) * st * (1024 * t)) (2 * (262144 + t * t)) = P2 at *
  generalize hP3 : G1 * G1 / (2 * ehi) = P3 at *
  generalize hP4 : cdiv (G2 * G2) (2 * elo) = P4 at *
  clear hP1 hP2 hP3 hP4
  have Hs := hide hs
  have Hg := hide hg
  have D1 := hide d1
  have D2 := hide d2
  have D3 := hide d3
  have D4 := hide d4
  clear hs hg d1 d2 d3 d4
  go_enter Try.func72, Try.ntmps72
  have HB := hide (Below.refl w.heap.size w)
  go_wp2_with fail
  refine at_world fun W hW => ?_
  have bq0 : Blk W w.heap.size 33 #[.string s, .int .i64 x, .int .i64 y, .int .i64 z, .int .i64 r, .int .i64 g, .int .i64 st, .int .i64 wd] := by rw [hW]; exact ((Blk.new _ _ _).alloc _).alloc _
  have bq1 : Blk W (w.heap.size + 1) 47 #[.int .i64 elo, .int .i64 ehi] := by rw [hW]; exact (blk_new_at (by simp)).alloc _
  have bq2 : Blk W (w.heap.size + 2) 47 #[.int .i64 0, .int .i64 0] := by rw [hW]; exact blk_new_at (by simp)
  have LW : Later w W := by rw [hW]; exact ((((Below.refl _ _).alloc (Nat.le_refl _) _).alloc (by simp; try omega) _).alloc (by simp; try omega) _)
  have szW : W.heap.size = w.heap.size + 3 := by rw [hW]; simp
  clear hW
  replace HB := hide (onward HB.out LW)
  have Hq := hide bq0
  have He := hide bq1
  have Ho := hide bq2
  clear bq0 bq1 bq2 LW szW
  refine (Hs.out _).mono ?_
  rintro e w' ⟨rfl, rfl⟩
  obtain ⟨q0, q1, q2, q3, q4, q5, q6, q7⟩ := Hq.out.site8
  have lts := Hq.out.lt
  go_wp2_with fail
  refine (Hg.out _).mono ?_
  rintro e w1 ⟨rfl, hb⟩
  replace HB := hide (onward HB.out hb)
  replace Hq := hide (blk_later Hq.out hb)
  replace He := hide (blk_later He.out hb)
  replace Ho := hide (blk_later Ho.out hb)
  clear hb
  clear q0 q1 q2 q3 q4 q5 q6 q7 lts
  obtain ⟨q0, q1, q2, q3, q4, q5, q6, q7⟩ := Hq.out.site8
  have lts := Hq.out.lt
  go_wp2_with fail
  refine code_world fun W2 hW => ?_
  have bq0 : Blk W2 w1.heap.size 47 #[.int .i64 G1, .int .i64 G2] := by rw [hW]; exact Blk.new _ _ _
  have LW : Later w1 W2 := by rw [hW]; exact ((Below.refl _ _).alloc (Nat.le_refl _) _)
  have szW : W2.heap.size = w1.heap.size + 1 := by rw [hW]; simp
  clear hW
  replace HB := hide (onward HB.out LW)
  replace Hq := hide (blk_later Hq.out LW)
  replace He := hide (blk_later He.out LW)
  replace Ho := hide (blk_later Ho.out LW)
  have Hr := hide bq0
  clear bq0 LW szW
  clear q0 q1 q2 q3 q4 q5 q6 q7 lts
  obtain ⟨q0, q1, q2, q3, q4, q5, q6, q7⟩ := Hq.out.site8
  have lts := Hq.out.lt
  obtain ⟨v0, v1⟩ := He.out.c2
  have ltv := He.out.lt
  obtain ⟨k0, k1⟩ := Hr.out.c2
  have ltk := Hr.out.lt
  have lto := Ho.out.lt
  apply wp_region_F (w0 := W2) [[], [0], [], [], [3], [2, 3, 4], [0, 1, 2, 3, 4, 5], [], [7], [], [9], [7, 8, 9, 10], [], [12], [12, 13], [2, 3, 4, 5, 7, 8, 9, 10, 11, 12, 13, 14], [0, 1, 2, 3, 4, 5, 6, 7, 8, 9, 10, 11, 12, 13, 14, 15], [], [17], [], [], [20], [2, 3, 4, 5, 7, 8, 9, 10, 11, 12, 13, 14, 15, 19, 20, 21], [2, 3, 4, 5, 7, 8, 9, 10, 11, 12, 13, 14, 15, 17, 18, 19, 20, 21, 22], [], [24], [], [26], [24, 25, 26, 27], [], [29], [29, 30], [2, 3, 4, 5, 7, 8, 9, 10, 11, 12, 13, 14, 15, 19, 20, 21, 22, 24, 25, 26, 27, 28, 29, 30, 31], [2, 3, 4, 5, 7, 8, 9, 10, 11, 12, 13, 14, 15, 17, 18, 19, 20, 21, 22, 23, 24, 25, 26, 27, 28, 29, 30, 31, 32], [0, 1, 2, 3, 4, 5, 6, 7, 8, 9, 10, 11, 12, 13, 14, 15, 16, 17, 18, 19, 20, 21, 22, 23, 24, 25, 26, 27, 28, 29, 30, 31, 32, 33], [0, 1, 2, 3, 4, 5, 6, 7, 8, 9, 10, 11, 12, 13, 14, 15, 16, 17, 18, 19, 20, 21, 22, 23, 24, 25, 26, 27, 28, 29, 30, 31, 32, 33, 34]] [true, true, true, true, true, true, true, true, true, true, true, true, true, true, true, true, true, true, true, true, true, true, true, true, true, true, true, true, true, true, true, true, true, true, true, false] [false, false, false, false, false, false, false, false, false, false, false, false, false, false, false, false, false, false, false, false, false, false, false, false, false, false, false, false, false, false, false, false, false, false, false, false] [⟨35, none, [], []⟩] [(35, (w.heap.size+2))] [35] (fun ixq y => match ixq with | 35 => undef | _ => undef) (fun ixq x F wq => match ixq with | 35 => F (w.heap.size+2) ∧ Blk wq (w.heap.size+2) 47 #[.int .i64 (z + P1 + P3), .int .i64 (z + P2 + P4)] | _ => True) (fun a x => (a).put (none) (undef)) (by kernel_rfl) (by kernel_rfl) (by kernel_rfl) (fun _ => rfl) [39, 49, 56, 66] (by kernel_rfl) (fills_lt1 (by omega)) fills_ne1
  · intro x D hD
    have hne := hD.some
    have m3 := liftS hD q3 (by exact early_all (by first | assumption | omega) (by rfl))
    have l0 := liftS hD v0 (by exact early_all (by first | assumption | omega) (by rfl))
    have l1 := liftS hD v1 (by exact early_all (by first | assumption | omega) (by rfl))
    have j0 := liftS hD k0 (by exact early_all (by first | assumption | omega) (by rfl))
    have j1 := liftS hD k1 (by exact early_all (by first | assumption | omega) (by rfl))
    simp only [takeOps, Act.put, List.setIfInBounds_toArray, List.set_cons_succ, List.set_cons_zero]
    repeat (go_big_quiet_step ((first | (go_at_call 78; first | (with_reducible exact calls_same _ (D1.out _)) | (with_reducible exact calls_same _ (D2.out _))) | (go_at_call 86; first | (with_reducible exact calls_same _ (D3.out _)) | (with_reducible exact calls_same _ (D4.out _))))))
    exact wpQuiet_nil rfl
  · exact fun x D hD => wpQuiet_nil rfl
  · intro d hd x x'
    simp only [List.mem_cons, List.not_mem_nil, or_false] at hd
    rcases hd with rfl | rfl | rfl | rfl
    all_goals rfl
  · refine ⟨?_, trivial⟩
    · exact obl_fill 47 47 8 68 (w.heap.size+2) _ (fun x => #[.int .i64 (z + P1 + P3), .int .i64 (z + P2 + P4)]) (by kernel_rfl) (fun _ => rfl) (fun _ => rfl) Ho.out eb_fill1 (by simp [wrF]) (fun _ => by kernel_rfl) (fun _ => rfl) (fun _ => by simp [Value.oneCell']) (fun _ => rfl) (fun _ _ _ _ h1 h2 => ⟨h1, h2⟩)
  · refine ⟨?_, trivial⟩
    · exact owe_fill (w.heap.size+2) 47 (fun x => #[.int .i64 (z + P1 + P3), .int .i64 (z + P2 + P4)]) (fun _ _ _ => rfl) (fun _ _ _ => rfl)
  intro xx w3 F hK hlv1
  obtain ⟨fct35, -⟩ := hlv1
  replace fct35 : (F 35) (w.heap.size+2) ∧ Blk w3 (w.heap.size+2) 47 #[.int .i64 (z + P1 + P3), .int .i64 (z + P2 + P4)] := fct35 rfl
  clear q0 q1 q2 q3 q4 q5 q6 q7 lts lto
  clear Hq He Hr
  have hgr := grown_kept hK
  replace HB := hide (below_grown HB.out hgr HB.out.size (fun q hq => by simp at hq; omega))
  replace Ho := hide fct35.2
  clear hgr hK fct35 v0 v1 ltv k0 k1 ltk
  obtain ⟨o0, o1⟩ := Ho.out.c2
  have lto := Ho.out.lt
  go_wp2
  refine bodyPost_ret (v := .agg #[.int .i64 (z + P1 + P3), .int .i64 (z + P2 + P4)]) (by simp [results, Try.results72, go_sem, o0, o1]) rfl ⟨rfl, HB.out⟩
end Go.Proofs.Ythhhecidogcmjaa
