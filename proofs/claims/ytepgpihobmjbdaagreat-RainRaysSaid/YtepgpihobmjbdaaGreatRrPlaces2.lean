/-
  Heights of gates: the reference's inner contracts.
  Ground ranges, heights and bands: the program's contracts, the reference's.
  Gates, and places found: the program's contracts.
  Places found, pixels: the program's contracts.
  The law's works(), and the law BeamDirections.
  Places found: the program's exported Find.
  Quarter turns of places found; the law's own small functions.
  Pixels and places: the program's contracts.
  Pixels and places: the exported contracts.
-/
import Derived.Test.YtepgpihobmjbdaaGreatRrRise2
import Derived.Test.YtepgpihobmjbdaaGreatNameMath
set_option linter.unusedSimpArgs false
set_option linter.unusedVariables false
namespace Go.Proofs.YtepgpihobmjbdaaGreat
open Go.RowKit

set_option maxHeartbeats 2000000 in
set_option maxRecDepth 100000 in
theorem refground_any (s : ByteArray) (x y z r g st wd t gate : Int) (w : World) (h1 : -8 ≤ t) (h2 : t ≤ 264) (h3 : 0 ≤ gate) (h4 : gate ≤ 199) (h5 : 0 ≤ st) (h6 : st ≤ 2000) :
    Calls Tryz.prog 82 #[siteV s x y z r g st wd, .int .i64 t, .int .i64 gate] w fun e w' => e = .returned (.agg #[.int .i64 (rD st gate t), .int .i64 (rU st gate t)]) ∧ Below w.heap.size w w' := by
  obtain ⟨a1, a2, a3, a4, a5, a6⟩ := reach_bd h1 h2 h3 h4 h5 h6
  have hs := fun W => RefSlant_any t W
  have hd := fun W => Down_any ((2 * gate + 1) * st * (262144 - t * t)) (2 * (262144 + t * t)) W (by omega) (by omega) (by omega) (by omega)
  have hu := fun W => Up_any ((2 * gate + 1) * st * (262144 - t * t)) (2 * (262144 + t * t)) W (by omega) (by omega) (by omega) (by omega)
  have eD : rD st gate t = (2 * gate + 1) * st * (262144 - t * t) / (2 * (262144 + t * t)) := rfl
  have eU : rU st gate t = cdiv ((2 * gate + 1) * st * (262144 - t * t)) (2 * (262144 + t * t)) := rfl
  have hsl : slantR t = (⟨262144 - t * t, 1024 * t, 262144 + t * t⟩, 0) := by unfold slantR; rw [if_pos (winB_iff.2 ⟨h1, h2⟩)]; rfl
  rw [← eD] at hd
  rw [← eU] at hu
  rw [hsl] at hs
  unfold vecE at hs
  unfold siteV
  simp only at hs
  clear eD eU hsl
  generalize rD st gate t = a at *
  generalize rU st gate t = b at *
  have Hs := hide hs
  have Hd := hide hd
  have Hu := hide hu
  clear hs hd hu
  go_enter Tryz.func82, Tryz.ntmps82
  have HB := hide (Below.refl w.heap.size w)
  go_wp2_with fail
  refine at_world fun W hW => ?_
  have bq0 : Blk W w.heap.size 28 #[.string s, .int .i64 x, .int .i64 y, .int .i64 z, .int .i64 r, .int .i64 g, .int .i64 st, .int .i64 wd] := by rw [hW]; exact (Blk.new _ _ _).alloc _
  have bq1 : Blk W (w.heap.size + 1) 24 #[.int .i64 0, .int .i64 0] := by rw [hW]; exact blk_new_at (by simp)
  have LW : Later w W := by rw [hW]; exact (((Below.refl _ _).alloc (Nat.le_refl _) _).alloc (by simp; try omega) _)
  have szW : W.heap.size = w.heap.size + 2 := by rw [hW]; simp
  clear hW
  replace HB := hide (onward HB.out LW)
  have Hq := hide bq0
  have Ho := hide bq1
  clear bq0 bq1 LW szW
  refine (Hs.out _).mono ?_
  rintro e w' ⟨rfl, rfl⟩
  obtain ⟨q0, q1, q2, q3, q4, q5, q6, q7⟩ := Hq.out.site8
  have lts := Hq.out.lt
  obtain ⟨o0, o1⟩ := Ho.out.c2
  have lto := Ho.out.lt
  have fo0 := Ho.out.frozen 0
  have fo1 := Ho.out.frozen 1
  go_wp2_with (first | (go_at_call 26; refine (Hd.out _).mono ?_; rintro e w' ⟨rfl, rfl⟩) | (go_at_call 27; refine (Hu.out _).mono ?_; rintro e w' ⟨rfl, rfl⟩))
  refine bodyPost_ret (v := .agg #[.int .i64 a, .int .i64 b]) (by simp [results, Tryz.results82, go_sem, o0, o1, lto]) rfl ⟨rfl, ?_⟩
  repeat (first | exact HB.out | (refine Below.setCell ?_ (by first | omega | (simp; done) | (simp; omega)) _) | (refine Below.alloc ?_ (by first | omega | (simp; done) | (simp; omega)) _) | (refine below_drewN ?_ _))
set_option maxHeartbeats 4000000 in
set_option maxRecDepth 100000 in
theorem refheight_any (s : ByteArray) (x y z r g st wd t gate elo ehi : Int) (w : World) (h1 : -8 ≤ t) (h2 : t ≤ 264) (h3 : 0 ≤ gate) (h4 : gate ≤ 199) (h5 : 0 ≤ st) (h6 : st ≤ 2000) (z0 : 0 ≤ z) (z1 : z ≤ 20000) (he : okE elo ehi = true) :
    Calls Tryz.prog 54 #[siteV s x y z r g st wd, .int .i64 t, .agg #[.int .i64 elo, .int .i64 ehi], .int .i64 gate] w fun e w' => e = .returned (.agg #[.int .i64 (riseD z st gate t ehi), .int .i64 (riseU z st gate t elo)]) ∧ Below w.heap.size w w' := by
  obtain ⟨e1, e2, e3⟩ := okE_iff he
  obtain ⟨a1, a2, a3, a4, a5, a6⟩ := reach_bd h1 h2 h3 h4 h5 h6
  obtain ⟨s1, s2⟩ := sine_bd h1 h2 a3 a4
  obtain ⟨b1, b2, b3, b4, b5⟩ := r_bd h1 h2 h3 h4 h5 h6
  obtain ⟨c1, c2⟩ := sq_bd b1 b2
  obtain ⟨c3, c4⟩ := sq_bd b3 b4
  obtain ⟨u1, u2, u3, u4⟩ := q_bd (b := 2 * (262144 + t * t)) (by omega) s1 s2 (by omega)
  obtain ⟨v1, v2, -, -⟩ := q_bd (a := rD st gate t * rD st gate t) (b := 2 * ehi) (C := 160000000000) (by omega) (by omega) c2 (by omega)
  obtain ⟨-, -, v3, v4⟩ := q_bd (a := rU st gate t * rU st gate t) (b := 2 * elo) (C := 160000000000) (by omega) (by omega) c4 (by omega)
  have hs := fun W => RefSlant_any t W
  have hg := fun W => refground_any s x y z r g st wd t gate W h1 h2 h3 h4 h5 h6
  have d1 := fun W => Down_any ((2 * gate + 1) * st * (1024 * t)) (2 * (262144 + t * t)) W (by omega) (by omega) (by omega) (by omega)
  have d2 := fun W => Down_any (rD st gate t * rD st gate t) (2 * ehi) W (by omega) (by omega) (by omega) (by omega)
  have d3 := fun W => Up_any ((2 * gate + 1) * st * (1024 * t)) (2 * (262144 + t * t)) W (by omega) (by omega) (by omega) (by omega)
  have d4 := fun W => Up_any (rU st gate t * rU st gate t) (2 * elo) W (by omega) (by omega) (by omega) (by omega)
  have eD : riseD z st gate t ehi = z + (2 * gate + 1) * st * (1024 * t) / (2 * (262144 + t * t)) + rD st gate t * rD st gate t / (2 * ehi) := rfl
  have eU : riseU z st gate t elo = z + cdiv ((2 * gate + 1) * st * (1024 * t)) (2 * (262144 + t * t)) + cdiv (rU st gate t * rU st gate t) (2 * elo) := rfl
  have hsl : slantR t = (⟨262144 - t * t, 1024 * t, 262144 + t * t⟩, 0) := by unfold slantR; rw [if_pos (winB_iff.2 ⟨h1, h2⟩)]; rfl
  rw [hsl] at hs
  unfold vecE at hs
  unfold siteV at *
  simp only at hs
  rw [eD, eU]
  clear eD eU hsl he
  generalize rD st gate t = G1 at *
  generalize rU st gate t = G2 at *
  generalize hP1 : (2 * gate + 1) * st * (1024 * t) / (2 * (262144 + t * t)) = P1 at *
  generalize hP2 : cdiv ((2 * gate + 1) * st * (1024 * t)) (2 * (262144 + t * t)) = P2 at *
  generalize hP3 : G1 * G1 / (2 * ehi) = P3 at *
  generalize hP4 : cdiv (G2 * G2) (2 * elo) = P4 at *
  clear hP1 hP2 hP3 hP4
  have Hs := hide hs
  have Hg := hide hg
  have D1 := hide d1
  have D2 := hide d2
  have D3 := hide d3
  have D4 := hide d4
  clear hs hg d1 d2 d3 d4
  go_enter Tryz.func54, Tryz.ntmps54
  have HB := hide (Below.refl w.heap.size w)
  go_wp2_with fail
  refine at_world fun W hW => ?_
  have bq0 : Blk W w.heap.size 28 #[.string s, .int .i64 x, .int .i64 y, .int .i64 z, .int .i64 r, .int .i64 g, .int .i64 st, .int .i64 wd] := by rw [hW]; exact ((Blk.new _ _ _).alloc _).alloc _
  have bq1 : Blk W (w.heap.size + 1) 24 #[.int .i64 elo, .int .i64 ehi] := by rw [hW]; exact (blk_new_at (by simp)).alloc _
  have bq2 : Blk W (w.heap.size + 2) 24 #[.int .i64 0, .int .i64 0] := by rw [hW]; exact blk_new_at (by simp)
  have LW : Later w W := by rw [hW]; exact ((((Below.refl _ _).alloc (Nat.le_refl _) _).alloc (by simp; try omega) _).alloc (by simp; try omega) _)
  have szW : W.heap.size = w.heap.size + 3 := by rw [hW]; simp
  clear hW
  replace HB := hide (onward HB.out LW)
  have Hq := hide bq0
  have He := hide bq1
  have Ho := hide bq2
  clear bq0 bq1 bq2 LW szW
  refine (Hs.out _).mono ?_
  rintro e w' ⟨rfl, rfl⟩
  obtain ⟨q0, q1, q2, q3, q4, q5, q6, q7⟩ := Hq.out.site8
  have lts := Hq.out.lt
  go_wp2_with fail
  refine (Hg.out _).mono ?_
  rintro e w1 ⟨rfl, hb⟩
  replace HB := hide (onward HB.out hb)
  replace Hq := hide (blk_later Hq.out hb)
  replace He := hide (blk_later He.out hb)
  replace Ho := hide (blk_later Ho.out hb)
  clear hb
  clear q0 q1 q2 q3 q4 q5 q6 q7 lts
  obtain ⟨q0, q1, q2, q3, q4, q5, q6, q7⟩ := Hq.out.site8
  have lts := Hq.out.lt
  go_wp2_with fail
  refine code_world fun W2 hW => ?_
  have bq0 : Blk W2 w1.heap.size 24 #[.int .i64 G1, .int .i64 G2] := by rw [hW]; exact Blk.new _ _ _
  have LW : Later w1 W2 := by rw [hW]; exact ((Below.refl _ _).alloc (Nat.le_refl _) _)
  have szW : W2.heap.size = w1.heap.size + 1 := by rw [hW]; simp
  clear hW
  replace HB := hide (onward HB.out LW)
  replace Hq := hide (blk_later Hq.out LW)
  replace He := hide (blk_later He.out LW)
  replace Ho := hide (blk_later Ho.out LW)
  have Hr := hide bq0
  clear bq0 LW szW
  clear q0 q1 q2 q3 q4 q5 q6 q7 lts
  obtain ⟨q0, q1, q2, q3, q4, q5, q6, q7⟩ := Hq.out.site8
  have lts := Hq.out.lt
  obtain ⟨v0, v1⟩ := He.out.c2
  have ltv := He.out.lt
  obtain ⟨k0, k1⟩ := Hr.out.c2
  have ltk := Hr.out.lt
  have lto := Ho.out.lt
  apply wp_region_F (w0 := W2) [[], [0], [], [], [3], [2, 3, 4], [0, 1, 2, 3, 4, 5], [], [7], [], [9], [7, 8, 9, 10], [], [12], [12, 13], [2, 3, 4, 5, 7, 8, 9, 10, 11, 12, 13, 14], [0, 1, 2, 3, 4, 5, 6, 7, 8, 9, 10, 11, 12, 13, 14, 15], [], [17], [], [], [20], [2, 3, 4, 5, 7, 8, 9, 10, 11, 12, 13, 14, 15, 19, 20, 21], [2, 3, 4, 5, 7, 8, 9, 10, 11, 12, 13, 14, 15, 17, 18, 19, 20, 21, 22], [], [24], [], [26], [24, 25, 26, 27], [], [29], [29, 30], [2, 3, 4, 5, 7, 8, 9, 10, 11, 12, 13, 14, 15, 19, 20, 21, 22, 24, 25, 26, 27, 28, 29, 30, 31], [2, 3, 4, 5, 7, 8, 9, 10, 11, 12, 13, 14, 15, 17, 18, 19, 20, 21, 22, 23, 24, 25, 26, 27, 28, 29, 30, 31, 32], [0, 1, 2, 3, 4, 5, 6, 7, 8, 9, 10, 11, 12, 13, 14, 15, 16, 17, 18, 19, 20, 21, 22, 23, 24, 25, 26, 27, 28, 29, 30, 31, 32, 33], [0, 1, 2, 3, 4, 5, 6, 7, 8, 9, 10, 11, 12, 13, 14, 15, 16, 17, 18, 19, 20, 21, 22, 23, 24, 25, 26, 27, 28, 29, 30, 31, 32, 33, 34]] [true, true, true, true, true, true, true, true, true, true, true, true, true, true, true, true, true, true, true, true, true, true, true, true, true, true, true, true, true, true, true, true, true, true, true, false] [false, false, false, false, false, false, false, false, false, false, false, false, false, false, false, false, false, false, false, false, false, false, false, false, false, false, false, false, false, false, false, false, false, false, false, false] [⟨35, none, [], []⟩] [(35, (w.heap.size+2))] [35] (fun ixq y => match ixq with | 35 => undef | _ => undef) (fun ixq x F wq => match ixq with | 35 => F (w.heap.size+2) ∧ Blk wq (w.heap.size+2) 24 #[.int .i64 (z + P1 + P3), .int .i64 (z + P2 + P4)] | _ => True) (fun a x => (a).put (none) (undef)) (by kernel_rfl) (by kernel_rfl) (by kernel_rfl) (fun _ => rfl) [39, 49, 56, 66] (by kernel_rfl) (fills_lt1 (by omega)) fills_ne1
  · intro x D hD
    have hne := hD.some
    have m3 := liftS hD q3 (by exact early_all (by first | assumption | omega) (by rfl))
    have l0 := liftS hD v0 (by exact early_all (by first | assumption | omega) (by rfl))
    have l1 := liftS hD v1 (by exact early_all (by first | assumption | omega) (by rfl))
    have j0 := liftS hD k0 (by exact early_all (by first | assumption | omega) (by rfl))
    have j1 := liftS hD k1 (by exact early_all (by first | assumption | omega) (by rfl))
    simp only [takeOps, Act.put, List.setIfInBounds_toArray, List.set_cons_succ, List.set_cons_zero]
    repeat (go_big_quiet_step ((first | (go_at_call 26; first | (with_reducible exact calls_same _ (D1.out _)) | (with_reducible exact calls_same _ (D2.out _))) | (go_at_call 27; first | (with_reducible exact calls_same _ (D3.out _)) | (with_reducible exact calls_same _ (D4.out _))))))
    exact wpQuiet_nil rfl
  · exact fun x D hD => wpQuiet_nil rfl
  · intro d hd x x'
    simp only [List.mem_cons, List.not_mem_nil, or_false] at hd
    rcases hd with rfl | rfl | rfl | rfl
    all_goals rfl
  · refine ⟨?_, trivial⟩
    · exact obl_fill 24 24 8 68 (w.heap.size+2) _ (fun x => #[.int .i64 (z + P1 + P3), .int .i64 (z + P2 + P4)]) (by kernel_rfl) (fun _ => rfl) (fun _ => rfl) Ho.out eb_fill1 (by simp [wrF]) (fun _ => by kernel_rfl) (fun _ => rfl) (fun _ => by simp [Value.oneCell']) (fun _ => rfl) (fun _ _ _ _ h1 h2 => ⟨h1, h2⟩)
  · refine ⟨?_, trivial⟩
    · exact owe_fill (w.heap.size+2) 24 (fun x => #[.int .i64 (z + P1 + P3), .int .i64 (z + P2 + P4)]) (fun _ _ _ => rfl) (fun _ _ _ => rfl)
  intro xx w3 F hK hlv1
  obtain ⟨fct35, -⟩ := hlv1
  replace fct35 : (F 35) (w.heap.size+2) ∧ Blk w3 (w.heap.size+2) 24 #[.int .i64 (z + P1 + P3), .int .i64 (z + P2 + P4)] := fct35 rfl
  clear q0 q1 q2 q3 q4 q5 q6 q7 lts lto
  clear Hq He Hr
  have hgr := grown_kept hK
  replace HB := hide (below_grown HB.out hgr HB.out.size (fun q hq => by simp at hq; omega))
  replace Ho := hide fct35.2
  clear hgr hK fct35 v0 v1 ltv k0 k1 ltk
  obtain ⟨o0, o1⟩ := Ho.out.c2
  have lto := Ho.out.lt
  go_wp2
  refine bodyPost_ret (v := .agg #[.int .i64 (z + P1 + P3), .int .i64 (z + P2 + P4)]) (by simp [results, Tryz.results54, go_sem, o0, o1]) rfl ⟨rfl, HB.out⟩
end Go.Proofs.YtepgpihobmjbdaaGreat
namespace Go.Proofs.YtepgpihobmjbdaaGreat
open Go.RowKit

theorem nm_any (s : ByteArray) (hs : s.size ≤ 9223372036854775807) : ∀ W, Calls Tryz.prog 83 #[.string s] W fun e w' => e = .returned (.bool (nameB s)) ∧ Below W.heap.size W w' := fun W => Name_any s W hs

end Go.Proofs.YtepgpihobmjbdaaGreat
namespace Go.Proofs.YtepgpihobmjbdaaGreat
open Go Go.RowKit

end Go.Proofs.YtepgpihobmjbdaaGreat
namespace Go.Proofs.YtepgpihobmjbdaaGreat
open Go Go.RowKit

/-- The gate to which a place (relative to the site) belongs. -/
def findZ (ro st t g dx dy : Int) : (Int × Int) × Bool :=
  if dx = 0 ∧ dy = 0 then ((0, 0), true) else if gateZ st t g (dx * dx + dy * dy) < 0 then ((0, 0), false) else ((rayZ ro dx dy, gateZ st t g (dx * dx + dy * dy)), true)
def twoE (p : (Int × Int) × Int) : Value := .tuple #[.int .i64 p.1.1, .int .i64 p.1.2, .int .i64 p.2]
end Go.Proofs.YtepgpihobmjbdaaGreat
namespace Go.Proofs.YtepgpihobmjbdaaGreat
open Go.RowKit

end Go.Proofs.YtepgpihobmjbdaaGreat
namespace Go.Proofs.YtepgpihobmjbdaaGreat
open Go Go.RowKit

end Go.Proofs.YtepgpihobmjbdaaGreat
namespace Go.Proofs.YtepgpihobmjbdaaGreat
open Go Go.RowKit

theorem sector_quarter {n a X Y : Int} (hn : 1 ≤ n) (h0 : 0 ≤ a) (h1 : a < 4 * n) (h : sectorB n a X Y = true) : sectorB n ((a + n) % (4 * n)) Y (-X) = true ∧ 0 ≤ (a + n) % (4 * n) ∧ (a + n) % (4 * n) < 4 * n := by
  obtain ⟨q, k, hq, hk, hkn, rfl⟩ := split_ray hn h0 h1
  refine ⟨?_, Int.emod_nonneg _ (by omega), Int.emod_lt_of_pos _ (by omega)⟩
  rw [sector_turn hn hk hkn hq] at h
  have c : q = 0 ∨ q = 1 ∨ q = 2 ∨ q = 3 := by omega
  rcases c with rfl | rfl | rfl | rfl
  · have e : (((0 : Nat) : Int) * n + k + n) % (4 * n) = ((1 : Nat) : Int) * n + k := by rw [Int.emod_eq_of_lt (by omega) (by omega)]; omega
    rw [e, sector_turn hn hk hkn (by omega)]
    simpa [rotN] using h
  · have e : (((1 : Nat) : Int) * n + k + n) % (4 * n) = ((2 : Nat) : Int) * n + k := by rw [Int.emod_eq_of_lt (by omega) (by omega)]; omega
    rw [e, sector_turn hn hk hkn (by omega)]
    simpa [rotN] using h
  · have e : (((2 : Nat) : Int) * n + k + n) % (4 * n) = ((3 : Nat) : Int) * n + k := by rw [Int.emod_eq_of_lt (by omega) (by omega)]; omega
    rw [e, sector_turn hn hk hkn (by omega)]
    simpa [rotN] using h
  · have e : (((3 : Nat) : Int) * n + k + n) % (4 * n) = ((0 : Nat) : Int) * n + k := by
      rw [show ((3 : Nat) : Int) * n + k + n = k + (4 * n) by omega, Int.add_emod_right, Int.emod_eq_of_lt (by omega) (by omega)]; omega
    rw [e, sector_turn hn hk hkn (by omega)]
    simpa [rotN] using h
theorem ray_quarter {n X Y : Int} (hn : 1 ≤ n) (h : ¬ (X = 0 ∧ Y = 0)) : rayZ n Y (-X) = (rayZ n X Y + n) % (4 * n) := by
  obtain ⟨h0, h1, h2⟩ := ray_spec hn h
  obtain ⟨g1, g2, g3⟩ := sector_quarter hn h0 h1 h2
  exact ray_is hn g2 g3 g1
theorem find_quarter {n st t g X Y : Int} (hn : 1 ≤ n) (h : ¬ (X = 0 ∧ Y = 0)) : findZ n st t g Y (-X) = if (findZ n st t g X Y).2 = true then ((((findZ n st t g X Y).1.1 + n) % (4 * n), (findZ n st t g X Y).1.2), true) else ((0, 0), false) := by
  have e : Y * Y + -X * -X = X * X + Y * Y := by rw [Int.neg_mul_neg]; omega
  unfold findZ
  rw [if_neg (show ¬ (Y = 0 ∧ -X = 0) by omega), if_neg h, e, ray_quarter hn h]
  by_cases c : gateZ st t g (X * X + Y * Y) < 0
  · simp [c]
  · simp [c]

theorem dirV_bd {n a : Int} (h1 : 1 ≤ n) (h2 : n ≤ 180) (h3 : 0 ≤ a) (h4 : a < 4 * n) : (-64800 ≤ (dirV n a).x ∧ (dirV n a).x ≤ 64800) ∧ (-64800 ≤ (dirV n a).y ∧ (dirV n a).y ≤ 64800) ∧ 1 ≤ (dirV n a).l ∧ (dirV n a).l ≤ 64800 := by
  obtain ⟨q, b1, b2, b3, b4, b5, b6, b7, b8⟩ := dir_bd h1 h2 h3 (show a ≤ 4 * n - 1 by omega)
  have b9 : 1 ≤ n * n := Int.mul_pos (by omega) (by omega)
  unfold dirV
  generalize 2 * n * (a % n) = p at *
  generalize n * n = m at *
  generalize a % n * (a % n) = k at *
  generalize a / n = c at *
  clear h1 h2 h3 h4 b1 b2
  unfold quarter
  split
  · exact ⟨⟨by show -64800 ≤ p; omega, by show p ≤ 64800; omega⟩, ⟨by show -64800 ≤ m - k; omega, by show m - k ≤ 64800; omega⟩, by show 1 ≤ m + k; omega, by show m + k ≤ 64800; omega⟩
  · split
    · exact ⟨⟨by show -64800 ≤ m - k; omega, by show m - k ≤ 64800; omega⟩, ⟨by show -64800 ≤ -p; omega, by show -p ≤ 64800; omega⟩, by show 1 ≤ m + k; omega, by show m + k ≤ 64800; omega⟩
    · split
      · exact ⟨⟨by show -64800 ≤ -p; omega, by show -p ≤ 64800; omega⟩, ⟨by show -64800 ≤ -(m - k); omega, by show -(m - k) ≤ 64800; omega⟩, by show 1 ≤ m + k; omega, by show m + k ≤ 64800; omega⟩
      · exact ⟨⟨by show -64800 ≤ -(m - k); omega, by show -(m - k) ≤ 64800; omega⟩, ⟨by show -64800 ≤ p; omega, by show p ≤ 64800; omega⟩, by show 1 ≤ m + k; omega, by show m + k ≤ 64800; omega⟩

end Go.Proofs.YtepgpihobmjbdaaGreat
namespace Go.Proofs.YtepgpihobmjbdaaGreat
open Go Go.RowKit

/-- The pixel of a place; -1 outside. -/
def pixZ (gx gy gs wi hi x y : Int) : Int :=
  if x < gx ∨ y < gy ∨ gx + wi * gs ≤ x ∨ gy + hi * gs ≤ y then -1 else (y - gy) / gs * wi + (x - gx) / gs
def pixR (e gx gy gs wi hi x y : Int) : Int × Int :=
  if e ≠ 0 then (0, e) else if pixZ gx gy gs wi hi x y < 0 then (0, 29) else (pixZ gx gy gs wi hi x y, 0)
theorem pix_bd {gx gs wi x : Int} (h1 : 1 ≤ gs) (h2 : gx ≤ x) (h3 : x < gx + wi * gs) : 0 ≤ (x - gx) / gs ∧ (x - gx) / gs < wi :=
  ⟨Int.ediv_nonneg (by omega) (by omega), Int.ediv_lt_of_lt_mul (by omega) (by omega)⟩

set_option maxHeartbeats 2000000 in
set_option maxRecDepth 100000 in
theorem pixel_any (gx gy gs wi hi x y : Int) (w : World) (a1 : -1048576 ≤ gx) (a2 : gx ≤ 1048576) (b1 : -1048576 ≤ gy) (b2 : gy ≤ 1048576) (c1 : 1 ≤ gs) (c2 : gs ≤ 10000) (d1 : 1 ≤ wi) (d2 : wi ≤ 64) (e1 : 1 ≤ hi) (e2 : hi ≤ 64) :
    Calls Tryz.prog 92 #[gridV gx gy gs wi hi, .int .i64 x, .int .i64 y] w fun e w' => e = .returned (.int .i64 (pixZ gx gy gs wi hi x y)) ∧ Below w.heap.size w w' := by
  obtain ⟨m1, m2⟩ := mul_bdB (a := wi) (b := gs) (A := 64) (B := 10000) (by omega) d2 (by omega) c2
  obtain ⟨n1, n2⟩ := mul_bdB (a := hi) (b := gs) (A := 64) (B := 10000) (by omega) e2 (by omega) c2
  obtain ⟨res, hres⟩ : ∃ p, pixZ gx gy gs wi hi x y = p := ⟨_, rfl⟩
  rw [hres]
  unfold pixZ at hres
  unfold gridV
  by_cases g1 : x < gx
  · have hres2 := hide (hres.symm.trans (if_pos (by omega)))
    clear hres
    go_enter Tryz.func92, Tryz.ntmps92
    go_wp2
    go_ret
    exact ⟨ret_int hres2.out.symm, (Below.refl _ _).alloc (Nat.le_refl _) _⟩
  by_cases g2 : y < gy
  · have hres2 := hide (hres.symm.trans (if_pos (by omega)))
    clear hres
    go_enter Tryz.func92, Tryz.ntmps92
    go_wp2
    go_ret
    exact ⟨ret_int hres2.out.symm, (Below.refl _ _).alloc (Nat.le_refl _) _⟩
  by_cases g3 : gx + wi * gs ≤ x
  · have hres2 := hide (hres.symm.trans (if_pos (by omega)))
    clear hres
    go_enter Tryz.func92, Tryz.ntmps92
    go_wp2
    go_ret
    exact ⟨ret_int hres2.out.symm, (Below.refl _ _).alloc (Nat.le_refl _) _⟩
  by_cases g4 : gy + hi * gs ≤ y
  · have hres2 := hide (hres.symm.trans (if_pos (by omega)))
    clear hres
    go_enter Tryz.func92, Tryz.ntmps92
    go_wp2
    go_ret
    exact ⟨ret_int hres2.out.symm, (Below.refl _ _).alloc (Nat.le_refl _) _⟩
  obtain ⟨p1, p2⟩ := pix_bd (gx := gx) (x := x) (wi := wi) c1 (by omega) (by omega)
  obtain ⟨q1, q2⟩ := pix_bd (gx := gy) (x := y) (wi := hi) c1 (by omega) (by omega)
  obtain ⟨r1, r2⟩ := mul_bdB (a := (y - gy) / gs) (b := wi) (A := 64) (B := 64) q1 (by omega) (by omega) d2
  have c3 : gs ≠ 0 := by omega
  have c4 : 0 < gs := by omega
  have hres2 := hide (hres.symm.trans (if_neg (by omega)))
  clear hres
  go_enter Tryz.func92, Tryz.ntmps92
  have HB := hide (Below.refl w.heap.size w)
  go_wp2_with fail
  refine code_world fun W hW => ?_
  have bq0 : Blk W w.heap.size 33 #[.int .i64 gx, .int .i64 gy, .int .i64 gs, .int .i64 wi, .int .i64 hi] := by rw [hW]; exact Blk.new _ _ _
  have LW : Later w W := by rw [hW]; exact ((Below.refl _ _).alloc (Nat.le_refl _) _)
  have szW : W.heap.size = w.heap.size + 1 := by rw [hW]; simp
  clear hW
  replace HB := hide (onward HB.out LW)
  have Hg := hide bq0
  clear bq0 LW szW
  obtain ⟨k0, k1, k2, k3, k4⟩ := Hg.out.c5
  have ltk := Hg.out.lt
  apply wp_region_L (w0 := W) [[], [], [], [], [], [], [], [], [], [], [], [], [], [], [], [], [], [], []] [true, true, true, true, true, true, true, true, true, true, true, true, true, true, true, true, true, true, true] [] (fun ixq y => match ixq with  | _ => undef) (fun ixq x F wq => match ixq with  | _ => True) (fun a x => a) (by kernel_rfl) (by kernel_rfl) (fun _ => rfl) [] (by kernel_rfl)
  · intro x D hD
    have hne := hD.some
    have k0 := liftB hD k0 (by first | assumption | omega)
    have k1 := liftB hD k1 (by first | assumption | omega)
    have k2 := liftB hD k2 (by first | assumption | omega)
    have k3 := liftB hD k3 (by first | assumption | omega)
    simp only [takeOps, Act.put, List.setIfInBounds_toArray, List.set_cons_succ, List.set_cons_zero]
    repeat (go_big_quiet_step (fail))
    exact wpQuiet_nil rfl
  · exact fun _ h => absurd h (by simp)
  · exact trivial
  · exact trivial
  intro xx w2 F hL hlv1
  clear hlv1
  replace HB := hide (onward HB.out hL)
  replace Hg := hide (blk_later Hg.out hL)
  clear hL k0 k1 k2 k3 k4 ltk
  go_wp2
  go_ret
  exact ⟨ret_int hres2.out.symm, HB.out⟩

def placeZ (sx sy ro st t ray gate : Int) : Int × Int := (sx + rD st gate t * (dirV (2 * ro) (2 * ray + 1)).x / (dirV (2 * ro) (2 * ray + 1)).l, sy + rD st gate t * (dirV (2 * ro) (2 * ray + 1)).y / (dirV (2 * ro) (2 * ray + 1)).l)
theorem rD_bd {st gate t : Int} (h1 : -8 ≤ t) (h2 : t ≤ 264) (h3 : 0 ≤ gate) (h4 : gate ≤ 199) (h5 : 0 ≤ st) (h6 : st ≤ 2000) : 0 ≤ rD st gate t ∧ rD st gate t ≤ 600000 := by
  obtain ⟨a1, a2, a3, a4, a5, a6⟩ := reach_bd h1 h2 h3 h4 h5 h6
  unfold rD reachN reachD
  generalize (2 * gate + 1) * st * (262144 - t * t) = n at *
  generalize t * t = m at *
  exact ⟨Int.ediv_nonneg a5 (by omega), Int.le_of_lt_add_one (Int.ediv_lt_of_lt_mul (by omega) (by omega))⟩
theorem quot_bd {a b M : Int} (hb : 1 ≤ b) (hM : 0 ≤ M) (h1 : -M ≤ a) (h2 : a ≤ M) : -M ≤ a / b ∧ a / b ≤ M := by
  constructor
  · rw [Int.le_ediv_iff_mul_le (by omega)]
    have : M ≤ M * b := by have := Int.mul_le_mul_of_nonneg_left hb hM; omega
    have e : -M * b = -(M * b) := Int.neg_mul _ _
    omega
  · have : M ≤ M * b := by have := Int.mul_le_mul_of_nonneg_left hb hM; omega
    exact Int.ediv_le_of_le_mul (by omega) (by omega)

set_option maxHeartbeats 2000000 in
set_option maxRecDepth 100000 in
theorem place_any (s : ByteArray) (sx sy z ro g st wd t ray gate : Int) (w : World) (h1 : 0 ≤ t) (h2 : t ≤ 256) (h3 : 0 ≤ gate) (h4 : gate ≤ 199) (h5 : 0 ≤ st) (h6 : st ≤ 2000) (r1 : 1 ≤ ro) (r2 : ro ≤ 90) (a1 : 0 ≤ ray) (a2 : ray < 4 * ro)
    (X1 : -1048576 ≤ sx) (X2 : sx ≤ 1048576) (Y1 : -1048576 ≤ sy) (Y2 : sy ≤ 1048576) :
    Calls Tryz.prog 91 #[siteV s sx sy z ro g st wd, .int .i64 t, .int .i64 ray, .int .i64 gate] w fun e w' => e = .returned (.tuple #[.int .i64 (placeZ sx sy ro st t ray gate).1, .int .i64 (placeZ sx sy ro st t ray gate).2]) ∧ Below w.heap.size w w' := by
  have hd := fun W => direction_any (2 * ro) (2 * ray + 1) W (by omega) (by omega) (by omega) (by omega)
  have hr := fun W => reachDown_any s sx sy z ro g st wd t gate W (by omega) (by omega) h3 h4 h5 h6
  have hrd : reachN st gate t / reachD t = rD st gate t := rfl
  rw [hrd] at hr
  obtain ⟨b1, b2⟩ := rD_bd (st := st) (gate := gate) (t := t) (by omega) (by omega) h3 h4 h5 h6
  obtain ⟨⟨v1, v2⟩, ⟨v3, v4⟩, v5, v6⟩ := dirV_bd (n := 2 * ro) (a := 2 * ray + 1) (by omega) (by omega) (by omega) (by omega)
  have hP : placeZ sx sy ro st t ray gate = (sx + rD st gate t * (dirV (2 * ro) (2 * ray + 1)).x / (dirV (2 * ro) (2 * ray + 1)).l, sy + rD st gate t * (dirV (2 * ro) (2 * ray + 1)).y / (dirV (2 * ro) (2 * ray + 1)).l) := rfl
  rw [hP]
  unfold vecV at hd
  unfold siteV at *
  clear hP hrd
  generalize dirV (2 * ro) (2 * ray + 1) = v at *
  obtain ⟨vx, vy, vl⟩ := v
  simp only at *
  generalize rD st gate t = q at *
  obtain ⟨m1, m2⟩ := prod_bdQ (A := 600000) (B := 64800) (by omega) (by omega) ⟨by omega, b2⟩ ⟨v1, v2⟩
  obtain ⟨n1, n2⟩ := prod_bdQ (A := 600000) (B := 64800) (by omega) (by omega) ⟨by omega, b2⟩ ⟨v3, v4⟩
  obtain ⟨o1, o2⟩ := quot_bd (b := vl) (M := 38880000000) v5 (by omega) (show -38880000000 ≤ q * vx by omega) (by omega)
  obtain ⟨p1, p2⟩ := quot_bd (b := vl) (M := 38880000000) v5 (by omega) (show -38880000000 ≤ q * vy by omega) (by omega)
  have hc1 := fun W => downB_any (q * vx) vl W (by omega) (by omega) (by omega) (by omega)
  have hc2 := fun W => downB_any (q * vy) vl W (by omega) (by omega) (by omega) (by omega)
  have Hd := hide hd
  have Hr := hide hr
  have C1 := hide hc1
  have C2 := hide hc2
  clear hd hr hc1 hc2
  go_enter Tryz.func91, Tryz.ntmps91
  have HB := hide (Below.refl w.heap.size w)
  go_wp2_with fail
  refine at_world fun W hW => ?_
  have bq0 : Blk W w.heap.size 28 #[.string s, .int .i64 sx, .int .i64 sy, .int .i64 z, .int .i64 ro, .int .i64 g, .int .i64 st, .int .i64 wd] := by rw [hW]; exact Blk.new _ _ _
  have LW : Later w W := by rw [hW]; exact ((Below.refl _ _).alloc (Nat.le_refl _) _)
  have szW : W.heap.size = w.heap.size + 1 := by rw [hW]; simp
  clear hW
  replace HB := hide (onward HB.out LW)
  have Hq := hide bq0
  clear bq0 LW szW
  obtain ⟨q0, q1, q2, q3, q4, q5, q6, q7⟩ := Hq.out.site8
  have lts := Hq.out.lt
  go_wp2_with fail
  refine (Hd.out _).mono ?_
  rintro e w1 ⟨rfl, hb⟩
  replace HB := hide (onward HB.out hb)
  replace Hq := hide (blk_later Hq.out hb)
  clear hb
  clear q0 q1 q2 q3 q4 q5 q6 q7 lts
  obtain ⟨q0, q1, q2, q3, q4, q5, q6, q7⟩ := Hq.out.site8
  have lts := Hq.out.lt
  go_wp2_with fail
  clear q0 q1 q2 q3 q4 q5 q6 q7 lts
  refine at_world fun W1 hW => ?_
  have bq0 : Blk W1 w1.heap.size 158 #[.int .i64 vx, .int .i64 vy, .int .i64 vl] := by rw [hW]; exact Blk.new _ _ _
  have LW : Later w1 W1 := by rw [hW]; exact ((Below.refl _ _).alloc (Nat.le_refl _) _)
  have szW : W1.heap.size = w1.heap.size + 1 := by rw [hW]; simp
  clear hW
  replace HB := hide (onward HB.out LW)
  replace Hq := hide (blk_later Hq.out LW)
  have Hx := hide bq0
  clear bq0 LW szW
  refine (Hr.out _).mono ?_
  rintro e w2 ⟨rfl, hb⟩
  replace HB := hide (onward HB.out hb)
  replace Hq := hide (blk_later Hq.out hb)
  replace Hx := hide (blk_later Hx.out hb)
  clear hb
  obtain ⟨q0, q1, q2, q3, q4, q5, q6, q7⟩ := Hq.out.site8
  have lts := Hq.out.lt
  obtain ⟨x0, x1, x2⟩ := Hx.out.c3
  have ltx := Hx.out.lt
  go_wp2_with fail
  apply wp_region_L (w0 := w2) [[], [], [], [], [], [], [], [], [], [], [], [], [], [], [], [], [], [], [], [], [], []] [true, true, true, true, true, true, true, true, true, true, true, true, true, true, true, true, true, true, true, true, true, true] [] (fun ixq y => match ixq with  | _ => undef) (fun ixq x F wq => match ixq with  | _ => True) (fun a x => a) (by kernel_rfl) (by kernel_rfl) (fun _ => rfl) [31, 41] (by kernel_rfl)
  · intro x D hD
    have hne := hD.some
    have k1 := liftB hD q1 (by first | assumption | omega)
    have k2 := liftB hD q2 (by first | assumption | omega)
    have kx0 := liftB hD x0 (by first | assumption | omega)
    have kx1 := liftB hD x1 (by first | assumption | omega)
    have kx2 := liftB hD x2 (by first | assumption | omega)
    simp only [takeOps, Act.put, List.setIfInBounds_toArray, List.set_cons_succ, List.set_cons_zero]
    repeat (go_big_quiet_step ((go_at_call 72; first | (with_reducible exact calls_same _ (C1.out _)) | (with_reducible exact calls_same _ (C2.out _)))))
    exact wpQuiet_nil rfl
  · intro d hd x x'
    simp only [List.mem_cons, List.not_mem_nil, or_false] at hd
    rcases hd with rfl | rfl
    all_goals rfl
  · exact trivial
  · exact trivial
  intro xx w3 F hL hlv2
  clear hlv2
  clear q0 q1 q2 q3 q4 q5 q6 q7 lts
  replace HB := hide (onward HB.out hL)
  replace Hq := hide (blk_later Hq.out hL)
  replace Hx := hide (blk_later Hx.out hL)
  clear hL x0 x1 x2 ltx
  go_wp2
  refine bodyPost_ret (v := .tuple #[.int .i64 (sx + q * vx / vl), .int .i64 (sy + q * vy / vl)]) (by simp [results, Tryz.results91, go_sem]) rfl ⟨rfl, HB.out⟩
end Go.Proofs.YtepgpihobmjbdaaGreat
namespace Go.Proofs.YtepgpihobmjbdaaGreat
open Go Go.RowKit

def placeR (e t ray gate g sx sy ro st : Int) : (Int × Int) × Int :=
  if e ≠ 0 then ((0, 0), e) else if (winB t 0 256 && winB ray 0 (4 * ro - 1) && winB gate 0 (g - 1)) = true then (placeZ sx sy ro st t ray gate, 0) else ((0, 0), 3)

end Go.Proofs.YtepgpihobmjbdaaGreat
