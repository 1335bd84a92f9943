/-
  The law's works(), and the law BeamDirections.
-/
import Derived.Test.YthhhecidogcmjaaBeam3
namespace Go.Proofs.Ythhhecidogcmjaa
open Go.RowKit

theorem S_any (w : World) : Calls Try.prog 28 #[] w fun e w' => e = .returned (siteV ⟨#[115]⟩ 0 0 100 2 4 1000 1) ∧ Below w.heap.size w w' := by
  go_enter Try.func28, Try.ntmps28
  go_wp2
  refine bodyPost_ret (v := siteV ⟨#[115]⟩ 0 0 100 2 4 1000 1) (by simp [siteV, results, Try.results28, go_sem]) rfl ⟨rfl, ?_⟩
  repeat (first | exact Below.refl _ _ | (refine Below.setCell ?_ (by first | omega | (simp; done) | (simp; omega)) _) | (refine Below.alloc ?_ (by first | omega | (simp; done) | (simp; omega)) _) | (refine below_drewN ?_ _))
theorem point_any (n : Int) (w : World) :
    Calls Try.prog 43 #[.int .i64 n] w fun e w' => e = .returned (.agg #[.int .i64 n, .int .i64 n]) ∧ Below w.heap.size w w' := by
  go_enter Try.func43, Try.ntmps43
  go_wp2
  refine bodyPost_ret (v := .agg #[.int .i64 n, .int .i64 n]) (by simp [results, Try.results43, go_sem]) rfl ⟨rfl, ?_⟩
  exact (Below.refl _ _).alloc (Nat.le_refl _) _
set_option maxHeartbeats 1000000 in
set_option maxRecDepth 100000 in
theorem works_any (w : World) : Calls Try.prog 18 #[] w fun e w' => e = .returned (.bool true) ∧ Below w.heap.size w w' := by
  have hd := fun W => Direction_any 2 1 W
  have hg := fun W => Ground_any ⟨#[115]⟩ true 0 0 100 2 4 1000 1 256 1 W Name_s
  rw [show dirR 2 1 = (⟨4, 3, 5⟩, 0) from rfl] at hd
  rw [show groundR (siteE true 0 0 100 2 4 1000 1) 256 1 4 1000 = ((900, 900), 0) by decide +kernel] at hg
  unfold vecE at hd
  unfold spanE at hg
  simp only at hd hg
  have Hd := hide hd
  have Hg := hide hg
  clear hd hg
  go_enter Try.func18, Try.ntmps18
  have HB := hide (Below.refl w.heap.size w)
  go_wp2_with fail
  refine (Hd.out _).mono ?_
  rintro e w1 ⟨rfl, hb⟩
  replace HB := hide (onward HB.out hb)
  clear hb
  go_wp2_with fail
  refine (S_any _).mono ?_
  rintro e w2 ⟨rfl, hb⟩
  replace HB := hide (onward HB.out hb)
  clear hb
  go_wp2_with fail
  refine (Hg.out _).mono ?_
  rintro e w3 ⟨rfl, hb⟩
  replace HB := hide (onward HB.out hb)
  clear hb
  go_wp2_with fail
  refine code_world fun W hW => ?_
  have bq0 : Blk W w3.heap.size 47 #[.int .i64 900, .int .i64 900] := by rw [hW]; exact Blk.new _ _ _
  have LW : Later w3 W := by rw [hW]; exact ((Below.refl _ _).alloc (Nat.le_refl _) _)
  have szW : W.heap.size = w3.heap.size + 1 := by rw [hW]; simp
  clear hW
  replace HB := hide (onward HB.out LW)
  have Ho := hide bq0
  clear bq0 LW szW
  obtain ⟨o0, o1⟩ := Ho.out.c2
  have lto := Ho.out.lt
  apply wp_region_L (w0 := W) [[], [], [], [], [], [], [], [], [], [], [], [], [], [], [], [], [], [], [], [], [], [], [], []] [true, true, true, true, true, true, true, true, true, true, true, true, true, true, true, true, true, true, true, true, true, true, true, true] [] (fun ixq y => match ixq with  | _ => undef) (fun ixq x F wq => match ixq with  | _ => True) (fun a x => a) (by kernel_rfl) (by kernel_rfl) (fun _ => rfl) [34] (by kernel_rfl)
  · intro x D hD
    have hne := hD.some
    have k0 := liftB hD o0 (by first | assumption | omega)
    have k1 := liftB hD o1 (by first | assumption | omega)
    simp only [takeOps, Act.put, List.setIfInBounds_toArray, List.set_cons_succ, List.set_cons_zero]
    repeat (go_big_quiet_step ((go_at_call 43; exact calls_later hD _ (point_any _ _))))
    exact wpQuiet_nil rfl
  · intro d hd x x'
    simp only [List.mem_cons, List.not_mem_nil, or_false] at hd
    rcases hd with rfl
    all_goals rfl
  · exact trivial
  · exact trivial
  intro xx w5 F hL hlv1
  clear hlv1
  replace HB := hide (onward HB.out hL)
  replace Ho := hide (blk_later Ho.out hL)
  clear hL o0 o1 lto
  go_wp2
  go_ret
  exact ⟨rfl, HB.out⟩
set_option maxHeartbeats 1000000 in
set_option maxRecDepth 100000 in
theorem BeamDirections_any (rose a t : Int) (w : World) :
    Calls Try.prog 3 #[.int .i64 rose, .int .i64 a, .int .i64 t] w fun e w' => e = .returned (.bool true) ∧ Below w.heap.size w w' := by
  have hd := fun W => Direction_any rose a W
  have hd2 := fun W => RefDirection_any rose a W
  have hs := fun W => Slant_any t W
  have hs2 := fun W => RefSlant_any t W
  generalize dirR rose a = r at *
  generalize slantR t = s at *
  obtain ⟨⟨r1, r2, r3⟩, r4⟩ := r
  obtain ⟨⟨s1, s2, s3⟩, s4⟩ := s
  unfold vecE at hd hd2 hs hs2
  simp only at hd hd2 hs hs2
  have Hd := hide hd
  have Hd2 := hide hd2
  have Hs := hide hs
  have Hs2 := hide hs2
  clear hd hd2 hs hs2
  go_enter Try.func3, Try.ntmps3
  have HB := hide (Below.refl w.heap.size w)
  go_wp2_with fail
  refine (Hd.out _).mono ?_
  rintro e w1 ⟨rfl, hb⟩
  replace HB := hide (onward HB.out hb)
  clear hb
  go_wp2_with fail
  refine (Hd2.out _).mono ?_
  rintro e w' ⟨rfl, rfl⟩
  go_wp2_with fail
  refine (Hs.out _).mono ?_
  rintro e w2 ⟨rfl, hb⟩
  replace HB := hide (onward HB.out hb)
  clear hb
  go_wp2_with fail
  refine (Hs2.out _).mono ?_
  rintro e w' ⟨rfl, rfl⟩
  go_wp2_with fail
  refine (works_any _).mono ?_
  rintro e w3 ⟨rfl, hb⟩
  replace HB := hide (onward HB.out hb)
  clear hb
  go_wp2
  go_ret
  exact ⟨rfl, HB.out⟩
end Go.Proofs.Ythhhecidogcmjaa
