/-
  Heights of gates: the program's contracts.
-/
import Derived.Test.YthhhecidogcmjaaRise
namespace Go.Proofs.Ythhhecidogcmjaa
open Go.RowKit

theorem valid_any (a b : Int) (w : World) :
    Calls Try.prog 69 #[.agg #[.int .i64 a, .int .i64 b]] w fun e w' => e = .returned (.bool (okE a b)) ∧ Below w.heap.size w w' := by
  unfold okE
  have hE : decide (1000000 ≤ a ∧ a ≤ b ∧ b ≤ 100000000) = (decide (1000000 ≤ a) && decide (a ≤ b) && decide (b ≤ 100000000)) := by
    rw [Bool.eq_iff_iff]; simp [and_assoc]
  rw [hE]
  clear hE
  cases h1 : decide (1000000 ≤ a) <;> cases h2 : decide (a ≤ b) <;> cases h3 : decide (b ≤ 100000000)
  all_goals
    go_enter Try.func69, Try.ntmps69
    go_wp2
    go_ret
    exact ⟨rfl, (Below.refl _ _).alloc (Nat.le_refl _) _⟩
theorem Earth_any (a b : Int) (w : World) :
    Calls Try.prog 71 #[.agg #[.int .i64 a, .int .i64 b]] w fun e w' => e = .returned (.bool (okE a b)) ∧ Below w.heap.size w w' := by
  have hv := fun W => Valid_any a b 1000000 100000000 W
  have hE : decide (1000000 ≤ a ∧ a ≤ b ∧ b ≤ 100000000) = okE a b := rfl
  rw [hE] at hv
  generalize okE a b = r at *
  have Hv := hide hv
  clear hv
  clear hE
  go_enter Try.func71, Try.ntmps71
  have HB := hide (Below.refl w.heap.size w)
  go_wp2_with fail
  refine at_world fun W hW => ?_
  have bq0 : Blk W w.heap.size 47 #[.int .i64 a, .int .i64 b] := by rw [hW]; exact Blk.new _ _ _
  have LW : Later w W := by rw [hW]; exact ((Below.refl _ _).alloc (Nat.le_refl _) _)
  have szW : W.heap.size = w.heap.size + 1 := by rw [hW]; simp
  clear hW
  replace HB := hide (onward HB.out LW)
  have Hb := hide bq0
  clear bq0 LW szW
  refine (Hv.out _).mono ?_
  rintro e w1 ⟨rfl, hb⟩
  replace HB := hide (onward HB.out hb)
  replace Hb := hide (blk_later Hb.out hb)
  clear hb
  go_wp2
  go_ret
  exact ⟨rfl, HB.out⟩
set_option maxHeartbeats 2000000 in
set_option maxRecDepth 100000 in
theorem height_any (s : ByteArray) (x y z r g st wd t gate elo ehi : Int) (w : World) (h1 : -8 ≤ t) (h2 : t ≤ 264) (h3 : 0 ≤ gate) (h4 : gate ≤ 199) (h5 : 0 ≤ st) (h6 : st ≤ 2000) (z0 : 0 ≤ z) (z1 : z ≤ 20000) (he : okE elo ehi = true) :
    Calls Try.prog 70 #[siteV s x y z r g st wd, .int .i64 t, .int .i64 gate, .agg #[.int .i64 elo, .int .i64 ehi]] w fun e w' => e = .returned (.agg #[.int .i64 (riseD z st gate t ehi), .int .i64 (riseU z st gate t elo)]) ∧ Below w.heap.size w w' := by
  obtain ⟨e1, e2, e3⟩ := okE_iff he
  have hd := fun W => riseDown_any s x y z r g st wd t gate ehi W h1 h2 h3 h4 h5 h6 z0 z1 (by omega) e3
  have hu := fun W => riseUp_any s x y z r g st wd t gate elo W h1 h2 h3 h4 h5 h6 z0 z1 e1 (by omega)
  unfold siteV at *
  generalize riseD z st gate t ehi = a at *
  generalize riseU z st gate t elo = b at *
  have Hd := hide hd
  have Hu := hide hu
  clear hd hu
  clear he
  go_enter Try.func70, Try.ntmps70
  have HB := hide (Below.refl w.heap.size w)
  go_wp2_with fail
  refine code_world fun W hW => ?_
  have bq0 : Blk W w.heap.size 33 #[.string s, .int .i64 x, .int .i64 y, .int .i64 z, .int .i64 r, .int .i64 g, .int .i64 st, .int .i64 wd] := by rw [hW]; exact ((Blk.new _ _ _).alloc _).alloc _
  have bq1 : Blk W (w.heap.size + 1) 47 #[.int .i64 elo, .int .i64 ehi] := by rw [hW]; exact (blk_new_at (by simp)).alloc _
  have bq2 : Blk W (w.heap.size + 2) 47 #[.int .i64 0, .int .i64 0] := by rw [hW]; exact blk_new_at (by simp)
  have LW : Later w W := by rw [hW]; exact ((((Below.refl _ _).alloc (Nat.le_refl _) _).alloc (by simp; try omega) _).alloc (by simp; try omega) _)
  have szW : W.heap.size = w.heap.size + 3 := by rw [hW]; simp
  clear hW
  replace HB := hide (onward HB.out LW)
  have Hq := hide bq0
  have He := hide bq1
  have Ho := hide bq2
  clear bq0 bq1 bq2 LW szW
  obtain ⟨q0, q1, q2, q3, q4, q5, q6, q7⟩ := Hq.out.site8
  have lts := Hq.out.lt
  obtain ⟨v0, v1⟩ := He.out.c2
  have ltv := He.out.lt
  have lto := Ho.out.lt
  apply wp_region_F (w0 := W) [[], [], [], [], [3], [0, 1, 2, 3, 4], [], [], [], [], [9], [0, 1, 2, 3, 4, 5, 6, 7, 8, 9, 10], [0, 1, 2, 3, 4, 5, 6, 7, 8, 9, 10, 11], [0, 1, 2, 3, 4, 5, 6, 7, 8, 9, 10, 11, 12]] [true, true, true, true, true, true, true, true, true, true, true, true, true, false] [false, false, false, false, false, false, false, false, false, false, false, false, false, false] [⟨13, none, [], []⟩] [(13, (w.heap.size+2))] [13] (fun ixq y => match ixq with | 13 => undef | _ => undef) (fun ixq x F wq => match ixq with | 13 => F (w.heap.size+2) ∧ Blk wq (w.heap.size+2) 47 #[.int .i64 a, .int .i64 b] | _ => True) (fun a x => (a).put (none) (undef)) (by kernel_rfl) (by kernel_rfl) (by kernel_rfl) (fun _ => rfl) [14, 20] (by kernel_rfl) (fills_lt1 (by omega)) fills_ne1
  · intro x D hD
    have hne := hD.some
    have k0 := liftS hD q0 (by exact early_all (by first | assumption | omega) (by rfl))
    have k1 := liftS hD q1 (by exact early_all (by first | assumption | omega) (by rfl))
    have k2 := liftS hD q2 (by exact early_all (by first | assumption | omega) (by rfl))
    have k3 := liftS hD q3 (by exact early_all (by first | assumption | omega) (by rfl))
    have k4 := liftS hD q4 (by exact early_all (by first | assumption | omega) (by rfl))
    have k5 := liftS hD q5 (by exact early_all (by first | assumption | omega) (by rfl))
    have k6 := liftS hD q6 (by exact early_all (by first | assumption | omega) (by rfl))
    have k7 := liftS hD q7 (by exact early_all (by first | assumption | omega) (by rfl))
    have l0 := liftS hD v0 (by exact early_all (by first | assumption | omega) (by rfl))
    have l1 := liftS hD v1 (by exact early_all (by first | assumption | omega) (by rfl))
    simp only [takeOps, Act.put, List.setIfInBounds_toArray, List.set_cons_succ, List.set_cons_zero]
    repeat (go_big_quiet_step ((go_at_call 73; first | (with_reducible exact calls_later hD _ (Hd.out _)) | (with_reducible exact calls_later hD _ (Hu.out _)))))
    exact wpQuiet_nil rfl
  · exact fun x D hD => wpQuiet_nil rfl
  · intro d hd x x'
    simp only [List.mem_cons, List.not_mem_nil, or_false] at hd
    rcases hd with rfl | rfl
    all_goals rfl
  · refine ⟨?_, trivial⟩
    · exact obl_fill 47 47 8 21 (w.heap.size+2) _ (fun x => #[.int .i64 a, .int .i64 b]) (by kernel_rfl) (fun _ => rfl) (fun _ => rfl) Ho.out eb_fill1 (by simp [wrF]) (fun _ => by kernel_rfl) (fun _ => rfl) (fun _ => by simp [Value.oneCell']) (fun _ => rfl) (fun _ _ _ _ h1 h2 => ⟨h1, h2⟩)
  · refine ⟨?_, trivial⟩
    · exact owe_fill (w.heap.size+2) 47 (fun x => #[.int .i64 a, .int .i64 b]) (fun _ _ _ => rfl) (fun _ _ _ => rfl)
  intro xx w2 F hK hlv1
  obtain ⟨fct13, -⟩ := hlv1
  replace fct13 : (F 13) (w.heap.size+2) ∧ Blk w2 (w.heap.size+2) 47 #[.int .i64 a, .int .i64 b] := fct13 rfl
  clear q0 q1 q2 q3 q4 q5 q6 q7 lts lto
  clear Hq He
  have hgr := grown_kept hK
  replace HB := hide (below_grown HB.out hgr HB.out.size (fun q hq => by simp at hq; omega))
  replace Ho := hide fct13.2
  clear hgr hK fct13 v0 v1 ltv
  obtain ⟨o0, o1⟩ := Ho.out.c2
  have lto := Ho.out.lt
  go_wp2
  refine bodyPost_ret (v := .agg #[.int .i64 a, .int .i64 b]) (by simp [results, Try.results70, go_sem, o0, o1]) rfl ⟨rfl, HB.out⟩
end Go.Proofs.Ythhhecidogcmjaa
