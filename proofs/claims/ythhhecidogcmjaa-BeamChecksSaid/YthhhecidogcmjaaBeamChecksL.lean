/-
  The law BeamChecks returns true: the walk.
-/
import Derived.Test.YthhhecidogcmjaaHill
namespace Go.Proofs.Ythhhecidogcmjaa
open Go Go.RowKit

theorem name_a1 : nameB ⟨#[97, 95, 49]⟩ = true := by decide +kernel
theorem name_1a : nameB ⟨#[49, 97]⟩ = false := by decide +kernel
theorem name_no : nameB ⟨#[]⟩ = false := by decide +kernel
theorem name_s : nameB ⟨#[115]⟩ = true := by decide +kernel

set_option maxHeartbeats 4000000 in
set_option maxRecDepth 100000 in
theorem BeamChecks_any (s : ByteArray) (x y z r g st wd fx fy sz wi hi : Int) (A : Option Addr) (n c : Nat) (l : List (Int × Int)) (w : World) (hs : s.size ≤ 9223372036854775807) (hn : l.length = n) (hmax : n ≤ 9223372036854775807) (hl : Ints w w.heap.size .i64 A (flat2 l)) :
    Calls Try.prog 5 #[siteV s x y z r g st wd, fieldV fx fy sz wi hi A n c] w fun e w' => e = .returned (.bool true) ∧ Below w.heap.size w w' := by
  have n0 := fun W => Name_any s W hs
  have n1 := fun W => Name_any ⟨#[97, 95, 49]⟩ W (by decide)
  have n2 := fun W => Name_any ⟨#[49, 97]⟩ W (by decide)
  have n3 := fun W => Name_any ⟨#[]⟩ W (by decide)
  have rn := fun W => RefName_any s W hs
  have c0 := fun W => CheckSite_any s (nameB s) x y z r g st wd W n0
  have sv := fun W => S_any W
  have c1 := fun W => CheckSite_any ⟨#[115]⟩ true 0 0 100 2 4 1000 1 W (fun W => by have := Name_any ⟨#[115]⟩ W (by decide); rwa [name_s] at this)
  have rc := fun W => RefCheckSite_any s x y z r g st wd W hs
  have g0 := fun W => CheckGrid_any fx fy sz wi hi W
  have rg := fun W => RefCheckGrid_any fx fy sz wi hi W
  have g1 := fun W => CheckGrid_any 0 0 1 65 1 W
  have f0 := fun W (hB : Below w.heap.size w W) => CheckField_any fx fy sz wi hi A n c l W hn hmax ((hl.below hB).more hB.size)
  have rf := fun W (hB : Below w.heap.size w W) => RefCheckField_any fx fy sz wi hi A n c l W hn hmax ((hl.below hB).more hB.size)
  rw [name_a1] at n1
  rw [name_1a] at n2
  rw [name_no] at n3
  rw [show siteE true 0 0 100 2 4 1000 1 = 0 by decide +kernel] at c1
  rw [show gridE 0 0 1 65 1 = 3 by decide +kernel] at g1
  generalize fieldE (gridE fx fy sz wi hi) n wi hi l 1073741824 = fe at *
  generalize gridE fx fy sz wi hi = ge at *
  generalize siteE (nameB s) x y z r g st wd = se at *
  generalize nameB s = nb at *
  unfold siteV at *
  unfold gridV at g0 g1 rg
  unfold fieldV at *
  clear hl hn
  have SV := hide sv
  have N0 := hide n0
  have N1 := hide n1
  have N2 := hide n2
  have N3 := hide n3
  have RN := hide rn
  have C0 := hide c0
  have C1 := hide c1
  have RC := hide rc
  have G0 := hide g0
  have RG := hide rg
  have G1 := hide g1
  have F0 := hide f0
  have RF := hide rf
  clear sv n0 n1 n2 n3 rn c0 c1 rc g0 rg g1 f0 rf
  by_cases h1 : (40 : Int) < s.size
  · go_enter Try.func5, Try.ntmps5
    have HB := hide (Below.refl w.heap.size w)
    go_wp2_with fail
    refine at_world fun W hW => ?_
    have bq0 : Blk W w.heap.size 33 #[.string s, .int .i64 x, .int .i64 y, .int .i64 z, .int .i64 r, .int .i64 g, .int .i64 st, .int .i64 wd] := by rw [hW]; exact (Blk.new _ _ _).alloc _
    have bq1 : Blk W (w.heap.size + 1) 38 #[.int .i64 fx, .int .i64 fy, .int .i64 sz, .int .i64 wi, .int .i64 hi, .slice A n c] := by rw [hW]; exact blk_new_at (by simp)
    have LW : Later w W := by rw [hW]; exact (((Below.refl _ _).alloc (Nat.le_refl _) _).alloc (by simp; try omega) _)
    have szW : W.heap.size = w.heap.size + 2 := by rw [hW]; simp
    clear hW
    replace HB := hide (onward HB.out LW)
    have Hs := hide bq0
    have Hf := hide bq1
    clear bq0 bq1 LW szW
    refine (works_any _).mono ?_
    rintro e w1 ⟨rfl, hb⟩
    replace HB := hide (onward HB.out hb)
    replace Hs := hide (blk_later Hs.out hb)
    replace Hf := hide (blk_later Hf.out hb)
    clear hb
    go_wp2
    go_ret
    exact ⟨rfl, HB.out⟩
  by_cases h2 : (5000 : Int) < n
  · go_enter Try.func5, Try.ntmps5
    have HB := hide (Below.refl w.heap.size w)
    go_wp2_with fail
    refine at_world fun W hW => ?_
    have bq0 : Blk W w.heap.size 33 #[.string s, .int .i64 x, .int .i64 y, .int .i64 z, .int .i64 r, .int .i64 g, .int .i64 st, .int .i64 wd] := by rw [hW]; exact (Blk.new _ _ _).alloc _
    have bq1 : Blk W (w.heap.size + 1) 38 #[.int .i64 fx, .int .i64 fy, .int .i64 sz, .int .i64 wi, .int .i64 hi, .slice A n c] := by rw [hW]; exact blk_new_at (by simp)
    have LW : Later w W := by rw [hW]; exact (((Below.refl _ _).alloc (Nat.le_refl _) _).alloc (by simp; try omega) _)
    have szW : W.heap.size = w.heap.size + 2 := by rw [hW]; simp
    clear hW
    replace HB := hide (onward HB.out LW)
    have Hs := hide bq0
    have Hf := hide bq1
    clear bq0 bq1 LW szW
    refine (works_any _).mono ?_
    rintro e w1 ⟨rfl, hb⟩
    replace HB := hide (onward HB.out hb)
    replace Hs := hide (blk_later Hs.out hb)
    replace Hf := hide (blk_later Hf.out hb)
    clear hb
    go_wp2
    go_ret
    exact ⟨rfl, HB.out⟩
  go_enter Try.func5, Try.ntmps5
  have HB := hide (Below.refl w.heap.size w)
  go_wp2_with fail
  refine code_world fun W hW => ?_
  have bq0 : Blk W w.heap.size 33 #[.string s, .int .i64 x, .int .i64 y, .int .i64 z, .int .i64 r, .int .i64 g, .int .i64 st, .int .i64 wd] := by rw [hW]; exact (Blk.new _ _ _).alloc _
  have bq1 : Blk W (w.heap.size + 1) 38 #[.int .i64 fx, .int .i64 fy, .int .i64 sz, .int .i64 wi, .int .i64 hi, .slice A n c] := by rw [hW]; exact blk_new_at (by simp)
  have LW : Later w W := by rw [hW]; exact (((Below.refl _ _).alloc (Nat.le_refl _) _).alloc (by simp; try omega) _)
  have szW : W.heap.size = w.heap.size + 2 := by rw [hW]; simp
  clear hW
  replace HB := hide (onward HB.out LW)
  have Hs := hide bq0
  have Hf := hide bq1
  clear bq0 bq1 LW szW
  have F0' := hide (fun (V : World) (hl : Below W.heap.size W V) => F0.out V (onward HB.out hl))
  have RF' := hide (fun (V : World) (hl : Below W.heap.size W V) => RF.out V (onward HB.out hl))
  clear F0 RF
  obtain ⟨q0, q1, q2, q3, q4, q5, q6, q7⟩ := Hs.out.site8
  obtain ⟨u0, u1, u2, u3, u4, u5⟩ := Hf.out.c6
  have lts := Hs.out.lt
  have ltf := Hf.out.lt
  apply wp_region_L (w0 := W) [[], [], [], [], [], [], [], [], [], [], [], [], [], [], [], [], [], [], [], [], [], [], [], [], [], [], [], [], [], [], [], [], [], [], [], [], [], [], [], [], [], [], [], [], [], [], [], [], [47], [47, 48], [47, 48], [47, 48], [47, 48], [47, 48], [47, 48], [47, 48], [47, 48], [47, 48], [47, 48], [47, 48]] [true, true, true, true, true, true, true, true, true, true, true, true, true, true, true, true, true, true, true, true, true, true, true, true, true, true, true, true, true, true, true, true, true, true, true, true, true, true, true, true, true, true, true, true, true, true, true, false, false, true, true, true, true, true, true, true, true, true, true, true] [⟨47, none, [], []⟩, ⟨48, none, [47], []⟩] (fun ixq y => match ixq with | 47 => hillV (y 0).1 (y 0).2 | 48 => .int .i64 0 | _ => undef) (fun ixq x F wq => match ixq with | 47 => OwnF wq F W.heap.size 47 2 (.slice (x 47 0).1 4 (x 47 0).2) 4 ((flat2 hillL).map (Value.int .i64)) | 48 => True | _ => True) (fun a x => ((a).put (some 63) (hillV ((x 47) 0).1 ((x 47) 0).2)).put (some 64) (.int .i64 0)) (by kernel_rfl) (by kernel_rfl) (fun _ => rfl) [18, 21, 25, 27, 33, 36, 41, 43, 47, 48, 52, 55, 59, 69, 73] (by kernel_rfl)
  · intro x D hD
    have hne := hD.some
    have k0 := liftB hD q0 (by first | assumption | omega)
    have k1 := liftB hD q1 (by first | assumption | omega)
    have k2 := liftB hD q2 (by first | assumption | omega)
    have k3 := liftB hD q3 (by first | assumption | omega)
    have k4 := liftB hD q4 (by first | assumption | omega)
    have k5 := liftB hD q5 (by first | assumption | omega)
    have k6 := liftB hD q6 (by first | assumption | omega)
    have k7 := liftB hD q7 (by first | assumption | omega)
    have j0 := liftB hD u0 (by first | assumption | omega)
    have j1 := liftB hD u1 (by first | assumption | omega)
    have j2 := liftB hD u2 (by first | assumption | omega)
    have j3 := liftB hD u3 (by first | assumption | omega)
    have j4 := liftB hD u4 (by first | assumption | omega)
    have j5 := liftB hD u5 (by first | assumption | omega)
    simp only [takeOps, Act.put, List.setIfInBounds_toArray, List.set_cons_succ, List.set_cons_zero]
    repeat (go_big_quiet_step ((first | (go_at_call 20; first | (with_reducible exact calls_later hD _ (N0.out _)) | (with_reducible exact calls_later hD _ (N1.out _)) | (with_reducible exact calls_later hD _ (N2.out _)) | (with_reducible exact calls_later hD _ (N3.out _))) | (go_at_call 21; exact calls_same _ (RN.out _)) | (go_at_call 22; first | (with_reducible exact calls_later hD _ (C0.out _)) | (with_reducible exact calls_later hD _ (C1.out _))) | (go_at_call 23; exact calls_later hD _ (RC.out _)) | (go_at_call 24; first | (with_reducible exact calls_later hD _ (G0.out _)) | (with_reducible exact calls_later hD _ (G1.out _))) | (go_at_call 25; exact calls_later hD _ (RG.out _)) | (go_at_call 26; exact calls_later hD _ (F0'.out _ (kb hD _))) | (go_at_call 27; exact calls_later hD _ (RF'.out _ (kb hD _))) | (go_at_call 28; exact calls_later hD _ (SV.out _)) | (go_at_call 18; exact calls_later hD _ (works_any _)))))
    exact wpQuiet_nil rfl
  · intro d hd x x'
    simp only [List.mem_cons, List.not_mem_nil, or_false] at hd
    rcases hd with rfl | rfl | rfl | rfl | rfl | rfl | rfl | rfl | rfl | rfl | rfl | rfl | rfl | rfl | rfl
    all_goals rfl
  · refine ⟨?_, ?_, trivial⟩
    · refine obl_callL rfl (fun _ => by kernel_rfl) 29 (fun x => #[]) (fun x w => by kernel_rfl) ?_
      intro x w F hL hN
      refine (Hill_any w).mono ?_
      rintro e w' ⟨A1, e1, rfl, hb, ho⟩
      exact ⟨fun _ => (A1, e1), rfl, hb, (OwnF.of ho (Nat.le_refl _)).base hL.size⟩
    · refine obl_callL rfl (fun _ => by kernel_rfl) 26 (fun x => #[hillV (x 47 0).1 (x 47 0).2]) (fun x w => by kernel_rfl) ?_
      intro x w F hL hN
      have n47 := hN 47 (by simp)
      refine calls_one (y := fun _ => (none, 0)) (CheckField_any (-5000) (-5000) 5000 2 2 _ 4 _ hillL w rfl (by decide) (Ints.own n47.1 rfl (Nat.le_refl _))) ?_ (fun _ => trivial)
      rfl
  · refine ⟨?_, ?_, trivial⟩
    · refine ⟨fun x F wq wq' h hs hk => ?_, fun x x' F wq hx h => ?_⟩
      · have h2 : OwnF wq F W.heap.size 47 2 (.slice (x 47 0).1 4 (x 47 0).2) 4 ((flat2 hillL).map (Value.int .i64)) := h
        exact h2.stab hk
      · have h2 : OwnF wq F W.heap.size 47 2 (.slice (x 47 0).1 4 (x 47 0).2) 4 ((flat2 hillL).map (Value.int .i64)) := h
        rw [hx 47 (by simp)] at h2
        exact h2
    · exact owe_true (fun _ _ _ => trivial)
  intro xx w2 F hL2 hlv1
  obtain ⟨fct47, fct48, -⟩ := hlv1
  replace fct47 : OwnF w2 (F 47) W.heap.size 47 2 (.slice (xx 47 0).1 4 (xx 47 0).2) 4 ((flat2 hillL).map (Value.int .i64)) := fct47 rfl
  clear fct48
  replace HB := hide (onward HB.out hL2)
  replace Hs := hide (blk_later Hs.out hL2)
  replace Hf := hide (blk_later Hf.out hL2)
  clear hL2
  go_wp2
  go_ret
  exact ⟨rfl, HB.out⟩
end Go.Proofs.Ythhhecidogcmjaa
