/-
  The chapter's examples, call by call.
  The chapter's examples hold.
  Eyes as they lie in memory; their sights.
  Slices of sights; the ends of a reach.
  The law's functions: agrees, inside, wider, mixed, left.
  The law's functions: mixed, left.
  Parts of slices of sights.
  WindOutliers: plain words.
  WindReached: the ends of bounds are reached, and nothing is beyond.
-/
import Derived.Test.YtllpffkifleigaaWdWithout
import Derived.Test.YtllpffkifleigaaWdLook
import Derived.Test.YtllpffkifleigaaWdBounds
import Derived.Test.YtllpffkifleigaaWdAgree
import Derived.Test.YtllpffkifleigaaFewMath
import Derived.Test.YtllpffkifleigaaRegG
set_option linter.unusedSimpArgs false
set_option linter.unusedVariables false
section
namespace Go.Proofs.Ytllpffkifleigaa
open Go Go.RowKit

theorem allI_of_ok {l : List Sgt} (h : ∀ s ∈ l, SgtOk s) : AllI l := fun s hs => by
  obtain ⟨l1, l2, x1, x2, y1, y2, -, -, -, -⟩ := h s hs
  unfold I64
  omega
theorem ok_of {l : List Sgt} (h : listE l = 0) : AllI l := allI_of_ok (listE_ok.1 h).2
theorem ex_bE : bndsE (ex4.take 3) = 0 := by
  unfold bndsE
  rw [if_neg (by rw [ex_list.2.1]; simp), if_pos (ex_agr ex_emp.2.1)]
theorem ex_aE : alongE (ex4.take 2) 3 4 5 = 0 := by
  unfold alongE
  rw [if_neg (by rw [ex_list.2.2.1]; simp), if_pos (by decide), if_pos (ex_agr ex_emp.2.2.1)]
theorem ex_blE : blameE ex4 = 0 := by
  unfold blameE
  rw [if_neg (by rw [ex_list.1]; simp), if_neg (by rw [ex_no ex_emp.1]; simp)]
theorem ex_blA : blameA ex4 = [0, 1, 3] := by
  unfold blameA
  rw [if_pos ex_blE, ex_blame]
  rfl
theorem ex_blE3 : blameE (ex4.take 3) = 4 := by
  unfold blameE
  rw [if_neg (by rw [ex_list.2.1]; simp), if_pos (ex_agr ex_emp.2.1)]
theorem ex_blA3 : blameA (ex4.take 3) = [] := by
  unfold blameA
  rw [if_neg (by rw [ex_blE3]; simp)]
theorem ex_sA : strainA exS = 2250 := by
  unfold strainA
  rw [if_neg (by rw [ex_list.2.2.2.1]; simp), ex_strain]
theorem ex_wE1 : withoutE ex4 1 = 0 := by
  unfold withoutE
  rw [if_neg (by rw [ex_list.1]; simp), if_pos (by omega), show (1 : Int).toNat = 1 from rfl, ex_without.1]
  rfl
theorem ex_wA1 : withoutA ex4 1 = [3] := by
  unfold withoutA
  rw [if_pos ex_wE1, show (1 : Int).toNat = 1 from rfl, ex_without.1]
  rfl
theorem ex_wE0 : withoutE ex4 0 = 14 := by
  unfold withoutE
  rw [if_neg (by rw [ex_list.1]; simp), if_pos (by omega), show (0 : Int).toNat = 0 from rfl, ex_without.2]
  rfl
theorem ex_wA0 : withoutA ex4 0 = [] := by
  unfold withoutA
  rw [if_neg (by rw [ex_wE0]; simp)]
theorem ex_fE : frontE exF = 0 := by
  unfold frontE
  rw [if_neg (by rw [ex_list.2.2.2.2]; simp), if_neg (by decide), if_neg (by rw [ex_no ex_emp.2.2.2]; simp), ex_front]
  rfl
theorem ex_fA : frontA exF = (0, 2) := by
  unfold frontA
  rw [if_pos ex_fE, ex_front]
  rfl
theorem ex_gE : agreeE (ex4.take 3) 5100 0 = 0 ∧ agreeA (ex4.take 3) 5100 0 = true ∧ agreeE (ex4.take 3) 5200 0 = 0 ∧ agreeA (ex4.take 3) 5200 0 = false := by decide +kernel
def exN : ByteArray := ⟨#[115]⟩
theorem ex_site : siteE (nameB exN) 0 0 0 1 1 500 0 = 0 := by decide +kernel
theorem ex_lE : lookE 0 1 256 0 300 300 (-30) 30 = 0 ∧ lookA 0 1 256 0 300 300 (-30) 30 = ⟨4, 3, 5, 460, 540⟩ := by
  have h : lookE 0 1 256 0 300 300 (-30) 30 = 0 := by decide +kernel
  refine ⟨h, ?_⟩
  unfold lookA
  rw [if_pos h]
  unfold lookS
  congr 1
section
variable (g : Nat) (W : World)
theorem w_bounds (h : SgtsH W (some ⟨g, 0, none⟩) (ex4.take 3)) : Calls Try.prog 17 #[.slice (some ⟨g, 0, none⟩) 3 4] W fun e w' => e = .returned (.tuple #[.agg #[.int .i64 5000, .int .i64 5875, .int .i64 (-1000), .int .i64 0], .int .i64 0]) ∧ Below W.heap.size W w' := by
  have := Bounds_any (some ⟨g, 0, none⟩) (ex4.take 3) 4 W (by unfold maxLen; decide) h (ok_of ex_list.2.1)
  unfold bndB at this
  simp only [ex_bE, ex_bnds, if_true] at this
  exact this
theorem w_along (h : SgtsH W (some ⟨g, 0, none⟩) (ex4.take 2)) : Calls Try.prog 19 #[.slice (some ⟨g, 0, none⟩) 2 4, .int .i64 3, .int .i64 4, .int .i64 5] W fun e w' => e = .returned (.tuple #[.agg #[.int .i64 2200, .int .i64 3600], .int .i64 0]) ∧ Below W.heap.size W w' := by
  have := Along_any (some ⟨g, 0, none⟩) (ex4.take 2) 4 3 4 5 W (by unfold maxLen; decide) h (ok_of ex_list.2.2.1) (by unfold I64; omega) (by unfold I64; omega)
  unfold alongL alongH at this
  simp only [ex_aE, ex_along, if_true] at this
  exact this
theorem w_blame (h : SgtsH W (some ⟨g, 0, none⟩) ex4) : Calls Try.prog 21 #[.slice (some ⟨g, 0, none⟩) 4 4] W (SetPost W [0, 1, 3] 0) := by
  have := Blame_any (some ⟨g, 0, none⟩) ex4 4 W (by unfold maxLen; decide) h (ok_of ex_list.1)
  rw [ex_blA, ex_blE] at this
  exact this
theorem w_blame3 (h : SgtsH W (some ⟨g, 0, none⟩) (ex4.take 3)) : Calls Try.prog 21 #[.slice (some ⟨g, 0, none⟩) 3 4] W (SetPost W [] 4) := by
  have := Blame_any (some ⟨g, 0, none⟩) (ex4.take 3) 4 W (by unfold maxLen; decide) h (ok_of ex_list.2.1)
  rw [ex_blA3, ex_blE3] at this
  exact this
theorem w_strain (A : Option Addr) (c : Nat) (h : SgtsH W A exS) : Calls Try.prog 24 #[.slice A 3 c] W fun e w' => e = .returned (.tuple #[.int .i64 2250, .int .i64 0]) ∧ Below W.heap.size W w' := by
  have := Strain_any A exS c W (by unfold maxLen; decide) h (ok_of ex_list.2.2.2.1)
  rw [ex_sA, ex_list.2.2.2.1] at this
  exact this
theorem w_without1 (h : SgtsH W (some ⟨g, 0, none⟩) ex4) : Calls Try.prog 26 #[.slice (some ⟨g, 0, none⟩) 4 4, .int .i64 1] W (SetPost W [3] 0) := by
  have := Without_any (some ⟨g, 0, none⟩) ex4 4 1 W (by unfold maxLen; decide) h (ok_of ex_list.1)
  rw [ex_wA1, ex_wE1] at this
  exact this
theorem w_without0 (h : SgtsH W (some ⟨g, 0, none⟩) ex4) : Calls Try.prog 26 #[.slice (some ⟨g, 0, none⟩) 4 4, .int .i64 0] W (SetPost W [] 14) := by
  have := Without_any (some ⟨g, 0, none⟩) ex4 4 0 W (by unfold maxLen; decide) h (ok_of ex_list.1)
  rw [ex_wA0, ex_wE0] at this
  exact this
theorem w_front (A : Option Addr) (h : SgtsH W A exF) : Calls Try.prog 28 #[.slice A 4 4] W fun e w' => e = .returned (.tuple #[.int .i64 0, .int .i64 2, .int .i64 0]) ∧ Below W.heap.size W w' := by
  have := Front_any A exF 4 W (by unfold maxLen; decide) (by decide) h (ok_of ex_list.2.2.2.2)
  rw [ex_fA, ex_fE] at this
  exact this
theorem w_agree1 (h : SgtsH W (some ⟨g, 0, none⟩) (ex4.take 3)) : Calls Try.prog 15 #[.slice (some ⟨g, 0, none⟩) 3 4, .int .i64 5100, .int .i64 0] W fun e w' => e = .returned (.tuple #[.bool true, .int .i64 0]) ∧ Below W.heap.size W w' := by
  have := Agree_any (some ⟨g, 0, none⟩) (ex4.take 3) 4 5100 0 W (by unfold maxLen; decide) h (ok_of ex_list.2.1)
  rw [ex_gE.1, ex_gE.2.1] at this
  exact this
theorem w_agree2 (h : SgtsH W (some ⟨g, 0, none⟩) (ex4.take 3)) : Calls Try.prog 15 #[.slice (some ⟨g, 0, none⟩) 3 4, .int .i64 5200, .int .i64 0] W fun e w' => e = .returned (.tuple #[.bool false, .int .i64 0]) ∧ Below W.heap.size W w' := by
  have := Agree_any (some ⟨g, 0, none⟩) (ex4.take 3) 4 5200 0 W (by unfold maxLen; decide) h (ok_of ex_list.2.1)
  rw [ex_gE.2.2.1, ex_gE.2.2.2] at this
  exact this
theorem w_look : Calls Try.prog 41 #[.agg #[.string exN, .int .i64 0, .int .i64 0, .int .i64 0, .int .i64 1, .int .i64 1, .int .i64 500, .int .i64 0], .int .i64 256, .int .i64 0, .agg #[.int .i64 300, .int .i64 300], .agg #[.int .i64 (-30), .int .i64 30]] W fun e w' =>
    e = .returned (.tuple #[.agg #[.int .i64 4, .int .i64 3, .int .i64 5, .int .i64 460, .int .i64 540], .int .i64 0]) ∧ Below W.heap.size W w' := by
  have := Look_any exN 0 0 0 1 1 500 0 256 0 300 300 (-30) 30 W (by decide)
  rw [ex_site, ex_lE.1, ex_lE.2] at this
  exact this
end
end Go.Proofs.Ytllpffkifleigaa
end
section
namespace Go.Proofs.Ytllpffkifleigaa
open Go Go.RowKit

def exC : Array Value := #[.int .i64 1, .int .i64 0, .int .i64 1, .int .i64 5000, .int .i64 6000, .int .i64 0, .int .i64 1, .int .i64 1, .int .i64 (-1000), .int .i64 0, .int .i64 4, .int .i64 3, .int .i64 5, .int .i64 4000, .int .i64 4100, .int .i64 3, .int .i64 4, .int .i64 5, .int .i64 9000, .int .i64 9000]
theorem exC_eq : (sgsV ex4).toArray = exC := rfl
theorem ex_at {W : World} {g : Nat} (h : Blk W g 71 exC) : SgtsH W (some ⟨g, 0, none⟩) ex4 := sgts_blk h fun i u hu => by rw [← exC_eq, List.getElem?_toArray]; exact hu
set_option maxHeartbeats 4000000 in
set_option maxRecDepth 100000 in
theorem works_any (w : World) : Calls Try.prog 13 #[] w fun e w' => e = .returned (.bool true) ∧ Below w.heap.size w w' := by
  go_enter Try.func13, Try.ntmps13
  have HM := hide (Mem.start w)
  go_wp2_with fail
  refine (example_any _).mono ?_
  rintro e w1 ⟨g, rfl, hb, hg⟩
  replace HM := hide (HM.out.later hb)
  clear hb
  rw [exC_eq] at hg
  have HX := hide (ex_at hg)
  have Hg := hide hg
  clear hg
  go_wp2_with fail
  refine (w_bounds g _ (HX.out.take 3)).mono ?_
  rintro e w2 ⟨rfl, hb⟩
  replace HM := hide (HM.out.later hb)
  replace HX := hide (HX.out.later hb)
  replace Hg := hide (blk_later Hg.out hb)
  clear hb
  go_upto_region 3 with fail
  refine code_world fun w3 hW => ?_
  have HMn := Mem.to (Mem.allocAt HM.out w2.heap.size rfl #[.int .i64 5000, .int .i64 5875, .int .i64 (-1000), .int .i64 0] 34) hW
  have LW : Later w2 w3 := by rw [hW]; exact ((Below.refl _ _).alloc (Nat.le_refl _) _)
  have szW : w3.heap.size = w2.heap.size + 1 := by rw [hW]; simp
  clear hW
  replace HX := hide (HX.out.later LW)
  replace Hg := hide (blk_later Hg.out LW)
  replace HM := hide HMn
  clear HMn LW
  clear szW
  generalize hgw : w2.heap.size = gw at HM ⊢
  clear hgw
  go_wp2_with fail
  refine (w_along g _ (HX.out.take 2)).mono ?_
  rintro e w4 ⟨rfl, hb⟩
  replace HM := hide (HM.out.later hb)
  replace HX := hide (HX.out.later hb)
  replace Hg := hide (blk_later Hg.out hb)
  clear hb
  go_upto_region 4 with fail
  refine code_world fun w5 hW => ?_
  have HMn := Mem.to (Mem.allocAt HM.out w4.heap.size rfl #[.int .i64 2200, .int .i64 3600] 32) hW
  have LW : Later w4 w5 := by rw [hW]; exact ((Below.refl _ _).alloc (Nat.le_refl _) _)
  have szW : w5.heap.size = w4.heap.size + 1 := by rw [hW]; simp
  clear hW
  replace HX := hide (HX.out.later LW)
  replace Hg := hide (blk_later Hg.out LW)
  replace HM := hide HMn
  clear HMn LW
  clear szW
  generalize hga : w4.heap.size = ga at HM ⊢
  clear hga
  go_wp2_with fail
  refine (w_blame g _ HX.out).mono ?_
  rintro e w6 ⟨A6, c6, rfl, hb, hs6⟩
  replace HM := hide (HM.out.later hb)
  replace HX := hide (HX.out.later hb)
  replace Hg := hide (blk_later Hg.out hb)
  clear hb
  have HS6 := hide hs6
  clear hs6
  go_wp2_with fail
  refine (w_blame3 g _ (HX.out.take 3)).mono ?_
  rintro e w7 ⟨A7, c7, rfl, hb, hs7⟩
  replace HM := hide (HM.out.later hb)
  replace HX := hide (HX.out.later hb)
  replace HS6 := hide (HS6.out.later hb)
  replace Hg := hide (blk_later Hg.out hb)
  clear hb
  clear hs7
  have ba : Blk w7 gw 34 #[.int .i64 5000, .int .i64 5875, .int .i64 (-1000), .int .i64 0] := HM.out.get 1 rfl
  have lta := ba.lt
  have a0 := ba.c 0 rfl
  have a1 := ba.c 1 rfl
  have a2 := ba.c 2 rfl
  have a3 := ba.c 3 rfl
  have bc : Blk w7 ga 32 #[.int .i64 2200, .int .i64 3600] := HM.out.get 0 rfl
  have ltc := bc.lt
  have c0 := bc.c 0 rfl
  have c1 := bc.c 1 rfl
  go_wp2_with fail
  apply wp_region_L (w0 := w7) [[], [], [], [], [], [], [], [], [], [], [], [], [], [], [], [], [], [], [], [], [], [], [], [], [], [], [], [], [], [], [], [], [], [], [33], [33, 34], [33, 34]] [true, true, true, true, true, true, true, true, true, true, true, true, true, true, true, true, true, true, true, true, true, true, true, true, true, true, true, true, true, true, true, true, true, false, false, true, true] [⟨33, none, [], []⟩, ⟨34, none, [33], []⟩] (fun ixq y => match ixq with | 33 => .slice (y 0).1 3 3 | 34 => .bool true | _ => undef) (fun ixq x F wq => match ixq with | 33 => OwnF wq F w7.heap.size 3 1 (.slice (x 33 0).1 3 3) 3 #[.int .i64 0, .int .i64 1, .int .i64 3].toList | 34 => True | _ => True) (fun a x => ((a).put (some 74) (.slice ((x 33) 0).1 3 3)).put (some 75) (.bool true)) (by kernel_rfl) (by kernel_rfl) (fun _ => rfl) [58, 64, 69] (by kernel_rfl)
  · intro x D hD
    have hne := hD.some
    have k0 := liftB hD a0 (by first | assumption | omega)
    have k1 := liftB hD a1 (by first | assumption | omega)
    have k2 := liftB hD a2 (by first | assumption | omega)
    have k3 := liftB hD a3 (by first | assumption | omega)
    have l0 := liftB hD c0 (by first | assumption | omega)
    have l1 := liftB hD c1 (by first | assumption | omega)
    simp only [takeOps, Act.put, List.setIfInBounds_toArray, List.set_cons_succ, List.set_cons_zero]
    repeat (go_big_quiet_step ((go_at_call 40; exact calls_later hD _ (span_any _ _ _))))
    exact wpQuiet_nil rfl
  · intro d hd x x'
    simp only [List.mem_cons, List.not_mem_nil, or_false] at hd
    rcases hd with rfl | rfl | rfl
    all_goals rfl
  · refine ⟨?_, ?_, trivial⟩
    · exact obl_new rfl (fun _ => by kernel_rfl) 3 (fun x => #[.int .i64 0, .int .i64 1, .int .i64 3]) gP (fun x w => by kernel_rfl) (fun x w hle => own_new hle rfl (by unfold maxLen; omega))
    · refine obl_callL rfl (fun _ => by kernel_rfl) 23 (fun x => #[.slice A6 3 c6, .slice (x 33 0).1 3 3]) (fun x w => by kernel_rfl) ?_
      intro x w F hL hN
      have n33 := hN 33 (by simp)
      have c := numbers_any A6 (x 33 0).1 3 c6 3 w.heap.size [0, 1, 3] w rfl (by decide) (Nat.le_refl _) (HS6.out.later hL).ints (Ints.own n33.1 rfl (Nat.le_refl _))
      exact calls_one (y := fun _ => (none, 0)) c rfl (fun _ => trivial)
  · refine ⟨?_, ?_, trivial⟩
    · refine ⟨fun x F wq wq' h hs hk => ?_, fun x x' F wq hx h => ?_⟩
      · have h2 : OwnF wq F w7.heap.size 3 1 (.slice (x 33 0).1 3 3) 3 #[.int .i64 0, .int .i64 1, .int .i64 3].toList := h
        exact h2.stab hk
      · have h2 : OwnF wq F w7.heap.size 3 1 (.slice (x 33 0).1 3 3) 3 #[.int .i64 0, .int .i64 1, .int .i64 3].toList := h
        rw [hx 33 (by simp)] at h2
        exact h2
    · exact owe_true (fun _ _ _ => trivial)
  intro xx w8 F hL hlv1
  obtain ⟨fct33, fct34, -⟩ := hlv1
  replace fct33 : OwnF w8 (F 33) w7.heap.size 3 1 (.slice (xx 33 0).1 3 3) 3 #[.int .i64 0, .int .i64 1, .int .i64 3].toList := fct33 rfl
  clear fct34
  clear fct33
  replace HM := hide (HM.out.later hL)
  replace HX := hide (HX.out.later hL)
  replace HS6 := hide (HS6.out.later hL)
  replace Hg := hide (blk_later Hg.out hL)
  clear hL ba lta a0 a1 a2 a3 bc ltc c0 c1
  clear HS6
  go_wp2_with fail
  have q0 := Hg.out.c 0 rfl
  have q1 := Hg.out.c 1 rfl
  have q2 := Hg.out.c 2 rfl
  have q3 := Hg.out.c 3 rfl
  have q4 := Hg.out.c 4 rfl
  have p0 := Hg.out.c 5 rfl
  have p1 := Hg.out.c 6 rfl
  have p2 := Hg.out.c 7 rfl
  have p3 := Hg.out.c 8 rfl
  have p4 := Hg.out.c 9 rfl
  have ltg := Hg.out.lt
  have r0 := Hg.out.c 15 rfl
  have r1 := Hg.out.c 16 rfl
  have r2 := Hg.out.c 17 rfl
  have r3 := Hg.out.c 18 rfl
  have r4 := Hg.out.c 19 rfl
  apply wp_region_L (w0 := w8) [[], [], [], [], [], [], [], [], [], [], [9], [9, 10], [9, 10], [9, 10], [9, 10], [9, 10]] [true, true, true, true, true, true, true, true, true, false, false, true, true, true, true, true] [⟨9, none, [], []⟩, ⟨10, none, [9], []⟩] (fun ixq y => match ixq with | 9 => .slice (y 0).1 3 3 | 10 => .tuple #[.int .i64 2250, .int .i64 0] | _ => undef) (fun ixq x F wq => match ixq with | 9 => OwnF wq F w8.heap.size 71 5 (.slice (x 9 0).1 3 3) 3 #[.int .i64 1, .int .i64 0, .int .i64 1, .int .i64 5000, .int .i64 6000, .int .i64 0, .int .i64 1, .int .i64 1, .int .i64 (-1000), .int .i64 0, .int .i64 3, .int .i64 4, .int .i64 5, .int .i64 9000, .int .i64 9000].toList | 10 => True | _ => True) (fun a x => ((a).put (some 88) (.slice ((x 9) 0).1 3 3)).put (some 89) (.tuple #[.int .i64 2250, .int .i64 0])) (by kernel_rfl) (by kernel_rfl) (fun _ => rfl) [] (by kernel_rfl)
  · intro x D hD
    have hne := hD.some
    have k0 := liftB hD q0 (by first | assumption | omega)
    have k1 := liftB hD q1 (by first | assumption | omega)
    have k2 := liftB hD q2 (by first | assumption | omega)
    have k3 := liftB hD q3 (by first | assumption | omega)
    have k4 := liftB hD q4 (by first | assumption | omega)
    have l0 := liftB hD p0 (by first | assumption | omega)
    have l1 := liftB hD p1 (by first | assumption | omega)
    have l2 := liftB hD p2 (by first | assumption | omega)
    have l3 := liftB hD p3 (by first | assumption | omega)
    have l4 := liftB hD p4 (by first | assumption | omega)
    have m0 := liftB hD r0 (by first | assumption | omega)
    have m1 := liftB hD r1 (by first | assumption | omega)
    have m2 := liftB hD r2 (by first | assumption | omega)
    have m3 := liftB hD r3 (by first | assumption | omega)
    have m4 := liftB hD r4 (by first | assumption | omega)
    simp only [takeOps, Act.put, List.setIfInBounds_toArray, List.set_cons_succ, List.set_cons_zero]
    repeat (go_big_quiet_step (fail))
    exact wpQuiet_nil rfl
  · exact fun _ h => absurd h (by simp)
  · refine ⟨?_, ?_, trivial⟩
    · exact obl_new rfl (fun _ => by kernel_rfl) 71 (fun x => #[.int .i64 1, .int .i64 0, .int .i64 1, .int .i64 5000, .int .i64 6000, .int .i64 0, .int .i64 1, .int .i64 1, .int .i64 (-1000), .int .i64 0, .int .i64 3, .int .i64 4, .int .i64 5, .int .i64 9000, .int .i64 9000]) gP (fun x w => by kernel_rfl) (fun x w hle => own_new hle rfl (by unfold maxLen; omega))
    · refine obl_callL rfl (fun _ => by kernel_rfl) 24 (fun x => #[.slice (x 9 0).1 3 3]) (fun x w => by kernel_rfl) ?_
      intro x w F hL hN
      have n9 := hN 9 (by simp)
      exact calls_one (y := fun _ => (none, 0)) (w_strain w _ _ (sgts_own (L := exS) rfl n9.1)) rfl (fun _ => trivial)
  · refine ⟨?_, ?_, trivial⟩
    · refine ⟨fun x F wq wq' h hs hk => ?_, fun x x' F wq hx h => ?_⟩
      · have h2 : OwnF wq F w8.heap.size 71 5 (.slice (x 9 0).1 3 3) 3 #[.int .i64 1, .int .i64 0, .int .i64 1, .int .i64 5000, .int .i64 6000, .int .i64 0, .int .i64 1, .int .i64 1, .int .i64 (-1000), .int .i64 0, .int .i64 3, .int .i64 4, .int .i64 5, .int .i64 9000, .int .i64 9000].toList := h
        exact h2.stab hk
      · have h2 : OwnF wq F w8.heap.size 71 5 (.slice (x 9 0).1 3 3) 3 #[.int .i64 1, .int .i64 0, .int .i64 1, .int .i64 5000, .int .i64 6000, .int .i64 0, .int .i64 1, .int .i64 1, .int .i64 (-1000), .int .i64 0, .int .i64 3, .int .i64 4, .int .i64 5, .int .i64 9000, .int .i64 9000].toList := h
        rw [hx 9 (by simp)] at h2
        exact h2
    · exact owe_true (fun _ _ _ => trivial)
  intro xx w9 F hL hlv2
  obtain ⟨fct9, fct10, -⟩ := hlv2
  replace fct9 : OwnF w9 (F 9) w8.heap.size 71 5 (.slice (xx 9 0).1 3 3) 3 #[.int .i64 1, .int .i64 0, .int .i64 1, .int .i64 5000, .int .i64 6000, .int .i64 0, .int .i64 1, .int .i64 1, .int .i64 (-1000), .int .i64 0, .int .i64 3, .int .i64 4, .int .i64 5, .int .i64 9000, .int .i64 9000].toList := fct9 rfl
  clear fct10
  clear fct9 q0 q1 q2 q3 q4 p0 p1 p2 p3 p4 r0 r1 r2 r3 r4 ltg
  replace HM := hide (HM.out.later hL)
  replace HX := hide (HX.out.later hL)
  replace Hg := hide (blk_later Hg.out hL)
  clear hL
  go_wp2_with fail
  refine (w_without1 g _ HX.out).mono ?_
  rintro e w10 ⟨A10, c10, rfl, hb, hs10⟩
  replace HM := hide (HM.out.later hb)
  replace HX := hide (HX.out.later hb)
  replace Hg := hide (blk_later Hg.out hb)
  clear hb
  have HS10 := hide hs10
  clear hs10
  go_wp2_with fail
  refine (w_without0 g _ HX.out).mono ?_
  rintro e w11 ⟨A11, c11, rfl, hb, hs11⟩
  replace HM := hide (HM.out.later hb)
  replace HX := hide (HX.out.later hb)
  replace HS10 := hide (HS10.out.later hb)
  replace Hg := hide (blk_later Hg.out hb)
  clear hb
  clear hs11
  go_wp2_with fail
  have q0 := Hg.out.c 0 rfl
  have q1 := Hg.out.c 1 rfl
  have q2 := Hg.out.c 2 rfl
  have q3 := Hg.out.c 3 rfl
  have q4 := Hg.out.c 4 rfl
  have p0 := Hg.out.c 5 rfl
  have p1 := Hg.out.c 6 rfl
  have p2 := Hg.out.c 7 rfl
  have p3 := Hg.out.c 8 rfl
  have p4 := Hg.out.c 9 rfl
  have ltg := Hg.out.lt
  apply wp_region_L (w0 := w11) [[], [], [], [], [], [], [], [], [], [8], [8, 9], [8, 9], [8, 9], [8, 9], [8, 9], [8, 9], [8, 9]] [true, true, true, true, true, true, true, true, false, false, true, true, true, true, true, true, true] [⟨8, none, [], []⟩, ⟨9, none, [8], []⟩] (fun ixq y => match ixq with | 8 => .slice (y 0).1 4 4 | 9 => .tuple #[.int .i64 0, .int .i64 2, .int .i64 0] | _ => undef) (fun ixq x F wq => match ixq with | 8 => OwnF wq F w11.heap.size 71 5 (.slice (x 8 0).1 4 4) 4 #[.int .i64 1, .int .i64 0, .int .i64 1, .int .i64 5000, .int .i64 6000, .int .i64 0, .int .i64 1, .int .i64 1, .int .i64 (-1000), .int .i64 0, .int .i64 1, .int .i64 0, .int .i64 1, .int .i64 (-6000), .int .i64 (-5000), .int .i64 0, .int .i64 1, .int .i64 1, .int .i64 3000, .int .i64 4000].toList | 9 => True | _ => True) (fun a x => ((a).put (some 111) (.slice ((x 8) 0).1 4 4)).put (some 112) (.tuple #[.int .i64 0, .int .i64 2, .int .i64 0])) (by kernel_rfl) (by kernel_rfl) (fun _ => rfl) [109, 110] (by kernel_rfl)
  · intro x D hD
    have hne := hD.some
    have k0 := liftB hD q0 (by first | assumption | omega)
    have k1 := liftB hD q1 (by first | assumption | omega)
    have k2 := liftB hD q2 (by first | assumption | omega)
    have k3 := liftB hD q3 (by first | assumption | omega)
    have k4 := liftB hD q4 (by first | assumption | omega)
    have l0 := liftB hD p0 (by first | assumption | omega)
    have l1 := liftB hD p1 (by first | assumption | omega)
    have l2 := liftB hD p2 (by first | assumption | omega)
    have l3 := liftB hD p3 (by first | assumption | omega)
    have l4 := liftB hD p4 (by first | assumption | omega)
    simp only [takeOps, Act.put, List.setIfInBounds_toArray, List.set_cons_succ, List.set_cons_zero]
    repeat (go_big_quiet_step ((go_at_call 39; exact calls_later hD _ (sight_any _ _ _ _ _ _))))
    exact wpQuiet_nil rfl
  · intro d hd x x'
    simp only [List.mem_cons, List.not_mem_nil, or_false] at hd
    rcases hd with rfl | rfl
    all_goals rfl
  · refine ⟨?_, ?_, trivial⟩
    · exact obl_new rfl (fun _ => by kernel_rfl) 71 (fun x => #[.int .i64 1, .int .i64 0, .int .i64 1, .int .i64 5000, .int .i64 6000, .int .i64 0, .int .i64 1, .int .i64 1, .int .i64 (-1000), .int .i64 0, .int .i64 1, .int .i64 0, .int .i64 1, .int .i64 (-6000), .int .i64 (-5000), .int .i64 0, .int .i64 1, .int .i64 1, .int .i64 3000, .int .i64 4000]) gP (fun x w => by kernel_rfl) (fun x w hle => own_new hle rfl (by unfold maxLen; omega))
    · refine obl_callL rfl (fun _ => by kernel_rfl) 28 (fun x => #[.slice (x 8 0).1 4 4]) (fun x w => by kernel_rfl) ?_
      intro x w F hL hN
      have n8 := hN 8 (by simp)
      exact calls_one (y := fun _ => (none, 0)) (w_front w _ (sgts_own (L := exF) rfl n8.1)) rfl (fun _ => trivial)
  · refine ⟨?_, ?_, trivial⟩
    · refine ⟨fun x F wq wq' h hs hk => ?_, fun x x' F wq hx h => ?_⟩
      · have h2 : OwnF wq F w11.heap.size 71 5 (.slice (x 8 0).1 4 4) 4 #[.int .i64 1, .int .i64 0, .int .i64 1, .int .i64 5000, .int .i64 6000, .int .i64 0, .int .i64 1, .int .i64 1, .int .i64 (-1000), .int .i64 0, .int .i64 1, .int .i64 0, .int .i64 1, .int .i64 (-6000), .int .i64 (-5000), .int .i64 0, .int .i64 1, .int .i64 1, .int .i64 3000, .int .i64 4000].toList := h
        exact h2.stab hk
      · have h2 : OwnF wq F w11.heap.size 71 5 (.slice (x 8 0).1 4 4) 4 #[.int .i64 1, .int .i64 0, .int .i64 1, .int .i64 5000, .int .i64 6000, .int .i64 0, .int .i64 1, .int .i64 1, .int .i64 (-1000), .int .i64 0, .int .i64 1, .int .i64 0, .int .i64 1, .int .i64 (-6000), .int .i64 (-5000), .int .i64 0, .int .i64 1, .int .i64 1, .int .i64 3000, .int .i64 4000].toList := h
        rw [hx 8 (by simp)] at h2
        exact h2
    · exact owe_true (fun _ _ _ => trivial)
  intro xx w12 F hL hlv3
  obtain ⟨fct8, fct9, -⟩ := hlv3
  replace fct8 : OwnF w12 (F 8) w11.heap.size 71 5 (.slice (xx 8 0).1 4 4) 4 #[.int .i64 1, .int .i64 0, .int .i64 1, .int .i64 5000, .int .i64 6000, .int .i64 0, .int .i64 1, .int .i64 1, .int .i64 (-1000), .int .i64 0, .int .i64 1, .int .i64 0, .int .i64 1, .int .i64 (-6000), .int .i64 (-5000), .int .i64 0, .int .i64 1, .int .i64 1, .int .i64 3000, .int .i64 4000].toList := fct8 rfl
  clear fct9
  clear fct8 q0 q1 q2 q3 q4 p0 p1 p2 p3 p4 ltg
  replace HM := hide (HM.out.later hL)
  replace HX := hide (HX.out.later hL)
  replace HS10 := hide (HS10.out.later hL)
  replace Hg := hide (blk_later Hg.out hL)
  clear hL
  go_wp2_with fail
  refine at_world fun w13 hW => ?_
  have HMn := Mem.to (Mem.allocAt HM.out w12.heap.size rfl #[.int .i64 3] 3) hW
  have LW : Later w12 w13 := by rw [hW]; exact ((Below.refl _ _).alloc (Nat.le_refl _) _)
  have szW : w13.heap.size = w12.heap.size + 1 := by rw [hW]; simp
  clear hW
  replace HX := hide (HX.out.later LW)
  replace HS10 := hide (HS10.out.later LW)
  replace Hg := hide (blk_later Hg.out LW)
  replace HM := hide HMn
  clear HMn LW
  clear szW
  generalize hgz : w12.heap.size = gz at HM ⊢
  clear hgz
  have hz := HM.out.blk_ 0 rfl
  have c := numbers_any A10 (some ⟨gz, 0, none⟩) 1 c10 1 w13.heap.size [3] w13 rfl (by decide) (Nat.le_refl _) HS10.out.ints (fun _ => ⟨gz, 0, rfl, hz.lt, fun j hj => by
    have e : j = 0 := by simpa using hj
    subst e
    exact hz.c 0 rfl⟩)
  clear hz
  refine (c).mono ?_
  rintro e w14 ⟨rfl, hb⟩
  replace HM := hide (HM.out.later hb)
  replace HX := hide (HX.out.later hb)
  replace HS10 := hide (HS10.out.later hb)
  replace Hg := hide (blk_later Hg.out hb)
  clear hb
  clear c
  go_wp2_with fail
  refine (span_any _ _ _).mono ?_
  rintro e w15 ⟨rfl, hb⟩
  replace HM := hide (HM.out.later hb)
  replace HX := hide (HX.out.later hb)
  replace HS10 := hide (HS10.out.later hb)
  replace Hg := hide (blk_later Hg.out hb)
  clear hb
  go_wp2_with fail
  refine (span_any _ _ _).mono ?_
  rintro e w16 ⟨rfl, hb⟩
  replace HM := hide (HM.out.later hb)
  replace HX := hide (HX.out.later hb)
  replace HS10 := hide (HS10.out.later hb)
  replace Hg := hide (blk_later Hg.out hb)
  clear hb
  go_wp2_with fail
  refine (w_look _).mono ?_
  rintro e w17 ⟨rfl, hb⟩
  replace HM := hide (HM.out.later hb)
  replace HX := hide (HX.out.later hb)
  replace HS10 := hide (HS10.out.later hb)
  replace Hg := hide (blk_later Hg.out hb)
  clear hb
  go_upto_region 15 with fail
  refine code_world fun w18 hW => ?_
  have HMn := Mem.to (Mem.allocAt HM.out w17.heap.size rfl #[.int .i64 4, .int .i64 3, .int .i64 5, .int .i64 460, .int .i64 540] 71) hW
  have LW : Later w17 w18 := by rw [hW]; exact ((Below.refl _ _).alloc (Nat.le_refl _) _)
  have szW : w18.heap.size = w17.heap.size + 1 := by rw [hW]; simp
  clear hW
  replace HX := hide (HX.out.later LW)
  replace HS10 := hide (HS10.out.later LW)
  replace Hg := hide (blk_later Hg.out LW)
  replace HM := hide HMn
  clear HMn LW
  clear szW
  generalize hgy : w17.heap.size = gy at HM ⊢
  clear hgy
  go_wp2_with fail
  refine (w_agree1 g _ (HX.out.take 3)).mono ?_
  rintro e w19 ⟨rfl, hb⟩
  replace HM := hide (HM.out.later hb)
  replace HX := hide (HX.out.later hb)
  replace HS10 := hide (HS10.out.later hb)
  replace Hg := hide (blk_later Hg.out hb)
  clear hb
  go_wp2_with fail
  refine (w_agree2 g _ (HX.out.take 3)).mono ?_
  rintro e w20 ⟨rfl, hb⟩
  replace HM := hide (HM.out.later hb)
  replace HX := hide (HX.out.later hb)
  replace HS10 := hide (HS10.out.later hb)
  replace Hg := hide (blk_later Hg.out hb)
  clear hb
  have ba : Blk w20 gy 71 #[.int .i64 4, .int .i64 3, .int .i64 5, .int .i64 460, .int .i64 540] := HM.out.get 0 rfl
  have lta := ba.lt
  have a0 := ba.c 0 rfl
  have a1 := ba.c 1 rfl
  have a2 := ba.c 2 rfl
  have a3 := ba.c 3 rfl
  have a4 := ba.c 4 rfl
  go_wp2_with fail
  apply wp_region_L (w0 := w20) [[], [], [], [], [], [], [], [], [], [], [], [], [], [], [], [], [], [], [], [], [], [], []] [true, true, true, true, true, true, true, true, true, true, true, true, true, true, true, true, true, true, true, true, true, true, true] [] (fun ixq y => match ixq with  | _ => undef) (fun ixq x F wq => match ixq with  | _ => True) (fun a x => a) (by kernel_rfl) (by kernel_rfl) (fun _ => rfl) [179] (by kernel_rfl)
  · intro x D hD
    have hne := hD.some
    have k0 := liftB hD a0 (by first | assumption | omega)
    have k1 := liftB hD a1 (by first | assumption | omega)
    have k2 := liftB hD a2 (by first | assumption | omega)
    have k3 := liftB hD a3 (by first | assumption | omega)
    have k4 := liftB hD a4 (by first | assumption | omega)
    simp only [takeOps, Act.put, List.setIfInBounds_toArray, List.set_cons_succ, List.set_cons_zero]
    repeat (go_big_quiet_step ((go_at_call 39; exact calls_later hD _ (sight_any _ _ _ _ _ _))))
    exact wpQuiet_nil rfl
  · intro d hd x x'
    simp only [List.mem_cons, List.not_mem_nil, or_false] at hd
    rcases hd with rfl
    all_goals rfl
  · exact trivial
  · exact trivial
  intro xx w21 F hL hlv4
  clear hlv4
  replace HM := hide (HM.out.later hL)
  replace HX := hide (HX.out.later hL)
  replace HS10 := hide (HS10.out.later hL)
  replace Hg := hide (blk_later Hg.out hL)
  clear hL ba lta a0 a1 a2 a3 a4
  go_wp2
  exact bodyPost_ret (v := .bool true) (by simp [results, Try.results13, go_sem]) rfl ⟨rfl, HM.out.below⟩
end Go.Proofs.Ytllpffkifleigaa
end
section
namespace Go.Proofs.Ytllpffkifleigaa
open Go Go.RowKit

theorem sightInfo : (Try.prog.info? 71).map (fun i => (i.zero, i.size, i.bytes)) = some (some (.agg #[.int .i64 0, .int .i64 0, .int .i64 0, .int .i64 0, .int .i64 0]), 5, 40) := by kernel_rfl
def EyesAt (w : World) (B : Nat) (A : Option Addr) (E : List EyeN) : Prop := 0 < E.length → ∃ b off, A = some ⟨b, off, none⟩ ∧ b < B ∧ ∀ i, i < E.length →
  w.cell? ⟨b, off + i * 4, none⟩ = some (.int .u8 (E.getD i eye0).ro) ∧ w.cell? ⟨b, off + i * 4 + 1, none⟩ = some (.int .u8 (E.getD i eye0).di) ∧ w.cell? ⟨b, off + i * 4 + 2, none⟩ = some (.int .u16 (E.getD i eye0).le) ∧ w.cell? ⟨b, off + i * 4 + 3, none⟩ = some (.int .u16 (E.getD i eye0).mo)
def eyeC (e : EyeN) : Value := .agg #[.int .u8 e.ro, .int .u8 e.di, .int .u16 e.le, .int .u16 e.mo]
theorem div_bd {a b X : Int} (hb : 0 < b) (h1 : -X ≤ a) (h2 : a ≤ X) (hX : 0 ≤ X) : -X ≤ a / b ∧ a / b ≤ X := by
  have e1 := Int.ediv_mul_le a (show b ≠ 0 by omega)
  have e2 := Int.lt_ediv_add_one_mul_self a hb
  constructor
  · apply Classical.byContradiction
    intro hc
    have m := Int.mul_le_mul_of_nonneg_right (show a / b + 1 ≤ -X by omega) (show 0 ≤ b by omega)
    have n := Int.mul_le_mul_of_nonneg_left (show 1 ≤ b by omega) hX
    rw [Int.neg_mul] at m
    omega
  · apply Classical.byContradiction
    intro hc
    have m := Int.mul_le_mul_of_nonneg_right (show X + 1 ≤ a / b by omega) (show 0 ≤ b by omega)
    have n := Int.mul_le_mul_of_nonneg_left (show 1 ≤ b by omega) (show 0 ≤ X + 1 by omega)
    omega
set_option maxHeartbeats 1000000 in
set_option maxRecDepth 100000 in
theorem ldown_any (a b : Int) (w : World) (hb : 0 < b) (h1 : -1000000000000000000 ≤ a) (h2 : a ≤ 1000000000000000000) (hb2 : b ≤ 1000000000000000000) :
    Calls Try.prog 52 #[.int .i64 a, .int .i64 b] w fun e w' => e = .returned (.int .i64 (a / b)) ∧ Below w.heap.size w w' := by
  obtain ⟨b1, b2, b3, b4⟩ := floor_bd hb h1 h2
  have hm := tdiv_floor (a := a) hb
  have hb0 : b ≠ 0 := by omega
  have hb3 : ¬ b < 1 := by omega
  have ht : (a.tmod b).natAbs < b.natAbs := by rw [Int.natAbs_tmod]; exact Nat.mod_lt _ (by omega)
  obtain ⟨q, hq⟩ : ∃ q, a.tdiv b = q := ⟨_, rfl⟩
  obtain ⟨t, htt⟩ : ∃ t, a.tmod b = t := ⟨_, rfl⟩
  rw [hq] at b1 b2 b3 b4 hm
  rw [htt] at hm ht
  by_cases h3 : t < 0
  all_goals
    first | rw [if_pos h3] at hm | rw [if_neg h3] at hm
    rw [hm]
    clear hm
    go_enter Try.func52, Try.ntmps52
    go_wp2
    go_ret
    exact ⟨rfl, Below.refl _ _⟩
set_option maxHeartbeats 1000000 in
set_option maxRecDepth 100000 in
theorem eyelook_any (e : EyeN) (u v : Int) (w : World) (he : EyeOk e) (hu : -32768 ≤ u ∧ u ≤ 32767) (hv : -32768 ≤ v ∧ v ≤ 32767) :
    Calls Try.prog 38 #[eyeC e, .int .i64 u, .int .i64 v] w fun en w' => en = .returned (sgC (eyeT u v e)) ∧ Below w.heap.size w w' := by
  obtain ⟨r0, r1, d0, d1, l0, l1, m0, m1⟩ := he
  obtain ⟨ro, di, le, mo⟩ := e
  simp only at *
  obtain ⟨k1, k2⟩ := rose_bd r0
  obtain ⟨k3, k4⟩ := rosed_bd r0 d0
  have dk := dirE_ok r0 d0
  have hD := fun W => Direction_any (roseE ro) (di % (4 * roseE ro)) W
  have hdr : dirR (roseE ro) (di % (4 * roseE ro)) = (dirE ro di, 0) := by
    unfold dirR
    rw [if_pos]
    · rfl
    unfold okD
    rw [Bool.and_eq_true]
    exact ⟨winB_iff.2 ⟨by omega, by omega⟩, winB_iff.2 ⟨by omega, by omega⟩⟩
  rw [hdr] at hD
  unfold vecE at hD
  have t1 : ro.tmod 20 = ro % 20 := Int.tmod_eq_emod_of_nonneg r0
  have t2 : ∀ b, di.tmod b = di % b := fun b => Int.tmod_eq_emod_of_nonneg d0
  have t3 : le.tmod 3000 = le % 3000 := Int.tmod_eq_emod_of_nonneg l0
  have t4 : mo.tmod 3000 = mo % 3000 := Int.tmod_eq_emod_of_nonneg m0
  have u3 : 0 ≤ le % 3000 ∧ le % 3000 ≤ 2999 := by omega
  have u4 : 0 ≤ mo % 3000 ∧ mo % 3000 ≤ 2999 := by omega
  unfold eyeT eyeS sgC eyeC
  simp only
  have hro : roseE ro = 1 + ro % 20 := rfl
  generalize dirE ro di = dv at *
  obtain ⟨dx, dy, dl⟩ := dv
  obtain ⟨e1, e2, e3, e4, e5, e6, -⟩ := dk
  simp only at *
  obtain ⟨rr, hrr⟩ : ∃ r, roseE ro = r := ⟨_, rfl⟩
  rw [hrr] at hD k1 k2 k3 k4 hro
  obtain ⟨rq, hrq⟩ : ∃ r, ro % 20 = r := ⟨_, rfl⟩
  rw [hrq] at t1 hro
  subst hro
  have t5 := t2 (4 * (1 + rq))
  obtain ⟨dq, hdq⟩ : ∃ r, di % (4 * (1 + rq)) = r := ⟨_, rfl⟩
  rw [hdq] at t5 hD k3 k4
  obtain ⟨lq, hlq⟩ : ∃ r, le % 3000 = r := ⟨_, rfl⟩
  obtain ⟨mq, hmq⟩ : ∃ r, mo % 3000 = r := ⟨_, rfl⟩
  rw [hlq] at t3 u3
  rw [hmq] at t4 u4
  rw [hlq, hmq]
  clear t2
  obtain ⟨u1, u2⟩ := hu
  obtain ⟨v1, v2⟩ := hv
  obtain ⟨u3, u3'⟩ := u3
  obtain ⟨u4, u4'⟩ := u4
  have p1 := abs_mul (X := 32768) (Y := 64800) (show -32768 ≤ u by omega) (by omega) (show -64800 ≤ dx by omega) (by omega)
  have p2 := abs_mul (X := 32768) (Y := 64800) (show -32768 ≤ v by omega) (by omega) (show -64800 ≤ dy by omega) (by omega)
  have p3 := abs_mul (X := 32768) (Y := 64800) (show -32768 ≤ -u by omega) (by omega) (show -64800 ≤ dx by omega) (by omega)
  obtain ⟨n1, hn1⟩ : ∃ n, u * dx + v * dy = n := ⟨_, rfl⟩
  obtain ⟨n2, hn2⟩ : ∃ n, -u * dx - v * dy = n := ⟨_, rfl⟩
  have b1 : -10000000000 ≤ n1 ∧ n1 ≤ 10000000000 := by omega
  have b2 : -10000000000 ≤ n2 ∧ n2 ≤ 10000000000 := by omega
  have c1 := div_bd (b := dl) (by omega) b1.1 b1.2 (by omega)
  have c2 := div_bd (b := dl) (by omega) b2.1 b2.2 (by omega)
  have h1 := fun W => ldown_any n1 dl W (by omega) (by omega) (by omega) (by omega)
  have h2 := fun W => ldown_any n2 dl W (by omega) (by omega) (by omega) (by omega)
  rw [hn1, hn2]
  generalize n1 / dl = z1 at *
  generalize n2 / dl = z2 at *
  obtain ⟨c1, c1'⟩ := c1
  obtain ⟨c2, c2'⟩ := c2
  have hl1 : ¬ dl < 1 := by omega
  have HD := hide hD
  have H1 := hide h1
  have H2 := hide h2
  clear hD h1 h2
  clear b1 b2
  go_enter Try.func38, Try.ntmps38
  have HM := hide (Mem.start w)
  go_upto_region 1 with fail
  refine code_world fun W hW => ?_
  have HMn := Mem.to (Mem.allocAt (Mem.allocAt HM.out w.heap.size rfl #[.int .u8 ro, .int .u8 di, .int .u16 le, .int .u16 mo] 77) (w.heap.size + 1) (by simp) #[.int .i64 0, .int .i64 0, .int .i64 0, .int .i64 0, .int .i64 0] 71) hW
  have LW : Later w W := by rw [hW]; exact (((Below.refl _ _).alloc (Nat.le_refl _) _).alloc (by simp; try omega) _)
  have szW : W.heap.size = w.heap.size + 2 := by rw [hW]; simp
  clear hW
  replace HM := hide HMn
  clear HMn LW
  clear szW
  generalize hg1 : w.heap.size + 1 = gr at HM ⊢
  generalize hg0 : w.heap.size = ge at HM ⊢
  have bc : Blk W ge 77 #[.int .u8 ro, .int .u8 di, .int .u16 le, .int .u16 mo] := HM.out.get 1 rfl
  have ltc := bc.lt
  have c0 := bc.c 0 rfl
  have c1 := bc.c 1 rfl
  have c2 := bc.c 2 rfl
  have c3 := bc.c 3 rfl
  go_wp2_with fail
  refine (HD.out _).mono ?_
  rintro e w3 ⟨rfl, hb⟩
  replace HM := hide (HM.out.later hb)
  clear hb bc ltc c0 c1 c2 c3
  have bc : Blk w3 ge 77 #[.int .u8 ro, .int .u8 di, .int .u16 le, .int .u16 mo] := HM.out.get 1 rfl
  have ltc := bc.lt
  have c0 := bc.c 0 rfl
  have c1 := bc.c 1 rfl
  have c2 := bc.c 2 rfl
  have c3 := bc.c 3 rfl
  go_wp2_with fail
  refine wp_region_cut 33 (by kernel_rfl) (by simp only [List.take_succ_cons, List.take_zero]; exact rfl) (by simp only [List.drop_succ_cons, List.drop_zero]; exact rfl) (by kernel_rfl) ?_
  apply any_region_J (w0 := w3) [[], [], [], [], [], [], [], [], [], [], [], [], [], [], [], [], [], [], [], [], [], [], [], [], [], [], [], [], [], [], [], [], []] [true, true, true, true, true, true, true, true, true, true, true, true, true, true, true, true, true, true, true, true, true, true, true, true, true, true, true, true, true, true, true, true, true] [] (fun ixq y => match ixq with  | _ => undef) (fun ixq x F wq => match ixq with  | _ => True) (fun a x => a) (by kernel_rfl) (fun _ => rfl) [48, 63] (by kernel_rfl)
  · intro x D hD
    have hne := hD.some
    have k0 := liftB hD c2 (by first | assumption | omega)
    have k1 := liftB hD c3 (by first | assumption | omega)
    simp only [takeOps, Act.put, List.setIfInBounds_toArray, List.set_cons_succ, List.set_cons_zero]
    repeat (go_big_quiet_step ((go_at_call 52; first | (with_reducible exact calls_later hD _ (H1.out _)) | (with_reducible exact calls_later hD _ (H2.out _)))))
    exact wpQuiet_nil rfl
  · intro d hd x x'
    simp only [List.mem_cons, List.not_mem_nil, or_false] at hd
    rcases hd with rfl | rfl
    all_goals rfl
  · exact trivial
  · exact trivial
  intro xx w5 F hL hlv1 hap1
  clear hap1
  clear hlv1
  refine ⟨rfl, ?_⟩
  replace HM := hide (HM.out.later hL)
  clear hL bc ltc c0 c1 c2 c3
  go_wp2_with fail
  refine (sight_any _ _ _ _ _ _).mono ?_
  rintro e w6 ⟨rfl, hb⟩
  replace HM := hide (HM.out.later hb)
  clear hb
  have bk : Blk w6 gr 71 #[.int .i64 0, .int .i64 0, .int .i64 0, .int .i64 0, .int .i64 0] := HM.out.get 0 rfl
  have ltk := bk.lt
  have k0 := bk.c 0 rfl
  have fk0 := bk.frozen 0
  have k1 := bk.c 1 rfl
  have fk1 := bk.frozen 1
  have k2 := bk.c 2 rfl
  have fk2 := bk.frozen 2
  have k3 := bk.c 3 rfl
  have fk3 := bk.frozen 3
  have k4 := bk.c 4 rfl
  have fk4 := bk.frozen 4
  go_wp2
  have HM1 := hide (((((HM.out.set_ 0 rfl 0 (.int .i64 dx) rfl).set_ 0 rfl 1 (.int .i64 dy) rfl).set_ 0 rfl 2 (.int .i64 dl) rfl).set_ 0 rfl 3 (.int .i64 (z1 - lq)) rfl).set_ 0 rfl 4 (.int .i64 (-z2 + mq)) rfl)
  have s0 := (HM1.out.blk_ 0 rfl).c 0 rfl
  have s1 := (HM1.out.blk_ 0 rfl).c 1 rfl
  have s2 := (HM1.out.blk_ 0 rfl).c 2 rfl
  have s3 := (HM1.out.blk_ 0 rfl).c 3 rfl
  have s4 := (HM1.out.blk_ 0 rfl).c 4 rfl
  have lts := (HM1.out.blk_ 0 rfl).lt
  refine ret_world fun W1 hW1 => ?_
  rw [← hW1] at HM1 s0 s1 s2 s3 s4 lts
  exact bodyPost_ret (v := .agg #[.int .i64 dx, .int .i64 dy, .int .i64 dl, .int .i64 (z1 - lq), .int .i64 (-z2 + mq)]) (by simp [results, Try.results38, go_sem, s0, s1, s2, s3, s4, lts]) rfl ⟨rfl, by first | exact HM1.out.below | (rw [← hg0]; exact HM1.out.below)⟩
theorem sgsV_one (s : Sgt) : sgsV [s] = [.int .i64 s.x, .int .i64 s.y, .int .i64 s.l, .int .i64 s.lo, .int .i64 s.hi] := rfl
def EyesPost (w : World) (L : List Sgt) (e : Ending) (w' : World) : Prop := ∃ A c, e = .returned (.tuple #[.slice A L.length c, .bool true]) ∧ Below w.heap.size w w' ∧ w'.ownsRow w.heap.size 71 5 (.slice A L.length c) L.length (sgsV L)
theorem map_snoc {α β : Type} {f : α → β} {E : List α} {d : α} {k : Nat} (h : k < E.length) : (E.take (k + 1)).map f = (E.take k).map f ++ [f (E.getD k d)] := by
  rw [List.take_add_one, List.getElem?_eq_getElem h, List.map_append, List.getD_eq_getElem?_getD, List.getElem?_eq_getElem h]
  rfl
theorem getD_memE {α : Type} {E : List α} {d : α} {k : Nat} (h : k < E.length) : E.getD k d ∈ E := by
  rw [List.getD_eq_getElem?_getD, List.getElem?_eq_getElem h]
  exact List.getElem_mem h
set_option maxHeartbeats 1000000 in
set_option maxRecDepth 100000 in
theorem eyes_any (A : Option Addr) (E : List EyeN) (c : Nat) (u v : Int) (w : World) (hmax : E.length ≤ 10) (hA : EyesAt w w.heap.size A E) (he : ∀ e ∈ E, EyeOk e) (hu : -32768 ≤ u ∧ u ≤ 32767) (hv : -32768 ≤ v ∧ v ≤ 32767) :
    Calls Try.prog 30 #[.slice A E.length c, .int .i64 u, .int .i64 v] w (EyesPost w (E.map (eyeT u v))) := by
  have hl := fun k (hk : k < E.length) W => eyelook_any (E.getD k eye0) u v W (he _ (getD_memE hk)) hu hv
  have hs := fun k (hk : k < E.length) => map_snoc (f := eyeT u v) (d := eye0) hk
  have hend : (E.take E.length).map (eyeT u v) = E.map (eyeT u v) := by rw [List.take_length]
  have hlen : (E.map (eyeT u v)).length = E.length := by rw [List.length_map]
  unfold EyesPost
  rw [hlen, ← hend]
  obtain ⟨K, hK⟩ : ∃ K : Nat → List Sgt, K = fun k => (E.take k).map (eyeT u v) := ⟨_, rfl⟩
  have hKe : ∀ k, (E.take k).map (eyeT u v) = K k := fun k => by rw [hK]
  have hK0 : K 0 = [] := by rw [hK]; rfl
  simp only [hKe] at hs ⊢
  have hsc : EyesAt w w.heap.size A E := hA
  unfold EyesAt at hsc
  unfold eyeC sgC at hl
  obtain ⟨n, hn⟩ : ∃ n, E.length = n := ⟨_, rfl⟩
  rw [hn] at hl hs hsc hmax ⊢
  have hm2 : (n : Int) ≤ 10 := by omega
  have hm3 : ¬ (10 : Int) < n := by omega
  have HL := hide hl
  have HS := hide hs
  have HSC := hide hsc
  have HK0 := hide hK0
  clear hl hs hsc hK0
  clear hA he hend hlen hK hKe hn
  go_enter Try.func30, Try.ntmps30
  have HM := hide ((Mem.start w).nilRow w.heap.size 71 5)
  go_wp2_with fail
  go_loopw [8, 16] (fun o i wr => ∃ (k : Nat) (A' : Option Addr) (c' : Nat), k ≤ n ∧ i = .int .i64 k ∧ o = .slice A' k c' ∧ Mem w [.row w.heap.size 71 5 (.slice A' k c') k (sgsV (K k))] wr) (fun _ i _ => n - (intOf i).toNat)
  case atStart => exact ⟨0, none, 0, by omega, rfl, rfl, by rw [HK0.out]; exact HM.out⟩
  case round =>
    obtain ⟨k, A', c', hk, rfl, rfl, hM⟩ := hrel
    clear HM
    have HM := hide hM
    clear hM
    by_cases hlt : k < n
    · have hlt2 : (k : Int) < n := by omega
      obtain ⟨b, off, rfl, hb0, hc⟩ := HSC.out (by omega)
      have hc1 := hc _ hlt
      have c1 := HL.out k hlt
      have hs1 := HS.out k hlt
      obtain ⟨X, hX⟩ : ∃ X, E.getD k eye0 = X := ⟨_, rfl⟩
      rw [hX] at hc1 c1 hs1
      rw [← HM.out.below.cell hb0, ← HM.out.below.cell hb0, ← HM.out.below.cell hb0, ← HM.out.below.cell hb0] at hc1
      have ltb : b < wr.heap.size := Nat.lt_of_lt_of_le hb0 HM.out.size
      obtain ⟨q0, q1, q2, q3⟩ := hc1
      obtain ⟨Y, hY⟩ : ∃ Y, eyeT u v X = Y := ⟨_, rfl⟩
      rw [hY] at c1 hs1
      obtain ⟨ro, di, le, mo⟩ := X
      obtain ⟨sx, sy, sl, slo, shi⟩ := Y
      simp only at q0 q1 q2 q3 c1
      have hs2 : sgsV (K (k + 1)) = sgsV (K k) ++ [.int .i64 sx, .int .i64 sy, .int .i64 sl, .int .i64 slo, .int .i64 shi] := by rw [hs1, sgsV_app]; rfl
      generalize sgsV (K k) = xs at *
      obtain ⟨i0, hii, hz0, hz1, hz2⟩ := info_parts sightInfo
      have Hi := hide hii
      have Hz0 := hide hz0
      have Hz1 := hide hz1
      have Hz2 := hide hz2
      clear hii hz0 hz1 hz2
      have C1 := hide c1
      have HS2 := hide hs2
      clear c1 hs2
      clear hc hX hY hs1
      go_upto_region 7 with fail
      refine code_world fun w1 hW => ?_
      have HMn := Mem.to (Mem.allocAt HM.out wr.heap.size rfl #[.int .u8 ro, .int .u8 di, .int .u16 le, .int .u16 mo] 77) hW
      have LW : Later wr w1 := by rw [hW]; exact ((Below.refl _ _).alloc (Nat.le_refl _) _)
      have szW : w1.heap.size = wr.heap.size + 1 := by rw [hW]; simp
      clear hW
      replace HM := hide HMn
      clear HMn LW
      clear szW q0 q1 q2 q3 ltb
      generalize hgx : wr.heap.size = gx at HM ⊢
      have bz : Blk w1 gx 77 #[.int .u8 ro, .int .u8 di, .int .u16 le, .int .u16 mo] := HM.out.get 0 rfl
      have ltz := bz.lt
      have z0 := bz.c 0 rfl
      have z1 := bz.c 1 rfl
      have z2 := bz.c 2 rfl
      have z3 := bz.c 3 rfl
      go_wp2_with fail
      refine (C1.out _).mono ?_
      rintro e w6 ⟨rfl, hb⟩
      replace HM := hide (HM.out.later hb)
      clear hb bz ltz z0 z1 z2 z3
      have hownM := Mem.row_ HM.out 1 rfl
      have hbaseM : w.heap.size ≤ w6.heap.size := HM.out.size
      go_wp2_with (at_builtin; refine wpList_append_own_at _ rfl (.tmp 20) (.tmp 25) _ rfl w.heap.size 71 i0 _ 5 40 Try.underlying25 Hi.out Hz0.out Hz1.out Hz2.out rfl (by decide) _ k xs rfl (hownM.alloc _) ⟨w6.heap.size, 0, none⟩ 1 1 [.int .i64 sx, .int .i64 sy, .int .i64 sl, .int .i64 slo, .int .i64 shi] rfl rfl ?q1c1 (by intro u hu; simp only [List.mem_cons, List.not_mem_nil, or_false] at hu; rcases hu with rfl | rfl | rfl | rfl | rfl <;> rfl) ?q1c3 ?q1c4 ?q1c5 ?_)
      try case q1c1 => exact new_cellsQ w6 _ [.int .i64 sx, .int .i64 sy, .int .i64 sl, .int .i64 slo, .int .i64 shi]
      case q1c3 => unfold maxLen; omega
      case q1c4 => omega
      case q1c5 => first | omega | (simp; omega)
      intro vA w9 hown2 hgr2 _ hat2
      have HMn := HM.out.grow 1 rfl _ hgr2 hown2 hat2
      replace HM := hide HMn
      clear HMn hown2 hgr2 hat2 hownM hbaseM
      obtain ⟨A9, c9, rfl⟩ := own_shape2 (Mem.row_ HM.out 1 rfl)
      go_wp2_with fail
      go_roundw
      case rel => exact ⟨k + 1, A9, c9, by omega, by go_num, rfl, by rw [HS2.out]; exact HM.out.tail⟩
      case measure => simp [intOf] <;> omega
    · obtain rfl : k = n := by omega
      have hkk : ¬ ((k : Int) < k) := by omega
      go_wp2
      exact bodyPost_ret (v := .tuple #[.slice A' k c', .bool true]) (by simp [results, Try.results30, go_sem]) rfl ⟨A', c', rfl, HM.out.below, HM.out.row_ 0 rfl⟩
set_option maxHeartbeats 1000000 in
set_option maxRecDepth 100000 in
theorem eyes_many (A : Option Addr) (n c : Nat) (u v : Int) (w : World) (hmax : 10 < n) :
    Calls Try.prog 30 #[.slice A n c, .int .i64 u, .int .i64 v] w fun e w' => e = .returned (.tuple #[.slice none 0 0, .bool false]) ∧ Below w.heap.size w w' := by
  have hm3 : (10 : Int) < n := by omega
  go_enter Try.func30, Try.ntmps30
  go_wp2
  exact bodyPost_ret (v := .tuple #[.slice none 0 0, .bool false]) (by simp [results, Try.results30, go_sem]) rfl ⟨rfl, Below.refl _ _⟩
end Go.Proofs.Ytllpffkifleigaa
end
section
namespace Go.Proofs.Ytllpffkifleigaa
open Go Go.RowKit

def SlS (w : World) (A : Option Addr) (c : Nat) (L : List Sgt) : Prop := L.length ≤ c ∧ c ≤ maxLen ∧ ((A = none ∧ L = [] ∧ c = 0) ∨ ∃ b off, A = some ⟨b, off, none⟩ ∧ b < w.heap.size ∧ ∀ (j : Nat) (u : Value), (sgsV L)[j]? = some u → w.cell? ⟨b, off + j, none⟩ = some u)
theorem SlS.later {w w' : World} {A : Option Addr} {c : Nat} {L : List Sgt} (h : SlS w A c L) (hb : Below w.heap.size w w') : SlS w' A c L := by
  refine ⟨h.1, h.2.1, h.2.2.imp id ?_⟩
  rintro ⟨b, off, e, hl, hc⟩
  exact ⟨b, off, e, Nat.lt_of_lt_of_le hl hb.size, fun j u hu => (hb.cell hl).trans (hc j u hu)⟩
theorem SlS.sgts {w : World} {A : Option Addr} {c : Nat} {L : List Sgt} (h : SlS w A c L) : SgtsH w A L := fun hn => by
  rcases h.2.2 with ⟨-, rfl, -⟩ | ⟨b, off, e, hl, hc⟩
  · simp at hn
  · refine ⟨b, off, e, hl, fun i hi => ?_⟩
    obtain ⟨c1, c2, c3, c4, c5⟩ := sgsV_get L i hi
    exact ⟨hc _ _ c1, hc _ _ c2, hc _ _ c3, hc _ _ c4, hc _ _ c5⟩
theorem addr_add (b off j : Nat) : ((⟨b, off, none⟩ : Addr).add j) = ⟨b, off + j, none⟩ := by unfold Addr.add; split <;> simp_all
theorem SlS.srcK {w0 w : World} {S : Nat → Prop} {A : Option Addr} {c : Nat} {L : List Sgt} (h : SlS w0 A c L) (hk : Kept S w0 w) (hS : ∀ k, k < w0.heap.size → S k) : Src w A L.length c (sgsV L) := by
  rcases h.2.2 with ⟨e1, e2, e3⟩ | ⟨b, off, e, hl, hc⟩
  · subst e2
    exact .inl ⟨e1, rfl, e3, rfl⟩
  · refine .inr ⟨_, e, fun j u hu => ?_⟩
    rw [addr_add]
    exact (cell_same (hk.block b (hS b hl))).trans (hc j u hu)
theorem SlS.of_own {w : World} {base n c : Nat} {A : Option Addr} {L : List Sgt} (hn : L.length = n) (h : w.ownsRow base 71 5 (.slice A n c) n (sgsV L)) : SlS w A c L := by
  rcases h.2 with ⟨hv, h0⟩ | ⟨g, cap, cur, hv, hb, hg, h3, h4, h5, h6⟩
  · injection hv with e1 e2 e3
    subst e1 e2 e3
    have hL : L = [] := List.eq_nil_of_length_eq_zero hn
    subst hL
    exact ⟨Nat.le_refl _, Nat.zero_le _, .inl ⟨rfl, rfl, rfl⟩⟩
  · injection hv with e1 e2 e3
    subst e1
    subst e3
    have hblk : Blk w g 71 cur := hg
    refine ⟨by omega, h4, .inr ⟨g, 0, rfl, hblk.lt, fun j u hu => ?_⟩⟩
    rw [Nat.zero_add]
    refine hblk.c j ?_
    rw [← h6, List.getElem?_take] at hu
    split at hu
    · simpa using hu
    · cases hu
theorem sgsV_oneC (L : List Sgt) : ∀ u ∈ sgsV L, u.oneCell' = true := fun u hu => by
  unfold sgsV at hu
  obtain ⟨s, -, hs⟩ := List.mem_flatMap.1 hu
  simp only [List.mem_cons, List.not_mem_nil, or_false] at hs
  rcases hs with rfl | rfl | rfl | rfl | rfl <;> rfl
theorem bndsE_iff {l : List Sgt} : bndsE l = 0 ↔ (l.length ≤ 360 ∧ ∀ s ∈ l, SgtOk s) ∧ Feas l 0 := by
  unfold bndsE
  constructor
  · intro h
    split at h
    · rename_i h1; exact absurd h h1
    · rename_i h1
      have h2 := listE_ok.1 (Classical.not_not.1 h1)
      split at h
      · rename_i h3; exact ⟨h2, agrB_iff.1 h3⟩
      · cases h
  · rintro ⟨h1, h2⟩
    rw [if_neg (by rw [listE_ok.2 h1]; simp), if_pos (agrB_iff.2 h2)]
set_option maxHeartbeats 1000000 in
set_option maxRecDepth 100000 in
theorem ends1_any (A : Option Addr) (n c : Nat) (L : List Sgt) (dx dy len lo hi : Int) (bl b1 b2 b3 : Nat) (wz : World) (hn : L.length = n) (hmax : n ≤ 400) (hSl : SlS wz A c L) (hI : AllI L) (hx : I64 dx) (hy : I64 dy)
    (hbl : Blk wz bl 25 #[.slice A n c]) (h1 : Blk wz b1 3 #[.int .i64 dx]) (h2 : Blk wz b2 3 #[.int .i64 dy]) (h3 : Blk wz b3 3 #[.int .i64 len]) :
    Calls Try.prog 82 #[.int .i64 lo, .int .i64 hi, .pointer (some ⟨bl, 0, none⟩), .pointer (some ⟨b1, 0, none⟩), .pointer (some ⟨b2, 0, none⟩), .pointer (some ⟨b3, 0, none⟩)] wz fun e w' =>
      e = .returned (.bool (decide (bndsE (L ++ [(⟨dx, dy, len, lo, hi⟩ : Sgt)]) = 0))) ∧ Below wz.heap.size wz w' := by
  have hB := fun (A' : Option Addr) (c' : Nat) (W : World) (hs : SgtsH W A' (L ++ [(⟨dx, dy, len, lo, hi⟩ : Sgt)])) => Bounds_any A' (L ++ [(⟨dx, dy, len, lo, hi⟩ : Sgt)]) c' W (by rw [List.length_append]; simp [maxLen]; omega) hs (fun s hs => by
    rcases List.mem_append.1 hs with h | h
    · exact hI s h
    · rw [List.mem_singleton] at h; subst h; exact ⟨hx, hy⟩)
  have hll : (L ++ [(⟨dx, dy, len, lo, hi⟩ : Sgt)]).length = 0 + n + 1 := by simp; omega
  rw [hll] at hB
  generalize bndB (L ++ [(⟨dx, dy, len, lo, hi⟩ : Sgt)]) (loL 1 0 1 240000) = r1 at *
  generalize bndB (L ++ [(⟨dx, dy, len, lo, hi⟩ : Sgt)]) (hiL 1 0 1 240000) = r2 at *
  generalize bndB (L ++ [(⟨dx, dy, len, lo, hi⟩ : Sgt)]) (loL 0 1 1 240000) = r3 at *
  generalize bndB (L ++ [(⟨dx, dy, len, lo, hi⟩ : Sgt)]) (hiL 0 1 1 240000) = r4 at *
  generalize bndsE (L ++ [(⟨dx, dy, len, lo, hi⟩ : Sgt)]) = ev at *
  have hvs : (#[] : Array Value).toList ++ sgsV L ++ (#[.int .i64 dx, .int .i64 dy, .int .i64 len, .int .i64 lo, .int .i64 hi] : Array Value).toList = sgsV (L ++ [(⟨dx, dy, len, lo, hi⟩ : Sgt)]) := by rw [sgsV_app]; rfl
  have hlen : (sgsV L).length = n * 5 := by rw [sgsV_len, hn]
  have hsrc := fun (S : Nat → Prop) (W : World) (hk : Kept S wz W) hS => hSl.srcK hk hS
  rw [hn] at hsrc
  have hone := sgsV_oneC L
  obtain ⟨i0, hii, hz0, hz1, hz2⟩ := info_parts sightInfo
  have Hi := hide hii
  have Hz0 := hide hz0
  have Hz1 := hide hz1
  have Hz2 := hide hz2
  have HB0 := hide hB
  have HVS := hide hvs
  have HSRC := hide hsrc
  have HONE := hide hone
  have HLEN := hide hlen
  have HLL := hide hll
  clear hii hz0 hz1 hz2 hB hvs hsrc hone hlen hll
  have l0 := hbl.c 0 rfl
  have x0 := h1.c 0 rfl
  have y0 := h2.c 0 rfl
  have z0 := h3.c 0 rfl
  have ltl := hbl.lt
  have lt1 := h1.lt
  have lt2 := h2.lt
  have lt3 := h3.lt
  clear hbl h1 h2 h3 hI hSl hx hy hn
  go_enter Try.func82, Try.ntmps82
  have HB := hide (Below.refl wz.heap.size wz)
  go_wp2_with fail
  apply wp_region_L (w0 := wz) [[], [], [0], [], [], [], [], [], [0, 2], [0, 2], [0, 2, 9], [0, 2, 9, 10], [0, 2, 9, 10, 11], [0, 2, 9, 10, 11], [0, 2, 9, 10, 11], [], [0, 2, 9, 10, 11, 15], [0, 2, 9, 10, 11, 15, 16]] [false, true, false, true, true, true, true, true, true, false, false, false, true, true, true, false, false, true] [⟨0, none, [], []⟩, ⟨2, some 0, [0], []⟩, ⟨9, none, [], []⟩, ⟨10, some 2, [2, 9], []⟩, ⟨11, none, [10], []⟩, ⟨15, none, [], []⟩, ⟨16, some 15, [15], [15]⟩] (fun ixq y => match ixq with | 0 => .slice (y 0).1 0 0 | 2 => .slice (y 0).1 (0 + n) (y 0).2 | 9 => .slice (y 0).1 1 1 | 10 => .slice (y 0).1 ((0+n) + 1) (y 0).2 | 11 => .tuple #[.agg #[.int .i64 r1, .int .i64 r2, .int .i64 r3, .int .i64 r4], .int .i64 ev] | 15 => .pointer (y 0).1 | 16 => undef | _ => undef) (fun ixq x F wq => match ixq with | 0 => OwnF wq F wz.heap.size 71 5 (.slice (x 0 0).1 0 0) 0 #[].toList | 2 => OwnF wq F wz.heap.size 71 5 (.slice (x 2 0).1 (0 + n) (x 2 0).2) (0 + n) ((#[] : Array Value).toList ++ sgsV L) | 9 => OwnF wq F wz.heap.size 71 5 (.slice (x 9 0).1 1 1) 1 #[.int .i64 dx, .int .i64 dy, .int .i64 len, .int .i64 lo, .int .i64 hi].toList | 10 => OwnF wq F wz.heap.size 71 5 (.slice (x 10 0).1 ((0+n) + 1) (x 10 0).2) ((0+n) + 1) ((#[] : Array Value).toList ++ sgsV L ++ (#[.int .i64 dx, .int .i64 dy, .int .i64 len, .int .i64 lo, .int .i64 hi] : Array Value).toList) | 11 => True | 15 => PtrF wq F wz.heap.size (x 15 0).1 34 #[.int .i64 0, .int .i64 0, .int .i64 0, .int .i64 0] | 16 => PtrF wq F wz.heap.size (x 15 0).1 34 #[.int .i64 r1, .int .i64 r2, .int .i64 r3, .int .i64 r4] | _ => True) (fun a x => (((((((a).put (some 12) (.slice ((x 0) 0).1 0 0)).put (some 14) (.slice ((x 2) 0).1 (0 + n) ((x 2) 0).2)).put (some 21) (.slice ((x 9) 0).1 1 1)).put (some 22) (.slice ((x 10) 0).1 ((0+n) + 1) ((x 10) 0).2)).put (some 23) (.tuple #[.agg #[.int .i64 r1, .int .i64 r2, .int .i64 r3, .int .i64 r4], .int .i64 ev])).put (some 9) (.pointer ((x 15) 0).1)).put (none) (undef)) (by kernel_rfl) (by kernel_rfl) (fun x => putH_step (some 12) (.slice ((x 0) 0).1 0 0) rfl rfl <| putH_step (some 14) (.slice ((x 2) 0).1 (0 + n) ((x 2) 0).2) rfl rfl <| putH_step (some 21) (.slice ((x 9) 0).1 1 1) rfl rfl <| putH_step (some 22) (.slice ((x 10) 0).1 ((0+n) + 1) ((x 10) 0).2) rfl rfl <| putH_step (some 23) (.tuple #[.agg #[.int .i64 r1, .int .i64 r2, .int .i64 r3, .int .i64 r4], .int .i64 ev]) rfl rfl <| putH_step (some 9) (.pointer ((x 15) 0).1) rfl rfl <| putH_step (none) (undef) rfl rfl <| putH_end) [20] (by kernel_rfl)
  · intro x D hD
    have hne := hD.some
    have k0 := liftB hD l0 (by first | assumption | omega)
    have k1 := liftB hD x0 (by first | assumption | omega)
    have k2 := liftB hD y0 (by first | assumption | omega)
    have k3 := liftB hD z0 (by first | assumption | omega)
    simp only [takeOps, Act.put, List.setIfInBounds_toArray, List.set_cons_succ, List.set_cons_zero]
    repeat (go_big_quiet_step ((go_at_call 39; exact calls_later hD _ (sight_any _ _ _ _ _ _))))
    exact wpQuiet_nil rfl
  · intro d hd x x'
    simp only [List.mem_cons, List.not_mem_nil, or_false] at hd
    rcases hd with rfl
    all_goals rfl
  · refine ⟨?_, ?_, ?_, ?_, ?_, ?_, ?_, trivial⟩
    · exact obl_new rfl (fun _ => by kernel_rfl) 71 (fun x => #[]) gP (fun x w => by kernel_rfl) (fun x w hle => own_new hle rfl (by unfold maxLen; omega))
    · refine obl_appendS 25 12 13 (by kernel_rfl) wz.heap.size 71 i0 _ 5 40 Try.underlying25 Hi.out Hz0.out Hz1.out Hz2.out rfl (by decide) 0 n ((#[] : Array Value).toList) (sgsV L) (HLEN.out) (HONE.out) (by unfold maxLen; omega) (by omega) (by first | assumption | omega) (fun x w F hk hn => ?_) (fun _ => rfl) (fun _ _ _ _ h => h)
      have hj := hn 0 (by simp)
      exact ⟨_, A, c, rfl, hj.1, fun g hg => .inr (hj.2 g hg), rfl, HSRC.out _ w hk (fun k hk => ⟨hk, fun _ _ h => h.elim⟩)⟩
    · exact obl_new rfl (fun _ => by kernel_rfl) 71 (fun x => #[.int .i64 dx, .int .i64 dy, .int .i64 len, .int .i64 lo, .int .i64 hi]) gP (fun x w => by kernel_rfl) (fun x w hle => own_new hle rfl (by unfold maxLen; omega))
    · refine obl_append 25 14 21 (by kernel_rfl) wz.heap.size 71 i0 _ 5 40 Try.underlying25 Hi.out Hz0.out Hz1.out Hz2.out rfl (by decide) (0+n) 1 ((#[] : Array Value).toList ++ sgsV L) ((#[.int .i64 dx, .int .i64 dy, .int .i64 len, .int .i64 lo, .int .i64 hi] : Array Value).toList) (by first | rfl | (simp; done) | (simp; omega)) (by simp [Value.oneCell']) (by unfold maxLen; omega) (by omega) (by first | assumption | omega) (fun x w F hk hn => ?_) (fun _ => rfl) (fun _ _ _ _ h => h)
      have hj := hn 2 (by simp)
      have hJ : OwnF w (F 9) wz.heap.size 71 5 (.slice (x 9 0).1 1 1) 1 (#[.int .i64 dx, .int .i64 dy, .int .i64 len, .int .i64 lo, .int .i64 hi] : Array Value).toList := hn 9 (by simp)
      obtain ⟨ad, hA, hc⟩ := news_own hJ (by decide)
      exact ⟨_, ad, 1, rfl, hj.1, fun g hg => .inr (hj.2 g hg), (show Value.slice (x 9 0).1 1 1 = _ by rw [hA]), hc⟩
    · refine obl_callL rfl (fun _ => by kernel_rfl) 17 (fun x => #[.slice (x 10 0).1 (0 + n + 1) (x 10 0).2]) (fun x w => by kernel_rfl) ?_
      intro x w F hL hN
      have n10 := hN 10 (by simp)
      have hs := sgts_own (c := (x 10 0).2) HLL.out (by rw [← HVS.out]; exact n10.1)
      exact calls_one (y := fun _ => (none, 0)) (HB0.out _ _ w hs) rfl (fun _ => trivial)
    · exact obl_alloc 34 9 (.agg #[.int .i64 0, .int .i64 0, .int .i64 0, .int .i64 0]) (by kernel_rfl) (by kernel_rfl) (fun _ => rfl) (fun _ _ _ h => h)
    · refine obl_store 34 9 24 15 #[.int .i64 0, .int .i64 0, .int .i64 0, .int .i64 0] (fun x => #[.int .i64 r1, .int .i64 r2, .int .i64 r3, .int .i64 r4]) (by kernel_rfl) rfl (by simp) (fun _ _ _ h => h) (fun _ => rfl) (fun _ => rfl) (fun _ => by kernel_rfl) (fun _ => rfl) (fun _ => by simp [Value.oneCell']) (fun _ => rfl) (by decide) (fun _ _ _ _ h => h)
  · refine ⟨?_, ?_, ?_, ?_, ?_, ?_, ?_, trivial⟩
    · refine ⟨fun x F wq wq' h hs hk => ?_, fun x x' F wq hx h => ?_⟩
      · have h2 : OwnF wq F wz.heap.size 71 5 (.slice (x 0 0).1 0 0) 0 #[].toList := h
        exact h2.stab hk
      · have h2 : OwnF wq F wz.heap.size 71 5 (.slice (x 0 0).1 0 0) 0 #[].toList := h
        rw [hx 0 (by simp)] at h2
        exact h2
    · exact owe_own 2 wz.heap.size 71 5 (0 + n) ((#[] : Array Value).toList ++ sgsV L) rfl (fun _ _ _ => rfl)
    · refine ⟨fun x F wq wq' h hs hk => ?_, fun x x' F wq hx h => ?_⟩
      · have h2 : OwnF wq F wz.heap.size 71 5 (.slice (x 9 0).1 1 1) 1 #[.int .i64 dx, .int .i64 dy, .int .i64 len, .int .i64 lo, .int .i64 hi].toList := h
        exact h2.stab hk
      · have h2 : OwnF wq F wz.heap.size 71 5 (.slice (x 9 0).1 1 1) 1 #[.int .i64 dx, .int .i64 dy, .int .i64 len, .int .i64 lo, .int .i64 hi].toList := h
        rw [hx 9 (by simp)] at h2
        exact h2
    · exact owe_own 10 wz.heap.size 71 5 ((0+n) + 1) ((#[] : Array Value).toList ++ sgsV L ++ (#[.int .i64 dx, .int .i64 dy, .int .i64 len, .int .i64 lo, .int .i64 hi] : Array Value).toList) rfl (fun _ _ _ => rfl)
    · exact owe_true (fun _ _ _ => trivial)
    · exact owe_ptr 15 _ _ (fun x => #[.int .i64 0, .int .i64 0, .int .i64 0, .int .i64 0]) (fun _ _ _ => rfl) (by simp) (fun _ _ _ => rfl)
    · exact owe_ptr 15 _ _ (fun x => #[.int .i64 r1, .int .i64 r2, .int .i64 r3, .int .i64 r4]) (fun _ _ _ => rfl) (by simp) (fun _ _ _ => rfl)
  intro xx w2 F hL hlv1
  obtain ⟨-, -, -, fct10, fct11, -, fct16, -⟩ := hlv1
  replace fct10 : OwnF w2 (F 10) wz.heap.size 71 5 (.slice (xx 10 0).1 ((0+n) + 1) (xx 10 0).2) ((0+n) + 1) ((#[] : Array Value).toList ++ sgsV L ++ (#[.int .i64 dx, .int .i64 dy, .int .i64 len, .int .i64 lo, .int .i64 hi] : Array Value).toList) := fct10 rfl
  clear fct11
  replace fct16 : PtrF w2 (F 16) wz.heap.size (xx 15 0).1 34 #[.int .i64 r1, .int .i64 r2, .int .i64 r3, .int .i64 r4] := fct16 rfl
  clear fct10 fct16 l0 x0 y0 z0 ltl lt1 lt2 lt3
  replace HB := hide (onward HB.out hL)
  clear hL
  go_wp2
  exact bodyPost_ret (v := .bool (ev == 0)) (by simp [results, Try.results82, go_sem]) rfl ⟨by first | rfl | (congr 2), HB.out⟩
theorem app_len {L : List Sgt} {s : Sgt} {n : Nat} (hn : L.length = n) (hmax : n ≤ 300) : (L ++ [s]).length ≤ 360 := by rw [List.length_append]; simp; omega
theorem app_ok {L : List Sgt} {s : Sgt} (h : ∀ s ∈ L, SgtOk s) (hs : SgtOk s) : ∀ t ∈ L ++ [s], SgtOk t := fun t ht => by
  rcases List.mem_append.1 ht with h1 | h1
  · exact h t h1
  · rw [List.mem_singleton] at h1; subst h1; exact hs
set_option maxHeartbeats 1000000 in
set_option maxRecDepth 100000 in
theorem ends_any (A : Option Addr) (n c : Nat) (L : List Sgt) (dx dy len lo hi : Int) (wz : World) (hn : L.length = n) (hmax : n ≤ 300) (hSl : SlS wz A c L) (hok : ∀ s ∈ L, SgtOk s) (hR : Rch L dx dy len lo hi) (hd : DirOk ⟨dx, dy, len⟩) :
    Calls Try.prog 32 #[.slice A n c, .int .i64 dx, .int .i64 dy, .int .i64 len, .agg #[.int .i64 lo, .int .i64 hi]] wz fun e w' => e = .returned (.bool true) ∧ Below wz.heap.size wz w' := by
  obtain ⟨l1, l2, x1, x2, y1, y2, sq⟩ := hd
  simp only at l1 l2 x1 x2 y1 y2 sq
  obtain ⟨q1, q2, q3, q4⟩ := hR.bd (by omega) ⟨x1, x2⟩ ⟨y1, y2⟩
  have hge := hR.ge (by omega)
  obtain ⟨f1, f2, f3, f4⟩ := hR.ends (by omega)
  have hc := fun lo' hi' (bl b1 b2 b3 : Nat) (W : World) (hW : Below wz.heap.size wz W) h0 h1 h2 h3 => ends1_any A n c L dx dy len lo' hi' bl b1 b2 b3 W hn (by omega) (hSl.later hW) (allI_of_ok hok) (by unfold I64; omega) (by unfold I64; omega) h0 h1 h2 h3
  have d1 : decide (bndsE (L ++ [(⟨dx, dy, len, lo, lo + 1⟩ : Sgt)]) = 0) = true := decide_eq_true (bndsE_iff.2 ⟨⟨app_len hn hmax, app_ok hok ⟨l1, l2, x1, x2, y1, y2, sq, by simp only; omega, by simp only; omega, by simp only; omega⟩⟩, f1⟩)
  have d2 : decide (bndsE (L ++ [(⟨dx, dy, len, hi - 1, hi⟩ : Sgt)]) = 0) = true := decide_eq_true (bndsE_iff.2 ⟨⟨app_len hn hmax, app_ok hok ⟨l1, l2, x1, x2, y1, y2, sq, by simp only; omega, by simp only; omega, by simp only; omega⟩⟩, f2⟩)
  have d3 : decide (bndsE (L ++ [(⟨dx, dy, len, hi + 1, 400000⟩ : Sgt)]) = 0) = false := decide_eq_false fun h => f3 _ (bndsE_iff.1 h).2
  have d4 : decide (bndsE (L ++ [(⟨dx, dy, len, -400000, lo - 1⟩ : Sgt)]) = 0) = false := decide_eq_false fun h => f4 _ (bndsE_iff.1 h).2
  have k1 := hc lo (lo + 1)
  have k2 := hc (hi - 1) hi
  have k3 := hc (hi + 1) 400000
  have k4 := hc (-400000) (lo - 1)
  rw [d1] at k1
  rw [d2] at k2
  rw [d3] at k3
  rw [d4] at k4
  have K1 := hide k1
  have K2 := hide k2
  have K3 := hide k3
  have K4 := hide k4
  clear k1 k2 k3 k4
  clear hc d1 d2 d3 d4 f1 f2 f3 f4 hR hok hSl hn
  go_enter Try.func32, Try.ntmps32
  have HM := hide (Mem.start wz)
  go_upto_region 1 with fail
  refine code_world fun W hW => ?_
  have HMn := Mem.to (Mem.allocAt (Mem.allocAt (Mem.allocAt (Mem.allocAt (Mem.allocAt HM.out wz.heap.size rfl #[.slice A n c] 25) (wz.heap.size + 1) (by simp) #[.int .i64 dx] 3) (wz.heap.size + 2) (by simp) #[.int .i64 dy] 3) (wz.heap.size + 3) (by simp) #[.int .i64 len] 3) (wz.heap.size + 4) (by simp) #[.int .i64 lo, .int .i64 hi] 32) hW
  have LW : Later wz W := by rw [hW]; exact ((((((Below.refl _ _).alloc (Nat.le_refl _) _).alloc (by simp; try omega) _).alloc (by simp; try omega) _).alloc (by simp; try omega) _).alloc (by simp; try omega) _)
  have szW : W.heap.size = wz.heap.size + 5 := by rw [hW]; simp
  clear hW
  replace HM := hide HMn
  clear HMn LW
  clear szW
  generalize hg4 : wz.heap.size + 4 = g4 at HM ⊢
  generalize hg3 : wz.heap.size + 3 = g3 at HM ⊢
  generalize hg2 : wz.heap.size + 2 = g2 at HM ⊢
  generalize hg1 : wz.heap.size + 1 = g1 at HM ⊢
  generalize hg0 : wz.heap.size = g0 at HM ⊢
  have bc : Blk W g4 32 #[.int .i64 lo, .int .i64 hi] := HM.out.get 0 rfl
  have ltc := bc.lt
  have c0 := bc.c 0 rfl
  have c1 := bc.c 1 rfl
  go_wp2_with fail
  refine (K1.out g0 g1 g2 g3 _ HM.out.below (HM.out.get 4 rfl) (HM.out.get 3 rfl) (HM.out.get 2 rfl) (HM.out.get 1 rfl)).mono ?_
  rintro e w1 ⟨rfl, hb⟩
  replace HM := hide (HM.out.later hb)
  clear hb bc ltc c0 c1
  have bc : Blk w1 g4 32 #[.int .i64 lo, .int .i64 hi] := HM.out.get 0 rfl
  have ltc := bc.lt
  have c0 := bc.c 0 rfl
  have c1 := bc.c 1 rfl
  go_wp2_with fail
  refine (K2.out g0 g1 g2 g3 _ HM.out.below (HM.out.get 4 rfl) (HM.out.get 3 rfl) (HM.out.get 2 rfl) (HM.out.get 1 rfl)).mono ?_
  rintro e w2 ⟨rfl, hb⟩
  replace HM := hide (HM.out.later hb)
  clear hb bc ltc c0 c1
  have bc : Blk w2 g4 32 #[.int .i64 lo, .int .i64 hi] := HM.out.get 0 rfl
  have ltc := bc.lt
  have c0 := bc.c 0 rfl
  have c1 := bc.c 1 rfl
  go_wp2_with fail
  refine (K3.out g0 g1 g2 g3 _ HM.out.below (HM.out.get 4 rfl) (HM.out.get 3 rfl) (HM.out.get 2 rfl) (HM.out.get 1 rfl)).mono ?_
  rintro e w3 ⟨rfl, hb⟩
  replace HM := hide (HM.out.later hb)
  clear hb bc ltc c0 c1
  have bc : Blk w3 g4 32 #[.int .i64 lo, .int .i64 hi] := HM.out.get 0 rfl
  have ltc := bc.lt
  have c0 := bc.c 0 rfl
  have c1 := bc.c 1 rfl
  go_wp2_with fail
  refine (K4.out g0 g1 g2 g3 _ HM.out.below (HM.out.get 4 rfl) (HM.out.get 3 rfl) (HM.out.get 2 rfl) (HM.out.get 1 rfl)).mono ?_
  rintro e w4 ⟨rfl, hb⟩
  replace HM := hide (HM.out.later hb)
  clear hb bc ltc c0 c1
  have bc : Blk w4 g4 32 #[.int .i64 lo, .int .i64 hi] := HM.out.get 0 rfl
  have ltc := bc.lt
  have c0 := bc.c 0 rfl
  have c1 := bc.c 1 rfl
  go_wp2
  exact bodyPost_ret (v := .bool true) (by simp [results, Try.results32, go_sem]) rfl ⟨rfl, by first | exact HM.out.below | (rw [← hg0]; exact HM.out.below) | (rw [hg0]; exact HM.out.below)⟩
end Go.Proofs.Ytllpffkifleigaa
end
section
namespace Go.Proofs.Ytllpffkifleigaa
open Go Go.RowKit

set_option maxHeartbeats 1000000 in
set_option maxRecDepth 100000 in
theorem agrees_any (A : Option Addr) (n c : Nat) (L : List Sgt) (w : World) (hn : L.length = n) (hmax : n ≤ maxLen) (hs : SgtsH w A L) (hI : AllI L) :
    Calls Try.prog 34 #[.slice A n c] w fun e w' => e = .returned (.bool (decide (bndsE L = 0))) ∧ Below w.heap.size w w' := by
  have hB := Bounds_any A L c w (by omega) hs hI
  rw [hn] at hB
  generalize bndB L (loL 1 0 1 240000) = r1 at *
  generalize bndB L (hiL 1 0 1 240000) = r2 at *
  generalize bndB L (loL 0 1 1 240000) = r3 at *
  generalize bndB L (hiL 0 1 1 240000) = r4 at *
  generalize bndsE L = ev at *
  have HB0 := hide hB
  clear hB
  clear hs hI hn
  go_enter Try.func34, Try.ntmps34
  have HM := hide (Mem.start w)
  go_wp2_with fail
  refine (HB0.out).mono ?_
  rintro e w1 ⟨rfl, hb⟩
  replace HM := hide (HM.out.later hb)
  clear hb
  go_upto_region 2 with fail
  refine code_world fun w2 hW => ?_
  have HMn := Mem.to (Mem.allocAt HM.out w1.heap.size rfl #[.int .i64 r1, .int .i64 r2, .int .i64 r3, .int .i64 r4] 34) hW
  have LW : Later w1 w2 := by rw [hW]; exact ((Below.refl _ _).alloc (Nat.le_refl _) _)
  have szW : w2.heap.size = w1.heap.size + 1 := by rw [hW]; simp
  clear hW
  replace HM := hide HMn
  clear HMn LW
  clear szW
  go_wp2
  exact bodyPost_ret (v := .bool (ev == 0)) (by simp [results, Try.results34, go_sem]) rfl ⟨by first | rfl | (congr 2), HM.out.below⟩
set_option maxHeartbeats 1000000 in
set_option maxRecDepth 100000 in
theorem inside_any (a1 a2 b1 b2 : Int) (w : World) (h1 : b1 ≤ a1) (h2 : a2 ≤ b2) (h3 : a1 ≤ a2) :
    Calls Try.prog 37 #[.agg #[.int .i64 a1, .int .i64 a2], .agg #[.int .i64 b1, .int .i64 b2]] w fun e w' => e = .returned (.bool true) ∧ Below w.heap.size w w' := by
  go_enter Try.func37, Try.ntmps37
  have HM := hide (Mem.start w)
  go_upto_region 1 with fail
  refine code_world fun w2 hW => ?_
  have HMn := Mem.to (Mem.allocAt (Mem.allocAt HM.out w.heap.size rfl #[.int .i64 a1, .int .i64 a2] 32) (w.heap.size + 1) (by simp) #[.int .i64 b1, .int .i64 b2] 32) hW
  have LW : Later w w2 := by rw [hW]; exact (((Below.refl _ _).alloc (Nat.le_refl _) _).alloc (by simp; try omega) _)
  have szW : w2.heap.size = w.heap.size + 2 := by rw [hW]; simp
  clear hW
  replace HM := hide HMn
  clear HMn LW
  clear szW
  generalize hg1 : w.heap.size + 1 = gr at HM ⊢
  generalize hg0 : w.heap.size = ge at HM ⊢
  have bc : Blk w2 gr 32 #[.int .i64 b1, .int .i64 b2] := HM.out.get 0 rfl
  have ltc := bc.lt
  have c0 := bc.c 0 rfl
  have c1 := bc.c 1 rfl
  have bd : Blk w2 ge 32 #[.int .i64 a1, .int .i64 a2] := HM.out.get 1 rfl
  have ltd := bd.lt
  have d0 := bd.c 0 rfl
  have d1 := bd.c 1 rfl
  go_wp2
  exact bodyPost_ret (v := .bool true) (by simp [results, Try.results37, go_sem]) rfl ⟨rfl, by first | exact HM.out.below | (rw [← hg0]; exact HM.out.below)⟩
theorem map_snocS {f : Sgt → Sgt} {L : List Sgt} {k : Nat} (h : k < L.length) : (L.take (k + 1)).map f = (L.take k).map f ++ [f (L.getD k sg0)] := map_snoc (d := sg0) h
def RowPost (w : World) (L : List Sgt) (e : Ending) (w' : World) : Prop := ∃ A c, e = .returned (.slice A L.length c) ∧ Below w.heap.size w w' ∧ w'.ownsRow w.heap.size 71 5 (.slice A L.length c) L.length (sgsV L)
set_option maxHeartbeats 1000000 in
set_option maxRecDepth 100000 in
theorem wider_any (A : Option Addr) (n c : Nat) (L : List Sgt) (d : Int) (w : World) (hn : L.length = n) (hmax : n ≤ 300) (hA : SgtsH w A L) (hb : ∀ s ∈ L, -1000000 ≤ s.lo ∧ s.lo ≤ 1000000 ∧ -1000000 ≤ s.hi ∧ s.hi ≤ 1000000) (d1 : -1000000 ≤ d) (d2 : d ≤ 1000000) :
    Calls Try.prog 35 #[.slice A n c, .int .i64 d] w (RowPost w (L.map (wideS d))) := by
  have hs := fun k (hk : k < L.length) => map_snocS (f := wideS d) hk
  have hend : (L.take L.length).map (wideS d) = L.map (wideS d) := by rw [List.take_length]
  have hlen : (L.map (wideS d)).length = n := by rw [List.length_map, hn]
  have hbk := fun k (hk : k < L.length) => hb _ (getD_mem hk)
  unfold RowPost
  rw [hlen, ← hend, hn]
  obtain ⟨K, hK⟩ : ∃ K : Nat → List Sgt, K = fun k => (L.take k).map (wideS d) := ⟨_, rfl⟩
  have hKe : ∀ k, (L.take k).map (wideS d) = K k := fun k => by rw [hK]
  have hK0 : K 0 = [] := by rw [hK]; rfl
  simp only [hKe] at hs ⊢
  have hsc : SgtsAt w w.heap.size A L := hA
  unfold SgtsAt at hsc
  rw [hn] at hs hsc hbk
  have hm2 : (n : Int) ≤ 300 := by omega
  have HS := hide hs
  have HSC := hide hsc
  have HK0 := hide hK0
  have HBK := hide hbk
  clear hs hsc hK0 hbk
  clear hA hb hend hlen hK hKe hn
  go_enter Try.func35, Try.ntmps35
  have HM := hide ((Mem.start w).nilRow w.heap.size 71 5)
  go_wp2_with fail
  go_loopw [5, 10] (fun o i wr => ∃ (k : Nat) (A' : Option Addr) (c' : Nat), k ≤ n ∧ i = .int .i64 k ∧ o = .slice A' k c' ∧ Mem w [.row w.heap.size 71 5 (.slice A' k c') k (sgsV (K k))] wr) (fun _ i _ => n - (intOf i).toNat)
  case atStart => exact ⟨0, none, 0, by omega, rfl, rfl, by rw [HK0.out]; exact HM.out⟩
  case round =>
    obtain ⟨k, A', c', hk, rfl, rfl, hM⟩ := hrel
    clear HM
    have HM := hide hM
    clear hM
    by_cases hlt : k < n
    · have hlt2 : (k : Int) < n := by omega
      obtain ⟨b, off, rfl, hb0, hc⟩ := HSC.out (by omega)
      have hc1 := hc _ hlt
      have hs1 := HS.out k hlt
      have hk1 := HBK.out k hlt
      obtain ⟨X, hX⟩ : ∃ X, L.getD k sg0 = X := ⟨_, rfl⟩
      rw [hX] at hc1 hs1 hk1
      rw [← HM.out.below.cell hb0, ← HM.out.below.cell hb0, ← HM.out.below.cell hb0, ← HM.out.below.cell hb0, ← HM.out.below.cell hb0] at hc1
      have ltb : b < wr.heap.size := Nat.lt_of_lt_of_le hb0 HM.out.size
      obtain ⟨q0, q1, q2, q3, q4⟩ := hc1
      obtain ⟨sx, sy, sl, slo, shi⟩ := X
      simp only at q0 q1 q2 q3 q4 hk1
      obtain ⟨y1, y2, y3, y4⟩ := hk1
      have hs2 : sgsV (K (k + 1)) = sgsV (K k) ++ [.int .i64 sx, .int .i64 sy, .int .i64 sl, .int .i64 (slo - d), .int .i64 (shi + d)] := by rw [hs1, sgsV_app]; rfl
      generalize sgsV (K k) = xs at *
      obtain ⟨i0, hii, hz0, hz1, hz2⟩ := info_parts sightInfo
      have Hi := hide hii
      have Hz0 := hide hz0
      have Hz1 := hide hz1
      have Hz2 := hide hz2
      clear hii hz0 hz1 hz2
      have HS2 := hide hs2
      clear hs2
      clear hc hX hs1
      go_upto_region 5 with fail
      refine code_world fun w1 hW => ?_
      have HMn := Mem.to (Mem.allocAt HM.out wr.heap.size rfl #[.int .i64 sx, .int .i64 sy, .int .i64 sl, .int .i64 slo, .int .i64 shi] 71) hW
      have LW : Later wr w1 := by rw [hW]; exact ((Below.refl _ _).alloc (Nat.le_refl _) _)
      have szW : w1.heap.size = wr.heap.size + 1 := by rw [hW]; simp
      clear hW
      replace HM := hide HMn
      clear HMn LW
      clear szW q0 q1 q2 q3 q4 ltb
      generalize hgx : wr.heap.size = gx at HM ⊢
      have bz : Blk w1 gx 71 #[.int .i64 sx, .int .i64 sy, .int .i64 sl, .int .i64 slo, .int .i64 shi] := HM.out.get 0 rfl
      have ltz := bz.lt
      have z0 := bz.c 0 rfl
      have fz0 := bz.frozen 0
      have z1 := bz.c 1 rfl
      have fz1 := bz.frozen 1
      have z2 := bz.c 2 rfl
      have fz2 := bz.frozen 2
      have z3 := bz.c 3 rfl
      have fz3 := bz.frozen 3
      have z4 := bz.c 4 rfl
      have fz4 := bz.frozen 4
      have HM2 := hide ((HM.out.set_ 0 rfl 3 (.int .i64 (slo - d)) rfl).set_ 0 rfl 4 (.int .i64 (shi + d)) rfl)
      go_upto_region 6 with fail
      refine code_world fun w2 hW => ?_
      rw [← hW] at HM2
      clear hW bz ltz z0 z1 z2 z3 z4 fz0 fz1 fz2 fz3 fz4 HM
      have HM := HM2
      clear HM2
      have bz : Blk w2 gx 71 #[.int .i64 sx, .int .i64 sy, .int .i64 sl, .int .i64 (slo - d), .int .i64 (shi + d)] := HM.out.get 0 rfl
      have ltz := bz.lt
      have z0 := bz.c 0 rfl
      have z1 := bz.c 1 rfl
      have z2 := bz.c 2 rfl
      have z3 := bz.c 3 rfl
      have z4 := bz.c 4 rfl
      have hownM := Mem.row_ HM.out 1 rfl
      have hbaseM : w.heap.size ≤ w2.heap.size := HM.out.size
      go_wp2_with (at_builtin; refine wpList_append_own_at _ rfl (.tmp 28) (.tmp 30) _ rfl w.heap.size 71 i0 _ 5 40 Try.underlying25 Hi.out Hz0.out Hz1.out Hz2.out rfl (by decide) _ k xs rfl (hownM.alloc _) ⟨w2.heap.size, 0, none⟩ 1 1 [.int .i64 sx, .int .i64 sy, .int .i64 sl, .int .i64 (slo - d), .int .i64 (shi + d)] rfl rfl ?q1c1 (by intro u hu; simp only [List.mem_cons, List.not_mem_nil, or_false] at hu; rcases hu with rfl | rfl | rfl | rfl | rfl <;> rfl) ?q1c3 ?q1c4 ?q1c5 ?_)
      try case q1c1 => exact new_cellsQ w2 _ [.int .i64 sx, .int .i64 sy, .int .i64 sl, .int .i64 (slo - d), .int .i64 (shi + d)]
      case q1c3 => unfold maxLen; omega
      case q1c4 => omega
      case q1c5 => first | omega | (simp; omega)
      intro vA w9 hown2 hgr2 _ hat2
      have HMn := HM.out.grow 1 rfl _ hgr2 hown2 hat2
      replace HM := hide HMn
      clear HMn hown2 hgr2 hat2 hownM hbaseM
      clear bz ltz z0 z1 z2 z3 z4
      obtain ⟨A9, c9, rfl⟩ := own_shape2 (Mem.row_ HM.out 1 rfl)
      go_wp2_with fail
      go_roundw
      case rel => exact ⟨k + 1, A9, c9, by omega, by go_num, rfl, by rw [HS2.out]; exact HM.out.tail⟩
      case measure => simp [intOf] <;> omega
    · obtain rfl : k = n := by omega
      have hkk : ¬ ((k : Int) < k) := by omega
      go_wp2
      exact bodyPost_ret (v := .slice A' k c') (by simp [results, Try.results35, go_sem]) rfl ⟨A', c', rfl, HM.out.below, HM.out.row_ 0 rfl⟩
end Go.Proofs.Ytllpffkifleigaa
end
section
namespace Go.Proofs.Ytllpffkifleigaa
open Go Go.RowKit

/-- Sights of two winds. -/
def mixT (E : List EyeN) (u v p q : Int) (B : Nat → Bool) (k : Nat) : List Sgt := (List.range k).map fun i => if B i = true then eyeT p q (E.getD i eye0) else eyeT u v (E.getD i eye0)
theorem mixT_succ {E : List EyeN} {u v p q : Int} {B : Nat → Bool} (k : Nat) : mixT E u v p q B (k + 1) = mixT E u v p q B k ++ [if B k = true then eyeT p q (E.getD k eye0) else eyeT u v (E.getD k eye0)] := by
  unfold mixT
  rw [List.range_succ, List.map_append]
  rfl
theorem mixT_len {E : List EyeN} {u v p q : Int} {B : Nat → Bool} (k : Nat) : (mixT E u v p q B k).length = k := by unfold mixT; rw [List.length_map, List.length_range]
def bitB (sec : Int) (k : Nat) : Bool := bits BinOp.and IntKind.u16 (sec / 2 ^ k) 1 == 1
set_option maxHeartbeats 1000000 in
set_option maxRecDepth 100000 in
theorem mixed_any (A : Option Addr) (n c : Nat) (E : List EyeN) (u v p q sec : Int) (w : World) (hn : E.length = n) (hmax : n ≤ 10) (hA : EyesAt w w.heap.size A E) (he : ∀ e ∈ E, EyeOk e)
    (hu : -32768 ≤ u ∧ u ≤ 32767) (hv : -32768 ≤ v ∧ v ≤ 32767) (hp : -32768 ≤ p ∧ p ≤ 32767) (hq : -32768 ≤ q ∧ q ≤ 32767) (s1 : 0 ≤ sec) (s2 : sec ≤ 65535) :
    Calls Try.prog 33 #[.slice A n c, .int .i16 u, .int .i16 v, .int .i16 p, .int .i16 q, .int .u16 sec] w (RowPost w (mixT E u v p q (bitB sec) n)) := by
  have hlU := fun k (hk : k < E.length) W => eyelook_any (E.getD k eye0) u v W (he _ (getD_memE hk)) hu hv
  have hlP := fun k (hk : k < E.length) W => eyelook_any (E.getD k eye0) p q W (he _ (getD_memE hk)) hp hq
  have hs := fun k => mixT_succ (E := E) (u := u) (v := v) (p := p) (q := q) (B := bitB sec) k
  have hlen := mixT_len (E := E) (u := u) (v := v) (p := p) (q := q) (B := bitB sec) n
  unfold RowPost
  rw [hlen]
  obtain ⟨K, hK⟩ : ∃ K : Nat → List Sgt, K = fun k => mixT E u v p q (bitB sec) k := ⟨_, rfl⟩
  have hKe : ∀ k, mixT E u v p q (bitB sec) k = K k := fun k => by rw [hK]
  have hK0 : K 0 = [] := by rw [hK]; rfl
  simp only [hKe] at hs ⊢
  have hbit : ∀ k, bitB sec k = (bits BinOp.and IntKind.u16 (sec / 2 ^ k) 1 == 1) := fun k => rfl
  obtain ⟨u1, u2⟩ := hu
  obtain ⟨v1, v2⟩ := hv
  obtain ⟨p1, p2⟩ := hp
  obtain ⟨q1, q2⟩ := hq
  have hm2 : (n : Int) ≤ 10 := by omega
  have hsc : EyesAt w w.heap.size A E := hA
  unfold EyesAt at hsc
  unfold eyeC sgC at hlU hlP
  rw [hn] at hsc hlU hlP
  have HSC := hide hsc
  have HLU := hide hlU
  have HLP := hide hlP
  have HS := hide hs
  have HK0 := hide hK0
  have HBIT := hide hbit
  clear hsc hlU hlP hs hK0 hbit
  clear hA he hlen hK hKe hn
  go_enter Try.func33, Try.ntmps33
  have HM := hide ((Mem.start w).nilRow w.heap.size 71 5)
  go_wp2_with fail
  go_loopw [13, 18] (fun o i wr => ∃ (k : Nat) (A' : Option Addr) (c' : Nat), k ≤ n ∧ i = .int .i64 k ∧ o = .slice A' k c' ∧ Mem w [.row w.heap.size 71 5 (.slice A' k c') k (sgsV (K k))] wr) (fun _ i _ => n - (intOf i).toNat)
  case atStart => exact ⟨0, none, 0, by omega, rfl, rfl, by rw [HK0.out]; exact HM.out⟩
  case round =>
    obtain ⟨k, A', c', hk, rfl, rfl, hM⟩ := hrel
    clear HM
    have HM := hide hM
    clear hM
    by_cases hlt : k < n
    · have hlt2 : (k : Int) < n := by omega
      obtain ⟨b, off, rfl, hb0, hc⟩ := HSC.out (by omega)
      have hc1 := hc _ hlt
      have cU := HLU.out k hlt
      have cP := HLP.out k hlt
      have hs1 := HS.out k
      have hbk := HBIT.out k
      obtain ⟨bk, hbk2⟩ : ∃ b, bitB sec k = b := ⟨_, rfl⟩
      rw [hbk2] at hs1 hbk
      have hbk3 := hbk.symm
      obtain ⟨X, hX⟩ : ∃ X, E.getD k eye0 = X := ⟨_, rfl⟩
      rw [hX] at hc1 cU cP hs1
      rw [← HM.out.below.cell hb0, ← HM.out.below.cell hb0, ← HM.out.below.cell hb0, ← HM.out.below.cell hb0] at hc1
      have ltb : b < wr.heap.size := Nat.lt_of_lt_of_le hb0 HM.out.size
      obtain ⟨q0, q1', q2', q3⟩ := hc1
      obtain ⟨i0, hii, hz0, hz1, hz2⟩ := info_parts sightInfo
      have Hi := hide hii
      have Hz0 := hide hz0
      have Hz1 := hide hz1
      have Hz2 := hide hz2
      clear hii hz0 hz1 hz2
      clear hbk hbk2
      cases bk with
      | true =>
        rw [if_pos rfl] at hs1
        obtain ⟨Y, hY⟩ : ∃ Y, eyeT p q X = Y := ⟨_, rfl⟩
        rw [hY] at cP hs1
        obtain ⟨ro, di, le, mo⟩ := X
        obtain ⟨sx, sy, sl, slo, shi⟩ := Y
        simp only at q0 q1' q2' q3 cP
        have hs2 : sgsV (K (k + 1)) = sgsV (K k) ++ [.int .i64 sx, .int .i64 sy, .int .i64 sl, .int .i64 slo, .int .i64 shi] := by rw [hs1, sgsV_app]; rfl
        generalize sgsV (K k) = xs at *
        have C1 := hide cP
        have HS2 := hide hs2
        clear cP hs2
        clear hc hX hY hs1 cU
        go_upto_region 5 with fail
        refine code_world fun w1 hW => ?_
        have HMn := Mem.to (Mem.allocAt HM.out wr.heap.size rfl #[.int .u8 ro, .int .u8 di, .int .u16 le, .int .u16 mo] 77) hW
        have LW : Later wr w1 := by rw [hW]; exact ((Below.refl _ _).alloc (Nat.le_refl _) _)
        have szW : w1.heap.size = wr.heap.size + 1 := by rw [hW]; simp
        clear hW
        replace HM := hide HMn
        clear HMn LW
        clear szW q0 q1' q2' q3 ltb
        generalize hgx : wr.heap.size = gx at HM ⊢
        have bz : Blk w1 gx 77 #[.int .u8 ro, .int .u8 di, .int .u16 le, .int .u16 mo] := HM.out.get 0 rfl
        have ltz := bz.lt
        have z0 := bz.c 0 rfl
        have z1 := bz.c 1 rfl
        have z2 := bz.c 2 rfl
        have z3 := bz.c 3 rfl
        go_wp2_with fail
        refine (C1.out _).mono ?_
        rintro e w6 ⟨rfl, hb⟩
        replace HM := hide (HM.out.later hb)
        clear hb bz ltz z0 z1 z2 z3
        clear hbk3
        have hownM := Mem.row_ HM.out 1 rfl
        have hbaseM : w.heap.size ≤ w6.heap.size := HM.out.size
        go_wp2_with (at_builtin; refine wpList_append_own_at _ rfl (.tmp 28) (.tmp 35) _ rfl w.heap.size 71 i0 _ 5 40 Try.underlying25 Hi.out Hz0.out Hz1.out Hz2.out rfl (by decide) _ k xs rfl (hownM.alloc _) ⟨w6.heap.size, 0, none⟩ 1 1 [.int .i64 sx, .int .i64 sy, .int .i64 sl, .int .i64 slo, .int .i64 shi] rfl rfl ?q1c1 (by intro u hu; simp only [List.mem_cons, List.not_mem_nil, or_false] at hu; rcases hu with rfl | rfl | rfl | rfl | rfl <;> rfl) ?q1c3 ?q1c4 ?q1c5 ?_)
        try case q1c1 => exact new_cellsQ w6 _ [.int .i64 sx, .int .i64 sy, .int .i64 sl, .int .i64 slo, .int .i64 shi]
        case q1c3 => unfold maxLen; omega
        case q1c4 => omega
        case q1c5 => first | omega | (simp; omega)
        intro vA w9 hown2 hgr2 _ hat2
        have HMn := HM.out.grow 1 rfl _ hgr2 hown2 hat2
        replace HM := hide HMn
        clear HMn hown2 hgr2 hat2 hownM hbaseM
        obtain ⟨A9, c9, rfl⟩ := own_shape2 (Mem.row_ HM.out 1 rfl)
        go_wp2_with fail
        go_roundw
        case rel => exact ⟨k + 1, A9, c9, by omega, by go_num, rfl, by rw [HS2.out]; exact HM.out.tail⟩
        case measure => simp [intOf] <;> omega
      | false =>
        rw [if_neg (by simp)] at hs1
        obtain ⟨Y, hY⟩ : ∃ Y, eyeT u v X = Y := ⟨_, rfl⟩
        rw [hY] at cU hs1
        obtain ⟨ro, di, le, mo⟩ := X
        obtain ⟨sx, sy, sl, slo, shi⟩ := Y
        simp only at q0 q1' q2' q3 cU
        have hs2 : sgsV (K (k + 1)) = sgsV (K k) ++ [.int .i64 sx, .int .i64 sy, .int .i64 sl, .int .i64 slo, .int .i64 shi] := by rw [hs1, sgsV_app]; rfl
        generalize sgsV (K k) = xs at *
        have C1 := hide cU
        have HS2 := hide hs2
        clear cU hs2
        clear hc hX hY hs1 cP
        go_upto_region 5 with fail
        refine code_world fun w1 hW => ?_
        have HMn := Mem.to (Mem.allocAt HM.out wr.heap.size rfl #[.int .u8 ro, .int .u8 di, .int .u16 le, .int .u16 mo] 77) hW
        have LW : Later wr w1 := by rw [hW]; exact ((Below.refl _ _).alloc (Nat.le_refl _) _)
        have szW : w1.heap.size = wr.heap.size + 1 := by rw [hW]; simp
        clear hW
        replace HM := hide HMn
        clear HMn LW
        clear szW q0 q1' q2' q3 ltb
        generalize hgx : wr.heap.size = gx at HM ⊢
        have bz : Blk w1 gx 77 #[.int .u8 ro, .int .u8 di, .int .u16 le, .int .u16 mo] := HM.out.get 0 rfl
        have ltz := bz.lt
        have z0 := bz.c 0 rfl
        have z1 := bz.c 1 rfl
        have z2 := bz.c 2 rfl
        have z3 := bz.c 3 rfl
        go_wp2_with fail
        refine (C1.out _).mono ?_
        rintro e w6 ⟨rfl, hb⟩
        replace HM := hide (HM.out.later hb)
        clear hb bz ltz z0 z1 z2 z3
        clear hbk3
        have hownM := Mem.row_ HM.out 1 rfl
        have hbaseM : w.heap.size ≤ w6.heap.size := HM.out.size
        go_wp2_with (at_builtin; refine wpList_append_own_at _ rfl (.tmp 37) (.tmp 44) _ rfl w.heap.size 71 i0 _ 5 40 Try.underlying25 Hi.out Hz0.out Hz1.out Hz2.out rfl (by decide) _ k xs rfl (hownM.alloc _) ⟨w6.heap.size, 0, none⟩ 1 1 [.int .i64 sx, .int .i64 sy, .int .i64 sl, .int .i64 slo, .int .i64 shi] rfl rfl ?q2c1 (by intro u hu; simp only [List.mem_cons, List.not_mem_nil, or_false] at hu; rcases hu with rfl | rfl | rfl | rfl | rfl <;> rfl) ?q2c3 ?q2c4 ?q2c5 ?_)
        try case q2c1 => exact new_cellsQ w6 _ [.int .i64 sx, .int .i64 sy, .int .i64 sl, .int .i64 slo, .int .i64 shi]
        case q2c3 => unfold maxLen; omega
        case q2c4 => omega
        case q2c5 => first | omega | (simp; omega)
        intro vA w9 hown2 hgr2 _ hat2
        have HMn := HM.out.grow 1 rfl _ hgr2 hown2 hat2
        replace HM := hide HMn
        clear HMn hown2 hgr2 hat2 hownM hbaseM
        obtain ⟨A9, c9, rfl⟩ := own_shape2 (Mem.row_ HM.out 1 rfl)
        go_wp2_with fail
        go_roundw
        case rel => exact ⟨k + 1, A9, c9, by omega, by go_num, rfl, by rw [HS2.out]; exact HM.out.tail⟩
        case measure => simp [intOf] <;> omega
    · obtain rfl : k = n := by omega
      have hkk : ¬ ((k : Int) < k) := by omega
      go_wp2
      exact bodyPost_ret (v := .slice A' k c') (by simp [results, Try.results33, go_sem]) rfl ⟨A', c', rfl, HM.out.below, HM.out.row_ 0 rfl⟩
set_option maxHeartbeats 1000000 in
set_option maxRecDepth 100000 in
theorem left_any (A : Option Addr) (n c : Nat) (L : List Sgt) (B : Option Addr) (t : List Nat) (cb : Nat) (w : World) (hn : L.length = n) (hmax : n ≤ 300) (hA : SgtsH w A L) (hB : SetM w B t) (ht : t.length ≤ 300) :
    Calls Try.prog 36 #[.slice A n c, .slice B t.length cb] w fun e w' => ∃ A' c', e = .returned (.slice A' (outR L t).length c') ∧ Below w.heap.size w w' ∧ w'.ownsRow w.heap.size 71 5 (.slice A' (outR L t).length c') (outR L t).length (sgsV (outR L t)) := by
  have hsT := fun k (h : (!t.contains k) = true) => (selN_succ (l := L) (p := fun i => !t.contains i) k).trans (if_pos h)
  have hsF := fun k (h : ¬ (!t.contains k) = true) => (selN_succ (l := L) (p := fun i => !t.contains i) k).trans (if_neg h)
  unfold outR
  rw [hn]
  have hml := fun k => selN_len (l := L) (p := fun i => !t.contains i) k
  obtain ⟨K, hK⟩ : ∃ K : Nat → List Sgt, K = fun k => selN L (fun i => !t.contains i) k := ⟨_, rfl⟩
  have hKe : ∀ k, selN L (fun i => !t.contains i) k = K k := fun k => by rw [hK]
  have hK0 : K 0 = [] := by rw [hK]; rfl
  simp only [hKe] at hsT hsF hml ⊢
  have hct : ∀ i, t.contains i = (t.take t.length).contains i := fun i => by rw [List.take_length]
  have htk : ∀ i j, j < t.length → (t.take (j + 1)).contains i = ((t.take j).contains i || (t.getD j 0 == i)) := fun i j hj => by
    rw [List.take_add_one, List.getElem?_eq_getElem hj, List.getD_eq_getElem?_getD, List.getElem?_eq_getElem hj]
    simp only [Option.toList_some, Option.getD_some, List.contains_append, List.contains_cons, List.contains_nil, Bool.or_false]
    congr 1
    rw [Bool.eq_iff_iff, beq_iff_eq, beq_iff_eq]
    exact eq_comm
  obtain ⟨m, hm⟩ : ∃ m, t.length = m := ⟨_, rfl⟩
  obtain ⟨C, hC⟩ : ∃ C : Nat → Nat → Bool, C = fun j i => (t.take j).contains i := ⟨_, rfl⟩
  have hCe : ∀ j i, (t.take j).contains i = C j i := fun j i => by rw [hC]
  have hC0 : ∀ i, C 0 i = false := fun i => by rw [hC]; rfl
  have hst := hB
  unfold SetM at hst
  have hsc : SgtsAt w w.heap.size A L := hA
  unfold SgtsAt at hsc
  rw [hn] at hsc
  rw [hm] at hst ht htk hct ⊢
  simp only [hCe] at hct htk
  simp only [hct] at hsT hsF
  have hm2 : (n : Int) ≤ 300 := by omega
  have hm3 : (m : Int) ≤ 300 := by omega
  have HST := hide hst
  have HSC := hide hsc
  have HSA := hide hsT
  have HSF := hide hsF
  have HK0 := hide hK0
  have HC0 := hide hC0
  have HTK := hide htk
  have HML := hide hml
  clear hst hsc hsT hsF hK0 hC0 htk hml
  clear hA hB hK hKe hn hm hC hCe hct
  go_enter Try.func36, Try.ntmps36
  have HM := hide ((Mem.start w).nilRow w.heap.size 71 5)
  go_wp2_with fail
  go_loopw [5, 13] (fun o i wr => ∃ (k : Nat) (A' : Option Addr) (c' : Nat), k ≤ n ∧ i = .int .i64 k ∧ o = .slice A' (K k).length c' ∧ Mem w [.row w.heap.size 71 5 (.slice A' (K k).length c') (K k).length (sgsV (K k))] wr) (fun _ i _ => n - (intOf i).toNat)
  case atStart => exact ⟨0, none, 0, by omega, rfl, by rw [HK0.out]; rfl, by rw [HK0.out]; exact HM.out⟩
  case round =>
    obtain ⟨k, A', c', hk, rfl, rfl, hM⟩ := hrel
    clear HM
    have HM := hide hM
    clear hM
    by_cases hlt : k < n
    · have hlt2 : (k : Int) < n := by omega
      obtain ⟨b, off, rfl, hb0, hc⟩ := HSC.out (by omega)
      have hc1 := hc _ hlt
      have hsA := HSA.out k
      have hsF := HSF.out k
      have hml := HML.out k
      have hmk : (((K k).length : Nat) : Int) ≤ 300 := by omega
      obtain ⟨X, hX⟩ : ∃ X, L.getD k sg0 = X := ⟨_, rfl⟩
      rw [hX] at hc1 hsA
      rw [← HM.out.below.cell hb0, ← HM.out.below.cell hb0, ← HM.out.below.cell hb0, ← HM.out.below.cell hb0, ← HM.out.below.cell hb0] at hc1
      have ltb : b < wr.heap.size := Nat.lt_of_lt_of_le hb0 HM.out.size
      obtain ⟨q0, q1, q2, q3, q4⟩ := hc1
      obtain ⟨sx, sy, sl, slo, shi⟩ := X
      simp only at q0 q1 q2 q3 q4
      obtain ⟨nk, hnk⟩ : ∃ m, (K k).length = m := ⟨_, rfl⟩
      obtain ⟨xs, hxs⟩ : ∃ m, sgsV (K k) = m := ⟨_, rfl⟩
      rw [hnk, hxs] at HM
      rw [hnk] at hmk
      rw [hnk]
      have Hnk := hide hnk
      have Hxs := hide hxs
      have HA1 := hide hsA
      have HF1 := hide hsF
      clear hsA hsF
      clear hc hX hml hnk hxs
      go_upto_region 5 with fail
      refine code_world fun w1 hW => ?_
      have HMn := Mem.to (Mem.allocAt HM.out wr.heap.size rfl #[.int .i64 sx, .int .i64 sy, .int .i64 sl, .int .i64 slo, .int .i64 shi] 71) hW
      have LW : Later wr w1 := by rw [hW]; exact ((Below.refl _ _).alloc (Nat.le_refl _) _)
      have szW : w1.heap.size = wr.heap.size + 1 := by rw [hW]; simp
      clear hW
      replace HM := hide HMn
      clear HMn LW
      clear szW q0 q1 q2 q3 q4 ltb
      generalize hgx : wr.heap.size = gx at HM ⊢
      go_wp2_with fail
      go_loopw [8, 20] (fun o i wr => ∃ j : Nat, j ≤ m ∧ i = .int .i64 j ∧ o = .bool (C j k) ∧ wr = w1) (fun _ i _ => m - (intOf i).toNat)
      case atStart => exact ⟨0, Nat.zero_le _, rfl, by rw [HC0.out], rfl⟩
      case round =>
        obtain ⟨j, hj, rfl, rfl, hww⟩ := hrel
        obtain rfl := hww.symm
        by_cases hjl : j < m
        · have hjl2 : (j : Int) < m := by omega
          obtain ⟨bs, cs, rfl, hbs, hcs⟩ := HST.out (by omega)
          have t0 := (blk_belowN hbs HM.out.below hbs.lt).c j (hcs j hjl)
          have ltt := (blk_belowN hbs HM.out.below hbs.lt).lt
          have htj := HTK.out k j hjl
          obtain ⟨tj, htj0⟩ : ∃ x, t.getD j 0 = x := ⟨_, rfl⟩
          rw [htj0] at t0 htj
          obtain ⟨cj, hcj⟩ : ∃ x, C j k = x := ⟨_, rfl⟩
          rw [hcj] at htj ⊢
          have Htj := hide htj
          clear htj htj0 hcj hcs hbs
          cases cj with
          | true =>
            go_wp2_with fail
            go_roundw
            case rel => exact ⟨j + 1, hjl, by go_num, by rw [Htj.out]; rfl, by first | trivial | rfl⟩
            case measure => simp [intOf] <;> omega
          | false =>
            go_wp2_with fail
            go_roundw
            case rel => exact ⟨j + 1, hjl, by go_num, by rw [Htj.out]; simp only [Bool.false_or]; congr 1; rw [Bool.eq_iff_iff, beq_iff_eq, beq_iff_eq]; omega, by first | trivial | rfl⟩
            case measure => simp [intOf] <;> omega
        · obtain rfl : j = m := by omega
          have hjj : ¬ ((j : Int) < j) := by omega
          obtain ⟨cj, hcj⟩ : ∃ x, C j k = x := ⟨_, rfl⟩
          rw [hcj] at HA1 HF1 ⊢
          clear hcj
          cases cj with
          | true =>
            have hkk := HF1.out (by simp)
            go_wp2_with fail
            go_roundw
            case rel => exact ⟨k + 1, A', c', hlt, by go_num, by rw [hkk, Hnk.out], by rw [hkk, Hnk.out, Hxs.out]; exact HM.out.tail⟩
            case measure => simp [intOf] <;> omega
          | false =>
            have hkk := HA1.out (by simp)
            have hln : (K (k + 1)).length = nk + 1 := by rw [hkk, List.length_append, Hnk.out]; rfl
            have hxn : sgsV (K (k + 1)) = xs ++ [.int .i64 sx, .int .i64 sy, .int .i64 sl, .int .i64 slo, .int .i64 shi] := by rw [hkk, sgsV_app, Hxs.out]; rfl
            have HKK := hide hkk
            have HLN := hide hln
            have HXN := hide hxn
            clear hkk hln hxn
            obtain ⟨i0, hii, hz0, hz1, hz2⟩ := info_parts sightInfo
            have Hi := hide hii
            have Hz0 := hide hz0
            have Hz1 := hide hz1
            have Hz2 := hide hz2
            clear hii hz0 hz1 hz2
            go_upto_region 12 with fail
            have bz : Blk w1 gx 71 #[.int .i64 sx, .int .i64 sy, .int .i64 sl, .int .i64 slo, .int .i64 shi] := HM.out.get 0 rfl
            have ltz := bz.lt
            have z0 := bz.c 0 rfl
            have z1 := bz.c 1 rfl
            have z2 := bz.c 2 rfl
            have z3 := bz.c 3 rfl
            have z4 := bz.c 4 rfl
            have hownM := Mem.row_ HM.out 1 rfl
            have hbaseM : w.heap.size ≤ w1.heap.size := HM.out.size
            go_wp2_with (at_builtin; refine wpList_append_own_at _ rfl (.tmp 33) (.tmp 35) _ rfl w.heap.size 71 i0 _ 5 40 Try.underlying25 Hi.out Hz0.out Hz1.out Hz2.out rfl (by decide) _ nk xs rfl (hownM.alloc _) ⟨w1.heap.size, 0, none⟩ 1 1 [.int .i64 sx, .int .i64 sy, .int .i64 sl, .int .i64 slo, .int .i64 shi] rfl rfl ?q3c1 (by intro u hu; simp only [List.mem_cons, List.not_mem_nil, or_false] at hu; rcases hu with rfl | rfl | rfl | rfl | rfl <;> rfl) ?q3c3 ?q3c4 ?q3c5 ?_)
            try case q3c1 => exact new_cellsQ w1 _ [.int .i64 sx, .int .i64 sy, .int .i64 sl, .int .i64 slo, .int .i64 shi]
            case q3c3 => unfold maxLen; omega
            case q3c4 => omega
            case q3c5 => first | omega | (simp; omega)
            intro vA w9 hown2 hgr2 _ hat2
            have HMn := HM.out.grow 1 rfl _ hgr2 hown2 hat2
            replace HM := hide HMn
            clear HMn hown2 hgr2 hat2 hownM hbaseM
            clear bz ltz z0 z1 z2 z3 z4
            obtain ⟨A9, c9, rfl⟩ := own_shape2 (Mem.row_ HM.out 1 rfl)
            go_wp2_with fail
            go_roundw
            case rel => exact ⟨k + 1, A9, c9, hlt, by go_num, by rw [HLN.out], by rw [HLN.out, HXN.out]; exact HM.out.tail⟩
            case measure => simp [intOf] <;> omega
    · obtain rfl : k = n := by omega
      have hkk : ¬ ((k : Int) < k) := by omega
      go_wp2
      exact bodyPost_ret (v := .slice A' (K k).length c') (by simp [results, Try.results36, go_sem]) rfl ⟨A', c', rfl, HM.out.below, HM.out.row_ 0 rfl⟩
end Go.Proofs.Ytllpffkifleigaa
end
section
namespace Go.Proofs.Ytllpffkifleigaa
open Go Go.RowKit

theorem sgsV_take (L : List Sgt) (k j : Nat) (u : Value) (h : (sgsV (L.take k))[j]? = some u) : (sgsV L)[j]? = some u := by
  have e : sgsV L = sgsV (L.take k) ++ sgsV (L.drop k) := by rw [← sgsV_app, List.take_append_drop]
  rw [e, List.getElem?_append_left (List.getElem?_eq_some_iff.1 h).1]
  exact h
theorem sgsV_drop (L : List Sgt) (k j : Nat) (hk : k ≤ L.length) (u : Value) (h : (sgsV (L.drop k))[j]? = some u) : (sgsV L)[k * 5 + j]? = some u := by
  have e : sgsV L = sgsV (L.take k) ++ sgsV (L.drop k) := by rw [← sgsV_app, List.take_append_drop]
  have hl : (sgsV (L.take k)).length = k * 5 := by rw [sgsV_len, List.length_take, Nat.min_eq_left hk]
  rw [e, List.getElem?_append_right (by omega), hl, show k * 5 + j - k * 5 = j by omega]
  exact h
theorem SlS.take {w : World} {A : Option Addr} {c : Nat} {L : List Sgt} (h : SlS w A c L) (k : Nat) : SlS w A c (L.take k) := by
  refine ⟨Nat.le_trans (by rw [List.length_take]; exact Nat.min_le_right _ _) h.1, h.2.1, h.2.2.imp ?_ ?_⟩
  · rintro ⟨e1, e2, e3⟩
    exact ⟨e1, by rw [e2]; simp, e3⟩
  · rintro ⟨b, off, e, hl, hc⟩
    exact ⟨b, off, e, hl, fun j u hu => hc j u (sgsV_take L k j u hu)⟩
theorem SlS.drop {w : World} {b off c : Nat} {L : List Sgt} (h : SlS w (some ⟨b, off, none⟩) c L) (k : Nat) (hk : k ≤ L.length) : SlS w (if c = k then some ⟨b, off, none⟩ else some ⟨b, off + k * 5, none⟩) (c - k) (L.drop k) := by
  obtain ⟨h1, h2, h3⟩ := h
  refine ⟨by rw [List.length_drop]; omega, by omega, .inr ?_⟩
  rcases h3 with ⟨e, -⟩ | ⟨b', off', e, hl, hc⟩
  · cases e
  · injection e with e
    injection e with e1 e2 _
    subst e1 e2
    by_cases hck : c = k
    · rw [if_pos hck]
      refine ⟨b, off, rfl, hl, fun j u hu => ?_⟩
      have : L.drop k = [] := List.drop_eq_nil_of_le (by omega)
      rw [this] at hu
      simp [sgsV] at hu
    · rw [if_neg hck]
      refine ⟨b, off + k * 5, rfl, hl, fun j u hu => ?_⟩
      rw [Nat.add_assoc]
      exact hc _ u (sgsV_drop L k j hk u hu)
/-- A slice that is not empty has an address. -/
theorem SlS.some {w : World} {A : Option Addr} {c : Nat} {L : List Sgt} (h : SlS w A c L) (hn : 0 < L.length) : ∃ b off, A = some ⟨b, off, none⟩ ∧ b < w.heap.size := by
  rcases h.2.2 with ⟨-, e2, -⟩ | ⟨b, off, e, hl, -⟩
  · rw [e2] at hn; simp at hn
  · exact ⟨b, off, e, hl⟩
theorem mix_near {E : List EyeN} {u v p q : Int} {B : Nat → Bool} {n : Nat} (hn : E.length = n) (he : ∀ e ∈ E, EyeOk e) (hu : -32768 ≤ u ∧ u ≤ 32767) (hv : -32768 ≤ v ∧ v ≤ 32767) (hp : -32768 ≤ p ∧ p ≤ 32767) (hq : -32768 ≤ q ∧ q ≤ 32767) : ∀ s ∈ mixT E u v p q B n, Near s := fun s hs => by
  unfold mixT at hs
  obtain ⟨i, hi, rfl⟩ := List.mem_map.1 hs
  have h1 := he _ (getD_memE (d := eye0) (show i < E.length by have := List.mem_range.1 hi; omega))
  split
  · exact eye_ok h1 hp hq
  · exact eye_ok h1 hu hv
theorem near_list {L : List Sgt} (h : ∀ s ∈ L, Near s) (hn : L.length ≤ 360) : listE L = 0 := listE_ok.2 ⟨hn, fun s hs => (h s hs).ok⟩
theorem near_allI {L : List Sgt} (h : ∀ s ∈ L, Near s) : AllI L := allI_of_ok fun s hs => (h s hs).ok
theorem near_b {L : List Sgt} (h : ∀ s ∈ L, Near s) : ∀ s ∈ L, -1000000 ≤ s.lo ∧ s.lo ≤ 1000000 ∧ -1000000 ≤ s.hi ∧ s.hi ≤ 1000000 := fun s hs => by
  have := h s hs
  have := this.a1
  have := (h s hs).a2
  have := (h s hs).a3
  omega
theorem wide_allI {L : List Sgt} {d : Int} (h : ∀ s ∈ L, Near s) : AllI (L.map (wideS d)) := fun s hs => by
  obtain ⟨x, hx, rfl⟩ := List.mem_map.1 hs
  exact near_allI h x hx
theorem wide_bnds {L : List Sgt} {d : Int} (h : ∀ s ∈ L, Near s) (hn : L.length ≤ 360) (h0 : 0 ≤ d) (h1 : d ≤ 200000) : bndsE (L.map (wideS d)) = 0 ↔ Feas (L.map (wideS d)) 0 :=
  ⟨fun h => (bndsE_iff.1 h).2, fun hf => bndsE_iff.2 ⟨⟨by rw [List.length_map]; exact hn, fun s hs => by
    obtain ⟨x, hx, rfl⟩ := List.mem_map.1 hs
    exact near_wide (h x hx) h0 h1⟩, hf⟩⟩
end Go.Proofs.Ytllpffkifleigaa
end
section
namespace Go.Proofs.Ytllpffkifleigaa
open Go Go.RowKit

def secO (a b : Nat) : Int := bits BinOp.or IntKind.u16 (2 ^ a) (2 ^ b)
theorem secO_all : ∀ a, a < 8 → ∀ b, b < 8 → (0 ≤ secO a b ∧ secO a b ≤ 65535) ∧ ∀ i, i < 8 → bitB (secO a b) i = decide (i = a ∨ i = b) := by decide +kernel
theorem secS_all : ∀ a, a < 8 → ∀ b, b < 9 → a < b → (0 ≤ (2 : Int) ^ b - 2 ^ a ∧ (2 : Int) ^ b - 2 ^ a ≤ 65535) ∧ ∀ i, i < 8 → bitB ((2 : Int) ^ b - 2 ^ a) i = decide (a ≤ i ∧ i < b) := by decide +kernel
theorem pow_bd : ∀ a, a < 9 → 1 ≤ (2 : Int) ^ a ∧ (2 : Int) ^ a ≤ 256 := by decide +kernel
theorem mixT_getD {E : List EyeN} {u v p q : Int} {B : Nat → Bool} {k i : Nat} (h : i < k) : (mixT E u v p q B k).getD i sg0 = if B i = true then eyeT p q (E.getD i eye0) else eyeT u v (E.getD i eye0) := by
  unfold mixT
  rw [List.getD_eq_getElem?_getD, List.getElem?_map, List.getElem?_range h]
  rfl
theorem eye_agr1 {e : EyeN} {u v : Int} (h : EyeOk e) : Agr1 (eyeT u v e) u v := by
  have d := dirE_ok h.r0 h.d0
  have := d.l1
  have l0 := h.l0
  have m0 := h.m0
  unfold eyeT
  exact eye_agr (by omega) (by omega) (by omega)
theorem out_one {E : List EyeN} {n : Nat} {u v p q : Int} {a b : Nat} (hn : E.length = n) (hmax : n ≤ 8) (he : ∀ e ∈ E, EyeOk e) (hu : -32768 ≤ u ∧ u ≤ 32767) (hv : -32768 ≤ v ∧ v ≤ 32767) (hp : -32768 ≤ p ∧ p ≤ 32767) (hq : -32768 ≤ q ∧ q ≤ 32767) (ha : a < n) (hb : b < n) :
    ∃ t, t.length ≤ 2 ∧ withoutE (mixT E u v p q (bitB (secO a b)) n) 2 = 0 ∧ withoutA (mixT E u v p q (bitB (secO a b)) n) 2 = t ∧ Feas (outR (mixT E u v p q (bitB (secO a b)) n) t) 0 ∧ ∀ k : Nat, k < t.length → withoutE (mixT E u v p q (bitB (secO a b)) n) k = 14 := by
  have hnr := mix_near (B := bitB (secO a b)) hn he hu hv hp hq
  have hl := mixT_len (E := E) (u := u) (v := v) (p := p) (q := q) (B := bitB (secO a b)) n
  have hbit := (secO_all a (by omega) b (by omega)).2
  obtain ⟨t, h1, h2, h3, h4, h5⟩ := without_two (l := mixT E u v p q (bitB (secO a b)) n) (a := a) (b := b) (u := u) (v := v) (by omega) (by omega) (by omega) (by omega) (fun i hi hia hib => by
    rw [hl] at hi
    rw [mixT_getD hi, hbit i (by omega), decide_eq_false (by omega), if_neg (by simp)]
    exact eye_agr1 (he _ (getD_memE (by omega))))
  have hle := near_list hnr (by omega)
  have e2 : withoutE (mixT E u v p q (bitB (secO a b)) n) 2 = 0 := by
    unfold withoutE
    rw [if_neg (by rw [hle]; simp), if_pos (by omega), show (2 : Int).toNat = 2 from rfl, h1]
    rfl
  refine ⟨t, h2, e2, ?_, h4, fun k hk => ?_⟩
  · unfold withoutA
    rw [if_pos e2, show (2 : Int).toNat = 2 from rfl, h1]
    rfl
  · unfold withoutE
    rw [if_neg (by rw [hle]; simp), if_pos (by omega), show ((k : Nat) : Int).toNat = k from Int.toNat_natCast k, h5 k hk]
    rfl
theorem out_two {E : List EyeN} {n : Nat} {u v p q : Int} {a b : Nat} (hn : E.length = n) (hmax : n ≤ 8) (he : ∀ e ∈ E, EyeOk e) (hu : -32768 ≤ u ∧ u ≤ 32767) (hv : -32768 ≤ v ∧ v ≤ 32767) (hp : -32768 ≤ p ∧ p ≤ 32767) (hq : -32768 ≤ q ∧ q ≤ 32767) (hab : a < b) (hb : b ≤ n) (hf : ¬ Feas (mixT E u v p q (bitB (2 ^ b - 2 ^ a)) n) 0) :
    ∃ x y, frontE (mixT E u v p q (bitB (2 ^ b - 2 ^ a)) n) = 0 ∧ frontA (mixT E u v p q (bitB (2 ^ b - 2 ^ a)) n) = (x, y) ∧ x < y ∧ y ≤ n ∧ x ≤ a ∧ Feas (slc (mixT E u v p q (bitB (2 ^ b - 2 ^ a)) n) x y) 0 ∧ Feas ((mixT E u v p q (bitB (2 ^ b - 2 ^ a)) n).take x ++ (mixT E u v p q (bitB (2 ^ b - 2 ^ a)) n).drop y) 0 := by
  have hnr := mix_near (B := bitB (2 ^ b - 2 ^ a)) hn he hu hv hp hq
  have hl := mixT_len (E := E) (u := u) (v := v) (p := p) (q := q) (B := bitB (2 ^ b - 2 ^ a)) n
  have hbit := (secS_all a (by omega) b (by omega) hab).2
  have hfr : frontB (mixT E u v p q (bitB (2 ^ b - 2 ^ a)) n) a b = true := front_two (u := u) (v := v) (p := p) (q := q) hab (by omega) (by omega) (by omega) (by omega) (by omega)
    (fun k hk hh => by
      rw [hl] at hk
      rw [mixT_getD hk, hbit k (by omega), decide_eq_false (by omega), if_neg (by simp)]
      exact eye_agr1 (he _ (getD_memE (by omega))))
    (fun k h1 h2 => by
      rw [mixT_getD (by omega), hbit k (by omega), decide_eq_true (by omega), if_pos rfl]
      exact eye_agr1 (he _ (getD_memE (by omega))))
  obtain ⟨⟨x, y⟩, h1, h2, h3, h4, h5, h6⟩ := front_has hab (by omega) hfr
  have hle := near_list hnr (by omega)
  have e0 : frontE (mixT E u v p q (bitB (2 ^ b - 2 ^ a)) n) = 0 := by
    unfold frontE
    rw [if_neg (by rw [hle]; simp), if_neg (by omega), if_neg (by rw [agrB_no.2 hf]; simp), h1]
    rfl
  refine ⟨x, y, e0, ?_, h2, by rw [hl] at h3; exact h3, h4, h5, h6⟩
  unfold frontA
  rw [if_pos e0, h1]
  rfl
theorem out_agrees {l : List Sgt} (hn : ∀ s ∈ l, Near s) (hl : l.length ≤ 64) (hf : Feas l 0) : frontE l = 4 ∧ frontA l = (0, 0) := by
  have hle := near_list hn (by omega)
  have e : frontE l = 4 := by
    unfold frontE
    rw [if_neg (by rw [hle]; simp), if_neg (by omega), if_pos (agrB_iff.2 hf)]
  exact ⟨e, by unfold frontA; rw [if_neg (by rw [e]; simp)]⟩
end Go.Proofs.Ytllpffkifleigaa
end
section
namespace Go.Proofs.Ytllpffkifleigaa
open Go Go.RowKit

theorem EyesAt.below {w w' : World} {A : Option Addr} {E : List EyeN} (h : EyesAt w w.heap.size A E) (hb : Below w.heap.size w w') : EyesAt w' w'.heap.size A E := fun hn => by
  obtain ⟨b, off, e, hl, hc⟩ := h hn
  refine ⟨b, off, e, Nat.lt_of_lt_of_le hl hb.size, fun i hi => ?_⟩
  obtain ⟨c1, c2, c3, c4⟩ := hc i hi
  exact ⟨(hb.cell hl).trans c1, (hb.cell hl).trans c2, (hb.cell hl).trans c3, (hb.cell hl).trans c4⟩
/-- What Bounds and Along answer of sights that agree. -/
theorem bnds_ok {l : List Sgt} (h : bndsE l = 0) (f : List Pt → Int) : bndB l f = f (cs0 l) := by unfold bndB; rw [if_pos h]
theorem rch_ok {l : List Sgt} (hf : Feas l 0) {x y len : Int} (hl : 0 < len) (hx : -len ≤ x ∧ x ≤ len) (hy : -len ≤ y ∧ y ≤ len) : Rch l x y len (loL x y len 240000 (cs0 l)) (hiL x y len 240000 (cs0 l)) := rch_of hf hl hx hy
theorem along_ok {l : List Sgt} (h : bndsE l = 0) {x y len : Int} (hd : DirOk ⟨x, y, len⟩) : alongE l x y len = 0 ∧ alongL l x y len = loL x y len 240000 (cs0 l) ∧ alongH l x y len = hiL x y len 240000 (cs0 l) := by
  obtain ⟨h1, h2⟩ := bndsE_iff.1 h
  have e : alongE l x y len = 0 := by
    unfold alongE
    rw [if_neg (by rw [listE_ok.2 h1]; simp), if_pos (dirB_iff.2 ⟨hd.l1, hd.l2, hd.x1, hd.x2, hd.y1, hd.y2, hd.sq⟩), if_pos (agrB_iff.2 h2)]
  exact ⟨e, by unfold alongL; rw [if_pos e], by unfold alongH; rw [if_pos e]⟩
theorem near_bnds {l : List Sgt} (hn : ∀ s ∈ l, Near s) (hlen : l.length ≤ 360) : bndsE l = 0 ↔ Feas l 0 := ⟨fun h => (bndsE_iff.1 h).2, fun h => bndsE_iff.2 ⟨⟨hlen, fun s hs => (hn s hs).ok⟩, h⟩⟩
theorem dir_10 : DirOk ⟨1, 0, 1⟩ := ⟨by decide, by decide, by decide, by decide, by decide, by decide, by decide⟩
theorem dir_01 : DirOk ⟨0, 1, 1⟩ := ⟨by decide, by decide, by decide, by decide, by decide, by decide, by decide⟩
set_option maxHeartbeats 1000000 in
set_option maxRecDepth 100000 in
theorem WindReached_any (A : Option Addr) (n c : Nat) (E : List EyeN) (u v ro di : Int) (w : World) (hn : E.length = n) (hmax : n ≤ maxLen) (he : ∀ e ∈ E, EyeOk e) (hA : EyesAt w w.heap.size A E) (hu : -32768 ≤ u ∧ u ≤ 32767) (hv : -32768 ≤ v ∧ v ≤ 32767) (hr : 0 ≤ ro ∧ ro ≤ 255) (hd : 0 ≤ di ∧ di ≤ 255) :
    Calls Try.prog 6 #[.slice A n c, .int .i16 u, .int .i16 v, .int .u8 ro, .int .u8 di] w fun e w' => e = .returned (.bool true) ∧ Below w.heap.size w w' := by
  obtain ⟨u1, u2⟩ := hu
  obtain ⟨v1, v2⟩ := hv
  obtain ⟨r1, r2⟩ := hr
  obtain ⟨d1, d2⟩ := hd
  by_cases h10 : 10 < n
  · have hM := fun W => eyes_many A n c u v W h10
    have HE := hide hM
    clear hM
    clear hA he hn
    go_enter Try.func6, Try.ntmps6
    have HM := hide (Mem.start w)
    go_wp2_with fail
    refine (HE.out _).mono ?_
    rintro e w1 ⟨rfl, hb⟩
    replace HM := hide (HM.out.later hb)
    clear hb
    go_wp2_with fail
    refine (works_any _).mono ?_
    rintro e w2 ⟨rfl, hb⟩
    replace HM := hide (HM.out.later hb)
    clear hb
    go_wp2
    exact bodyPost_ret (v := .bool true) (by simp [results, Try.results6, go_sem]) rfl ⟨rfl, HM.out.below⟩
  · have hM := eyes_any A E c u v w (by omega) hA he ⟨u1, u2⟩ ⟨v1, v2⟩
    have hnr := eyes_near (u := u) (v := v) he ⟨u1, u2⟩ ⟨v1, v2⟩
    have hfe := eyes_feas (u := u) (v := v) he ⟨u1, u2⟩ ⟨v1, v2⟩
    have hll : (E.map (eyeT u v)).length = n := by rw [List.length_map, hn]
    obtain ⟨L, hL⟩ : ∃ L, E.map (eyeT u v) = L := ⟨_, rfl⟩
    rw [hL] at hM hnr hfe hll
    have hok : ∀ s ∈ L, SgtOk s := fun s hs => (hnr s hs).ok
    have hbe := (near_bnds hnr (by omega)).2 hfe
    have dk := dirE_ok r1 d1
    have hD := fun W => Direction_any (roseE ro) (di % (4 * roseE ro)) W
    obtain ⟨k1, k2⟩ := rose_bd r1
    obtain ⟨k3, k4⟩ := rosed_bd r1 d1
    have hdr : dirR (roseE ro) (di % (4 * roseE ro)) = (dirE ro di, 0) := by
      unfold dirR
      rw [if_pos]
      · rfl
      unfold okD
      rw [Bool.and_eq_true]
      exact ⟨winB_iff.2 ⟨by omega, by omega⟩, winB_iff.2 ⟨by omega, by omega⟩⟩
    rw [hdr] at hD
    unfold vecE at hD
    have t1 : ro.tmod 20 = ro % 20 := Int.tmod_eq_emod_of_nonneg r1
    have t2 : ∀ b, di.tmod b = di % b := fun b => Int.tmod_eq_emod_of_nonneg d1
    have hro : roseE ro = 1 + ro % 20 := rfl
    generalize dirE ro di = dv at *
    obtain ⟨dx, dy, dl⟩ := dv
    obtain ⟨a1, a2, a3⟩ := along_ok hbe dk
    obtain ⟨e1, e2, e3, e4, e5, e6, e7⟩ := dk
    simp only at *
    have dk : DirOk ⟨dx, dy, dl⟩ := ⟨e1, e2, e3, e4, e5, e6, e7⟩
    have hB := fun (A' : Option Addr) (c' : Nat) (W : World) (hs : SgtsH W A' L) => Bounds_any A' L c' W (by omega) hs (allI_of_ok hok)
    have hG := fun (A' : Option Addr) (c' : Nat) (W : World) (hs : SgtsH W A' L) => Along_any A' L c' dx dy dl W (by omega) hs (allI_of_ok hok) (by unfold I64; omega) (by unfold I64; omega)
    rw [hbe] at hB
    rw [a1, a2, a3] at hG
    simp only [bnds_ok hbe] at hB
    have R1 := rch_ok hfe (x := 1) (y := 0) (len := 1) (by omega) (by omega) (by omega)
    have R2 := rch_ok hfe (x := 0) (y := 1) (len := 1) (by omega) (by omega) (by omega)
    have R3 := rch_ok hfe (x := dx) (y := dy) (len := dl) (by omega) ⟨e3, e4⟩ ⟨e5, e6⟩
    generalize loL 1 0 1 240000 (cs0 L) = p1 at *
    generalize hiL 1 0 1 240000 (cs0 L) = p2 at *
    generalize loL 0 1 1 240000 (cs0 L) = p3 at *
    generalize hiL 0 1 1 240000 (cs0 L) = p4 at *
    generalize loL dx dy dl 240000 (cs0 L) = p5 at *
    generalize hiL dx dy dl 240000 (cs0 L) = p6 at *
    have g1 := fun (A' : Option Addr) (c' : Nat) (W : World) (hs : SlS W A' c' L) => ends_any A' n c' L 1 0 1 p1 p2 W hll (by omega) hs hok R1 dir_10
    have g2 := fun (A' : Option Addr) (c' : Nat) (W : World) (hs : SlS W A' c' L) => ends_any A' n c' L 0 1 1 p3 p4 W hll (by omega) hs hok R2 dir_01
    have g3 := fun (A' : Option Addr) (c' : Nat) (W : World) (hs : SlS W A' c' L) => ends_any A' n c' L dx dy dl p5 p6 W hll (by omega) hs hok R3 dk
    obtain ⟨rr, hrr⟩ : ∃ r, roseE ro = r := ⟨_, rfl⟩
    rw [hrr] at hD k1 k2 k3 k4 hro
    obtain ⟨rq, hrq⟩ : ∃ r, ro % 20 = r := ⟨_, rfl⟩
    rw [hrq] at t1 hro
    subst hro
    have t5 := t2 (4 * (1 + rq))
    obtain ⟨dq, hdq⟩ : ∃ r, di % (4 * (1 + rq)) = r := ⟨_, rfl⟩
    rw [hdq] at t5 hD k3 k4
    have hlz := hll
    unfold EyesPost at hM
    rw [hn] at hM
    rw [hll] at hM hB hG
    have HE := hide hM
    have HD := hide hD
    have HB0 := hide hB
    have HG := hide hG
    have G1 := hide g1
    have G2 := hide g2
    have G3 := hide g3
    have HLZ := hide hlz
    clear hM hD hB hG g1 g2 g3 hlz
    clear hA he hn hL hok hnr hfe hbe R1 R2 R3 dk t2 a1 a2 a3 e7 hll hdr
    go_enter Try.func6, Try.ntmps6
    have HM := hide (Mem.start w)
    go_wp2_with fail
    refine (HE.out).mono ?_
    rintro e w1 ⟨A1, c1, rfl, hb, ho⟩
    replace HM := hide (HM.out.later hb)
    clear hb
    have HS := hide (SlS.of_own HLZ.out ho)
    clear ho
    go_wp2_with fail
    refine (HB0.out _ _ _ HS.out.sgts).mono ?_
    rintro e w2 ⟨rfl, hb⟩
    replace HM := hide (HM.out.later hb)
    replace HS := hide (HS.out.later hb)
    clear hb
    go_upto_region 5 with fail
    refine code_world fun w3 hW => ?_
    have HMn := Mem.to (Mem.allocAt HM.out w2.heap.size rfl #[.int .i64 p1, .int .i64 p2, .int .i64 p3, .int .i64 p4] 34) hW
    have LW : Later w2 w3 := by rw [hW]; exact ((Below.refl _ _).alloc (Nat.le_refl _) _)
    have szW : w3.heap.size = w2.heap.size + 1 := by rw [hW]; simp
    clear hW
    replace HS := hide (HS.out.later LW)
    replace HM := hide HMn
    clear HMn LW
    clear szW
    generalize hgw : w2.heap.size = gw at HM ⊢
    clear hgw
    go_wp2_with fail
    refine (HD.out _).mono ?_
    rintro e w4 ⟨rfl, hb⟩
    replace HM := hide (HM.out.later hb)
    replace HS := hide (HS.out.later hb)
    clear hb
    go_wp2_with fail
    refine (HG.out _ _ _ HS.out.sgts).mono ?_
    rintro e w5 ⟨rfl, hb⟩
    replace HM := hide (HM.out.later hb)
    replace HS := hide (HS.out.later hb)
    clear hb
    go_upto_region 8 with fail
    refine code_world fun w6 hW => ?_
    have HMn := Mem.to (Mem.allocAt HM.out w5.heap.size rfl #[.int .i64 p5, .int .i64 p6] 32) hW
    have LW : Later w5 w6 := by rw [hW]; exact ((Below.refl _ _).alloc (Nat.le_refl _) _)
    have szW : w6.heap.size = w5.heap.size + 1 := by rw [hW]; simp
    clear hW
    replace HS := hide (HS.out.later LW)
    replace HM := hide HMn
    clear HMn LW
    clear szW
    generalize hga : w5.heap.size = ga at HM ⊢
    clear hga
    have ba : Blk w6 gw 34 #[.int .i64 p1, .int .i64 p2, .int .i64 p3, .int .i64 p4] := HM.out.get 1 rfl
    have lta := ba.lt
    have a0 := ba.c 0 rfl
    have a1 := ba.c 1 rfl
    have a2 := ba.c 2 rfl
    have a3 := ba.c 3 rfl
    go_wp2_with fail
    refine (G1.out _ _ _ HS.out).mono ?_
    rintro e w7 ⟨rfl, hb⟩
    replace HM := hide (HM.out.later hb)
    replace HS := hide (HS.out.later hb)
    clear hb ba lta a0 a1 a2 a3
    have ba : Blk w7 gw 34 #[.int .i64 p1, .int .i64 p2, .int .i64 p3, .int .i64 p4] := HM.out.get 1 rfl
    have lta := ba.lt
    have a0 := ba.c 0 rfl
    have a1 := ba.c 1 rfl
    have a2 := ba.c 2 rfl
    have a3 := ba.c 3 rfl
    go_wp2_with fail
    refine (G2.out _ _ _ HS.out).mono ?_
    rintro e w8 ⟨rfl, hb⟩
    replace HM := hide (HM.out.later hb)
    replace HS := hide (HS.out.later hb)
    clear hb ba lta a0 a1 a2 a3
    have ba : Blk w8 ga 32 #[.int .i64 p5, .int .i64 p6] := HM.out.get 0 rfl
    have lta := ba.lt
    have a0 := ba.c 0 rfl
    have a1 := ba.c 1 rfl
    go_wp2_with fail
    refine (G3.out _ _ _ HS.out).mono ?_
    rintro e w9 ⟨rfl, hb⟩
    replace HM := hide (HM.out.later hb)
    replace HS := hide (HS.out.later hb)
    clear hb ba lta a0 a1
    go_wp2_with fail
    refine (works_any _).mono ?_
    rintro e w10 ⟨rfl, hb⟩
    replace HM := hide (HM.out.later hb)
    replace HS := hide (HS.out.later hb)
    clear hb
    go_wp2
    exact bodyPost_ret (v := .bool true) (by simp [results, Try.results6, go_sem]) rfl ⟨rfl, HM.out.below⟩
end Go.Proofs.Ytllpffkifleigaa
end
