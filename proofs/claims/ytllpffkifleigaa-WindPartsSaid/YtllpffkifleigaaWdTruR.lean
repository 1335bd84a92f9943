/-
  The chapter's examples, call by call.
  The chapter's examples hold.
  Eyes as they lie in memory; their sights.
  The law's few and sights.
  WindTruth: a radar that sees a wind within bounds; plain words.
  Slices of sights; the ends of a reach.
  Ring and Place, of sights that are right.
  Place, of sights that are right.
  WindTruth: the two radars that see a place; plain words.
  WindTruth: rows of rays and of what is seen.
-/
import Derived.Test.YtllpffkifleigaaWdWithout
import Derived.Test.YtllpffkifleigaaWxList
import Derived.Test.YtllpffkifleigaaWdBounds
import Derived.Test.YtllpffkifleigaaWdAgree
import Derived.Test.YtllpffkifleigaaFewMath
import Derived.Test.YtllpffkifleigaaWbRefDivs
import Derived.Test.YtllpffkifleigaaWbRefFind
set_option linter.unusedSimpArgs false
set_option linter.unusedVariables false
section
namespace Go.Proofs.Ytllpffkifleigaa
open Go Go.RowKit

theorem allI_of_ok {l : List Sgt} (h : ∀ s ∈ l, SgtOk s) : AllI l := fun s hs => by
  obtain ⟨l1, l2, x1, x2, y1, y2, -, -, -, -⟩ := h s hs
  unfold I64
  omega
theorem ok_of {l : List Sgt} (h : listE l = 0) : AllI l := allI_of_ok (listE_ok.1 h).2
theorem ex_bE : bndsE (ex4.take 3) = 0 := by
  unfold bndsE
  rw [if_neg (by rw [ex_list.2.1]; simp), if_pos (ex_agr ex_emp.2.1)]
theorem ex_aE : alongE (ex4.take 2) 3 4 5 = 0 := by
  unfold alongE
  rw [if_neg (by rw [ex_list.2.2.1]; simp), if_pos (by decide), if_pos (ex_agr ex_emp.2.2.1)]
theorem ex_blE : blameE ex4 = 0 := by
  unfold blameE
  rw [if_neg (by rw [ex_list.1]; simp), if_neg (by rw [ex_no ex_emp.1]; simp)]
theorem ex_blA : blameA ex4 = [0, 1, 3] := by
  unfold blameA
  rw [if_pos ex_blE, ex_blame]
  rfl
theorem ex_blE3 : blameE (ex4.take 3) = 4 := by
  unfold blameE
  rw [if_neg (by rw [ex_list.2.1]; simp), if_pos (ex_agr ex_emp.2.1)]
theorem ex_blA3 : blameA (ex4.take 3) = [] := by
  unfold blameA
  rw [if_neg (by rw [ex_blE3]; simp)]
theorem ex_sA : strainA exS = 2250 := by
  unfold strainA
  rw [if_neg (by rw [ex_list.2.2.2.1]; simp), ex_strain]
theorem ex_wE1 : withoutE ex4 1 = 0 := by
  unfold withoutE
  rw [if_neg (by rw [ex_list.1]; simp), if_pos (by omega), show (1 : Int).toNat = 1 from rfl, ex_without.1]
  rfl
theorem ex_wA1 : withoutA ex4 1 = [3] := by
  unfold withoutA
  rw [if_pos ex_wE1, show (1 : Int).toNat = 1 from rfl, ex_without.1]
  rfl
theorem ex_wE0 : withoutE ex4 0 = 14 := by
  unfold withoutE
  rw [if_neg (by rw [ex_list.1]; simp), if_pos (by omega), show (0 : Int).toNat = 0 from rfl, ex_without.2]
  rfl
theorem ex_wA0 : withoutA ex4 0 = [] := by
  unfold withoutA
  rw [if_neg (by rw [ex_wE0]; simp)]
theorem ex_fE : frontE exF = 0 := by
  unfold frontE
  rw [if_neg (by rw [ex_list.2.2.2.2]; simp), if_neg (by decide), if_neg (by rw [ex_no ex_emp.2.2.2]; simp), ex_front]
  rfl
theorem ex_fA : frontA exF = (0, 2) := by
  unfold frontA
  rw [if_pos ex_fE, ex_front]
  rfl
theorem ex_gE : agreeE (ex4.take 3) 5100 0 = 0 ∧ agreeA (ex4.take 3) 5100 0 = true ∧ agreeE (ex4.take 3) 5200 0 = 0 ∧ agreeA (ex4.take 3) 5200 0 = false := by decide +kernel
def exN : ByteArray := ⟨#[115]⟩
theorem ex_site : siteE (nameB exN) 0 0 0 1 1 500 0 = 0 := by decide +kernel
theorem ex_lE : lookE 0 1 256 0 300 300 (-30) 30 = 0 ∧ lookA 0 1 256 0 300 300 (-30) 30 = ⟨4, 3, 5, 460, 540⟩ := by
  have h : lookE 0 1 256 0 300 300 (-30) 30 = 0 := by decide +kernel
  refine ⟨h, ?_⟩
  unfold lookA
  rw [if_pos h]
  unfold lookS
  congr 1
section
variable (g : Nat) (W : World)
theorem w_bounds (h : SgtsH W (some ⟨g, 0, none⟩) (ex4.take 3)) : Calls Try.prog 17 #[.slice (some ⟨g, 0, none⟩) 3 4] W fun e w' => e = .returned (.tuple #[.agg #[.int .i64 5000, .int .i64 5875, .int .i64 (-1000), .int .i64 0], .int .i64 0]) ∧ Below W.heap.size W w' := by
  have := Bounds_any (some ⟨g, 0, none⟩) (ex4.take 3) 4 W (by unfold maxLen; decide) h (ok_of ex_list.2.1)
  unfold bndB at this
  simp only [ex_bE, ex_bnds, if_true] at this
  exact this
theorem w_along (h : SgtsH W (some ⟨g, 0, none⟩) (ex4.take 2)) : Calls Try.prog 19 #[.slice (some ⟨g, 0, none⟩) 2 4, .int .i64 3, .int .i64 4, .int .i64 5] W fun e w' => e = .returned (.tuple #[.agg #[.int .i64 2200, .int .i64 3600], .int .i64 0]) ∧ Below W.heap.size W w' := by
  have := Along_any (some ⟨g, 0, none⟩) (ex4.take 2) 4 3 4 5 W (by unfold maxLen; decide) h (ok_of ex_list.2.2.1) (by unfold I64; omega) (by unfold I64; omega)
  unfold alongL alongH at this
  simp only [ex_aE, ex_along, if_true] at this
  exact this
theorem w_blame (h : SgtsH W (some ⟨g, 0, none⟩) ex4) : Calls Try.prog 21 #[.slice (some ⟨g, 0, none⟩) 4 4] W (SetPost W [0, 1, 3] 0) := by
  have := Blame_any (some ⟨g, 0, none⟩) ex4 4 W (by unfold maxLen; decide) h (ok_of ex_list.1)
  rw [ex_blA, ex_blE] at this
  exact this
theorem w_blame3 (h : SgtsH W (some ⟨g, 0, none⟩) (ex4.take 3)) : Calls Try.prog 21 #[.slice (some ⟨g, 0, none⟩) 3 4] W (SetPost W [] 4) := by
  have := Blame_any (some ⟨g, 0, none⟩) (ex4.take 3) 4 W (by unfold maxLen; decide) h (ok_of ex_list.2.1)
  rw [ex_blA3, ex_blE3] at this
  exact this
theorem w_strain (A : Option Addr) (c : Nat) (h : SgtsH W A exS) : Calls Try.prog 24 #[.slice A 3 c] W fun e w' => e = .returned (.tuple #[.int .i64 2250, .int .i64 0]) ∧ Below W.heap.size W w' := by
  have := Strain_any A exS c W (by unfold maxLen; decide) h (ok_of ex_list.2.2.2.1)
  rw [ex_sA, ex_list.2.2.2.1] at this
  exact this
theorem w_without1 (h : SgtsH W (some ⟨g, 0, none⟩) ex4) : Calls Try.prog 26 #[.slice (some ⟨g, 0, none⟩) 4 4, .int .i64 1] W (SetPost W [3] 0) := by
  have := Without_any (some ⟨g, 0, none⟩) ex4 4 1 W (by unfold maxLen; decide) h (ok_of ex_list.1)
  rw [ex_wA1, ex_wE1] at this
  exact this
theorem w_without0 (h : SgtsH W (some ⟨g, 0, none⟩) ex4) : Calls Try.prog 26 #[.slice (some ⟨g, 0, none⟩) 4 4, .int .i64 0] W (SetPost W [] 14) := by
  have := Without_any (some ⟨g, 0, none⟩) ex4 4 0 W (by unfold maxLen; decide) h (ok_of ex_list.1)
  rw [ex_wA0, ex_wE0] at this
  exact this
theorem w_front (A : Option Addr) (h : SgtsH W A exF) : Calls Try.prog 28 #[.slice A 4 4] W fun e w' => e = .returned (.tuple #[.int .i64 0, .int .i64 2, .int .i64 0]) ∧ Below W.heap.size W w' := by
  have := Front_any A exF 4 W (by unfold maxLen; decide) (by decide) h (ok_of ex_list.2.2.2.2)
  rw [ex_fA, ex_fE] at this
  exact this
theorem w_agree1 (h : SgtsH W (some ⟨g, 0, none⟩) (ex4.take 3)) : Calls Try.prog 15 #[.slice (some ⟨g, 0, none⟩) 3 4, .int .i64 5100, .int .i64 0] W fun e w' => e = .returned (.tuple #[.bool true, .int .i64 0]) ∧ Below W.heap.size W w' := by
  have := Agree_any (some ⟨g, 0, none⟩) (ex4.take 3) 4 5100 0 W (by unfold maxLen; decide) h (ok_of ex_list.2.1)
  rw [ex_gE.1, ex_gE.2.1] at this
  exact this
theorem w_agree2 (h : SgtsH W (some ⟨g, 0, none⟩) (ex4.take 3)) : Calls Try.prog 15 #[.slice (some ⟨g, 0, none⟩) 3 4, .int .i64 5200, .int .i64 0] W fun e w' => e = .returned (.tuple #[.bool false, .int .i64 0]) ∧ Below W.heap.size W w' := by
  have := Agree_any (some ⟨g, 0, none⟩) (ex4.take 3) 4 5200 0 W (by unfold maxLen; decide) h (ok_of ex_list.2.1)
  rw [ex_gE.2.2.1, ex_gE.2.2.2] at this
  exact this
theorem w_look : Calls Try.prog 41 #[.agg #[.string exN, .int .i64 0, .int .i64 0, .int .i64 0, .int .i64 1, .int .i64 1, .int .i64 500, .int .i64 0], .int .i64 256, .int .i64 0, .agg #[.int .i64 300, .int .i64 300], .agg #[.int .i64 (-30), .int .i64 30]] W fun e w' =>
    e = .returned (.tuple #[.agg #[.int .i64 4, .int .i64 3, .int .i64 5, .int .i64 460, .int .i64 540], .int .i64 0]) ∧ Below W.heap.size W w' := by
  have := Look_any exN 0 0 0 1 1 500 0 256 0 300 300 (-30) 30 W (by decide)
  rw [ex_site, ex_lE.1, ex_lE.2] at this
  exact this
end
end Go.Proofs.Ytllpffkifleigaa
end
section
namespace Go.Proofs.Ytllpffkifleigaa
open Go Go.RowKit

def exC : Array Value := #[.int .i64 1, .int .i64 0, .int .i64 1, .int .i64 5000, .int .i64 6000, .int .i64 0, .int .i64 1, .int .i64 1, .int .i64 (-1000), .int .i64 0, .int .i64 4, .int .i64 3, .int .i64 5, .int .i64 4000, .int .i64 4100, .int .i64 3, .int .i64 4, .int .i64 5, .int .i64 9000, .int .i64 9000]
theorem exC_eq : (sgsV ex4).toArray = exC := rfl
theorem ex_at {W : World} {g : Nat} (h : Blk W g 71 exC) : SgtsH W (some ⟨g, 0, none⟩) ex4 := sgts_blk h fun i u hu => by rw [← exC_eq, List.getElem?_toArray]; exact hu
set_option maxHeartbeats 4000000 in
set_option maxRecDepth 100000 in
theorem works_any (w : World) : Calls Try.prog 13 #[] w fun e w' => e = .returned (.bool true) ∧ Below w.heap.size w w' := by
  go_enter Try.func13, Try.ntmps13
  have HM := hide (Mem.start w)
  go_wp2_with fail
  refine (example_any _).mono ?_
  rintro e w1 ⟨g, rfl, hb, hg⟩
  replace HM := hide (HM.out.later hb)
  clear hb
  rw [exC_eq] at hg
  have HX := hide (ex_at hg)
  have Hg := hide hg
  clear hg
  go_wp2_with fail
  refine (w_bounds g _ (HX.out.take 3)).mono ?_
  rintro e w2 ⟨rfl, hb⟩
  replace HM := hide (HM.out.later hb)
  replace HX := hide (HX.out.later hb)
  replace Hg := hide (blk_later Hg.out hb)
  clear hb
  go_upto_region 3 with fail
  refine code_world fun w3 hW => ?_
  have HMn := Mem.to (Mem.allocAt HM.out w2.heap.size rfl #[.int .i64 5000, .int .i64 5875, .int .i64 (-1000), .int .i64 0] 34) hW
  have LW : Later w2 w3 := by rw [hW]; exact ((Below.refl _ _).alloc (Nat.le_refl _) _)
  have szW : w3.heap.size = w2.heap.size + 1 := by rw [hW]; simp
  clear hW
  replace HX := hide (HX.out.later LW)
  replace Hg := hide (blk_later Hg.out LW)
  replace HM := hide HMn
  clear HMn LW
  clear szW
  generalize hgw : w2.heap.size = gw at HM ⊢
  clear hgw
  go_wp2_with fail
  refine (w_along g _ (HX.out.take 2)).mono ?_
  rintro e w4 ⟨rfl, hb⟩
  replace HM := hide (HM.out.later hb)
  replace HX := hide (HX.out.later hb)
  replace Hg := hide (blk_later Hg.out hb)
  clear hb
  go_upto_region 4 with fail
  refine code_world fun w5 hW => ?_
  have HMn := Mem.to (Mem.allocAt HM.out w4.heap.size rfl #[.int .i64 2200, .int .i64 3600] 32) hW
  have LW : Later w4 w5 := by rw [hW]; exact ((Below.refl _ _).alloc (Nat.le_refl _) _)
  have szW : w5.heap.size = w4.heap.size + 1 := by rw [hW]; simp
  clear hW
  replace HX := hide (HX.out.later LW)
  replace Hg := hide (blk_later Hg.out LW)
  replace HM := hide HMn
  clear HMn LW
  clear szW
  generalize hga : w4.heap.size = ga at HM ⊢
  clear hga
  go_wp2_with fail
  refine (w_blame g _ HX.out).mono ?_
  rintro e w6 ⟨A6, c6, rfl, hb, hs6⟩
  replace HM := hide (HM.out.later hb)
  replace HX := hide (HX.out.later hb)
  replace Hg := hide (blk_later Hg.out hb)
  clear hb
  have HS6 := hide hs6
  clear hs6
  go_wp2_with fail
  refine (w_blame3 g _ (HX.out.take 3)).mono ?_
  rintro e w7 ⟨A7, c7, rfl, hb, hs7⟩
  replace HM := hide (HM.out.later hb)
  replace HX := hide (HX.out.later hb)
  replace HS6 := hide (HS6.out.later hb)
  replace Hg := hide (blk_later Hg.out hb)
  clear hb
  clear hs7
  have ba : Blk w7 gw 34 #[.int .i64 5000, .int .i64 5875, .int .i64 (-1000), .int .i64 0] := HM.out.get 1 rfl
  have lta := ba.lt
  have a0 := ba.c 0 rfl
  have a1 := ba.c 1 rfl
  have a2 := ba.c 2 rfl
  have a3 := ba.c 3 rfl
  have bc : Blk w7 ga 32 #[.int .i64 2200, .int .i64 3600] := HM.out.get 0 rfl
  have ltc := bc.lt
  have c0 := bc.c 0 rfl
  have c1 := bc.c 1 rfl
  go_wp2_with fail
  apply wp_region_L (w0 := w7) [[], [], [], [], [], [], [], [], [], [], [], [], [], [], [], [], [], [], [], [], [], [], [], [], [], [], [], [], [], [], [], [], [], [], [33], [33, 34], [33, 34]] [true, true, true, true, true, true, true, true, true, true, true, true, true, true, true, true, true, true, true, true, true, true, true, true, true, true, true, true, true, true, true, true, true, false, false, true, true] [⟨33, none, [], []⟩, ⟨34, none, [33], []⟩] (fun ixq y => match ixq with | 33 => .slice (y 0).1 3 3 | 34 => .bool true | _ => undef) (fun ixq x F wq => match ixq with | 33 => OwnF wq F w7.heap.size 3 1 (.slice (x 33 0).1 3 3) 3 #[.int .i64 0, .int .i64 1, .int .i64 3].toList | 34 => True | _ => True) (fun a x => ((a).put (some 74) (.slice ((x 33) 0).1 3 3)).put (some 75) (.bool true)) (by kernel_rfl) (by kernel_rfl) (fun _ => rfl) [58, 64, 69] (by kernel_rfl)
  · intro x D hD
    have hne := hD.some
    have k0 := liftB hD a0 (by first | assumption | omega)
    have k1 := liftB hD a1 (by first | assumption | omega)
    have k2 := liftB hD a2 (by first | assumption | omega)
    have k3 := liftB hD a3 (by first | assumption | omega)
    have l0 := liftB hD c0 (by first | assumption | omega)
    have l1 := liftB hD c1 (by first | assumption | omega)
    simp only [takeOps, Act.put, List.setIfInBounds_toArray, List.set_cons_succ, List.set_cons_zero]
    repeat (go_big_quiet_step ((go_at_call 40; exact calls_later hD _ (span_any _ _ _))))
    exact wpQuiet_nil rfl
  · intro d hd x x'
    simp only [List.mem_cons, List.not_mem_nil, or_false] at hd
    rcases hd with rfl | rfl | rfl
    all_goals rfl
  · refine ⟨?_, ?_, trivial⟩
    · exact obl_new rfl (fun _ => by kernel_rfl) 3 (fun x => #[.int .i64 0, .int .i64 1, .int .i64 3]) gP (fun x w => by kernel_rfl) (fun x w hle => own_new hle rfl (by unfold maxLen; omega))
    · refine obl_callL rfl (fun _ => by kernel_rfl) 23 (fun x => #[.slice A6 3 c6, .slice (x 33 0).1 3 3]) (fun x w => by kernel_rfl) ?_
      intro x w F hL hN
      have n33 := hN 33 (by simp)
      have c := numbers_any A6 (x 33 0).1 3 c6 3 w.heap.size [0, 1, 3] w rfl (by decide) (Nat.le_refl _) (HS6.out.later hL).ints (Ints.own n33.1 rfl (Nat.le_refl _))
      exact calls_one (y := fun _ => (none, 0)) c rfl (fun _ => trivial)
  · refine ⟨?_, ?_, trivial⟩
    · refine ⟨fun x F wq wq' h hs hk => ?_, fun x x' F wq hx h => ?_⟩
      · have h2 : OwnF wq F w7.heap.size 3 1 (.slice (x 33 0).1 3 3) 3 #[.int .i64 0, .int .i64 1, .int .i64 3].toList := h
        exact h2.stab hk
      · have h2 : OwnF wq F w7.heap.size 3 1 (.slice (x 33 0).1 3 3) 3 #[.int .i64 0, .int .i64 1, .int .i64 3].toList := h
        rw [hx 33 (by simp)] at h2
        exact h2
    · exact owe_true (fun _ _ _ => trivial)
  intro xx w8 F hL hlv1
  obtain ⟨fct33, fct34, -⟩ := hlv1
  replace fct33 : OwnF w8 (F 33) w7.heap.size 3 1 (.slice (xx 33 0).1 3 3) 3 #[.int .i64 0, .int .i64 1, .int .i64 3].toList := fct33 rfl
  clear fct34
  clear fct33
  replace HM := hide (HM.out.later hL)
  replace HX := hide (HX.out.later hL)
  replace HS6 := hide (HS6.out.later hL)
  replace Hg := hide (blk_later Hg.out hL)
  clear hL ba lta a0 a1 a2 a3 bc ltc c0 c1
  clear HS6
  go_wp2_with fail
  have q0 := Hg.out.c 0 rfl
  have q1 := Hg.out.c 1 rfl
  have q2 := Hg.out.c 2 rfl
  have q3 := Hg.out.c 3 rfl
  have q4 := Hg.out.c 4 rfl
  have p0 := Hg.out.c 5 rfl
  have p1 := Hg.out.c 6 rfl
  have p2 := Hg.out.c 7 rfl
  have p3 := Hg.out.c 8 rfl
  have p4 := Hg.out.c 9 rfl
  have ltg := Hg.out.lt
  have r0 := Hg.out.c 15 rfl
  have r1 := Hg.out.c 16 rfl
  have r2 := Hg.out.c 17 rfl
  have r3 := Hg.out.c 18 rfl
  have r4 := Hg.out.c 19 rfl
  apply wp_region_L (w0 := w8) [[], [], [], [], [], [], [], [], [], [], [9], [9, 10], [9, 10], [9, 10], [9, 10], [9, 10]] [true, true, true, true, true, true, true, true, true, false, false, true, true, true, true, true] [⟨9, none, [], []⟩, ⟨10, none, [9], []⟩] (fun ixq y => match ixq with | 9 => .slice (y 0).1 3 3 | 10 => .tuple #[.int .i64 2250, .int .i64 0] | _ => undef) (fun ixq x F wq => match ixq with | 9 => OwnF wq F w8.heap.size 71 5 (.slice (x 9 0).1 3 3) 3 #[.int .i64 1, .int .i64 0, .int .i64 1, .int .i64 5000, .int .i64 6000, .int .i64 0, .int .i64 1, .int .i64 1, .int .i64 (-1000), .int .i64 0, .int .i64 3, .int .i64 4, .int .i64 5, .int .i64 9000, .int .i64 9000].toList | 10 => True | _ => True) (fun a x => ((a).put (some 88) (.slice ((x 9) 0).1 3 3)).put (some 89) (.tuple #[.int .i64 2250, .int .i64 0])) (by kernel_rfl) (by kernel_rfl) (fun _ => rfl) [] (by kernel_rfl)
  · intro x D hD
    have hne := hD.some
    have k0 := liftB hD q0 (by first | assumption | omega)
    have k1 := liftB hD q1 (by first | assumption | omega)
    have k2 := liftB hD q2 (by first | assumption | omega)
    have k3 := liftB hD q3 (by first | assumption | omega)
    have k4 := liftB hD q4 (by first | assumption | omega)
    have l0 := liftB hD p0 (by first | assumption | omega)
    have l1 := liftB hD p1 (by first | assumption | omega)
    have l2 := liftB hD p2 (by first | assumption | omega)
    have l3 := liftB hD p3 (by first | assumption | omega)
    have l4 := liftB hD p4 (by first | assumption | omega)
    have m0 := liftB hD r0 (by first | assumption | omega)
    have m1 := liftB hD r1 (by first | assumption | omega)
    have m2 := liftB hD r2 (by first | assumption | omega)
    have m3 := liftB hD r3 (by first | assumption | omega)
    have m4 := liftB hD r4 (by first | assumption | omega)
    simp only [takeOps, Act.put, List.setIfInBounds_toArray, List.set_cons_succ, List.set_cons_zero]
    repeat (go_big_quiet_step (fail))
    exact wpQuiet_nil rfl
  · exact fun _ h => absurd h (by simp)
  · refine ⟨?_, ?_, trivial⟩
    · exact obl_new rfl (fun _ => by kernel_rfl) 71 (fun x => #[.int .i64 1, .int .i64 0, .int .i64 1, .int .i64 5000, .int .i64 6000, .int .i64 0, .int .i64 1, .int .i64 1, .int .i64 (-1000), .int .i64 0, .int .i64 3, .int .i64 4, .int .i64 5, .int .i64 9000, .int .i64 9000]) gP (fun x w => by kernel_rfl) (fun x w hle => own_new hle rfl (by unfold maxLen; omega))
    · refine obl_callL rfl (fun _ => by kernel_rfl) 24 (fun x => #[.slice (x 9 0).1 3 3]) (fun x w => by kernel_rfl) ?_
      intro x w F hL hN
      have n9 := hN 9 (by simp)
      exact calls_one (y := fun _ => (none, 0)) (w_strain w _ _ (sgts_own (L := exS) rfl n9.1)) rfl (fun _ => trivial)
  · refine ⟨?_, ?_, trivial⟩
    · refine ⟨fun x F wq wq' h hs hk => ?_, fun x x' F wq hx h => ?_⟩
      · have h2 : OwnF wq F w8.heap.size 71 5 (.slice (x 9 0).1 3 3) 3 #[.int .i64 1, .int .i64 0, .int .i64 1, .int .i64 5000, .int .i64 6000, .int .i64 0, .int .i64 1, .int .i64 1, .int .i64 (-1000), .int .i64 0, .int .i64 3, .int .i64 4, .int .i64 5, .int .i64 9000, .int .i64 9000].toList := h
        exact h2.stab hk
      · have h2 : OwnF wq F w8.heap.size 71 5 (.slice (x 9 0).1 3 3) 3 #[.int .i64 1, .int .i64 0, .int .i64 1, .int .i64 5000, .int .i64 6000, .int .i64 0, .int .i64 1, .int .i64 1, .int .i64 (-1000), .int .i64 0, .int .i64 3, .int .i64 4, .int .i64 5, .int .i64 9000, .int .i64 9000].toList := h
        rw [hx 9 (by simp)] at h2
        exact h2
    · exact owe_true (fun _ _ _ => trivial)
  intro xx w9 F hL hlv2
  obtain ⟨fct9, fct10, -⟩ := hlv2
  replace fct9 : OwnF w9 (F 9) w8.heap.size 71 5 (.slice (xx 9 0).1 3 3) 3 #[.int .i64 1, .int .i64 0, .int .i64 1, .int .i64 5000, .int .i64 6000, .int .i64 0, .int .i64 1, .int .i64 1, .int .i64 (-1000), .int .i64 0, .int .i64 3, .int .i64 4, .int .i64 5, .int .i64 9000, .int .i64 9000].toList := fct9 rfl
  clear fct10
  clear fct9 q0 q1 q2 q3 q4 p0 p1 p2 p3 p4 r0 r1 r2 r3 r4 ltg
  replace HM := hide (HM.out.later hL)
  replace HX := hide (HX.out.later hL)
  replace Hg := hide (blk_later Hg.out hL)
  clear hL
  go_wp2_with fail
  refine (w_without1 g _ HX.out).mono ?_
  rintro e w10 ⟨A10, c10, rfl, hb, hs10⟩
  replace HM := hide (HM.out.later hb)
  replace HX := hide (HX.out.later hb)
  replace Hg := hide (blk_later Hg.out hb)
  clear hb
  have HS10 := hide hs10
  clear hs10
  go_wp2_with fail
  refine (w_without0 g _ HX.out).mono ?_
  rintro e w11 ⟨A11, c11, rfl, hb, hs11⟩
  replace HM := hide (HM.out.later hb)
  replace HX := hide (HX.out.later hb)
  replace HS10 := hide (HS10.out.later hb)
  replace Hg := hide (blk_later Hg.out hb)
  clear hb
  clear hs11
  go_wp2_with fail
  have q0 := Hg.out.c 0 rfl
  have q1 := Hg.out.c 1 rfl
  have q2 := Hg.out.c 2 rfl
  have q3 := Hg.out.c 3 rfl
  have q4 := Hg.out.c 4 rfl
  have p0 := Hg.out.c 5 rfl
  have p1 := Hg.out.c 6 rfl
  have p2 := Hg.out.c 7 rfl
  have p3 := Hg.out.c 8 rfl
  have p4 := Hg.out.c 9 rfl
  have ltg := Hg.out.lt
  apply wp_region_L (w0 := w11) [[], [], [], [], [], [], [], [], [], [8], [8, 9], [8, 9], [8, 9], [8, 9], [8, 9], [8, 9], [8, 9]] [true, true, true, true, true, true, true, true, false, false, true, true, true, true, true, true, true] [⟨8, none, [], []⟩, ⟨9, none, [8], []⟩] (fun ixq y => match ixq with | 8 => .slice (y 0).1 4 4 | 9 => .tuple #[.int .i64 0, .int .i64 2, .int .i64 0] | _ => undef) (fun ixq x F wq => match ixq with | 8 => OwnF wq F w11.heap.size 71 5 (.slice (x 8 0).1 4 4) 4 #[.int .i64 1, .int .i64 0, .int .i64 1, .int .i64 5000, .int .i64 6000, .int .i64 0, .int .i64 1, .int .i64 1, .int .i64 (-1000), .int .i64 0, .int .i64 1, .int .i64 0, .int .i64 1, .int .i64 (-6000), .int .i64 (-5000), .int .i64 0, .int .i64 1, .int .i64 1, .int .i64 3000, .int .i64 4000].toList | 9 => True | _ => True) (fun a x => ((a).put (some 111) (.slice ((x 8) 0).1 4 4)).put (some 112) (.tuple #[.int .i64 0, .int .i64 2, .int .i64 0])) (by kernel_rfl) (by kernel_rfl) (fun _ => rfl) [109, 110] (by kernel_rfl)
  · intro x D hD
    have hne := hD.some
    have k0 := liftB hD q0 (by first | assumption | omega)
    have k1 := liftB hD q1 (by first | assumption | omega)
    have k2 := liftB hD q2 (by first | assumption | omega)
    have k3 := liftB hD q3 (by first | assumption | omega)
    have k4 := liftB hD q4 (by first | assumption | omega)
    have l0 := liftB hD p0 (by first | assumption | omega)
    have l1 := liftB hD p1 (by first | assumption | omega)
    have l2 := liftB hD p2 (by first | assumption | omega)
    have l3 := liftB hD p3 (by first | assumption | omega)
    have l4 := liftB hD p4 (by first | assumption | omega)
    simp only [takeOps, Act.put, List.setIfInBounds_toArray, List.set_cons_succ, List.set_cons_zero]
    repeat (go_big_quiet_step ((go_at_call 39; exact calls_later hD _ (sight_any _ _ _ _ _ _))))
    exact wpQuiet_nil rfl
  · intro d hd x x'
    simp only [List.mem_cons, List.not_mem_nil, or_false] at hd
    rcases hd with rfl | rfl
    all_goals rfl
  · refine ⟨?_, ?_, trivial⟩
    · exact obl_new rfl (fun _ => by kernel_rfl) 71 (fun x => #[.int .i64 1, .int .i64 0, .int .i64 1, .int .i64 5000, .int .i64 6000, .int .i64 0, .int .i64 1, .int .i64 1, .int .i64 (-1000), .int .i64 0, .int .i64 1, .int .i64 0, .int .i64 1, .int .i64 (-6000), .int .i64 (-5000), .int .i64 0, .int .i64 1, .int .i64 1, .int .i64 3000, .int .i64 4000]) gP (fun x w => by kernel_rfl) (fun x w hle => own_new hle rfl (by unfold maxLen; omega))
    · refine obl_callL rfl (fun _ => by kernel_rfl) 28 (fun x => #[.slice (x 8 0).1 4 4]) (fun x w => by kernel_rfl) ?_
      intro x w F hL hN
      have n8 := hN 8 (by simp)
      exact calls_one (y := fun _ => (none, 0)) (w_front w _ (sgts_own (L := exF) rfl n8.1)) rfl (fun _ => trivial)
  · refine ⟨?_, ?_, trivial⟩
    · refine ⟨fun x F wq wq' h hs hk => ?_, fun x x' F wq hx h => ?_⟩
      · have h2 : OwnF wq F w11.heap.size 71 5 (.slice (x 8 0).1 4 4) 4 #[.int .i64 1, .int .i64 0, .int .i64 1, .int .i64 5000, .int .i64 6000, .int .i64 0, .int .i64 1, .int .i64 1, .int .i64 (-1000), .int .i64 0, .int .i64 1, .int .i64 0, .int .i64 1, .int .i64 (-6000), .int .i64 (-5000), .int .i64 0, .int .i64 1, .int .i64 1, .int .i64 3000, .int .i64 4000].toList := h
        exact h2.stab hk
      · have h2 : OwnF wq F w11.heap.size 71 5 (.slice (x 8 0).1 4 4) 4 #[.int .i64 1, .int .i64 0, .int .i64 1, .int .i64 5000, .int .i64 6000, .int .i64 0, .int .i64 1, .int .i64 1, .int .i64 (-1000), .int .i64 0, .int .i64 1, .int .i64 0, .int .i64 1, .int .i64 (-6000), .int .i64 (-5000), .int .i64 0, .int .i64 1, .int .i64 1, .int .i64 3000, .int .i64 4000].toList := h
        rw [hx 8 (by simp)] at h2
        exact h2
    · exact owe_true (fun _ _ _ => trivial)
  intro xx w12 F hL hlv3
  obtain ⟨fct8, fct9, -⟩ := hlv3
  replace fct8 : OwnF w12 (F 8) w11.heap.size 71 5 (.slice (xx 8 0).1 4 4) 4 #[.int .i64 1, .int .i64 0, .int .i64 1, .int .i64 5000, .int .i64 6000, .int .i64 0, .int .i64 1, .int .i64 1, .int .i64 (-1000), .int .i64 0, .int .i64 1, .int .i64 0, .int .i64 1, .int .i64 (-6000), .int .i64 (-5000), .int .i64 0, .int .i64 1, .int .i64 1, .int .i64 3000, .int .i64 4000].toList := fct8 rfl
  clear fct9
  clear fct8 q0 q1 q2 q3 q4 p0 p1 p2 p3 p4 ltg
  replace HM := hide (HM.out.later hL)
  replace HX := hide (HX.out.later hL)
  replace HS10 := hide (HS10.out.later hL)
  replace Hg := hide (blk_later Hg.out hL)
  clear hL
  go_wp2_with fail
  refine at_world fun w13 hW => ?_
  have HMn := Mem.to (Mem.allocAt HM.out w12.heap.size rfl #[.int .i64 3] 3) hW
  have LW : Later w12 w13 := by rw [hW]; exact ((Below.refl _ _).alloc (Nat.le_refl _) _)
  have szW : w13.heap.size = w12.heap.size + 1 := by rw [hW]; simp
  clear hW
  replace HX := hide (HX.out.later LW)
  replace HS10 := hide (HS10.out.later LW)
  replace Hg := hide (blk_later Hg.out LW)
  replace HM := hide HMn
  clear HMn LW
  clear szW
  generalize hgz : w12.heap.size = gz at HM ⊢
  clear hgz
  have hz := HM.out.blk_ 0 rfl
  have c := numbers_any A10 (some ⟨gz, 0, none⟩) 1 c10 1 w13.heap.size [3] w13 rfl (by decide) (Nat.le_refl _) HS10.out.ints (fun _ => ⟨gz, 0, rfl, hz.lt, fun j hj => by
    have e : j = 0 := by simpa using hj
    subst e
    exact hz.c 0 rfl⟩)
  clear hz
  refine (c).mono ?_
  rintro e w14 ⟨rfl, hb⟩
  replace HM := hide (HM.out.later hb)
  replace HX := hide (HX.out.later hb)
  replace HS10 := hide (HS10.out.later hb)
  replace Hg := hide (blk_later Hg.out hb)
  clear hb
  clear c
  go_wp2_with fail
  refine (span_any _ _ _).mono ?_
  rintro e w15 ⟨rfl, hb⟩
  replace HM := hide (HM.out.later hb)
  replace HX := hide (HX.out.later hb)
  replace HS10 := hide (HS10.out.later hb)
  replace Hg := hide (blk_later Hg.out hb)
  clear hb
  go_wp2_with fail
  refine (span_any _ _ _).mono ?_
  rintro e w16 ⟨rfl, hb⟩
  replace HM := hide (HM.out.later hb)
  replace HX := hide (HX.out.later hb)
  replace HS10 := hide (HS10.out.later hb)
  replace Hg := hide (blk_later Hg.out hb)
  clear hb
  go_wp2_with fail
  refine (w_look _).mono ?_
  rintro e w17 ⟨rfl, hb⟩
  replace HM := hide (HM.out.later hb)
  replace HX := hide (HX.out.later hb)
  replace HS10 := hide (HS10.out.later hb)
  replace Hg := hide (blk_later Hg.out hb)
  clear hb
  go_upto_region 15 with fail
  refine code_world fun w18 hW => ?_
  have HMn := Mem.to (Mem.allocAt HM.out w17.heap.size rfl #[.int .i64 4, .int .i64 3, .int .i64 5, .int .i64 460, .int .i64 540] 71) hW
  have LW : Later w17 w18 := by rw [hW]; exact ((Below.refl _ _).alloc (Nat.le_refl _) _)
  have szW : w18.heap.size = w17.heap.size + 1 := by rw [hW]; simp
  clear hW
  replace HX := hide (HX.out.later LW)
  replace HS10 := hide (HS10.out.later LW)
  replace Hg := hide (blk_later Hg.out LW)
  replace HM := hide HMn
  clear HMn LW
  clear szW
  generalize hgy : w17.heap.size = gy at HM ⊢
  clear hgy
  go_wp2_with fail
  refine (w_agree1 g _ (HX.out.take 3)).mono ?_
  rintro e w19 ⟨rfl, hb⟩
  replace HM := hide (HM.out.later hb)
  replace HX := hide (HX.out.later hb)
  replace HS10 := hide (HS10.out.later hb)
  replace Hg := hide (blk_later Hg.out hb)
  clear hb
  go_wp2_with fail
  refine (w_agree2 g _ (HX.out.take 3)).mono ?_
  rintro e w20 ⟨rfl, hb⟩
  replace HM := hide (HM.out.later hb)
  replace HX := hide (HX.out.later hb)
  replace HS10 := hide (HS10.out.later hb)
  replace Hg := hide (blk_later Hg.out hb)
  clear hb
  have ba : Blk w20 gy 71 #[.int .i64 4, .int .i64 3, .int .i64 5, .int .i64 460, .int .i64 540] := HM.out.get 0 rfl
  have lta := ba.lt
  have a0 := ba.c 0 rfl
  have a1 := ba.c 1 rfl
  have a2 := ba.c 2 rfl
  have a3 := ba.c 3 rfl
  have a4 := ba.c 4 rfl
  go_wp2_with fail
  apply wp_region_L (w0 := w20) [[], [], [], [], [], [], [], [], [], [], [], [], [], [], [], [], [], [], [], [], [], [], []] [true, true, true, true, true, true, true, true, true, true, true, true, true, true, true, true, true, true, true, true, true, true, true] [] (fun ixq y => match ixq with  | _ => undef) (fun ixq x F wq => match ixq with  | _ => True) (fun a x => a) (by kernel_rfl) (by kernel_rfl) (fun _ => rfl) [179] (by kernel_rfl)
  · intro x D hD
    have hne := hD.some
    have k0 := liftB hD a0 (by first | assumption | omega)
    have k1 := liftB hD a1 (by first | assumption | omega)
    have k2 := liftB hD a2 (by first | assumption | omega)
    have k3 := liftB hD a3 (by first | assumption | omega)
    have k4 := liftB hD a4 (by first | assumption | omega)
    simp only [takeOps, Act.put, List.setIfInBounds_toArray, List.set_cons_succ, List.set_cons_zero]
    repeat (go_big_quiet_step ((go_at_call 39; exact calls_later hD _ (sight_any _ _ _ _ _ _))))
    exact wpQuiet_nil rfl
  · intro d hd x x'
    simp only [List.mem_cons, List.not_mem_nil, or_false] at hd
    rcases hd with rfl
    all_goals rfl
  · exact trivial
  · exact trivial
  intro xx w21 F hL hlv4
  clear hlv4
  replace HM := hide (HM.out.later hL)
  replace HX := hide (HX.out.later hL)
  replace HS10 := hide (HS10.out.later hL)
  replace Hg := hide (blk_later Hg.out hL)
  clear hL ba lta a0 a1 a2 a3 a4
  go_wp2
  exact bodyPost_ret (v := .bool true) (by simp [results, Try.results13, go_sem]) rfl ⟨rfl, HM.out.below⟩
end Go.Proofs.Ytllpffkifleigaa
end
section
namespace Go.Proofs.Ytllpffkifleigaa
open Go Go.RowKit

theorem sightInfo : (Try.prog.info? 71).map (fun i => (i.zero, i.size, i.bytes)) = some (some (.agg #[.int .i64 0, .int .i64 0, .int .i64 0, .int .i64 0, .int .i64 0]), 5, 40) := by kernel_rfl
def EyesAt (w : World) (B : Nat) (A : Option Addr) (E : List EyeN) : Prop := 0 < E.length → ∃ b off, A = some ⟨b, off, none⟩ ∧ b < B ∧ ∀ i, i < E.length →
  w.cell? ⟨b, off + i * 4, none⟩ = some (.int .u8 (E.getD i eye0).ro) ∧ w.cell? ⟨b, off + i * 4 + 1, none⟩ = some (.int .u8 (E.getD i eye0).di) ∧ w.cell? ⟨b, off + i * 4 + 2, none⟩ = some (.int .u16 (E.getD i eye0).le) ∧ w.cell? ⟨b, off + i * 4 + 3, none⟩ = some (.int .u16 (E.getD i eye0).mo)
def eyeC (e : EyeN) : Value := .agg #[.int .u8 e.ro, .int .u8 e.di, .int .u16 e.le, .int .u16 e.mo]
theorem div_bd {a b X : Int} (hb : 0 < b) (h1 : -X ≤ a) (h2 : a ≤ X) (hX : 0 ≤ X) : -X ≤ a / b ∧ a / b ≤ X := by
  have e1 := Int.ediv_mul_le a (show b ≠ 0 by omega)
  have e2 := Int.lt_ediv_add_one_mul_self a hb
  constructor
  · apply Classical.byContradiction
    intro hc
    have m := Int.mul_le_mul_of_nonneg_right (show a / b + 1 ≤ -X by omega) (show 0 ≤ b by omega)
    have n := Int.mul_le_mul_of_nonneg_left (show 1 ≤ b by omega) hX
    rw [Int.neg_mul] at m
    omega
  · apply Classical.byContradiction
    intro hc
    have m := Int.mul_le_mul_of_nonneg_right (show X + 1 ≤ a / b by omega) (show 0 ≤ b by omega)
    have n := Int.mul_le_mul_of_nonneg_left (show 1 ≤ b by omega) (show 0 ≤ X + 1 by omega)
    omega
set_option maxHeartbeats 1000000 in
set_option maxRecDepth 100000 in
theorem ldown_any (a b : Int) (w : World) (hb : 0 < b) (h1 : -1000000000000000000 ≤ a) (h2 : a ≤ 1000000000000000000) (hb2 : b ≤ 1000000000000000000) :
    Calls Try.prog 52 #[.int .i64 a, .int .i64 b] w fun e w' => e = .returned (.int .i64 (a / b)) ∧ Below w.heap.size w w' := by
  obtain ⟨b1, b2, b3, b4⟩ := floor_bd hb h1 h2
  have hm := tdiv_floor (a := a) hb
  have hb0 : b ≠ 0 := by omega
  have hb3 : ¬ b < 1 := by omega
  have ht : (a.tmod b).natAbs < b.natAbs := by rw [Int.natAbs_tmod]; exact Nat.mod_lt _ (by omega)
  obtain ⟨q, hq⟩ : ∃ q, a.tdiv b = q := ⟨_, rfl⟩
  obtain ⟨t, htt⟩ : ∃ t, a.tmod b = t := ⟨_, rfl⟩
  rw [hq] at b1 b2 b3 b4 hm
  rw [htt] at hm ht
  by_cases h3 : t < 0
  all_goals
    first | rw [if_pos h3] at hm | rw [if_neg h3] at hm
    rw [hm]
    clear hm
    go_enter Try.func52, Try.ntmps52
    go_wp2
    go_ret
    exact ⟨rfl, Below.refl _ _⟩
set_option maxHeartbeats 1000000 in
set_option maxRecDepth 100000 in
theorem eyelook_any (e : EyeN) (u v : Int) (w : World) (he : EyeOk e) (hu : -32768 ≤ u ∧ u ≤ 32767) (hv : -32768 ≤ v ∧ v ≤ 32767) :
    Calls Try.prog 38 #[eyeC e, .int .i64 u, .int .i64 v] w fun en w' => en = .returned (sgC (eyeT u v e)) ∧ Below w.heap.size w w' := by
  obtain ⟨r0, r1, d0, d1, l0, l1, m0, m1⟩ := he
  obtain ⟨ro, di, le, mo⟩ := e
  simp only at *
  obtain ⟨k1, k2⟩ := rose_bd r0
  obtain ⟨k3, k4⟩ := rosed_bd r0 d0
  have dk := dirE_ok r0 d0
  have hD := fun W => Direction_any (roseE ro) (di % (4 * roseE ro)) W
  have hdr : dirR (roseE ro) (di % (4 * roseE ro)) = (dirE ro di, 0) := by
    unfold dirR
    rw [if_pos]
    · rfl
    unfold okD
    rw [Bool.and_eq_true]
    exact ⟨winB_iff.2 ⟨by omega, by omega⟩, winB_iff.2 ⟨by omega, by omega⟩⟩
  rw [hdr] at hD
  unfold vecE at hD
  have t1 : ro.tmod 20 = ro % 20 := Int.tmod_eq_emod_of_nonneg r0
  have t2 : ∀ b, di.tmod b = di % b := fun b => Int.tmod_eq_emod_of_nonneg d0
  have t3 : le.tmod 3000 = le % 3000 := Int.tmod_eq_emod_of_nonneg l0
  have t4 : mo.tmod 3000 = mo % 3000 := Int.tmod_eq_emod_of_nonneg m0
  have u3 : 0 ≤ le % 3000 ∧ le % 3000 ≤ 2999 := by omega
  have u4 : 0 ≤ mo % 3000 ∧ mo % 3000 ≤ 2999 := by omega
  unfold eyeT eyeS sgC eyeC
  simp only
  have hro : roseE ro = 1 + ro % 20 := rfl
  generalize dirE ro di = dv at *
  obtain ⟨dx, dy, dl⟩ := dv
  obtain ⟨e1, e2, e3, e4, e5, e6, -⟩ := dk
  simp only at *
  obtain ⟨rr, hrr⟩ : ∃ r, roseE ro = r := ⟨_, rfl⟩
  rw [hrr] at hD k1 k2 k3 k4 hro
  obtain ⟨rq, hrq⟩ : ∃ r, ro % 20 = r := ⟨_, rfl⟩
  rw [hrq] at t1 hro
  subst hro
  have t5 := t2 (4 * (1 + rq))
  obtain ⟨dq, hdq⟩ : ∃ r, di % (4 * (1 + rq)) = r := ⟨_, rfl⟩
  rw [hdq] at t5 hD k3 k4
  obtain ⟨lq, hlq⟩ : ∃ r, le % 3000 = r := ⟨_, rfl⟩
  obtain ⟨mq, hmq⟩ : ∃ r, mo % 3000 = r := ⟨_, rfl⟩
  rw [hlq] at t3 u3
  rw [hmq] at t4 u4
  rw [hlq, hmq]
  clear t2
  obtain ⟨u1, u2⟩ := hu
  obtain ⟨v1, v2⟩ := hv
  obtain ⟨u3, u3'⟩ := u3
  obtain ⟨u4, u4'⟩ := u4
  have p1 := abs_mul (X := 32768) (Y := 64800) (show -32768 ≤ u by omega) (by omega) (show -64800 ≤ dx by omega) (by omega)
  have p2 := abs_mul (X := 32768) (Y := 64800) (show -32768 ≤ v by omega) (by omega) (show -64800 ≤ dy by omega) (by omega)
  have p3 := abs_mul (X := 32768) (Y := 64800) (show -32768 ≤ -u by omega) (by omega) (show -64800 ≤ dx by omega) (by omega)
  obtain ⟨n1, hn1⟩ : ∃ n, u * dx + v * dy = n := ⟨_, rfl⟩
  obtain ⟨n2, hn2⟩ : ∃ n, -u * dx - v * dy = n := ⟨_, rfl⟩
  have b1 : -10000000000 ≤ n1 ∧ n1 ≤ 10000000000 := by omega
  have b2 : -10000000000 ≤ n2 ∧ n2 ≤ 10000000000 := by omega
  have c1 := div_bd (b := dl) (by omega) b1.1 b1.2 (by omega)
  have c2 := div_bd (b := dl) (by omega) b2.1 b2.2 (by omega)
  have h1 := fun W => ldown_any n1 dl W (by omega) (by omega) (by omega) (by omega)
  have h2 := fun W => ldown_any n2 dl W (by omega) (by omega) (by omega) (by omega)
  rw [hn1, hn2]
  generalize n1 / dl = z1 at *
  generalize n2 / dl = z2 at *
  obtain ⟨c1, c1'⟩ := c1
  obtain ⟨c2, c2'⟩ := c2
  have hl1 : ¬ dl < 1 := by omega
  have HD := hide hD
  have H1 := hide h1
  have H2 := hide h2
  clear hD h1 h2
  clear b1 b2
  go_enter Try.func38, Try.ntmps38
  have HM := hide (Mem.start w)
  go_upto_region 1 with fail
  refine code_world fun W hW => ?_
  have HMn := Mem.to (Mem.allocAt (Mem.allocAt HM.out w.heap.size rfl #[.int .u8 ro, .int .u8 di, .int .u16 le, .int .u16 mo] 77) (w.heap.size + 1) (by simp) #[.int .i64 0, .int .i64 0, .int .i64 0, .int .i64 0, .int .i64 0] 71) hW
  have LW : Later w W := by rw [hW]; exact (((Below.refl _ _).alloc (Nat.le_refl _) _).alloc (by simp; try omega) _)
  have szW : W.heap.size = w.heap.size + 2 := by rw [hW]; simp
  clear hW
  replace HM := hide HMn
  clear HMn LW
  clear szW
  generalize hg1 : w.heap.size + 1 = gr at HM ⊢
  generalize hg0 : w.heap.size = ge at HM ⊢
  have bc : Blk W ge 77 #[.int .u8 ro, .int .u8 di, .int .u16 le, .int .u16 mo] := HM.out.get 1 rfl
  have ltc := bc.lt
  have c0 := bc.c 0 rfl
  have c1 := bc.c 1 rfl
  have c2 := bc.c 2 rfl
  have c3 := bc.c 3 rfl
  go_wp2_with fail
  refine (HD.out _).mono ?_
  rintro e w3 ⟨rfl, hb⟩
  replace HM := hide (HM.out.later hb)
  clear hb bc ltc c0 c1 c2 c3
  have bc : Blk w3 ge 77 #[.int .u8 ro, .int .u8 di, .int .u16 le, .int .u16 mo] := HM.out.get 1 rfl
  have ltc := bc.lt
  have c0 := bc.c 0 rfl
  have c1 := bc.c 1 rfl
  have c2 := bc.c 2 rfl
  have c3 := bc.c 3 rfl
  go_wp2_with fail
  refine wp_region_cut 33 (by kernel_rfl) (by simp only [List.take_succ_cons, List.take_zero]; exact rfl) (by simp only [List.drop_succ_cons, List.drop_zero]; exact rfl) (by kernel_rfl) ?_
  apply any_region_J (w0 := w3) [[], [], [], [], [], [], [], [], [], [], [], [], [], [], [], [], [], [], [], [], [], [], [], [], [], [], [], [], [], [], [], [], []] [true, true, true, true, true, true, true, true, true, true, true, true, true, true, true, true, true, true, true, true, true, true, true, true, true, true, true, true, true, true, true, true, true] [] (fun ixq y => match ixq with  | _ => undef) (fun ixq x F wq => match ixq with  | _ => True) (fun a x => a) (by kernel_rfl) (fun _ => rfl) [48, 63] (by kernel_rfl)
  · intro x D hD
    have hne := hD.some
    have k0 := liftB hD c2 (by first | assumption | omega)
    have k1 := liftB hD c3 (by first | assumption | omega)
    simp only [takeOps, Act.put, List.setIfInBounds_toArray, List.set_cons_succ, List.set_cons_zero]
    repeat (go_big_quiet_step ((go_at_call 52; first | (with_reducible exact calls_later hD _ (H1.out _)) | (with_reducible exact calls_later hD _ (H2.out _)))))
    exact wpQuiet_nil rfl
  · intro d hd x x'
    simp only [List.mem_cons, List.not_mem_nil, or_false] at hd
    rcases hd with rfl | rfl
    all_goals rfl
  · exact trivial
  · exact trivial
  intro xx w5 F hL hlv1 hap1
  clear hap1
  clear hlv1
  refine ⟨rfl, ?_⟩
  replace HM := hide (HM.out.later hL)
  clear hL bc ltc c0 c1 c2 c3
  go_wp2_with fail
  refine (sight_any _ _ _ _ _ _).mono ?_
  rintro e w6 ⟨rfl, hb⟩
  replace HM := hide (HM.out.later hb)
  clear hb
  have bk : Blk w6 gr 71 #[.int .i64 0, .int .i64 0, .int .i64 0, .int .i64 0, .int .i64 0] := HM.out.get 0 rfl
  have ltk := bk.lt
  have k0 := bk.c 0 rfl
  have fk0 := bk.frozen 0
  have k1 := bk.c 1 rfl
  have fk1 := bk.frozen 1
  have k2 := bk.c 2 rfl
  have fk2 := bk.frozen 2
  have k3 := bk.c 3 rfl
  have fk3 := bk.frozen 3
  have k4 := bk.c 4 rfl
  have fk4 := bk.frozen 4
  go_wp2
  have HM1 := hide (((((HM.out.set_ 0 rfl 0 (.int .i64 dx) rfl).set_ 0 rfl 1 (.int .i64 dy) rfl).set_ 0 rfl 2 (.int .i64 dl) rfl).set_ 0 rfl 3 (.int .i64 (z1 - lq)) rfl).set_ 0 rfl 4 (.int .i64 (-z2 + mq)) rfl)
  have s0 := (HM1.out.blk_ 0 rfl).c 0 rfl
  have s1 := (HM1.out.blk_ 0 rfl).c 1 rfl
  have s2 := (HM1.out.blk_ 0 rfl).c 2 rfl
  have s3 := (HM1.out.blk_ 0 rfl).c 3 rfl
  have s4 := (HM1.out.blk_ 0 rfl).c 4 rfl
  have lts := (HM1.out.blk_ 0 rfl).lt
  refine ret_world fun W1 hW1 => ?_
  rw [← hW1] at HM1 s0 s1 s2 s3 s4 lts
  exact bodyPost_ret (v := .agg #[.int .i64 dx, .int .i64 dy, .int .i64 dl, .int .i64 (z1 - lq), .int .i64 (-z2 + mq)]) (by simp [results, Try.results38, go_sem, s0, s1, s2, s3, s4, lts]) rfl ⟨rfl, by first | exact HM1.out.below | (rw [← hg0]; exact HM1.out.below)⟩
theorem sgsV_one (s : Sgt) : sgsV [s] = [.int .i64 s.x, .int .i64 s.y, .int .i64 s.l, .int .i64 s.lo, .int .i64 s.hi] := rfl
def EyesPost (w : World) (L : List Sgt) (e : Ending) (w' : World) : Prop := ∃ A c, e = .returned (.tuple #[.slice A L.length c, .bool true]) ∧ Below w.heap.size w w' ∧ w'.ownsRow w.heap.size 71 5 (.slice A L.length c) L.length (sgsV L)
theorem map_snoc {α β : Type} {f : α → β} {E : List α} {d : α} {k : Nat} (h : k < E.length) : (E.take (k + 1)).map f = (E.take k).map f ++ [f (E.getD k d)] := by
  rw [List.take_add_one, List.getElem?_eq_getElem h, List.map_append, List.getD_eq_getElem?_getD, List.getElem?_eq_getElem h]
  rfl
theorem getD_memE {α : Type} {E : List α} {d : α} {k : Nat} (h : k < E.length) : E.getD k d ∈ E := by
  rw [List.getD_eq_getElem?_getD, List.getElem?_eq_getElem h]
  exact List.getElem_mem h
set_option maxHeartbeats 1000000 in
set_option maxRecDepth 100000 in
theorem eyes_any (A : Option Addr) (E : List EyeN) (c : Nat) (u v : Int) (w : World) (hmax : E.length ≤ 10) (hA : EyesAt w w.heap.size A E) (he : ∀ e ∈ E, EyeOk e) (hu : -32768 ≤ u ∧ u ≤ 32767) (hv : -32768 ≤ v ∧ v ≤ 32767) :
    Calls Try.prog 30 #[.slice A E.length c, .int .i64 u, .int .i64 v] w (EyesPost w (E.map (eyeT u v))) := by
  have hl := fun k (hk : k < E.length) W => eyelook_any (E.getD k eye0) u v W (he _ (getD_memE hk)) hu hv
  have hs := fun k (hk : k < E.length) => map_snoc (f := eyeT u v) (d := eye0) hk
  have hend : (E.take E.length).map (eyeT u v) = E.map (eyeT u v) := by rw [List.take_length]
  have hlen : (E.map (eyeT u v)).length = E.length := by rw [List.length_map]
  unfold EyesPost
  rw [hlen, ← hend]
  obtain ⟨K, hK⟩ : ∃ K : Nat → List Sgt, K = fun k => (E.take k).map (eyeT u v) := ⟨_, rfl⟩
  have hKe : ∀ k, (E.take k).map (eyeT u v) = K k := fun k => by rw [hK]
  have hK0 : K 0 = [] := by rw [hK]; rfl
  simp only [hKe] at hs ⊢
  have hsc : EyesAt w w.heap.size A E := hA
  unfold EyesAt at hsc
  unfold eyeC sgC at hl
  obtain ⟨n, hn⟩ : ∃ n, E.length = n := ⟨_, rfl⟩
  rw [hn] at hl hs hsc hmax ⊢
  have hm2 : (n : Int) ≤ 10 := by omega
  have hm3 : ¬ (10 : Int) < n := by omega
  have HL := hide hl
  have HS := hide hs
  have HSC := hide hsc
  have HK0 := hide hK0
  clear hl hs hsc hK0
  clear hA he hend hlen hK hKe hn
  go_enter Try.func30, Try.ntmps30
  have HM := hide ((Mem.start w).nilRow w.heap.size 71 5)
  go_wp2_with fail
  go_loopw [8, 16] (fun o i wr => ∃ (k : Nat) (A' : Option Addr) (c' : Nat), k ≤ n ∧ i = .int .i64 k ∧ o = .slice A' k c' ∧ Mem w [.row w.heap.size 71 5 (.slice A' k c') k (sgsV (K k))] wr) (fun _ i _ => n - (intOf i).toNat)
  case atStart => exact ⟨0, none, 0, by omega, rfl, rfl, by rw [HK0.out]; exact HM.out⟩
  case round =>
    obtain ⟨k, A', c', hk, rfl, rfl, hM⟩ := hrel
    clear HM
    have HM := hide hM
    clear hM
    by_cases hlt : k < n
    · have hlt2 : (k : Int) < n := by omega
      obtain ⟨b, off, rfl, hb0, hc⟩ := HSC.out (by omega)
      have hc1 := hc _ hlt
      have c1 := HL.out k hlt
      have hs1 := HS.out k hlt
      obtain ⟨X, hX⟩ : ∃ X, E.getD k eye0 = X := ⟨_, rfl⟩
      rw [hX] at hc1 c1 hs1
      rw [← HM.out.below.cell hb0, ← HM.out.below.cell hb0, ← HM.out.below.cell hb0, ← HM.out.below.cell hb0] at hc1
      have ltb : b < wr.heap.size := Nat.lt_of_lt_of_le hb0 HM.out.size
      obtain ⟨q0, q1, q2, q3⟩ := hc1
      obtain ⟨Y, hY⟩ : ∃ Y, eyeT u v X = Y := ⟨_, rfl⟩
      rw [hY] at c1 hs1
      obtain ⟨ro, di, le, mo⟩ := X
      obtain ⟨sx, sy, sl, slo, shi⟩ := Y
      simp only at q0 q1 q2 q3 c1
      have hs2 : sgsV (K (k + 1)) = sgsV (K k) ++ [.int .i64 sx, .int .i64 sy, .int .i64 sl, .int .i64 slo, .int .i64 shi] := by rw [hs1, sgsV_app]; rfl
      generalize sgsV (K k) = xs at *
      obtain ⟨i0, hii, hz0, hz1, hz2⟩ := info_parts sightInfo
      have Hi := hide hii
      have Hz0 := hide hz0
      have Hz1 := hide hz1
      have Hz2 := hide hz2
      clear hii hz0 hz1 hz2
      have C1 := hide c1
      have HS2 := hide hs2
      clear c1 hs2
      clear hc hX hY hs1
      go_upto_region 7 with fail
      refine code_world fun w1 hW => ?_
      have HMn := Mem.to (Mem.allocAt HM.out wr.heap.size rfl #[.int .u8 ro, .int .u8 di, .int .u16 le, .int .u16 mo] 77) hW
      have LW : Later wr w1 := by rw [hW]; exact ((Below.refl _ _).alloc (Nat.le_refl _) _)
      have szW : w1.heap.size = wr.heap.size + 1 := by rw [hW]; simp
      clear hW
      replace HM := hide HMn
      clear HMn LW
      clear szW q0 q1 q2 q3 ltb
      generalize hgx : wr.heap.size = gx at HM ⊢
      have bz : Blk w1 gx 77 #[.int .u8 ro, .int .u8 di, .int .u16 le, .int .u16 mo] := HM.out.get 0 rfl
      have ltz := bz.lt
      have z0 := bz.c 0 rfl
      have z1 := bz.c 1 rfl
      have z2 := bz.c 2 rfl
      have z3 := bz.c 3 rfl
      go_wp2_with fail
      refine (C1.out _).mono ?_
      rintro e w6 ⟨rfl, hb⟩
      replace HM := hide (HM.out.later hb)
      clear hb bz ltz z0 z1 z2 z3
      have hownM := Mem.row_ HM.out 1 rfl
      have hbaseM : w.heap.size ≤ w6.heap.size := HM.out.size
      go_wp2_with (at_builtin; refine wpList_append_own_at _ rfl (.tmp 20) (.tmp 25) _ rfl w.heap.size 71 i0 _ 5 40 Try.underlying25 Hi.out Hz0.out Hz1.out Hz2.out rfl (by decide) _ k xs rfl (hownM.alloc _) ⟨w6.heap.size, 0, none⟩ 1 1 [.int .i64 sx, .int .i64 sy, .int .i64 sl, .int .i64 slo, .int .i64 shi] rfl rfl ?q1c1 (by intro u hu; simp only [List.mem_cons, List.not_mem_nil, or_false] at hu; rcases hu with rfl | rfl | rfl | rfl | rfl <;> rfl) ?q1c3 ?q1c4 ?q1c5 ?_)
      try case q1c1 => exact new_cellsQ w6 _ [.int .i64 sx, .int .i64 sy, .int .i64 sl, .int .i64 slo, .int .i64 shi]
      case q1c3 => unfold maxLen; omega
      case q1c4 => omega
      case q1c5 => first | omega | (simp; omega)
      intro vA w9 hown2 hgr2 _ hat2
      have HMn := HM.out.grow 1 rfl _ hgr2 hown2 hat2
      replace HM := hide HMn
      clear HMn hown2 hgr2 hat2 hownM hbaseM
      obtain ⟨A9, c9, rfl⟩ := own_shape2 (Mem.row_ HM.out 1 rfl)
      go_wp2_with fail
      go_roundw
      case rel => exact ⟨k + 1, A9, c9, by omega, by go_num, rfl, by rw [HS2.out]; exact HM.out.tail⟩
      case measure => simp [intOf] <;> omega
    · obtain rfl : k = n := by omega
      have hkk : ¬ ((k : Int) < k) := by omega
      go_wp2
      exact bodyPost_ret (v := .tuple #[.slice A' k c', .bool true]) (by simp [results, Try.results30, go_sem]) rfl ⟨A', c', rfl, HM.out.below, HM.out.row_ 0 rfl⟩
set_option maxHeartbeats 1000000 in
set_option maxRecDepth 100000 in
theorem eyes_many (A : Option Addr) (n c : Nat) (u v : Int) (w : World) (hmax : 10 < n) :
    Calls Try.prog 30 #[.slice A n c, .int .i64 u, .int .i64 v] w fun e w' => e = .returned (.tuple #[.slice none 0 0, .bool false]) ∧ Below w.heap.size w w' := by
  have hm3 : (10 : Int) < n := by omega
  go_enter Try.func30, Try.ntmps30
  go_wp2
  exact bodyPost_ret (v := .tuple #[.slice none 0 0, .bool false]) (by simp [results, Try.results30, go_sem]) rfl ⟨rfl, Below.refl _ _⟩
end Go.Proofs.Ytllpffkifleigaa
end
section
namespace Go.Proofs.Ytllpffkifleigaa
open Go Go.RowKit

/-- Few sights, or too many. -/
def fewB (n most : Nat) : Bool := decide (n ≤ most) || (decide (360 < n) && decide (n < 370))
theorem fewB_le {n most : Nat} (h : fewB n most = true) (hm : most ≤ 400) : n ≤ 400 := by
  unfold fewB at h
  rw [Bool.or_eq_true, Bool.and_eq_true, decide_eq_true_iff, decide_eq_true_iff, decide_eq_true_iff] at h
  omega
set_option maxHeartbeats 1000000 in
theorem lfew_any (A : Option Addr) (n c most : Nat) (mi : Int) (w : World) (hmax : n ≤ maxLen) (hm : most ≤ 400) (hmi : mi = (most : Int)) :
    Calls Try.prog 12 #[.slice A n c, .int .i64 mi] w fun e w' => e = .returned (.bool (fewB n most)) ∧ Below w.heap.size w w' := by
  have hm1 : (n : Int) ≤ 9223372036854775807 := by unfold maxLen at hmax; omega
  have hm2 : (most : Int) ≤ 400 := by omega
  subst hmi
  unfold fewB
  by_cases a : n ≤ most
  · have a' : (n : Int) ≤ most := by omega
    rw [decide_eq_true a]
    go_enter Try.func12, Try.ntmps12
    go_wp2
    go_ret
    exact ⟨by first | rfl | simp, Below.refl _ _⟩
  · have a' : ¬ (n : Int) ≤ most := by omega
    rw [decide_eq_false a]
    by_cases b : 360 < n
    · have b' : (360 : Int) < n := by omega
      rw [decide_eq_true b]
      by_cases d : n < 370
      · have d' : (n : Int) < 370 := by omega
        rw [decide_eq_true d]
        go_enter Try.func12, Try.ntmps12
        go_wp2
        go_ret
        exact ⟨by first | rfl | simp, Below.refl _ _⟩
      · have d' : ¬ (n : Int) < 370 := by omega
        rw [decide_eq_false d]
        go_enter Try.func12, Try.ntmps12
        go_wp2
        go_ret
        exact ⟨by first | rfl | simp, Below.refl _ _⟩
    · have b' : ¬ (360 : Int) < n := by omega
      rw [decide_eq_false b]
      go_enter Try.func12, Try.ntmps12
      go_wp2
      go_ret
      exact ⟨by first | rfl | simp, Below.refl _ _⟩
set_option maxHeartbeats 1000000 in
set_option maxRecDepth 100000 in
theorem lsights_any (A : Option Addr) (l : List Sgt) (c : Nat) (w : World) (hmax : l.length ≤ 400) (hA : SgtsAt w w.heap.size A l) :
    Calls Try.prog 14 #[.slice A l.length c] w fun e w' => ∃ A' c', e = .returned (.slice A' l.length c') ∧ Below w.heap.size w w' ∧ l.length ≤ c' ∧ SgtsH w' A' l := by
  have hsc : SgtsAt w w.heap.size A l := hA
  unfold SgtsAt at hsc
  have hsn : ∀ k, k < l.length → sgsV (l.take (k + 1)) = sgsV (l.take k) ++ sgsV [l.getD k sg0] := fun k hk => by
    rw [List.take_add_one, List.getElem?_eq_getElem hk, List.getD_eq_getElem?_getD, List.getElem?_eq_getElem hk, sgsV_app]
    rfl
  have h00 : sgsV (l.take 0) = [] := rfl
  have hend : sgsV (l.take l.length) = sgsV l := by rw [List.take_length]
  obtain ⟨K, hK⟩ : ∃ K : Nat → List Value, K = fun k => sgsV (l.take k) := ⟨_, rfl⟩
  have hKe : ∀ k, sgsV (l.take k) = K k := fun k => by rw [hK]
  simp only [hKe] at hsn h00 hend
  obtain ⟨n, hn⟩ : ∃ n, l.length = n := ⟨_, rfl⟩
  rw [hn] at hsc hsn hend hmax ⊢
  have hmax2 : (n : Int) ≤ 400 := by omega
  have HSC := hide hsc
  have HSN := hide hsn
  have H00 := hide h00
  have HEND := hide hend
  have HN := hide hn
  clear hsc hsn h00 hend hn
  clear hA hK hKe
  go_enter Try.func14, Try.ntmps14
  have HM := hide (Mem.start w)
  go_wp2_with fail
  have HM2 := hide (HM.out.nilRow w.heap.size 71 5)
  clear HM
  have HM := HM2
  clear HM2
  generalize hg0 : w.heap.size = gs at HM ⊢
  go_loopw [3, 4] (fun o i wr => ∃ (k : Nat) (A' : Option Addr) (c' : Nat), k ≤ n ∧ i = .int .i64 k ∧ o = .slice A' k c' ∧ Mem w [.row gs 71 5 (.slice A' k c') k (K k)] wr) (fun _ i _ => n - (intOf i).toNat)
  case atStart => exact ⟨0, none, 0, by omega, rfl, rfl, by rw [H00.out]; exact HM.out⟩
  case round =>
    obtain ⟨k, A', c', hk, rfl, rfl, hM⟩ := hrel
    clear HM
    have HM := hide hM
    clear hM
    by_cases hlt : k < n
    · have hlt2 : (k : Int) < n := by omega
      obtain ⟨b, off, rfl, hb0, hc⟩ := HSC.out (by omega)
      have hc1 := hc _ hlt
      have hs1 := HSN.out k hlt
      obtain ⟨X, hX⟩ : ∃ X, l.getD k sg0 = X := ⟨_, rfl⟩
      rw [hX] at hc1 hs1
      rw [← HM.out.below.cell hb0, ← HM.out.below.cell hb0, ← HM.out.below.cell hb0, ← HM.out.below.cell hb0, ← HM.out.below.cell hb0] at hc1
      have ltb : b < wr.heap.size := Nat.lt_of_lt_of_le hb0 HM.out.size
      obtain ⟨q0, q1, q2, q3, q4⟩ := hc1
      obtain ⟨sx, sy, sl, slo, shi⟩ := X
      have hs2 : K (k + 1) = K k ++ [.int .i64 sx, .int .i64 sy, .int .i64 sl, .int .i64 slo, .int .i64 shi] := hs1
      simp only at q0 q1 q2 q3 q4
      generalize K k = xs at *
      obtain ⟨i0, hii, hz0, hz1, hz2⟩ := info_parts sightInfo
      have Hi := hide hii
      have Hz0 := hide hz0
      have Hz1 := hide hz1
      have Hz2 := hide hz2
      have HS1 := hide hs2
      clear hii hz0 hz1 hz2 hs2
      clear hc hX hs1
      go_upto_region 5 with fail
      have hbaseM : gs ≤ wr.heap.size := by rw [← hg0]; exact HM.out.size
      have hownM := Mem.row_ HM.out 0 rfl
      
      go_wp2_with (at_builtin; refine wpList_append_own_at _ rfl (.tmp 11) (.tmp 16) _ rfl _ 71 i0 _ 5 40 Try.underlying25 Hi.out Hz0.out Hz1.out Hz2.out rfl (by decide) _ k xs rfl (hownM.alloc _) ⟨wr.heap.size, 0, none⟩ 1 1 [.int .i64 sx, .int .i64 sy, .int .i64 sl, .int .i64 slo, .int .i64 shi] rfl rfl ?q1c1 (by intro u hu; simp only [List.mem_cons, List.not_mem_nil, or_false] at hu; rcases hu with rfl | rfl | rfl | rfl | rfl <;> rfl) ?q1c3 ?q1c4 ?q1c5 ?_)
      try case q1c1 => exact new_cellsQ wr _ [.int .i64 sx, .int .i64 sy, .int .i64 sl, .int .i64 slo, .int .i64 shi]
      case q1c3 => unfold maxLen; omega
      case q1c4 => omega
      case q1c5 => first | omega | (simp; omega)
      intro vA w9 hown2 hgr2 _ hat2
      have HMn := HM.out.grow 0 rfl _ hgr2 hown2 hat2
      replace HM := hide HMn
      clear HMn hown2 hgr2 hat2 hownM hbaseM
      obtain ⟨A9, c9, rfl⟩ := own_shape2 (Mem.row_ HM.out 0 rfl)
      go_wp2_with fail
      go_roundw
      case rel => exact ⟨k + 1, A9, c9, by omega, by go_num, rfl, by rw [HS1.out]; exact HM.out⟩
      case measure => simp [intOf] <;> omega
    · obtain rfl : k = n := by omega
      have hkk : ¬ ((k : Int) < k) := by omega
      have hro := HM.out.row_ 0 rfl
      have hkc : k ≤ c' := by
        by_cases h : 0 < k
        · obtain ⟨-, -, -, -, -, h5, -, -⟩ := row_blk hro h
          exact h5
        · omega
      have hsg := sgts_own HN.out (by rw [← HEND.out]; exact hro)
      have HRO := hide hro
      have HKC := hide hkc
      have HSG := hide hsg
      clear hro hkc hsg
      go_wp2
      exact bodyPost_ret (v := .slice A' k c') (by simp [results, Try.results14, go_sem]) rfl ⟨A', c', rfl, by first | exact HM.out.below | (rw [← hg0]; exact HM.out.below), HKC.out, HSG.out⟩
end Go.Proofs.Ytllpffkifleigaa
end
section
namespace Go.Proofs.Ytllpffkifleigaa
open Go Go.RowKit

/-- The speed in truth along a ray, times l d. -/
def numZ (r t a u v wz : Int) : Int := (u * (dirV (2 * r) (2 * a + 1)).x + v * (dirV (2 * r) (2 * a + 1)).y) * (slantV t).x + wz * (slantV t).y * (dirV (2 * r) (2 * a + 1)).l
def denZ (r t a : Int) : Int := (dirV (2 * r) (2 * a + 1)).l * (slantV t).l
def spLo (r t a u v wz m : Int) : Int := numZ r t a u v wz / denZ r t a - m
def spHi (r t a u v wz l : Int) : Int := -(-numZ r t a u v wz / denZ r t a) + l
structure TruA (r t a u v wz l m rl rm : Int) : Prop where
  r0 : 1 ≤ r
  r1 : r ≤ 90
  t0 : 0 ≤ t
  t1 : t ≤ 256
  a0 : 0 ≤ a
  a1 : a ≤ 4 * r - 1
  u0 : -32768 ≤ u
  u1 : u ≤ 32767
  v0 : -32768 ≤ v
  v1 : v ≤ 32767
  w0 : -1280 ≤ wz
  w1 : wz ≤ 1270
  l0 : 0 ≤ l
  l1 : l ≤ 199
  m0 : 0 ≤ m
  m1 : m ≤ 199
  rl0 : 0 ≤ rl
  rl1 : rl ≤ 499
  rm0 : 0 ≤ rm
  rm1 : rm ≤ 499
theorem dir_ok2 {r a : Int} (r0 : 1 ≤ r) (r1 : r ≤ 90) (a0 : 0 ≤ a) (a1 : a ≤ 4 * r - 1) : DirOk (dirV (2 * r) (2 * a + 1)) := dir_ok (by omega) (by omega) (by omega) (by omega)
theorem numZ_bd {r t a u v wz l m rl rm : Int} (h : TruA r t a u v wz l m rl rm) : 1 ≤ denZ r t a ∧ denZ r t a ≤ 64800 * 327680 ∧ -(67000 * denZ r t a) ≤ numZ r t a u v wz ∧ numZ r t a u v wz ≤ 67000 * denZ r t a := by
  obtain ⟨r0, r1, t0, t1, a0, a1, u0, u1, v0, v1, w0, w1, -⟩ := h
  obtain ⟨c1, c2, n1, n2, d1, d2⟩ := slant_bd t0 t1
  have hcd : (slantV t).x ≤ (slantV t).l := by
    have := sq_nn t
    unfold slantV
    simp only
    omega
  have hnd : (slantV t).y ≤ (slantV t).l := by omega
  obtain ⟨l1, l2, x1, x2, y1, y2, -⟩ := dir_ok2 r0 r1 a0 a1
  unfold numZ denZ
  generalize (slantV t).x = c at *
  generalize (slantV t).y = n at *
  generalize (slantV t).l = d at *
  generalize (dirV (2 * r) (2 * a + 1)).x = X at *
  generalize (dirV (2 * r) (2 * a + 1)).y = Y at *
  generalize (dirV (2 * r) (2 * a + 1)).l = L at *
  have m0 := Int.mul_le_mul (a := 1) (b := 1) (c := L) (d := d) l1 (by omega) (by omega) (by omega)
  have m1 := Int.mul_le_mul (a := L) (b := d) (c := 64800) (d := 327680) l2 d2 (by omega) (by omega)
  have p1 := abs_mul (X := 32768) (Y := L) (show -32768 ≤ u by omega) (by omega) x1 x2
  have p2 := abs_mul (X := 32768) (Y := L) (show -32768 ≤ v by omega) (by omega) y1 y2
  have q1 := abs_mul (x := u * X + v * Y) (y := c) (X := 65536 * L) (Y := d) (by omega) (by omega) (by omega) hcd
  have q2 := abs_mul (x := wz) (y := n) (X := 1280) (Y := d) (by omega) (by omega) (by omega) hnd
  have q3 := abs_mul (x := wz * n) (y := L) (X := 1280 * d) (Y := L) (by omega) (by omega) (by omega) (Int.le_refl _)
  have e1 : 65536 * L * d = 65536 * (L * d) := Int.mul_assoc _ _ _
  have e2 : 1280 * d * L = 1280 * (L * d) := by rw [Int.mul_assoc, Int.mul_comm d L]
  rw [e1] at q1
  rw [e2] at q3
  generalize L * d = P at *
  generalize (u * X + v * Y) * c = M1 at *
  generalize wz * n * L = M2 at *
  omega
theorem sp_bd {r t a u v wz l m rl rm : Int} (h : TruA r t a u v wz l m rl rm) : -67300 ≤ spLo r t a u v wz m ∧ spLo r t a u v wz m ≤ spHi r t a u v wz l ∧ spHi r t a u v wz l ≤ 67300 ∧
    spLo r t a u v wz m * denZ r t a ≤ numZ r t a u v wz ∧ numZ r t a u v wz ≤ spHi r t a u v wz l * denZ r t a ∧ -67001 ≤ numZ r t a u v wz / denZ r t a ∧ numZ r t a u v wz / denZ r t a ≤ 67000 ∧ -67001 ≤ -numZ r t a u v wz / denZ r t a ∧ -numZ r t a u v wz / denZ r t a ≤ 67000 := by
  obtain ⟨d1, d2, b1, b2⟩ := numZ_bd h
  have l0 := h.l0
  have l1 := h.l1
  have m0 := h.m0
  have m1 := h.m1
  unfold spLo spHi
  generalize numZ r t a u v wz = N at *
  generalize denZ r t a = D at *
  have e1 := Int.ediv_mul_le N (show D ≠ 0 by omega)
  have e2 := Int.ediv_mul_le (-N) (show D ≠ 0 by omega)
  have f1 : -67000 ≤ N / D := (Int.le_ediv_iff_mul_le (by omega)).2 (by omega)
  have f2 : -67000 ≤ -N / D := (Int.le_ediv_iff_mul_le (by omega)).2 (by omega)
  have f3 : N / D ≤ 67000 := by
    have := Int.ediv_le_ediv (show 0 < D by omega) b2
    rw [Int.mul_ediv_cancel _ (by omega)] at this
    exact this
  have f4 : -N / D ≤ 67000 := by
    have := Int.ediv_le_ediv (show 0 < D by omega) (show -N ≤ 67000 * D by omega)
    rw [Int.mul_ediv_cancel _ (by omega)] at this
    exact this
  have f5 : N / D + -N / D ≤ 0 := by
    have : (N / D + -N / D) * D ≤ 0 := by rw [Int.add_mul]; omega
    by_cases hc : 0 < N / D + -N / D
    · have := Int.mul_pos hc (show 0 < D by omega)
      omega
    · omega
  have g1 := Int.mul_nonneg m0 (show 0 ≤ D by omega)
  have g2 := Int.mul_nonneg l0 (show 0 ≤ D by omega)
  have g3 : (N / D - m) * D = N / D * D - m * D := Int.sub_mul _ _ _
  have g4 : (-(-N / D) + l) * D = -(-N / D * D) + l * D := by rw [Int.add_mul, Int.neg_mul]
  refine ⟨by omega, by omega, by omega, by rw [g3]; omega, by rw [g4]; omega, by omega, f3, by omega, f4⟩
theorem tru_look {r t a u v wz l m rl rm : Int} (h : TruA r t a u v wz l m rl rm) :
    lookE 0 r t a (spLo r t a u v wz m) (spHi r t a u v wz l) (wz - rl) (wz + rm) = 0 ∧ SgtOk (lookS r t a (spLo r t a u v wz m) (spHi r t a u v wz l) (wz - rl) (wz + rm)) ∧ Agr1 (lookS r t a (spLo r t a u v wz m) (spHi r t a u v wz l) (wz - rl) (wz + rm)) u v := by
  obtain ⟨s1, s2, s3, s4, s5, -⟩ := sp_bd h
  obtain ⟨r0, r1, t0, t1, a0, a1, u0, u1, v0, v1, w0, w1, l0, l1, m0, m1, rl0, rl1, rm0, rm1⟩ := h
  have hg : gateE 0 t (wz - rl) (wz + rm) = 0 := by
    unfold gateE
    rw [if_neg (by simp), if_pos]
    refine ⟨winB_iff.2 ⟨t0, t1⟩, ?_⟩
    unfold spnB
    rw [decide_eq_true_iff]
    omega
  have hD := dir_ok2 r0 r1 a0 a1
  obtain ⟨c1, c2, n1, n2, d1, d2⟩ := slant_bd t0 t1
  have hl := look_agr (W := 0) (c := (slantV t).x) (n := (slantV t).y) (d := (slantV t).l) (L := (dirV (2 * r) (2 * a + 1)).l) (num := u * (dirV (2 * r) (2 * a + 1)).x + v * (dirV (2 * r) (2 * a + 1)).y) (wz := wz) (lo := spLo r t a u v wz m) (hi := spHi r t a u v wz l) (rlo := wz - rl) (rhi := wz + rm) (by omega) (by omega) (by have := hD.l1; omega) (by omega) s4 s5 (by omega) (by omega)
  refine ⟨?_, ?_, hl⟩
  · unfold lookE
    rw [if_neg (by rw [hg]; simp), if_pos]
    refine ⟨winB_iff.2 ⟨a0, a1⟩, ?_⟩
    unfold spnB
    rw [decide_eq_true_iff]
    omega
  · unfold lookS
    generalize spLo r t a u v wz m = lo at *
    generalize spHi r t a u v wz l = hi at *
    have hcd : (slantV t).l ≤ 327680 := d2
    generalize (slantV t).x = c at *
    generalize (slantV t).y = n at *
    generalize (slantV t).l = d at *
    have k1 := abs_mul (x := lo) (y := d) (X := 67300) (Y := 327680) (by omega) (by omega) (by omega) d2
    have k2 := abs_mul (x := hi) (y := d) (X := 67300) (Y := 327680) (by omega) (by omega) (by omega) d2
    have k3 := abs_mul (x := wz + rm) (y := n) (X := 1800) (Y := 262144) (by omega) (by omega) (by omega) n2
    have k4 := abs_mul (x := wz - rl) (y := n) (X := 1800) (Y := 262144) (by omega) (by omega) (by omega) n2
    have o1 : lo * d ≤ hi * d := Int.mul_le_mul_of_nonneg_right s2 (by omega)
    have o2 : (wz - rl) * n ≤ (wz + rm) * n := Int.mul_le_mul_of_nonneg_right (by omega) n1
    have e1 := Int.ediv_mul_le (lo * d - (wz + rm) * n) (show c ≠ 0 by omega)
    have e2 := Int.ediv_mul_le ((wz - rl) * n - hi * d) (show c ≠ 0 by omega)
    have f1 : -400000 ≤ (lo * d - (wz + rm) * n) / c := (Int.le_ediv_iff_mul_le (by omega)).2 (by omega)
    have f2 : -400000 ≤ ((wz - rl) * n - hi * d) / c := (Int.le_ediv_iff_mul_le (by omega)).2 (by omega)
    have f3 : (lo * d - (wz + rm) * n) / c + ((wz - rl) * n - hi * d) / c ≤ 0 := by
      generalize (lo * d - (wz + rm) * n) / c = A at *
      generalize ((wz - rl) * n - hi * d) / c = B at *
      have : (A + B) * c ≤ 0 := by rw [Int.add_mul]; omega
      by_cases hc : 0 < A + B
      · have := Int.mul_pos hc (show 0 < c by omega)
        omega
      · omega
    exact ⟨hD.l1, hD.l2, hD.x1, hD.x2, hD.y1, hD.y2, hD.sq, f1, by simp only; omega, by simp only; omega⟩
end Go.Proofs.Ytllpffkifleigaa
end
section
namespace Go.Proofs.Ytllpffkifleigaa
open Go Go.RowKit

def SlS (w : World) (A : Option Addr) (c : Nat) (L : List Sgt) : Prop := L.length ≤ c ∧ c ≤ maxLen ∧ ((A = none ∧ L = [] ∧ c = 0) ∨ ∃ b off, A = some ⟨b, off, none⟩ ∧ b < w.heap.size ∧ ∀ (j : Nat) (u : Value), (sgsV L)[j]? = some u → w.cell? ⟨b, off + j, none⟩ = some u)
theorem SlS.later {w w' : World} {A : Option Addr} {c : Nat} {L : List Sgt} (h : SlS w A c L) (hb : Below w.heap.size w w') : SlS w' A c L := by
  refine ⟨h.1, h.2.1, h.2.2.imp id ?_⟩
  rintro ⟨b, off, e, hl, hc⟩
  exact ⟨b, off, e, Nat.lt_of_lt_of_le hl hb.size, fun j u hu => (hb.cell hl).trans (hc j u hu)⟩
theorem SlS.sgts {w : World} {A : Option Addr} {c : Nat} {L : List Sgt} (h : SlS w A c L) : SgtsH w A L := fun hn => by
  rcases h.2.2 with ⟨-, rfl, -⟩ | ⟨b, off, e, hl, hc⟩
  · simp at hn
  · refine ⟨b, off, e, hl, fun i hi => ?_⟩
    obtain ⟨c1, c2, c3, c4, c5⟩ := sgsV_get L i hi
    exact ⟨hc _ _ c1, hc _ _ c2, hc _ _ c3, hc _ _ c4, hc _ _ c5⟩
theorem addr_add (b off j : Nat) : ((⟨b, off, none⟩ : Addr).add j) = ⟨b, off + j, none⟩ := by unfold Addr.add; split <;> simp_all
theorem SlS.srcK {w0 w : World} {S : Nat → Prop} {A : Option Addr} {c : Nat} {L : List Sgt} (h : SlS w0 A c L) (hk : Kept S w0 w) (hS : ∀ k, k < w0.heap.size → S k) : Src w A L.length c (sgsV L) := by
  rcases h.2.2 with ⟨e1, e2, e3⟩ | ⟨b, off, e, hl, hc⟩
  · subst e2
    exact .inl ⟨e1, rfl, e3, rfl⟩
  · refine .inr ⟨_, e, fun j u hu => ?_⟩
    rw [addr_add]
    exact (cell_same (hk.block b (hS b hl))).trans (hc j u hu)
theorem SlS.of_own {w : World} {base n c : Nat} {A : Option Addr} {L : List Sgt} (hn : L.length = n) (h : w.ownsRow base 71 5 (.slice A n c) n (sgsV L)) : SlS w A c L := by
  rcases h.2 with ⟨hv, h0⟩ | ⟨g, cap, cur, hv, hb, hg, h3, h4, h5, h6⟩
  · injection hv with e1 e2 e3
    subst e1 e2 e3
    have hL : L = [] := List.eq_nil_of_length_eq_zero hn
    subst hL
    exact ⟨Nat.le_refl _, Nat.zero_le _, .inl ⟨rfl, rfl, rfl⟩⟩
  · injection hv with e1 e2 e3
    subst e1
    subst e3
    have hblk : Blk w g 71 cur := hg
    refine ⟨by omega, h4, .inr ⟨g, 0, rfl, hblk.lt, fun j u hu => ?_⟩⟩
    rw [Nat.zero_add]
    refine hblk.c j ?_
    rw [← h6, List.getElem?_take] at hu
    split at hu
    · simpa using hu
    · cases hu
theorem sgsV_oneC (L : List Sgt) : ∀ u ∈ sgsV L, u.oneCell' = true := fun u hu => by
  unfold sgsV at hu
  obtain ⟨s, -, hs⟩ := List.mem_flatMap.1 hu
  simp only [List.mem_cons, List.not_mem_nil, or_false] at hs
  rcases hs with rfl | rfl | rfl | rfl | rfl <;> rfl
theorem bndsE_iff {l : List Sgt} : bndsE l = 0 ↔ (l.length ≤ 360 ∧ ∀ s ∈ l, SgtOk s) ∧ Feas l 0 := by
  unfold bndsE
  constructor
  · intro h
    split at h
    · rename_i h1; exact absurd h h1
    · rename_i h1
      have h2 := listE_ok.1 (Classical.not_not.1 h1)
      split at h
      · rename_i h3; exact ⟨h2, agrB_iff.1 h3⟩
      · cases h
  · rintro ⟨h1, h2⟩
    rw [if_neg (by rw [listE_ok.2 h1]; simp), if_pos (agrB_iff.2 h2)]
set_option maxHeartbeats 1000000 in
set_option maxRecDepth 100000 in
theorem ends1_any (A : Option Addr) (n c : Nat) (L : List Sgt) (dx dy len lo hi : Int) (bl b1 b2 b3 : Nat) (wz : World) (hn : L.length = n) (hmax : n ≤ 400) (hSl : SlS wz A c L) (hI : AllI L) (hx : I64 dx) (hy : I64 dy)
    (hbl : Blk wz bl 25 #[.slice A n c]) (h1 : Blk wz b1 3 #[.int .i64 dx]) (h2 : Blk wz b2 3 #[.int .i64 dy]) (h3 : Blk wz b3 3 #[.int .i64 len]) :
    Calls Try.prog 82 #[.int .i64 lo, .int .i64 hi, .pointer (some ⟨bl, 0, none⟩), .pointer (some ⟨b1, 0, none⟩), .pointer (some ⟨b2, 0, none⟩), .pointer (some ⟨b3, 0, none⟩)] wz fun e w' =>
      e = .returned (.bool (decide (bndsE (L ++ [(⟨dx, dy, len, lo, hi⟩ : Sgt)]) = 0))) ∧ Below wz.heap.size wz w' := by
  have hB := fun (A' : Option Addr) (c' : Nat) (W : World) (hs : SgtsH W A' (L ++ [(⟨dx, dy, len, lo, hi⟩ : Sgt)])) => Bounds_any A' (L ++ [(⟨dx, dy, len, lo, hi⟩ : Sgt)]) c' W (by rw [List.length_append]; simp [maxLen]; omega) hs (fun s hs => by
    rcases List.mem_append.1 hs with h | h
    · exact hI s h
    · rw [List.mem_singleton] at h; subst h; exact ⟨hx, hy⟩)
  have hll : (L ++ [(⟨dx, dy, len, lo, hi⟩ : Sgt)]).length = 0 + n + 1 := by simp; omega
  rw [hll] at hB
  generalize bndB (L ++ [(⟨dx, dy, len, lo, hi⟩ : Sgt)]) (loL 1 0 1 240000) = r1 at *
  generalize bndB (L ++ [(⟨dx, dy, len, lo, hi⟩ : Sgt)]) (hiL 1 0 1 240000) = r2 at *
  generalize bndB (L ++ [(⟨dx, dy, len, lo, hi⟩ : Sgt)]) (loL 0 1 1 240000) = r3 at *
  generalize bndB (L ++ [(⟨dx, dy, len, lo, hi⟩ : Sgt)]) (hiL 0 1 1 240000) = r4 at *
  generalize bndsE (L ++ [(⟨dx, dy, len, lo, hi⟩ : Sgt)]) = ev at *
  have hvs : (#[] : Array Value).toList ++ sgsV L ++ (#[.int .i64 dx, .int .i64 dy, .int .i64 len, .int .i64 lo, .int .i64 hi] : Array Value).toList = sgsV (L ++ [(⟨dx, dy, len, lo, hi⟩ : Sgt)]) := by rw [sgsV_app]; rfl
  have hlen : (sgsV L).length = n * 5 := by rw [sgsV_len, hn]
  have hsrc := fun (S : Nat → Prop) (W : World) (hk : Kept S wz W) hS => hSl.srcK hk hS
  rw [hn] at hsrc
  have hone := sgsV_oneC L
  obtain ⟨i0, hii, hz0, hz1, hz2⟩ := info_parts sightInfo
  have Hi := hide hii
  have Hz0 := hide hz0
  have Hz1 := hide hz1
  have Hz2 := hide hz2
  have HB0 := hide hB
  have HVS := hide hvs
  have HSRC := hide hsrc
  have HONE := hide hone
  have HLEN := hide hlen
  have HLL := hide hll
  clear hii hz0 hz1 hz2 hB hvs hsrc hone hlen hll
  have l0 := hbl.c 0 rfl
  have x0 := h1.c 0 rfl
  have y0 := h2.c 0 rfl
  have z0 := h3.c 0 rfl
  have ltl := hbl.lt
  have lt1 := h1.lt
  have lt2 := h2.lt
  have lt3 := h3.lt
  clear hbl h1 h2 h3 hI hSl hx hy hn
  go_enter Try.func82, Try.ntmps82
  have HB := hide (Below.refl wz.heap.size wz)
  go_wp2_with fail
  apply wp_region_L (w0 := wz) [[], [], [0], [], [], [], [], [], [0, 2], [0, 2], [0, 2, 9], [0, 2, 9, 10], [0, 2, 9, 10, 11], [0, 2, 9, 10, 11], [0, 2, 9, 10, 11], [], [0, 2, 9, 10, 11, 15], [0, 2, 9, 10, 11, 15, 16]] [false, true, false, true, true, true, true, true, true, false, false, false, true, true, true, false, false, true] [⟨0, none, [], []⟩, ⟨2, some 0, [0], []⟩, ⟨9, none, [], []⟩, ⟨10, some 2, [2, 9], []⟩, ⟨11, none, [10], []⟩, ⟨15, none, [], []⟩, ⟨16, some 15, [15], [15]⟩] (fun ixq y => match ixq with | 0 => .slice (y 0).1 0 0 | 2 => .slice (y 0).1 (0 + n) (y 0).2 | 9 => .slice (y 0).1 1 1 | 10 => .slice (y 0).1 ((0+n) + 1) (y 0).2 | 11 => .tuple #[.agg #[.int .i64 r1, .int .i64 r2, .int .i64 r3, .int .i64 r4], .int .i64 ev] | 15 => .pointer (y 0).1 | 16 => undef | _ => undef) (fun ixq x F wq => match ixq with | 0 => OwnF wq F wz.heap.size 71 5 (.slice (x 0 0).1 0 0) 0 #[].toList | 2 => OwnF wq F wz.heap.size 71 5 (.slice (x 2 0).1 (0 + n) (x 2 0).2) (0 + n) ((#[] : Array Value).toList ++ sgsV L) | 9 => OwnF wq F wz.heap.size 71 5 (.slice (x 9 0).1 1 1) 1 #[.int .i64 dx, .int .i64 dy, .int .i64 len, .int .i64 lo, .int .i64 hi].toList | 10 => OwnF wq F wz.heap.size 71 5 (.slice (x 10 0).1 ((0+n) + 1) (x 10 0).2) ((0+n) + 1) ((#[] : Array Value).toList ++ sgsV L ++ (#[.int .i64 dx, .int .i64 dy, .int .i64 len, .int .i64 lo, .int .i64 hi] : Array Value).toList) | 11 => True | 15 => PtrF wq F wz.heap.size (x 15 0).1 34 #[.int .i64 0, .int .i64 0, .int .i64 0, .int .i64 0] | 16 => PtrF wq F wz.heap.size (x 15 0).1 34 #[.int .i64 r1, .int .i64 r2, .int .i64 r3, .int .i64 r4] | _ => True) (fun a x => (((((((a).put (some 12) (.slice ((x 0) 0).1 0 0)).put (some 14) (.slice ((x 2) 0).1 (0 + n) ((x 2) 0).2)).put (some 21) (.slice ((x 9) 0).1 1 1)).put (some 22) (.slice ((x 10) 0).1 ((0+n) + 1) ((x 10) 0).2)).put (some 23) (.tuple #[.agg #[.int .i64 r1, .int .i64 r2, .int .i64 r3, .int .i64 r4], .int .i64 ev])).put (some 9) (.pointer ((x 15) 0).1)).put (none) (undef)) (by kernel_rfl) (by kernel_rfl) (fun x => putH_step (some 12) (.slice ((x 0) 0).1 0 0) rfl rfl <| putH_step (some 14) (.slice ((x 2) 0).1 (0 + n) ((x 2) 0).2) rfl rfl <| putH_step (some 21) (.slice ((x 9) 0).1 1 1) rfl rfl <| putH_step (some 22) (.slice ((x 10) 0).1 ((0+n) + 1) ((x 10) 0).2) rfl rfl <| putH_step (some 23) (.tuple #[.agg #[.int .i64 r1, .int .i64 r2, .int .i64 r3, .int .i64 r4], .int .i64 ev]) rfl rfl <| putH_step (some 9) (.pointer ((x 15) 0).1) rfl rfl <| putH_step (none) (undef) rfl rfl <| putH_end) [20] (by kernel_rfl)
  · intro x D hD
    have hne := hD.some
    have k0 := liftB hD l0 (by first | assumption | omega)
    have k1 := liftB hD x0 (by first | assumption | omega)
    have k2 := liftB hD y0 (by first | assumption | omega)
    have k3 := liftB hD z0 (by first | assumption | omega)
    simp only [takeOps, Act.put, List.setIfInBounds_toArray, List.set_cons_succ, List.set_cons_zero]
    repeat (go_big_quiet_step ((go_at_call 39; exact calls_later hD _ (sight_any _ _ _ _ _ _))))
    exact wpQuiet_nil rfl
  · intro d hd x x'
    simp only [List.mem_cons, List.not_mem_nil, or_false] at hd
    rcases hd with rfl
    all_goals rfl
  · refine ⟨?_, ?_, ?_, ?_, ?_, ?_, ?_, trivial⟩
    · exact obl_new rfl (fun _ => by kernel_rfl) 71 (fun x => #[]) gP (fun x w => by kernel_rfl) (fun x w hle => own_new hle rfl (by unfold maxLen; omega))
    · refine obl_appendS 25 12 13 (by kernel_rfl) wz.heap.size 71 i0 _ 5 40 Try.underlying25 Hi.out Hz0.out Hz1.out Hz2.out rfl (by decide) 0 n ((#[] : Array Value).toList) (sgsV L) (HLEN.out) (HONE.out) (by unfold maxLen; omega) (by omega) (by first | assumption | omega) (fun x w F hk hn => ?_) (fun _ => rfl) (fun _ _ _ _ h => h)
      have hj := hn 0 (by simp)
      exact ⟨_, A, c, rfl, hj.1, fun g hg => .inr (hj.2 g hg), rfl, HSRC.out _ w hk (fun k hk => ⟨hk, fun _ _ h => h.elim⟩)⟩
    · exact obl_new rfl (fun _ => by kernel_rfl) 71 (fun x => #[.int .i64 dx, .int .i64 dy, .int .i64 len, .int .i64 lo, .int .i64 hi]) gP (fun x w => by kernel_rfl) (fun x w hle => own_new hle rfl (by unfold maxLen; omega))
    · refine obl_append 25 14 21 (by kernel_rfl) wz.heap.size 71 i0 _ 5 40 Try.underlying25 Hi.out Hz0.out Hz1.out Hz2.out rfl (by decide) (0+n) 1 ((#[] : Array Value).toList ++ sgsV L) ((#[.int .i64 dx, .int .i64 dy, .int .i64 len, .int .i64 lo, .int .i64 hi] : Array Value).toList) (by first | rfl | (simp; done) | (simp; omega)) (by simp [Value.oneCell']) (by unfold maxLen; omega) (by omega) (by first | assumption | omega) (fun x w F hk hn => ?_) (fun _ => rfl) (fun _ _ _ _ h => h)
      have hj := hn 2 (by simp)
      have hJ : OwnF w (F 9) wz.heap.size 71 5 (.slice (x 9 0).1 1 1) 1 (#[.int .i64 dx, .int .i64 dy, .int .i64 len, .int .i64 lo, .int .i64 hi] : Array Value).toList := hn 9 (by simp)
      obtain ⟨ad, hA, hc⟩ := news_own hJ (by decide)
      exact ⟨_, ad, 1, rfl, hj.1, fun g hg => .inr (hj.2 g hg), (show Value.slice (x 9 0).1 1 1 = _ by rw [hA]), hc⟩
    · refine obl_callL rfl (fun _ => by kernel_rfl) 17 (fun x => #[.slice (x 10 0).1 (0 + n + 1) (x 10 0).2]) (fun x w => by kernel_rfl) ?_
      intro x w F hL hN
      have n10 := hN 10 (by simp)
      have hs := sgts_own (c := (x 10 0).2) HLL.out (by rw [← HVS.out]; exact n10.1)
      exact calls_one (y := fun _ => (none, 0)) (HB0.out _ _ w hs) rfl (fun _ => trivial)
    · exact obl_alloc 34 9 (.agg #[.int .i64 0, .int .i64 0, .int .i64 0, .int .i64 0]) (by kernel_rfl) (by kernel_rfl) (fun _ => rfl) (fun _ _ _ h => h)
    · refine obl_store 34 9 24 15 #[.int .i64 0, .int .i64 0, .int .i64 0, .int .i64 0] (fun x => #[.int .i64 r1, .int .i64 r2, .int .i64 r3, .int .i64 r4]) (by kernel_rfl) rfl (by simp) (fun _ _ _ h => h) (fun _ => rfl) (fun _ => rfl) (fun _ => by kernel_rfl) (fun _ => rfl) (fun _ => by simp [Value.oneCell']) (fun _ => rfl) (by decide) (fun _ _ _ _ h => h)
  · refine ⟨?_, ?_, ?_, ?_, ?_, ?_, ?_, trivial⟩
    · refine ⟨fun x F wq wq' h hs hk => ?_, fun x x' F wq hx h => ?_⟩
      · have h2 : OwnF wq F wz.heap.size 71 5 (.slice (x 0 0).1 0 0) 0 #[].toList := h
        exact h2.stab hk
      · have h2 : OwnF wq F wz.heap.size 71 5 (.slice (x 0 0).1 0 0) 0 #[].toList := h
        rw [hx 0 (by simp)] at h2
        exact h2
    · exact owe_own 2 wz.heap.size 71 5 (0 + n) ((#[] : Array Value).toList ++ sgsV L) rfl (fun _ _ _ => rfl)
    · refine ⟨fun x F wq wq' h hs hk => ?_, fun x x' F wq hx h => ?_⟩
      · have h2 : OwnF wq F wz.heap.size 71 5 (.slice (x 9 0).1 1 1) 1 #[.int .i64 dx, .int .i64 dy, .int .i64 len, .int .i64 lo, .int .i64 hi].toList := h
        exact h2.stab hk
      · have h2 : OwnF wq F wz.heap.size 71 5 (.slice (x 9 0).1 1 1) 1 #[.int .i64 dx, .int .i64 dy, .int .i64 len, .int .i64 lo, .int .i64 hi].toList := h
        rw [hx 9 (by simp)] at h2
        exact h2
    · exact owe_own 10 wz.heap.size 71 5 ((0+n) + 1) ((#[] : Array Value).toList ++ sgsV L ++ (#[.int .i64 dx, .int .i64 dy, .int .i64 len, .int .i64 lo, .int .i64 hi] : Array Value).toList) rfl (fun _ _ _ => rfl)
    · exact owe_true (fun _ _ _ => trivial)
    · exact owe_ptr 15 _ _ (fun x => #[.int .i64 0, .int .i64 0, .int .i64 0, .int .i64 0]) (fun _ _ _ => rfl) (by simp) (fun _ _ _ => rfl)
    · exact owe_ptr 15 _ _ (fun x => #[.int .i64 r1, .int .i64 r2, .int .i64 r3, .int .i64 r4]) (fun _ _ _ => rfl) (by simp) (fun _ _ _ => rfl)
  intro xx w2 F hL hlv1
  obtain ⟨-, -, -, fct10, fct11, -, fct16, -⟩ := hlv1
  replace fct10 : OwnF w2 (F 10) wz.heap.size 71 5 (.slice (xx 10 0).1 ((0+n) + 1) (xx 10 0).2) ((0+n) + 1) ((#[] : Array Value).toList ++ sgsV L ++ (#[.int .i64 dx, .int .i64 dy, .int .i64 len, .int .i64 lo, .int .i64 hi] : Array Value).toList) := fct10 rfl
  clear fct11
  replace fct16 : PtrF w2 (F 16) wz.heap.size (xx 15 0).1 34 #[.int .i64 r1, .int .i64 r2, .int .i64 r3, .int .i64 r4] := fct16 rfl
  clear fct10 fct16 l0 x0 y0 z0 ltl lt1 lt2 lt3
  replace HB := hide (onward HB.out hL)
  clear hL
  go_wp2
  exact bodyPost_ret (v := .bool (ev == 0)) (by simp [results, Try.results82, go_sem]) rfl ⟨by first | rfl | (congr 2), HB.out⟩
theorem app_len {L : List Sgt} {s : Sgt} {n : Nat} (hn : L.length = n) (hmax : n ≤ 300) : (L ++ [s]).length ≤ 360 := by rw [List.length_append]; simp; omega
theorem app_ok {L : List Sgt} {s : Sgt} (h : ∀ s ∈ L, SgtOk s) (hs : SgtOk s) : ∀ t ∈ L ++ [s], SgtOk t := fun t ht => by
  rcases List.mem_append.1 ht with h1 | h1
  · exact h t h1
  · rw [List.mem_singleton] at h1; subst h1; exact hs
set_option maxHeartbeats 1000000 in
set_option maxRecDepth 100000 in
theorem ends_any (A : Option Addr) (n c : Nat) (L : List Sgt) (dx dy len lo hi : Int) (wz : World) (hn : L.length = n) (hmax : n ≤ 300) (hSl : SlS wz A c L) (hok : ∀ s ∈ L, SgtOk s) (hR : Rch L dx dy len lo hi) (hd : DirOk ⟨dx, dy, len⟩) :
    Calls Try.prog 32 #[.slice A n c, .int .i64 dx, .int .i64 dy, .int .i64 len, .agg #[.int .i64 lo, .int .i64 hi]] wz fun e w' => e = .returned (.bool true) ∧ Below wz.heap.size wz w' := by
  obtain ⟨l1, l2, x1, x2, y1, y2, sq⟩ := hd
  simp only at l1 l2 x1 x2 y1 y2 sq
  obtain ⟨q1, q2, q3, q4⟩ := hR.bd (by omega) ⟨x1, x2⟩ ⟨y1, y2⟩
  have hge := hR.ge (by omega)
  obtain ⟨f1, f2, f3, f4⟩ := hR.ends (by omega)
  have hc := fun lo' hi' (bl b1 b2 b3 : Nat) (W : World) (hW : Below wz.heap.size wz W) h0 h1 h2 h3 => ends1_any A n c L dx dy len lo' hi' bl b1 b2 b3 W hn (by omega) (hSl.later hW) (allI_of_ok hok) (by unfold I64; omega) (by unfold I64; omega) h0 h1 h2 h3
  have d1 : decide (bndsE (L ++ [(⟨dx, dy, len, lo, lo + 1⟩ : Sgt)]) = 0) = true := decide_eq_true (bndsE_iff.2 ⟨⟨app_len hn hmax, app_ok hok ⟨l1, l2, x1, x2, y1, y2, sq, by simp only; omega, by simp only; omega, by simp only; omega⟩⟩, f1⟩)
  have d2 : decide (bndsE (L ++ [(⟨dx, dy, len, hi - 1, hi⟩ : Sgt)]) = 0) = true := decide_eq_true (bndsE_iff.2 ⟨⟨app_len hn hmax, app_ok hok ⟨l1, l2, x1, x2, y1, y2, sq, by simp only; omega, by simp only; omega, by simp only; omega⟩⟩, f2⟩)
  have d3 : decide (bndsE (L ++ [(⟨dx, dy, len, hi + 1, 400000⟩ : Sgt)]) = 0) = false := decide_eq_false fun h => f3 _ (bndsE_iff.1 h).2
  have d4 : decide (bndsE (L ++ [(⟨dx, dy, len, -400000, lo - 1⟩ : Sgt)]) = 0) = false := decide_eq_false fun h => f4 _ (bndsE_iff.1 h).2
  have k1 := hc lo (lo + 1)
  have k2 := hc (hi - 1) hi
  have k3 := hc (hi + 1) 400000
  have k4 := hc (-400000) (lo - 1)
  rw [d1] at k1
  rw [d2] at k2
  rw [d3] at k3
  rw [d4] at k4
  have K1 := hide k1
  have K2 := hide k2
  have K3 := hide k3
  have K4 := hide k4
  clear k1 k2 k3 k4
  clear hc d1 d2 d3 d4 f1 f2 f3 f4 hR hok hSl hn
  go_enter Try.func32, Try.ntmps32
  have HM := hide (Mem.start wz)
  go_upto_region 1 with fail
  refine code_world fun W hW => ?_
  have HMn := Mem.to (Mem.allocAt (Mem.allocAt (Mem.allocAt (Mem.allocAt (Mem.allocAt HM.out wz.heap.size rfl #[.slice A n c] 25) (wz.heap.size + 1) (by simp) #[.int .i64 dx] 3) (wz.heap.size + 2) (by simp) #[.int .i64 dy] 3) (wz.heap.size + 3) (by simp) #[.int .i64 len] 3) (wz.heap.size + 4) (by simp) #[.int .i64 lo, .int .i64 hi] 32) hW
  have LW : Later wz W := by rw [hW]; exact ((((((Below.refl _ _).alloc (Nat.le_refl _) _).alloc (by simp; try omega) _).alloc (by simp; try omega) _).alloc (by simp; try omega) _).alloc (by simp; try omega) _)
  have szW : W.heap.size = wz.heap.size + 5 := by rw [hW]; simp
  clear hW
  replace HM := hide HMn
  clear HMn LW
  clear szW
  generalize hg4 : wz.heap.size + 4 = g4 at HM ⊢
  generalize hg3 : wz.heap.size + 3 = g3 at HM ⊢
  generalize hg2 : wz.heap.size + 2 = g2 at HM ⊢
  generalize hg1 : wz.heap.size + 1 = g1 at HM ⊢
  generalize hg0 : wz.heap.size = g0 at HM ⊢
  have bc : Blk W g4 32 #[.int .i64 lo, .int .i64 hi] := HM.out.get 0 rfl
  have ltc := bc.lt
  have c0 := bc.c 0 rfl
  have c1 := bc.c 1 rfl
  go_wp2_with fail
  refine (K1.out g0 g1 g2 g3 _ HM.out.below (HM.out.get 4 rfl) (HM.out.get 3 rfl) (HM.out.get 2 rfl) (HM.out.get 1 rfl)).mono ?_
  rintro e w1 ⟨rfl, hb⟩
  replace HM := hide (HM.out.later hb)
  clear hb bc ltc c0 c1
  have bc : Blk w1 g4 32 #[.int .i64 lo, .int .i64 hi] := HM.out.get 0 rfl
  have ltc := bc.lt
  have c0 := bc.c 0 rfl
  have c1 := bc.c 1 rfl
  go_wp2_with fail
  refine (K2.out g0 g1 g2 g3 _ HM.out.below (HM.out.get 4 rfl) (HM.out.get 3 rfl) (HM.out.get 2 rfl) (HM.out.get 1 rfl)).mono ?_
  rintro e w2 ⟨rfl, hb⟩
  replace HM := hide (HM.out.later hb)
  clear hb bc ltc c0 c1
  have bc : Blk w2 g4 32 #[.int .i64 lo, .int .i64 hi] := HM.out.get 0 rfl
  have ltc := bc.lt
  have c0 := bc.c 0 rfl
  have c1 := bc.c 1 rfl
  go_wp2_with fail
  refine (K3.out g0 g1 g2 g3 _ HM.out.below (HM.out.get 4 rfl) (HM.out.get 3 rfl) (HM.out.get 2 rfl) (HM.out.get 1 rfl)).mono ?_
  rintro e w3 ⟨rfl, hb⟩
  replace HM := hide (HM.out.later hb)
  clear hb bc ltc c0 c1
  have bc : Blk w3 g4 32 #[.int .i64 lo, .int .i64 hi] := HM.out.get 0 rfl
  have ltc := bc.lt
  have c0 := bc.c 0 rfl
  have c1 := bc.c 1 rfl
  go_wp2_with fail
  refine (K4.out g0 g1 g2 g3 _ HM.out.below (HM.out.get 4 rfl) (HM.out.get 3 rfl) (HM.out.get 2 rfl) (HM.out.get 1 rfl)).mono ?_
  rintro e w4 ⟨rfl, hb⟩
  replace HM := hide (HM.out.later hb)
  clear hb bc ltc c0 c1
  have bc : Blk w4 g4 32 #[.int .i64 lo, .int .i64 hi] := HM.out.get 0 rfl
  have ltc := bc.lt
  have c0 := bc.c 0 rfl
  have c1 := bc.c 1 rfl
  go_wp2
  exact bodyPost_ret (v := .bool true) (by simp [results, Try.results32, go_sem]) rfl ⟨rfl, by first | exact HM.out.below | (rw [← hg0]; exact HM.out.below) | (rw [hg0]; exact HM.out.below)⟩
end Go.Proofs.Ytllpffkifleigaa
end
section
namespace Go.Proofs.Ytllpffkifleigaa
open Go Go.RowKit

structure RayQ where
  a : Int
  lo : Int
  hi : Int
def ray0 : RayQ := ⟨0, 0, 0⟩
def RaysAtW (w : World) (A : Option Addr) (Q : List RayQ) : Prop := 0 < Q.length → ∃ b off, A = some ⟨b, off, none⟩ ∧ b < w.heap.size ∧ ∀ i, i < Q.length →
  w.cell? ⟨b, off + i * 3, none⟩ = some (.int .i64 (Q.getD i ray0).a) ∧ w.cell? ⟨b, off + i * 3 + 1, none⟩ = some (.int .i64 (Q.getD i ray0).lo) ∧ w.cell? ⟨b, off + i * 3 + 2, none⟩ = some (.int .i64 (Q.getD i ray0).hi)
def ringS (r t rlo rhi : Int) (q : RayQ) : Sgt := lookS r t q.a q.lo q.hi rlo rhi
theorem map_snocQ {α : Type} {d : α} {f : α → Sgt} {L : List α} {k : Nat} (h : k < L.length) : (L.take (k + 1)).map f = (L.take k).map f ++ [f (L.getD k d)] := by
  rw [List.take_add_one, List.getElem?_eq_getElem h, List.map_append, List.getD_eq_getElem?_getD, List.getElem?_eq_getElem h]
  rfl
set_option maxHeartbeats 1000000 in
set_option maxRecDepth 100000 in
theorem ring_any (A : Option Addr) (n c : Nat) (Q : List RayQ) (s : ByteArray) (x y z r g st wd t rlo rhi : Int) (w : World) (hn : Q.length = n) (hmax : n ≤ 360) (hs : s.size ≤ 9223372036854775807) (hse : siteE (nameB s) x y z r g st wd = 0) (hg : gateE 0 t rlo rhi = 0)
    (hl : ∀ q ∈ Q, lookE 0 r t q.a q.lo q.hi rlo rhi = 0) (hA : RaysAtW w A Q) :
    Calls Try.prog 45 #[siteV s x y z r g st wd, .int .i64 t, .slice A n c, .agg #[.int .i64 rlo, .int .i64 rhi]] w fun e w' => ∃ A' c', e = .returned (.tuple #[.slice A' n c', .int .i64 0]) ∧ Below w.heap.size w w' ∧ w'.ownsRow w.heap.size 71 5 (.slice A' n c') n (sgsV (Q.map (ringS r t rlo rhi))) := by
  have hC := fun W => CheckSite_any s (nameB s) x y z r g st wd W (fun W => Name_any s W hs)
  have hG := fun W => looked_any s x y z r g st wd t rlo rhi W hs
  have hK := fun k (hk : k < n) W => Look_any s x y z r g st wd t (Q.getD k ray0).a (Q.getD k ray0).lo (Q.getD k ray0).hi rlo rhi W hs
  have hle := fun k (hk : k < n) => hl _ (getD_memE (d := ray0) (show k < Q.length by omega))
  rw [hse] at hC
  rw [hse] at hG
  rw [hg] at hG
  have hK2 : ∀ k, k < n → ∀ W, Calls Try.prog 41 #[siteV s x y z r g st wd, .int .i64 t, .int .i64 (Q.getD k ray0).a, .agg #[.int .i64 (Q.getD k ray0).lo, .int .i64 (Q.getD k ray0).hi], .agg #[.int .i64 rlo, .int .i64 rhi]] W fun e w' => e = .returned (.tuple #[sgC (ringS r t rlo rhi (Q.getD k ray0)), .int .i64 0]) ∧ Below W.heap.size W w' := fun k hk W => by
    have h := hK k hk W
    have e := hle k hk
    rw [hse] at h
    have e2 : lookA 0 r t (Q.getD k ray0).a (Q.getD k ray0).lo (Q.getD k ray0).hi rlo rhi = ringS r t rlo rhi (Q.getD k ray0) := by unfold lookA; rw [if_pos e]; rfl
    rw [e, e2] at h
    exact h
  have hsn : ∀ k, k < n → sgsV ((Q.take (k + 1)).map (ringS r t rlo rhi)) = sgsV ((Q.take k).map (ringS r t rlo rhi)) ++ sgsV [ringS r t rlo rhi (Q.getD k ray0)] := fun k hk => by rw [map_snocQ (d := ray0) (by omega), sgsV_app]
  have hend : sgsV ((Q.take n).map (ringS r t rlo rhi)) = sgsV (Q.map (ringS r t rlo rhi)) := by rw [← hn, List.take_length]
  have h0 : sgsV ((Q.take 0).map (ringS r t rlo rhi)) = [] := rfl
  obtain ⟨K, hK0⟩ : ∃ K : Nat → List Value, K = fun k => sgsV ((Q.take k).map (ringS r t rlo rhi)) := ⟨_, rfl⟩
  have hKe : ∀ k, sgsV ((Q.take k).map (ringS r t rlo rhi)) = K k := fun k => by rw [hK0]
  simp only [hKe] at hsn hend h0
  rw [← hend]
  unfold sgC siteV at hK2
  unfold siteV at hG
  unfold siteV
  have hsc := hA
  unfold RaysAtW at hsc
  rw [hn] at hsc
  have hm2 : (n : Int) ≤ 360 := by omega
  have hm3 : ¬ (360 : Int) < n := by omega
  obtain ⟨i0, hii, hz0, hz1, hz2⟩ := info_parts sightInfo
  have Hi := hide hii
  have Hz0 := hide hz0
  have Hz1 := hide hz1
  have Hz2 := hide hz2
  have HC := hide hC
  have HG := hide hG
  have HK := hide hK2
  have HSN := hide hsn
  have H00 := hide h0
  have HSC := hide hsc
  clear hii hz0 hz1 hz2 hC hG hK2 hsn h0 hsc
  clear hK hle hl hend hKe hK0 hse hg hA hn
  go_enter Try.func45, Try.ntmps45
  have HM := hide (Mem.start w)
  go_upto_region 1 with fail
  refine code_world fun w1 hW => ?_
  have HMn := Mem.to (Mem.allocAt (Mem.allocAt HM.out w.heap.size rfl #[.string s, .int .i64 x, .int .i64 y, .int .i64 z, .int .i64 r, .int .i64 g, .int .i64 st, .int .i64 wd] 83) (w.heap.size + 1) (by simp) #[.int .i64 rlo, .int .i64 rhi] 32) hW
  have LW : Later w w1 := by rw [hW]; exact (((Below.refl _ _).alloc (Nat.le_refl _) _).alloc (by simp; try omega) _)
  have szW : w1.heap.size = w.heap.size + 2 := by rw [hW]; simp
  clear hW
  replace HM := hide HMn
  clear HMn LW
  clear szW
  generalize hg1 : w.heap.size + 1 = gr at HM ⊢
  generalize hg0 : w.heap.size = gs at HM ⊢
  have bd : Blk w1 gs 83 #[.string s, .int .i64 x, .int .i64 y, .int .i64 z, .int .i64 r, .int .i64 g, .int .i64 st, .int .i64 wd] := HM.out.get 1 rfl
  have ltd := bd.lt
  have d0 := bd.c 0 rfl
  have d1 := bd.c 1 rfl
  have d2 := bd.c 2 rfl
  have d3 := bd.c 3 rfl
  have d4 := bd.c 4 rfl
  have d5 := bd.c 5 rfl
  have d6 := bd.c 6 rfl
  have d7 := bd.c 7 rfl
  go_wp2_with fail
  refine (HC.out _).mono ?_
  rintro e w2 ⟨rfl, hb⟩
  replace HM := hide (HM.out.later hb)
  clear hb bd ltd d0 d1 d2 d3 d4 d5 d6 d7
  have bd : Blk w2 gs 83 #[.string s, .int .i64 x, .int .i64 y, .int .i64 z, .int .i64 r, .int .i64 g, .int .i64 st, .int .i64 wd] := HM.out.get 1 rfl
  have ltd := bd.lt
  have d0 := bd.c 0 rfl
  have d1 := bd.c 1 rfl
  have d2 := bd.c 2 rfl
  have d3 := bd.c 3 rfl
  have d4 := bd.c 4 rfl
  have d5 := bd.c 5 rfl
  have d6 := bd.c 6 rfl
  have d7 := bd.c 7 rfl
  have be : Blk w2 gr 32 #[.int .i64 rlo, .int .i64 rhi] := HM.out.get 0 rfl
  have lte := be.lt
  have e0 := be.c 0 rfl
  have e1 := be.c 1 rfl
  go_wp2_with fail
  refine (HG.out _).mono ?_
  rintro e w3 ⟨rfl, hb⟩
  replace HM := hide (HM.out.later hb)
  clear hb bd ltd d0 d1 d2 d3 d4 d5 d6 d7 be lte e0 e1
  go_wp2_with fail
  have HM2 := hide (HM.out.nilRow gs 71 5)
  clear HM
  have HM := HM2
  clear HM2
  go_loopw [12, 34] (fun o i wr => ∃ (k : Nat) (A' : Option Addr) (c' : Nat), k ≤ n ∧ i = .int .i64 k ∧ o = .slice A' k c' ∧ Mem w [.row gs 71 5 (.slice A' k c') k (K k), .blk gr 32 #[.int .i64 rlo, .int .i64 rhi], .blk gs 83 #[.string s, .int .i64 x, .int .i64 y, .int .i64 z, .int .i64 r, .int .i64 g, .int .i64 st, .int .i64 wd]] wr) (fun _ i _ => n - (intOf i).toNat)
  case atStart => exact ⟨0, none, 0, by omega, rfl, rfl, by rw [H00.out]; exact HM.out⟩
  case round =>
    obtain ⟨k, A', c', hk, rfl, rfl, hM⟩ := hrel
    clear HM
    have HM := hide hM
    clear hM
    by_cases hlt : k < n
    · have hlt2 : (k : Int) < n := by omega
      obtain ⟨b, off, rfl, hb0, hc⟩ := HSC.out (by omega)
      have hc1 := hc _ hlt
      have c1 := HK.out k hlt
      have hs1 := HSN.out k hlt
      obtain ⟨X, hX⟩ : ∃ X, Q.getD k ray0 = X := ⟨_, rfl⟩
      rw [hX] at hc1 c1 hs1
      rw [← HM.out.below.cell hb0, ← HM.out.below.cell hb0, ← HM.out.below.cell hb0] at hc1
      have ltb : b < wr.heap.size := Nat.lt_of_lt_of_le hb0 HM.out.size
      obtain ⟨q0, q1, q2⟩ := hc1
      obtain ⟨Y, hY⟩ : ∃ Y, ringS r t rlo rhi X = Y := ⟨_, rfl⟩
      rw [hY] at c1 hs1
      obtain ⟨ra, slo, shi⟩ := X
      obtain ⟨sx, sy, sl, tlo, thi⟩ := Y
      simp only at q0 q1 q2 c1
      have hs2 : K (k + 1) = K k ++ [.int .i64 sx, .int .i64 sy, .int .i64 sl, .int .i64 tlo, .int .i64 thi] := hs1
      generalize K k = xs at *
      have C1 := hide c1
      have HS2 := hide hs2
      clear c1 hs2
      clear hc hX hY hs1
      go_upto_region 13 with fail
      refine code_world fun w4 hW => ?_
      have HMn := Mem.to (Mem.allocAt HM.out wr.heap.size rfl #[.int .i64 ra, .int .i64 slo, .int .i64 shi] 95) hW
      have LW : Later wr w4 := by rw [hW]; exact ((Below.refl _ _).alloc (Nat.le_refl _) _)
      have szW : w4.heap.size = wr.heap.size + 1 := by rw [hW]; simp
      clear hW
      replace HM := hide HMn
      clear HMn LW
      clear szW q0 q1 q2 ltb
      generalize hgx : wr.heap.size = gx at HM ⊢
      have bo : Blk w4 gx 95 #[.int .i64 ra, .int .i64 slo, .int .i64 shi] := HM.out.get 0 rfl
      have lto := bo.lt
      have o0 := bo.c 0 rfl
      have o1 := bo.c 1 rfl
      have o2 := bo.c 2 rfl
      have be : Blk w4 gr 32 #[.int .i64 rlo, .int .i64 rhi] := HM.out.get 2 rfl
      have lte := be.lt
      have e0 := be.c 0 rfl
      have e1 := be.c 1 rfl
      have bd : Blk w4 gs 83 #[.string s, .int .i64 x, .int .i64 y, .int .i64 z, .int .i64 r, .int .i64 g, .int .i64 st, .int .i64 wd] := HM.out.get 3 rfl
      have ltd := bd.lt
      have d0 := bd.c 0 rfl
      have d1 := bd.c 1 rfl
      have d2 := bd.c 2 rfl
      have d3 := bd.c 3 rfl
      have d4 := bd.c 4 rfl
      have d5 := bd.c 5 rfl
      have d6 := bd.c 6 rfl
      have d7 := bd.c 7 rfl
      go_wp2_with fail
      refine (C1.out _).mono ?_
      rintro e w5 ⟨rfl, hb⟩
      replace HM := hide (HM.out.later hb)
      clear hb bo lto o0 o1 o2 be lte e0 e1 bd ltd d0 d1 d2 d3 d4 d5 d6 d7
      go_upto_region 14 with fail
      refine code_world fun w6 hW => ?_
      have HMn := Mem.to (Mem.allocAt HM.out w5.heap.size rfl #[.int .i64 sx, .int .i64 sy, .int .i64 sl, .int .i64 tlo, .int .i64 thi] 71) hW
      have LW : Later w5 w6 := by rw [hW]; exact ((Below.refl _ _).alloc (Nat.le_refl _) _)
      have szW : w6.heap.size = w5.heap.size + 1 := by rw [hW]; simp
      clear hW
      replace HM := hide HMn
      clear HMn LW
      clear szW
      generalize hgz : w5.heap.size = gz at HM ⊢
      go_upto_region 16 with fail
      have bo : Blk w6 gz 71 #[.int .i64 sx, .int .i64 sy, .int .i64 sl, .int .i64 tlo, .int .i64 thi] := HM.out.get 0 rfl
      have lto := bo.lt
      have o0 := bo.c 0 rfl
      have o1 := bo.c 1 rfl
      have o2 := bo.c 2 rfl
      have o3 := bo.c 3 rfl
      have o4 := bo.c 4 rfl
      have hbaseM : gs ≤ w6.heap.size := by rw [← hg0]; exact HM.out.size
      have hownM := Mem.row_ HM.out 2 rfl
      
      go_wp2_with (at_builtin; refine wpList_append_own_at _ rfl (.tmp 52) (.tmp 54) _ rfl _ 71 i0 _ 5 40 Try.underlying25 Hi.out Hz0.out Hz1.out Hz2.out rfl (by decide) _ k xs rfl (hownM.alloc _) ⟨w6.heap.size, 0, none⟩ 1 1 [.int .i64 sx, .int .i64 sy, .int .i64 sl, .int .i64 tlo, .int .i64 thi] rfl rfl ?q1c1 (by intro u hu; simp only [List.mem_cons, List.not_mem_nil, or_false] at hu; rcases hu with rfl | rfl | rfl | rfl | rfl <;> rfl) ?q1c3 ?q1c4 ?q1c5 ?_)
      try case q1c1 => exact new_cellsQ w6 _ [.int .i64 sx, .int .i64 sy, .int .i64 sl, .int .i64 tlo, .int .i64 thi]
      case q1c3 => unfold maxLen; omega
      case q1c4 => omega
      case q1c5 => first | omega | (simp; omega)
      intro vA w9 hown2 hgr2 _ hat2
      have HMn := HM.out.grow 2 rfl _ hgr2 hown2 hat2
      replace HM := hide HMn
      clear HMn hown2 hgr2 hat2 hownM hbaseM
      clear bo lto o0 o1 o2 o3 o4
      obtain ⟨A9, c9, rfl⟩ := own_shape2 (Mem.row_ HM.out 2 rfl)
      go_wp2_with fail
      go_roundw
      case rel => exact ⟨k + 1, A9, c9, by omega, by go_num, rfl, by rw [HS2.out]; exact HM.out.tail.tail⟩
      case measure => simp [intOf] <;> omega
    · obtain rfl : k = n := by omega
      have hkk : ¬ ((k : Int) < k) := by omega
      go_wp2
      exact bodyPost_ret (v := .tuple #[.slice A' k c', .int .i64 0]) (by simp [results, Try.results45, go_sem]) rfl ⟨A', c', rfl, by rw [← hg0]; exact HM.out.below, HM.out.row_ 0 rfl⟩
end Go.Proofs.Ytllpffkifleigaa
end
section
namespace Go.Proofs.Ytllpffkifleigaa
open Go Go.RowKit

structure SeenQ where
  s : ByteArray
  x : Int
  y : Int
  z : Int
  r : Int
  g : Int
  st : Int
  wd : Int
  t : Int
  slo : Int
  shi : Int
  rlo : Int
  rhi : Int
def seen0 : SeenQ := ⟨⟨#[]⟩, 0, 0, 0, 0, 0, 0, 0, 0, 0, 0, 0, 0⟩
def SeensAt (w : World) (A : Option Addr) (Q : List SeenQ) : Prop := 0 < Q.length → ∃ b off, A = some ⟨b, off, none⟩ ∧ b < w.heap.size ∧ ∀ i, i < Q.length →
  w.cell? ⟨b, off + i * 13, none⟩ = some (.string (Q.getD i seen0).s) ∧ w.cell? ⟨b, off + i * 13 + 1, none⟩ = some (.int .i64 (Q.getD i seen0).x) ∧ w.cell? ⟨b, off + i * 13 + 2, none⟩ = some (.int .i64 (Q.getD i seen0).y) ∧ w.cell? ⟨b, off + i * 13 + 3, none⟩ = some (.int .i64 (Q.getD i seen0).z) ∧ w.cell? ⟨b, off + i * 13 + 4, none⟩ = some (.int .i64 (Q.getD i seen0).r) ∧ w.cell? ⟨b, off + i * 13 + 5, none⟩ = some (.int .i64 (Q.getD i seen0).g) ∧ w.cell? ⟨b, off + i * 13 + 6, none⟩ = some (.int .i64 (Q.getD i seen0).st) ∧ w.cell? ⟨b, off + i * 13 + 7, none⟩ = some (.int .i64 (Q.getD i seen0).wd) ∧ w.cell? ⟨b, off + i * 13 + 8, none⟩ = some (.int .i64 (Q.getD i seen0).t) ∧ w.cell? ⟨b, off + i * 13 + 9, none⟩ = some (.int .i64 (Q.getD i seen0).slo) ∧ w.cell? ⟨b, off + i * 13 + 10, none⟩ = some (.int .i64 (Q.getD i seen0).shi) ∧ w.cell? ⟨b, off + i * 13 + 11, none⟩ = some (.int .i64 (Q.getD i seen0).rlo) ∧ w.cell? ⟨b, off + i * 13 + 12, none⟩ = some (.int .i64 (Q.getD i seen0).rhi)
def rayQ (X Y : Int) (q : SeenQ) : Int := (findZ q.r q.st q.t q.g (X - q.x) (Y - q.y)).1.1
def placeS (X Y : Int) (q : SeenQ) : Sgt := lookS q.r q.t (rayQ X Y q) q.slo q.shi q.rlo q.rhi
structure SeenOk (X Y : Int) (q : SeenQ) : Prop where
  sz : q.s.size ≤ 9223372036854775807
  se : siteE (nameB q.s) q.x q.y q.z q.r q.g q.st q.wd = 0
  fd : ∃ g, findR 0 q.t q.r q.st q.g q.x q.y X Y = ((rayQ X Y q, g), 0)
  lk : lookE 0 q.r q.t (rayQ X Y q) q.slo q.shi q.rlo q.rhi = 0
set_option maxHeartbeats 1000000 in
set_option maxRecDepth 100000 in
theorem place_any (A : Option Addr) (n c : Nat) (Q : List SeenQ) (X Y : Int) (w : World) (hn : Q.length = n) (hmax : n ≤ 360) (hok : ∀ q ∈ Q, SeenOk X Y q) (hA : SeensAt w A Q) :
    Calls Try.prog 48 #[.slice A n c, .int .i64 X, .int .i64 Y] w fun e w' => ∃ A' c', e = .returned (.tuple #[.slice A' n c', .int .i64 0]) ∧ Below w.heap.size w w' ∧ w'.ownsRow w.heap.size 71 5 (.slice A' n c') n (sgsV (Q.map (placeS X Y))) := by
  have hof := fun k (hk : k < n) => hok _ (getD_memE (d := seen0) (show k < Q.length by omega))
  have hF : ∀ k, k < n → ∃ g : Int, ∀ W, Calls Try.prog 54 #[siteV (Q.getD k seen0).s (Q.getD k seen0).x (Q.getD k seen0).y (Q.getD k seen0).z (Q.getD k seen0).r (Q.getD k seen0).g (Q.getD k seen0).st (Q.getD k seen0).wd, .int .i64 (Q.getD k seen0).t, .int .i64 X, .int .i64 Y] W fun e w' => e = .returned (.tuple #[.int .i64 (rayQ X Y (Q.getD k seen0)), .int .i64 g, .int .i64 0]) ∧ Below W.heap.size W w' := fun k hk => by
    obtain ⟨sz, se, ⟨g, fd⟩, -⟩ := hof k hk
    refine ⟨g, fun W => ?_⟩
    have h := Find_any (Q.getD k seen0).s (Q.getD k seen0).x (Q.getD k seen0).y (Q.getD k seen0).z (Q.getD k seen0).r (Q.getD k seen0).g (Q.getD k seen0).st (Q.getD k seen0).wd (Q.getD k seen0).t X Y W sz
    rw [se, fd] at h
    exact h
  have hK : ∀ k, k < n → ∀ W, Calls Try.prog 41 #[siteV (Q.getD k seen0).s (Q.getD k seen0).x (Q.getD k seen0).y (Q.getD k seen0).z (Q.getD k seen0).r (Q.getD k seen0).g (Q.getD k seen0).st (Q.getD k seen0).wd, .int .i64 (Q.getD k seen0).t, .int .i64 (rayQ X Y (Q.getD k seen0)), .agg #[.int .i64 (Q.getD k seen0).slo, .int .i64 (Q.getD k seen0).shi], .agg #[.int .i64 (Q.getD k seen0).rlo, .int .i64 (Q.getD k seen0).rhi]] W fun e w' => e = .returned (.tuple #[sgC (placeS X Y (Q.getD k seen0)), .int .i64 0]) ∧ Below W.heap.size W w' := fun k hk W => by
    obtain ⟨sz, se, -, lk⟩ := hof k hk
    have h := Look_any (Q.getD k seen0).s (Q.getD k seen0).x (Q.getD k seen0).y (Q.getD k seen0).z (Q.getD k seen0).r (Q.getD k seen0).g (Q.getD k seen0).st (Q.getD k seen0).wd (Q.getD k seen0).t (rayQ X Y (Q.getD k seen0)) (Q.getD k seen0).slo (Q.getD k seen0).shi (Q.getD k seen0).rlo (Q.getD k seen0).rhi W sz
    rw [se] at h
    have e2 : lookA 0 (Q.getD k seen0).r (Q.getD k seen0).t (rayQ X Y (Q.getD k seen0)) (Q.getD k seen0).slo (Q.getD k seen0).shi (Q.getD k seen0).rlo (Q.getD k seen0).rhi = placeS X Y (Q.getD k seen0) := by unfold lookA; rw [if_pos lk]; rfl
    rw [lk, e2] at h
    exact h
  have hsn : ∀ k, k < n → sgsV ((Q.take (k + 1)).map (placeS X Y)) = sgsV ((Q.take k).map (placeS X Y)) ++ sgsV [placeS X Y (Q.getD k seen0)] := fun k hk => by rw [map_snocQ (d := seen0) (by omega), sgsV_app]
  have hend : sgsV ((Q.take n).map (placeS X Y)) = sgsV (Q.map (placeS X Y)) := by rw [← hn, List.take_length]
  have h0 : sgsV ((Q.take 0).map (placeS X Y)) = [] := rfl
  obtain ⟨K, hK0⟩ : ∃ K : Nat → List Value, K = fun k => sgsV ((Q.take k).map (placeS X Y)) := ⟨_, rfl⟩
  have hKe : ∀ k, sgsV ((Q.take k).map (placeS X Y)) = K k := fun k => by rw [hK0]
  simp only [hKe] at hsn hend h0
  rw [← hend]
  unfold sgC siteV at hK
  unfold siteV at hF
  have hsc := hA
  unfold SeensAt at hsc
  rw [hn] at hsc
  have hm2 : (n : Int) ≤ 360 := by omega
  have hm3 : ¬ (360 : Int) < n := by omega
  obtain ⟨i0, hii, hz0, hz1, hz2⟩ := info_parts sightInfo
  have Hi := hide hii
  have Hz0 := hide hz0
  have Hz1 := hide hz1
  have Hz2 := hide hz2
  have HF := hide hF
  have HK := hide hK
  have HSN := hide hsn
  have H00 := hide h0
  have HSC := hide hsc
  clear hii hz0 hz1 hz2 hF hK hsn h0 hsc
  clear hof hok hend hKe hK0 hA hn
  go_enter Try.func48, Try.ntmps48
  have HM := hide ((Mem.start w).nilRow w.heap.size 71 5)
  go_wp2_with fail
  go_loopw [8, 20] (fun o i wr => ∃ (k : Nat) (A' : Option Addr) (c' : Nat), k ≤ n ∧ i = .int .i64 k ∧ o = .slice A' k c' ∧ Mem w [.row w.heap.size 71 5 (.slice A' k c') k (K k)] wr) (fun _ i _ => n - (intOf i).toNat)
  case atStart => exact ⟨0, none, 0, by omega, rfl, rfl, by rw [H00.out]; exact HM.out⟩
  case round =>
    obtain ⟨k, A', c', hk, rfl, rfl, hM⟩ := hrel
    clear HM
    have HM := hide hM
    clear hM
    by_cases hlt : k < n
    · have hlt2 : (k : Int) < n := by omega
      obtain ⟨b, off, rfl, hb0, hc⟩ := HSC.out (by omega)
      have hc1 := hc _ hlt
      obtain ⟨gt, f1⟩ := HF.out k hlt
      have c1 := HK.out k hlt
      have hs1 := HSN.out k hlt
      obtain ⟨V, hV⟩ : ∃ V, Q.getD k seen0 = V := ⟨_, rfl⟩
      rw [hV] at hc1 c1 hs1 f1
      rw [← HM.out.below.cell hb0, ← HM.out.below.cell hb0, ← HM.out.below.cell hb0, ← HM.out.below.cell hb0, ← HM.out.below.cell hb0, ← HM.out.below.cell hb0, ← HM.out.below.cell hb0, ← HM.out.below.cell hb0, ← HM.out.below.cell hb0, ← HM.out.below.cell hb0, ← HM.out.below.cell hb0, ← HM.out.below.cell hb0, ← HM.out.below.cell hb0] at hc1
      have ltb : b < wr.heap.size := Nat.lt_of_lt_of_le hb0 HM.out.size
      obtain ⟨q0, q1, q2, q3, q4, q5, q6, q7, q8, q9, q10, q11, q12⟩ := hc1
      obtain ⟨Z, hZ⟩ : ∃ Z, placeS X Y V = Z := ⟨_, rfl⟩
      obtain ⟨rq, hrq⟩ : ∃ Z, rayQ X Y V = Z := ⟨_, rfl⟩
      rw [hZ] at c1 hs1
      rw [hrq] at c1 f1
      obtain ⟨s, x, y, z, r, g, st, wd, t, slo, shi, rlo, rhi⟩ := V
      obtain ⟨sx, sy, sl, tlo, thi⟩ := Z
      simp only at q0 q1 q2 q3 q4 q5 q6 q7 q8 q9 q10 q11 q12 c1 f1
      have hs2 : K (k + 1) = K k ++ [.int .i64 sx, .int .i64 sy, .int .i64 sl, .int .i64 tlo, .int .i64 thi] := hs1
      generalize K k = xs at *
      have C1 := hide c1
      have F1 := hide f1
      have HS2 := hide hs2
      clear c1 f1 hs2
      clear hc hV hZ hrq hs1
      go_upto_region 7 with fail
      refine code_world fun w4 hW => ?_
      have HMn := Mem.to (Mem.allocAt HM.out wr.heap.size rfl #[.string s, .int .i64 x, .int .i64 y, .int .i64 z, .int .i64 r, .int .i64 g, .int .i64 st, .int .i64 wd, .int .i64 t, .int .i64 slo, .int .i64 shi, .int .i64 rlo, .int .i64 rhi] 104) hW
      have LW : Later wr w4 := by rw [hW]; exact ((Below.refl _ _).alloc (Nat.le_refl _) _)
      have szW : w4.heap.size = wr.heap.size + 1 := by rw [hW]; simp
      clear hW
      replace HM := hide HMn
      clear HMn LW
      clear szW q0 q1 q2 q3 q4 q5 q6 q7 q8 q9 q10 q11 q12 ltb
      generalize hgx : wr.heap.size = gx at HM ⊢
      have bo : Blk w4 gx 104 #[.string s, .int .i64 x, .int .i64 y, .int .i64 z, .int .i64 r, .int .i64 g, .int .i64 st, .int .i64 wd, .int .i64 t, .int .i64 slo, .int .i64 shi, .int .i64 rlo, .int .i64 rhi] := HM.out.get 0 rfl
      have lto := bo.lt
      have o0 := bo.c 0 rfl
      have o1 := bo.c 1 rfl
      have o2 := bo.c 2 rfl
      have o3 := bo.c 3 rfl
      have o4 := bo.c 4 rfl
      have o5 := bo.c 5 rfl
      have o6 := bo.c 6 rfl
      have o7 := bo.c 7 rfl
      have o8 := bo.c 8 rfl
      have o9 := bo.c 9 rfl
      have o10 := bo.c 10 rfl
      have o11 := bo.c 11 rfl
      have o12 := bo.c 12 rfl
      go_wp2_with fail
      refine (F1.out _).mono ?_
      rintro e w5 ⟨rfl, hb⟩
      replace HM := hide (HM.out.later hb)
      clear hb bo lto o0 o1 o2 o3 o4 o5 o6 o7 o8 o9 o10 o11 o12
      have bo : Blk w5 gx 104 #[.string s, .int .i64 x, .int .i64 y, .int .i64 z, .int .i64 r, .int .i64 g, .int .i64 st, .int .i64 wd, .int .i64 t, .int .i64 slo, .int .i64 shi, .int .i64 rlo, .int .i64 rhi] := HM.out.get 0 rfl
      have lto := bo.lt
      have o0 := bo.c 0 rfl
      have o1 := bo.c 1 rfl
      have o2 := bo.c 2 rfl
      have o3 := bo.c 3 rfl
      have o4 := bo.c 4 rfl
      have o5 := bo.c 5 rfl
      have o6 := bo.c 6 rfl
      have o7 := bo.c 7 rfl
      have o8 := bo.c 8 rfl
      have o9 := bo.c 9 rfl
      have o10 := bo.c 10 rfl
      have o11 := bo.c 11 rfl
      have o12 := bo.c 12 rfl
      go_wp2_with fail
      refine (C1.out _).mono ?_
      rintro e w6 ⟨rfl, hb⟩
      replace HM := hide (HM.out.later hb)
      clear hb bo lto o0 o1 o2 o3 o4 o5 o6 o7 o8 o9 o10 o11 o12
      go_upto_region 11 with fail
      refine code_world fun w7 hW => ?_
      have HMn := Mem.to (Mem.allocAt HM.out w6.heap.size rfl #[.int .i64 sx, .int .i64 sy, .int .i64 sl, .int .i64 tlo, .int .i64 thi] 71) hW
      have LW : Later w6 w7 := by rw [hW]; exact ((Below.refl _ _).alloc (Nat.le_refl _) _)
      have szW : w7.heap.size = w6.heap.size + 1 := by rw [hW]; simp
      clear hW
      replace HM := hide HMn
      clear HMn LW
      clear szW
      generalize hgz : w6.heap.size = gz at HM ⊢
      go_upto_region 13 with fail
      have bo : Blk w7 gz 71 #[.int .i64 sx, .int .i64 sy, .int .i64 sl, .int .i64 tlo, .int .i64 thi] := HM.out.get 0 rfl
      have lto := bo.lt
      have o0 := bo.c 0 rfl
      have o1 := bo.c 1 rfl
      have o2 := bo.c 2 rfl
      have o3 := bo.c 3 rfl
      have o4 := bo.c 4 rfl
      have hownM := Mem.row_ HM.out 2 rfl
      have hbaseM : w.heap.size ≤ w7.heap.size := HM.out.size
      go_wp2_with (at_builtin; refine wpList_append_own_at _ rfl (.tmp 54) (.tmp 56) _ rfl w.heap.size 71 i0 _ 5 40 Try.underlying25 Hi.out Hz0.out Hz1.out Hz2.out rfl (by decide) _ k xs rfl (hownM.alloc _) ⟨w7.heap.size, 0, none⟩ 1 1 [.int .i64 sx, .int .i64 sy, .int .i64 sl, .int .i64 tlo, .int .i64 thi] rfl rfl ?q1c1 (by intro u hu; simp only [List.mem_cons, List.not_mem_nil, or_false] at hu; rcases hu with rfl | rfl | rfl | rfl | rfl <;> rfl) ?q1c3 ?q1c4 ?q1c5 ?_)
      try case q1c1 => exact new_cellsQ w7 _ [.int .i64 sx, .int .i64 sy, .int .i64 sl, .int .i64 tlo, .int .i64 thi]
      case q1c3 => unfold maxLen; omega
      case q1c4 => omega
      case q1c5 => first | omega | (simp; omega)
      intro vA w9 hown2 hgr2 _ hat2
      have HMn := HM.out.grow 2 rfl _ hgr2 hown2 hat2
      replace HM := hide HMn
      clear HMn hown2 hgr2 hat2 hownM hbaseM
      clear bo lto o0 o1 o2 o3 o4
      obtain ⟨A9, c9, rfl⟩ := own_shape2 (Mem.row_ HM.out 2 rfl)
      go_wp2_with fail
      go_roundw
      case rel => exact ⟨k + 1, A9, c9, by omega, by go_num, rfl, by rw [HS2.out]; exact HM.out.tail.tail⟩
      case measure => simp [intOf] <;> omega
    · obtain rfl : k = n := by omega
      have hkk : ¬ ((k : Int) < k) := by omega
      go_wp2
      exact bodyPost_ret (v := .tuple #[.slice A' k c', .int .i64 0]) (by simp [results, Try.results48, go_sem]) rfl ⟨A', c', rfl, HM.out.below, HM.out.row_ 0 rfl⟩
end Go.Proofs.Ytllpffkifleigaa
end
section
namespace Go.Proofs.Ytllpffkifleigaa
open Go Go.RowKit

theorem far_no {t w : Int} (t0 : 0 ≤ t) (t1 : t ≤ 59) (w0 : 0 ≤ w) (w1 : w ≤ 3000000000) : ¬ gateZ 1000 t 200 w < 0 := by
  rcases gate_cases (st := 1000) (t := t) (g := 200) (w := w) with h | ⟨h, -⟩
  · exfalso
    obtain ⟨s0, s1⟩ := mul_bdB t0 t1 t0 t1
    have hb : 190000 ≤ bord 1000 t ((200 : Nat) : Int) := by
      unfold bord
      exact (Int.le_ediv_iff_mul_le (by omega)).2 (by omega)
    have hsq : 190000 * 190000 ≤ bord 1000 t ((200 : Nat) : Int) * bord 1000 t ((200 : Nat) : Int) := Int.mul_le_mul hb hb (by omega) (by omega)
    have hz : bord 1000 t ((0 : Nat) : Int) = 0 := by unfold bord; simp
    obtain ⟨k, hk, h1, h2⟩ := step_down (fun k : Nat => decide (bord 1000 t k * bord 1000 t k ≤ w)) 200 (by simp only [hz]; rw [decide_eq_true_iff]; omega) (by rw [decide_eq_false_iff_not]; omega)
    have := gate_none h (j := k) (by omega) (by omega)
    unfold gateB at this
    rw [decide_eq_true_iff] at h1
    rw [decide_eq_false_iff_not] at h2
    rw [Bool.and_eq_false_iff, decide_eq_false_iff_not, decide_eq_false_iff_not] at this
    push_cast at h2
    omega
  · omega
theorem find_here {r t X Y : Int} (r0 : 1 ≤ r) (t0 : 0 ≤ t) (t1 : t ≤ 59) (x0 : -32768 ≤ X) (x1 : X ≤ 32768) (y0 : -32768 ≤ Y) (y1 : Y ≤ 32768) :
    0 ≤ (findZ r 1000 t 200 (1000 - X) (2000 - Y)).1.1 ∧ (findZ r 1000 t 200 (1000 - X) (2000 - Y)).1.1 ≤ 4 * r - 1 ∧ ∃ g, findR 0 t r 1000 200 X Y 1000 2000 = (((findZ r 1000 t 200 (1000 - X) (2000 - Y)).1.1, g), 0) := by
  have hw : (winBQ t 0 256 && winBQ 1000 (-4194304) 4194304 && winBQ 2000 (-4194304) 4194304) = true := by
    rw [Bool.and_eq_true, Bool.and_eq_true]
    exact ⟨⟨winB_iff.2 ⟨by omega, by omega⟩, winB_iff.2 ⟨by omega, by omega⟩⟩, winB_iff.2 ⟨by omega, by omega⟩⟩
  have hR : ∀ p, findZ r 1000 t 200 (1000 - X) (2000 - Y) = (p, true) → findR 0 t r 1000 200 X Y 1000 2000 = (p, 0) := fun p h => by
    unfold findR
    rw [if_neg (by simp), if_pos hw, h]
    rfl
  by_cases h : 1000 - X = 0 ∧ 2000 - Y = 0
  · have e : findZ r 1000 t 200 (1000 - X) (2000 - Y) = ((0, 0), true) := by unfold findZ; rw [if_pos h]
    have := hR _ e
    rw [e]
    exact ⟨by simp only; omega, by simp only; omega, 0, this⟩
  · have a := abs_mul (x := 1000 - X) (y := 1000 - X) (X := 33768) (Y := 33768) (by omega) (by omega) (by omega) (by omega)
    have b := abs_mul (x := 2000 - Y) (y := 2000 - Y) (X := 34768) (Y := 34768) (by omega) (by omega) (by omega) (by omega)
    have c := sq_nn (1000 - X)
    have d := sq_nn (2000 - Y)
    have e : findZ r 1000 t 200 (1000 - X) (2000 - Y) = ((rayZ r (1000 - X) (2000 - Y), gateZ 1000 t 200 ((1000 - X) * (1000 - X) + (2000 - Y) * (2000 - Y))), true) := by
      unfold findZ
      rw [if_neg h, if_neg (far_no t0 t1 (by omega) (by omega))]
    have := hR _ e
    obtain ⟨s1, s2, -⟩ := ray_spec (n := r) r0 h
    rw [e]
    exact ⟨s1, by simp only; omega, _, this⟩
def nameS : ByteArray := ⟨#[115]⟩
theorem site_here {r X Y : Int} (r0 : 1 ≤ r) (r1 : r ≤ 30) (x0 : -32768 ≤ X) (x1 : X ≤ 32768) (y0 : -32768 ≤ Y) (y1 : Y ≤ 32768) : siteE (nameB nameS) X Y 0 r 200 1000 0 = 0 := by
  have hn : nameB nameS = true := by decide +kernel
  unfold siteE
  rw [hn, if_neg (by simp), if_pos]
  simp only [Bool.and_eq_true]
  exact ⟨⟨⟨⟨⟨⟨winB_iff.2 ⟨by omega, by omega⟩, winB_iff.2 ⟨by omega, by omega⟩⟩, winB_iff.2 ⟨by omega, by omega⟩⟩, winB_iff.2 ⟨by omega, by omega⟩⟩, winB_iff.2 ⟨by omega, by omega⟩⟩, winB_iff.2 ⟨by omega, by omega⟩⟩, winB_iff.2 ⟨by omega, by omega⟩⟩
/-- What the second loop builds. -/
def seenQ (X Y r t u v wz l m rl rm : Int) : SeenQ := ⟨nameS, X, Y, 0, r, 200, 1000, 0, t, spLo r t (findZ r 1000 t 200 (1000 - X) (2000 - Y)).1.1 u v wz m, spHi r t (findZ r 1000 t 200 (1000 - X) (2000 - Y)).1.1 u v wz l, wz - rl, wz + rm⟩
theorem seen_here {X Y r t u v wz l m rl rm : Int} (r1 : r ≤ 30) (t1 : t ≤ 59) (x0 : -32768 ≤ X) (x1 : X ≤ 32768) (y0 : -32768 ≤ Y) (y1 : Y ≤ 32768) (h : ∀ a, 0 ≤ a → a ≤ 4 * r - 1 → TruA r t a u v wz l m rl rm) (r0 : 1 ≤ r) (t0 : 0 ≤ t) :
    SeenOk 1000 2000 (seenQ X Y r t u v wz l m rl rm) ∧ SgtOk (placeS 1000 2000 (seenQ X Y r t u v wz l m rl rm)) ∧ Agr1 (placeS 1000 2000 (seenQ X Y r t u v wz l m rl rm)) u v := by
  obtain ⟨a0, a1, f⟩ := find_here (r := r) (t := t) r0 t0 t1 x0 x1 y0 y1
  obtain ⟨k1, k2, k3⟩ := tru_look (h _ a0 a1)
  exact ⟨⟨by show (1 : Nat) ≤ _; omega, site_here r0 r1 x0 x1 y0 y1, f, k1⟩, k2, k3⟩
/-- What the first loop builds. -/
def ringQ (r t u v wz l m z : Int) : RayQ := ⟨z % (4 * r), spLo r t (z % (4 * r)) u v wz m, spHi r t (z % (4 * r)) u v wz l⟩
theorem ring_here {r t u v wz l m rl rm z : Int} (h : ∀ a, 0 ≤ a → a ≤ 4 * r - 1 → TruA r t a u v wz l m rl rm) (r0 : 1 ≤ r) :
    lookE 0 r t (ringQ r t u v wz l m z).a (ringQ r t u v wz l m z).lo (ringQ r t u v wz l m z).hi (wz - rl) (wz + rm) = 0 ∧ SgtOk (ringS r t (wz - rl) (wz + rm) (ringQ r t u v wz l m z)) ∧ Agr1 (ringS r t (wz - rl) (wz + rm) (ringQ r t u v wz l m z)) u v := by
  have a0 := Int.emod_nonneg z (show 4 * r ≠ 0 by omega)
  have a1 := Int.emod_lt_of_pos z (show 0 < 4 * r by omega)
  have k := tru_look (h (z % (4 * r)) a0 (by omega))
  exact k
end Go.Proofs.Ytllpffkifleigaa
end
section
namespace Go.Proofs.Ytllpffkifleigaa
open Go Go.RowKit

theorem flat_get {α : Type} {R : α → List Value} {m : Nat} (hm : ∀ x, (R x).length = m) {d : α} : ∀ (L : List α) (i j : Nat), i < L.length → j < m → (L.flatMap R)[i * m + j]? = (R (L.getD i d))[j]?
  | [], i, _, h, _ => absurd h (by simp)
  | x :: L, 0, j, _, hj => by
    rw [List.flatMap_cons, List.getElem?_append_left (by rw [hm]; omega)]
    simp
  | x :: L, i + 1, j, h, hj => by
    have := flat_get hm (d := d) L i j (by simpa using h) hj
    rw [List.flatMap_cons, List.getElem?_append_right (by rw [hm, Nat.add_mul]; omega), hm, show (i + 1) * m + j - m = i * m + j by rw [Nat.add_mul]; omega, this]
    simp
def rayV (q : RayQ) : List Value := [.int .i64 q.a, .int .i64 q.lo, .int .i64 q.hi]
def seenV (q : SeenQ) : List Value := [.string q.s, .int .i64 q.x, .int .i64 q.y, .int .i64 q.z, .int .i64 q.r, .int .i64 q.g, .int .i64 q.st, .int .i64 q.wd, .int .i64 q.t, .int .i64 q.slo, .int .i64 q.shi, .int .i64 q.rlo, .int .i64 q.rhi]
theorem flat_snoc {α : Type} {d : α} {R : α → List Value} {L : List α} {k : Nat} (h : k < L.length) : (L.take (k + 1)).flatMap R = (L.take k).flatMap R ++ R (L.getD k d) := by
  rw [List.take_add_one, List.getElem?_eq_getElem h, List.flatMap_append, List.getD_eq_getElem?_getD, List.getElem?_eq_getElem h]
  simp
theorem rays_own {w : World} {base c n : Nat} {A : Option Addr} {Q : List RayQ} (hn : Q.length = n) (h : w.ownsRow base 95 3 (.slice A n c) n (Q.flatMap rayV)) : RaysAtW w A Q := fun hl => by
  obtain ⟨b, cur, rfl, -, hb, -, -, hc⟩ := row_blk h (by omega)
  refine ⟨b, 0, rfl, hb.lt, fun i hi => ?_⟩
  have g := fun j (hj : j < 3) => flat_get (R := rayV) (m := 3) (fun _ => rfl) (d := ray0) Q i j hi hj
  rw [Nat.zero_add]
  exact ⟨hb.c _ (hc _ _ (g 0 (by omega))), hb.c _ (hc _ _ (g 1 (by omega))), hb.c _ (hc _ _ (g 2 (by omega)))⟩
theorem seens_own {w : World} {base c n : Nat} {A : Option Addr} {Q : List SeenQ} (hn : Q.length = n) (h : w.ownsRow base 104 13 (.slice A n c) n (Q.flatMap seenV)) : SeensAt w A Q := fun hl => by
  obtain ⟨b, cur, rfl, -, hb, -, -, hc⟩ := row_blk h (by omega)
  refine ⟨b, 0, rfl, hb.lt, fun i hi => ?_⟩
  have g := fun j (hj : j < 13) => flat_get (R := seenV) (m := 13) (fun _ => rfl) (d := seen0) Q i j hi hj
  rw [Nat.zero_add]
  exact ⟨hb.c _ (hc _ _ (g 0 (by omega))), hb.c _ (hc _ _ (g 1 (by omega))), hb.c _ (hc _ _ (g 2 (by omega))), hb.c _ (hc _ _ (g 3 (by omega))), hb.c _ (hc _ _ (g 4 (by omega))), hb.c _ (hc _ _ (g 5 (by omega))), hb.c _ (hc _ _ (g 6 (by omega))), hb.c _ (hc _ _ (g 7 (by omega))), hb.c _ (hc _ _ (g 8 (by omega))), hb.c _ (hc _ _ (g 9 (by omega))), hb.c _ (hc _ _ (g 10 (by omega))), hb.c _ (hc _ _ (g 11 (by omega))), hb.c _ (hc _ _ (g 12 (by omega)))⟩
theorem rayInfo : (Try.prog.info? 95).map (fun i => (i.zero, i.size, i.bytes)) = some (some (.agg #[.int .i64 0, .int .i64 0, .int .i64 0]), 3, 24) := by kernel_rfl
theorem seenInfo : (Try.prog.info? 104).map (fun i => (i.zero, i.size, i.bytes)) = some (some (.agg #[.string ⟨#[]⟩, .int .i64 0, .int .i64 0, .int .i64 0, .int .i64 0, .int .i64 0, .int .i64 0, .int .i64 0, .int .i64 0, .int .i64 0, .int .i64 0, .int .i64 0, .int .i64 0]), 13, 112) := by kernel_rfl
end Go.Proofs.Ytllpffkifleigaa
end
