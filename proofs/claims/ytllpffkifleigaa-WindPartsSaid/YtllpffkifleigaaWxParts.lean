/-
  WindParts: the walk.
-/
import Derived.Test.YtllpffkifleigaaWdTruR
import Derived.Test.YtllpffkifleigaaWxFr
set_option linter.unusedSimpArgs false
set_option linter.unusedVariables false
namespace Go.Proofs.Ytllpffkifleigaa
open Go Go.RowKit

theorem withoutA_len (l : List Sgt) (most : Int) : (withoutA l most).length ≤ 2 := by
  unfold withoutA
  split
  · rename_i h
    unfold withoutE at h
    split at h
    · rename_i h1; exact absurd h h1
    · split at h
      · rename_i h2
        cases hw : withoutP l most.toNat with
        | none => simp
        | some t =>
          obtain ⟨-, e2, -, -⟩ := firstS_mem (show firstS _ _ _ _ = some t from hw)
          show t.length ≤ 2
          omega
      · cases h
  · simp
set_option maxHeartbeats 4000000 in
set_option maxRecDepth 100000 in
theorem Parts_all (A : Option Addr) (n c : Nat) (l : List Sgt) (most : Int) (w : World) (hn : l.length = n) (hmax : n ≤ maxLen) (hcap : n ≤ c) (hcm : c ≤ maxLen) (hA : SgtsH w A l) (hI : AllI l) :
    Calls Try.prog 5 #[.slice A n c, .int .i64 most] w fun e w' => e = .returned (.bool true) ∧ Below w.heap.size w w' := by
  have hF := fun W => lfew_any A n c 6 6 W hmax (by omega) rfl
  have hn63 : (n : Int) ≤ 9223372036854775807 := by unfold maxLen at hmax; omega
  by_cases hw : fewB n 6 = false ∧ (n ≤ 64 ∨ 66 < n)
  · obtain ⟨hf, hn2⟩ := hw
    simp only [hf] at hF
    have HF := hide hF
    clear hF
    clear hA hI hn hf
    by_cases h6 : n ≤ 64
    · have h6' : (n : Int) ≤ 64 := by omega
      go_enter Try.func5, Try.ntmps5
      have HM := hide (Mem.start w)
      go_wp2_with fail
      refine (HF.out _).mono ?_
      rintro e w1 ⟨rfl, hb⟩
      replace HM := hide (HM.out.later hb)
      clear hb
      go_wp2_with fail
      refine (works_any _).mono ?_
      rintro e w2 ⟨rfl, hb⟩
      replace HM := hide (HM.out.later hb)
      clear hb
      go_wp2
      exact bodyPost_ret (v := .bool true) (by simp [results, Try.results5, go_sem]) rfl ⟨rfl, HM.out.below⟩
    · have h6' : ¬ (n : Int) ≤ 64 := by omega
      have h7' : (66 : Int) < n := by omega
      go_enter Try.func5, Try.ntmps5
      have HM := hide (Mem.start w)
      go_wp2_with fail
      refine (HF.out _).mono ?_
      rintro e w1 ⟨rfl, hb⟩
      replace HM := hide (HM.out.later hb)
      clear hb
      go_wp2_with fail
      refine (works_any _).mono ?_
      rintro e w2 ⟨rfl, hb⟩
      replace HM := hide (HM.out.later hb)
      clear hb
      go_wp2
      exact bodyPost_ret (v := .bool true) (by simp [results, Try.results5, go_sem]) rfl ⟨rfl, HM.out.below⟩
  · have hw2 : fewB n 6 = false → 64 < n ∧ n ≤ 66 := fun h => by
      have h3 : ¬ (n ≤ 64 ∨ 66 < n) := fun h2 => hw ⟨h, h2⟩
      omega
    have hm4 : n ≤ 400 := by
      cases hf : fewB n 6 with
      | true => exact fewB_le hf (by omega)
      | false => have := hw2 hf; omega
    have hS := fun (W : World) (h : SgtsH W A l) => lsights_any A l c W (by omega) h
    have hF1 := fun (W : World) (A' : Option Addr) (c' : Nat) (hc : l.length ≤ c') (h : SgtsH W A' l) => Front_any A' l c' W (by unfold maxLen; omega) hc h hI
    have hF2 := fun (W : World) (h : SgtsH W A l) => rFront_any A l c W (by unfold maxLen; omega) (by omega) hcm h hI
    generalize ((frontA l).1 : Int) = p1 at *
    generalize ((frontA l).2 : Int) = p2 at *
    generalize frontE l = fe at *
    cases hf : fewB n 6 with
    | false =>
      obtain ⟨hw3, hw4⟩ := hw2 hf
      have h64 : ¬ (n : Int) ≤ 64 := by omega
      have h66 : ¬ (66 : Int) < n := by omega
      have h6 : ¬ (n : Int) ≤ 6 := by omega
      have h360 : ¬ (360 : Int) < n := by omega
      simp only [hf] at hF
      simp only [hn] at hS hF1 hF2
      have HF := hide hF
      have HS := hide hS
      have HF1 := hide hF1
      have HF2 := hide hF2
      have HA := hide hA
      clear hF hS hF1 hF2 hA
      clear hI hn hf hw hw2
      go_enter Try.func5, Try.ntmps5
      have HM := hide (Mem.start w)
      go_wp2_with fail
      refine (HF.out _).mono ?_
      rintro e w1 ⟨rfl, hb⟩
      replace HM := hide (HM.out.later hb)
      replace HA := hide (HA.out.later hb)
      clear hb
      go_wp2_with fail
      refine (HS.out _ HA.out).mono ?_
      rintro e v1 ⟨A1, c1, rfl, hb, hc1, hsg⟩
      replace HM := hide (HM.out.later hb)
      replace HA := hide (HA.out.later hb)
      have HG := hide hsg
      clear hb hsg
      go_wp2_with fail
      refine (HF1.out _ _ _ hc1 HG.out).mono ?_
      rintro e v2 ⟨rfl, hb⟩
      replace HM := hide (HM.out.later hb)
      replace HA := hide (HA.out.later hb)
      clear hb
      clear HG
      go_wp2_with fail
      refine (HF2.out _ HA.out).mono ?_
      rintro e v3 ⟨rfl, hb⟩
      replace HM := hide (HM.out.later hb)
      replace HA := hide (HA.out.later hb)
      clear hb
      go_wp2_with fail
      refine (works_any _).mono ?_
      rintro e v4 ⟨rfl, hb⟩
      replace HM := hide (HM.out.later hb)
      replace HA := hide (HA.out.later hb)
      clear hb
      go_wp2
      exact bodyPost_ret (v := .bool true) (by simp [results, Try.results5, go_sem]) rfl ⟨rfl, HM.out.below⟩
    | true =>
      have hm6 : l.length ≤ 6 ∨ 360 < l.length := by
        unfold fewB at hf
        rw [Bool.or_eq_true, Bool.and_eq_true, decide_eq_true_iff, decide_eq_true_iff, decide_eq_true_iff] at hf
        omega
      have hW1 := fun (W : World) (A' : Option Addr) (c' : Nat) (h : SgtsH W A' l) => Without_any A' l c' most W (by unfold maxLen; omega) h hI
      have hW2 := fun (W : World) (h : SgtsH W A l) => rWithout_any A l c most W (by unfold maxLen; omega) hm6 h hI
      have htl := withoutA_len l most
      generalize withoutA l most = t at *
      generalize withoutE l most = we at *
      have hN := fun (A' B' : Option Addr) (ca cb : Nat) (W : World) (h1 : SetM W A' t) (h2 : SetM W B' t) => numbers_any A' B' t.length ca cb W.heap.size (t.map fun i => ((i : Nat) : Int)) W (by rw [List.length_map]) (by omega) (Nat.le_refl _) h1.ints h2.ints
      have htl2 : (t.length : Int) ≤ 2 := by omega
      simp only [hf] at hF
      rw [hn] at hm6
      simp only [hn] at hS hF1 hF2 hW1 hW2
      have HF := hide hF
      have HS := hide hS
      have HF1 := hide hF1
      have HF2 := hide hF2
      have HW1 := hide hW1
      have HW2 := hide hW2
      have HN := hide hN
      have HA := hide hA
      clear hF hS hF1 hF2 hW1 hW2 hN hA
      clear hI hn hf hw hw2 htl
      by_cases h6 : n ≤ 6
      · have h6' : (n : Int) ≤ 6 := by omega
        go_enter Try.func5, Try.ntmps5
        have HM := hide (Mem.start w)
        go_wp2_with fail
        refine (HF.out _).mono ?_
        rintro e w1 ⟨rfl, hb⟩
        replace HM := hide (HM.out.later hb)
        replace HA := hide (HA.out.later hb)
        clear hb
        go_wp2_with fail
        refine (HS.out _ HA.out).mono ?_
        rintro e w2 ⟨A1, c1, rfl, hb, -, hsg⟩
        replace HM := hide (HM.out.later hb)
        replace HA := hide (HA.out.later hb)
        have HG := hide hsg
        clear hb hsg HF
        go_wp2_with fail
        refine (HW1.out _ _ _ HG.out).mono ?_
        rintro e w3 ⟨A2, c2, rfl, hb, hset⟩
        replace HM := hide (HM.out.later hb)
        replace HA := hide (HA.out.later hb)
        have HT := hide hset
        clear hb hset HG
        go_wp2_with fail
        refine (HW2.out _ HA.out).mono ?_
        rintro e w4 ⟨A3, c3, rfl, hb, hset⟩
        replace HM := hide (HM.out.later hb)
        replace HA := hide (HA.out.later hb)
        replace HT := hide (HT.out.later hb)
        have HU := hide hset
        clear hb hset
        go_wp2_with fail
        refine (HN.out _ _ _ _ _ HT.out HU.out).mono ?_
        rintro e w5 ⟨rfl, hb⟩
        replace HM := hide (HM.out.later hb)
        replace HA := hide (HA.out.later hb)
        clear hb
        clear HT HU HN HW1 HW2
        go_wp2_with fail
        refine (HS.out _ HA.out).mono ?_
        rintro e v1 ⟨A1, c1, rfl, hb, hc1, hsg⟩
        replace HM := hide (HM.out.later hb)
        replace HA := hide (HA.out.later hb)
        have HG := hide hsg
        clear hb hsg
        go_wp2_with fail
        refine (HF1.out _ _ _ hc1 HG.out).mono ?_
        rintro e v2 ⟨rfl, hb⟩
        replace HM := hide (HM.out.later hb)
        replace HA := hide (HA.out.later hb)
        clear hb
        clear HG
        go_wp2_with fail
        refine (HF2.out _ HA.out).mono ?_
        rintro e v3 ⟨rfl, hb⟩
        replace HM := hide (HM.out.later hb)
        replace HA := hide (HA.out.later hb)
        clear hb
        go_wp2_with fail
        refine (works_any _).mono ?_
        rintro e v4 ⟨rfl, hb⟩
        replace HM := hide (HM.out.later hb)
        replace HA := hide (HA.out.later hb)
        clear hb
        go_wp2
        exact bodyPost_ret (v := .bool true) (by simp [results, Try.results5, go_sem]) rfl ⟨rfl, HM.out.below⟩
      · have h6' : ¬ (n : Int) ≤ 6 := by omega
        have h7' : (360 : Int) < n := by omega
        go_enter Try.func5, Try.ntmps5
        have HM := hide (Mem.start w)
        go_wp2_with fail
        refine (HF.out _).mono ?_
        rintro e w1 ⟨rfl, hb⟩
        replace HM := hide (HM.out.later hb)
        replace HA := hide (HA.out.later hb)
        clear hb
        go_wp2_with fail
        refine (HS.out _ HA.out).mono ?_
        rintro e w2 ⟨A1, c1, rfl, hb, -, hsg⟩
        replace HM := hide (HM.out.later hb)
        replace HA := hide (HA.out.later hb)
        have HG := hide hsg
        clear hb hsg HF
        go_wp2_with fail
        refine (HW1.out _ _ _ HG.out).mono ?_
        rintro e w3 ⟨A2, c2, rfl, hb, hset⟩
        replace HM := hide (HM.out.later hb)
        replace HA := hide (HA.out.later hb)
        have HT := hide hset
        clear hb hset HG
        go_wp2_with fail
        refine (HW2.out _ HA.out).mono ?_
        rintro e w4 ⟨A3, c3, rfl, hb, hset⟩
        replace HM := hide (HM.out.later hb)
        replace HA := hide (HA.out.later hb)
        replace HT := hide (HT.out.later hb)
        have HU := hide hset
        clear hb hset
        go_wp2_with fail
        refine (HN.out _ _ _ _ _ HT.out HU.out).mono ?_
        rintro e w5 ⟨rfl, hb⟩
        replace HM := hide (HM.out.later hb)
        replace HA := hide (HA.out.later hb)
        clear hb
        clear HT HU HN HW1 HW2
        go_wp2_with fail
        refine (HS.out _ HA.out).mono ?_
        rintro e v1 ⟨A1, c1, rfl, hb, hc1, hsg⟩
        replace HM := hide (HM.out.later hb)
        replace HA := hide (HA.out.later hb)
        have HG := hide hsg
        clear hb hsg
        go_wp2_with fail
        refine (HF1.out _ _ _ hc1 HG.out).mono ?_
        rintro e v2 ⟨rfl, hb⟩
        replace HM := hide (HM.out.later hb)
        replace HA := hide (HA.out.later hb)
        clear hb
        clear HG
        go_wp2_with fail
        refine (HF2.out _ HA.out).mono ?_
        rintro e v3 ⟨rfl, hb⟩
        replace HM := hide (HM.out.later hb)
        replace HA := hide (HA.out.later hb)
        clear hb
        go_wp2_with fail
        refine (works_any _).mono ?_
        rintro e v4 ⟨rfl, hb⟩
        replace HM := hide (HM.out.later hb)
        replace HA := hide (HA.out.later hb)
        clear hb
        go_wp2
        exact bodyPost_ret (v := .bool true) (by simp [results, Try.results5, go_sem]) rfl ⟨rfl, HM.out.below⟩
end Go.Proofs.Ytllpffkifleigaa
