/-
  Whether a string is a name: the program's contract, the reference's.
-/
import Derived.Test.YtiggefmckomilaaNames
set_option linter.unusedSimpArgs false
set_option linter.unusedVariables false
namespace Go.Proofs.Ytiggefmckomilaa
open Go Go.RowKit

theorem IndexFunc_any (s : ByteArray) (w : World) :
    Calls Try.prog 97 #[.string s, .func (.func 86) #[] #[]] w fun e w' => (∃ i : Int, e = .returned (.int .i64 i) ∧ decide (0 ≤ i) = !(s.data.toList.all fun b => isAl b.toNat)) ∧ Below w.heap.size w w' := by
  have hi := fun W => indexFunc_any s W
  have Hi := hide hi
  clear hi
  go_enter Try.func97, Try.ntmps97
  have HB := hide (Below.refl w.heap.size w)
  go_wp2_with fail
  refine (Hi.out _).mono ?_
  rintro e w1 ⟨⟨i, rfl, hd⟩, hb⟩
  replace HB := hide (onward HB.out hb)
  clear hb
  have Hd := hide hd
  clear hd
  go_wp2
  go_ret
  exact ⟨⟨i, rfl, Hd.out⟩, HB.out⟩
theorem ContainsFunc_any (s : ByteArray) (w : World) :
    Calls Try.prog 85 #[.string s, .func (.func 86) #[] #[]] w fun e w' => e = .returned (.bool (!(s.data.toList.all fun b => isAl b.toNat))) ∧ Below w.heap.size w w' := by
  have hi := fun W => IndexFunc_any s W
  have Hi := hide hi
  clear hi
  go_enter Try.func85, Try.ntmps85
  have HB := hide (Below.refl w.heap.size w)
  go_wp2_with fail
  refine (Hi.out _).mono ?_
  rintro e w1 ⟨⟨i, rfl, hd⟩, hb⟩
  replace HB := hide (onward HB.out hb)
  clear hb
  have Hd := hide hd
  clear hd
  go_wp2
  go_ret
  exact ⟨by rw [← Hd.out]; rfl, HB.out⟩
theorem empty_of (s : ByteArray) (h : s.size = 0) : s = ⟨#[]⟩ := by
  obtain ⟨a⟩ := s
  congr
  exact Array.eq_empty_of_size_eq_zero h
theorem get0 (s : ByteArray) (h : 0 < s.size) : s.data.toList.getD 0 0 = s[0]'h := by
  have := get_toList s 0 h
  simp [List.getD, this]
set_option maxHeartbeats 1000000 in
theorem Name_any (s : ByteArray) (w : World) (hs : s.size ≤ 9223372036854775807) :
    Calls Try.prog 59 #[.string s] w fun e w' => e = .returned (.bool (nameB s)) ∧ Below w.heap.size w w' := by
  by_cases h0 : s.size = 0
  · obtain rfl := empty_of s h0
    have e : nameB ⟨#[]⟩ = false := rfl
    rw [e]
    clear h0 hs e
    go_enter Try.func59, Try.ntmps59
    go_wp2
    go_ret
    exact ⟨rfl, Below.refl _ _⟩
  · have hpos : 0 < s.size := by omega
    have hne : s.toList.isEmpty = false := by
      rw [Lib.toList_data]
      cases h : s.data.toList with
      | nil => have : s.data.toList.length = s.size := by simp
               rw [h] at this; simp at this; omega
      | cons a l => rfl
    have hne2 : ¬ s.toList = [] := fun h => by rw [h] at hne; cases hne
    have hi := fun W => ContainsFunc_any s W
    have hB : nameB s = (decide (s.size ≤ 12) && decide (97 ≤ (s[0]'hpos).toNat) && decide ((s[0]'hpos).toNat ≤ 122) && s.data.toList.all fun b => isAl b.toNat) := by
      unfold nameB
      rw [get0 s hpos, decide_eq_true (show s.size ≠ 0 from h0), Bool.true_and]
    generalize (s.data.toList.all fun b => isAl b.toNat) = r at *
    have Hi := hide hi
    have HBn := hide hB
    clear hi hB
    by_cases h1 : (s.size : Int) ≤ 12
    · by_cases h2 : (97 : Int) ≤ ((s[0]'hpos).toNat : Int)
      · by_cases h3 : ((s[0]'hpos).toNat : Int) ≤ 122
        · go_enter Try.func59, Try.ntmps59
          have HB := hide (Below.refl w.heap.size w)
          go_wp2_with fail
          refine (Hi.out _).mono ?_
          rintro e w1 ⟨rfl, hb⟩
          replace HB := hide (onward HB.out hb)
          clear hb
          go_wp2
          go_ret
          exact ⟨by rw [HBn.out, decide_eq_true (show s.size ≤ 12 by omega), decide_eq_true (show 97 ≤ (s[0]'hpos).toNat by omega), decide_eq_true (show (s[0]'hpos).toNat ≤ 122 by omega)]; simp, HB.out⟩
        · go_enter Try.func59, Try.ntmps59
          go_wp2
          go_ret
          exact ⟨by rw [HBn.out, decide_eq_false (show ¬ (s[0]'hpos).toNat ≤ 122 by omega)]; simp, Below.refl _ _⟩
      · go_enter Try.func59, Try.ntmps59
        go_wp2
        go_ret
        exact ⟨by rw [HBn.out, decide_eq_false (show ¬ 97 ≤ (s[0]'hpos).toNat by omega)]; simp, Below.refl _ _⟩
    · go_enter Try.func59, Try.ntmps59
      go_wp2
      go_ret
      exact ⟨by rw [HBn.out, decide_eq_false (show ¬ s.size ≤ 12 by omega)]; simp, Below.refl _ _⟩
theorem isAl_cases {n : Nat} (h : isAl n = true) : ((97 : Int) ≤ n ∧ (n : Int) ≤ 122) ∨ ((48 : Int) ≤ n ∧ (n : Int) ≤ 57) ∨ n = 95 := by
  unfold isAl at h
  simp only [Bool.or_eq_true, Bool.and_eq_true, decide_eq_true_eq] at h
  omega
theorem isAl_not {n : Nat} (h : ¬ isAl n = true) : ¬ (97 ≤ n ∧ n ≤ 122) ∧ ¬ (48 ≤ n ∧ n ≤ 57) ∧ n ≠ 95 := by
  unfold isAl at h
  simp only [Bool.or_eq_true, Bool.and_eq_true, decide_eq_true_eq] at h
  omega
set_option maxHeartbeats 1000000 in
set_option maxRecDepth 100000 in
theorem RefName_any (s : ByteArray) (w : World) (hs : s.size ≤ 9223372036854775807) :
    Calls Try.prog 68 #[.string s] w fun e w' => e = .returned (.bool (nameB s)) ∧ w = w' := by
  by_cases h0 : s.size = 0
  · obtain rfl := empty_of s h0
    have e : nameB ⟨#[]⟩ = false := rfl
    rw [e]
    clear h0 hs e
    go_enter Try.func68, Try.ntmps68
    go_wp2
    go_ret
    exact ⟨rfl, rfl⟩
  · have hpos : 0 < s.size := by omega
    have h00 : ¬ (s.size : Int) < 1 := by omega
    have hB : nameB s = (decide (s.size ≤ 12) && decide (97 ≤ (s[0]'hpos).toNat) && decide ((s[0]'hpos).toNat ≤ 122) && s.data.toList.all fun b => isAl b.toNat) := by
      unfold nameB
      rw [get0 s hpos, decide_eq_true (show s.size ≠ 0 from h0), Bool.true_and]
    have HBn := hide hB
    clear hB
    by_cases h1 : (12 : Int) < s.size
    · go_enter Try.func68, Try.ntmps68
      go_wp2
      go_ret
      exact ⟨by rw [HBn.out, decide_eq_false (show ¬ s.size ≤ 12 by omega)]; simp, rfl⟩
    by_cases h2 : ((s[0]'hpos).toNat : Int) < 97
    · go_enter Try.func68, Try.ntmps68
      go_wp2
      go_ret
      exact ⟨by rw [HBn.out, decide_eq_false (show ¬ 97 ≤ (s[0]'hpos).toNat by omega)]; simp, rfl⟩
    by_cases h3 : (122 : Int) < ((s[0]'hpos).toNat : Int)
    · go_enter Try.func68, Try.ntmps68
      go_wp2
      go_ret
      exact ⟨by rw [HBn.out, decide_eq_false (show ¬ (s[0]'hpos).toNat ≤ 122 by omega)]; simp, rfl⟩
    have hB2 : nameB s = s.data.toList.all fun b => isAl b.toNat := by
      rw [HBn.out, decide_eq_true (show s.size ≤ 12 by omega), decide_eq_true (show 97 ≤ (s[0]'hpos).toNat by omega), decide_eq_true (show (s[0]'hpos).toNat ≤ 122 by omega)]
      simp
    have HB2 := hide hB2
    clear hB2
    clear HBn
    go_enter Try.func68, Try.ntmps68
    go_wp2
    go_loop [3] (fun i => ∃ k : Nat, k ≤ s.size ∧ i = .int .i64 k ∧ Hid (∀ j, j < k → ∀ b, s.data.toList[j]? = some b → isAl b.toNat = true)) (fun i => s.size - (intOf i).toNat)
    case atStart => exact ⟨0, by omega, rfl, fun j hj => by omega⟩
    case round =>
      obtain ⟨k, hk, rfl, hall⟩ := hrel
      by_cases hlt : k < s.size
      · have hg := get_toList s k hlt
        have hlt' : (k : Int) < s.size := by omega
        by_cases hal : isAl (s[k]'hlt).toNat = true
        · have hall2 : ∀ j, j < k + 1 → ∀ b, s.data.toList[j]? = some b → isAl b.toNat = true := fun j hj b hb => by
            by_cases h : j < k
            · exact hall j h b hb
            · obtain rfl : j = k := by omega
              rw [hg] at hb
              rw [← Option.some.inj hb]; exact hal
          have Hall := hide hall2
          clear hall2
          have hcs := isAl_cases hal
          clear hal hg hall
          rcases hcs with ⟨c1, c2⟩ | ⟨c1, c2⟩ | c1
          · have d1 : ¬ ((s[k]'hlt).toNat : Int) < 97 := by omega
            have d2 : ¬ (122 : Int) < ((s[k]'hlt).toNat : Int) := by omega
            go_wp2
            go_round
            case rel => exact ⟨k + 1, by omega, by go_num, Hall.out⟩
            case measure => simp [intOf]; omega
          · have d1 : ((s[k]'hlt).toNat : Int) < 97 := by omega
            have d2 : ¬ ((s[k]'hlt).toNat : Int) < 48 := by omega
            have d3 : ¬ (57 : Int) < ((s[k]'hlt).toNat : Int) := by omega
            go_wp2
            go_round
            case rel => exact ⟨k + 1, by omega, by go_num, Hall.out⟩
            case measure => simp [intOf]; omega
          · have d0 : ((s[k]'hlt).toNat : Int) = 95 := by omega
            clear c1
            go_wp2
            go_round
            case rel => exact ⟨k + 1, by omega, by go_num, Hall.out⟩
            case measure => simp [intOf]; omega
        · have hnot : nameB s = false := by
            rw [HB2.out, List.all_eq_false]
            exact ⟨s[k]'hlt, List.mem_of_getElem? hg, hal⟩
          obtain ⟨c1, c2, c3⟩ := isAl_not hal
          have c4 : (((s[k]'hlt).toNat : Int) != 95) = true := by simp; omega
          have c5 : (((s[k]'hlt).toNat : Int) == 95) = false := by simp; omega
          have Hnot := hide hnot
          clear hnot
          clear hal hg hall
          have h4 : ((s[k]'hlt).toNat : Int) < 48 ∨ ((57 : Int) < ((s[k]'hlt).toNat : Int) ∧ ((s[k]'hlt).toNat : Int) < 97) ∨ (122 : Int) < ((s[k]'hlt).toNat : Int) := by omega
          clear c1 c2 c3
          rcases h4 with h4 | ⟨h4, h5⟩ | h4
          · have d1 : ((s[k]'hlt).toNat : Int) < 97 := by omega
            go_wp2
            go_ret
            exact ⟨by rw [Hnot.out]; rfl, rfl⟩
          · have d1 : ¬ ((s[k]'hlt).toNat : Int) < 48 := by omega
            go_wp2
            go_ret
            exact ⟨by rw [Hnot.out]; rfl, rfl⟩
          · have d1 : ¬ ((s[k]'hlt).toNat : Int) < 97 := by omega
            have d2 : ¬ ((s[k]'hlt).toNat : Int) < 48 := by omega
            have d3 : (57 : Int) < ((s[k]'hlt).toNat : Int) := by omega
            go_wp2
            go_ret
            exact ⟨by rw [Hnot.out]; rfl, rfl⟩
      · have hyes : nameB s = true := by
          rw [HB2.out, List.all_eq_true]
          intro b hb
          obtain ⟨j, hj⟩ := List.getElem?_of_mem hb
          have : j < s.size := by have := (List.getElem?_eq_some_iff.1 hj).1; simpa using this
          exact hall j (by omega) b hj
        have Hyes := hide hyes
        clear hyes
        clear hall
        go_wp2
        go_ret
        exact ⟨by rw [Hyes.out]; rfl, rfl⟩
end Go.Proofs.Ytiggefmckomilaa
