/-
  Whether a string is a name: the program's contract, the reference's.
-/
import Derived.Test.YtjkelpelmljanaaNames
set_option linter.unusedSimpArgs false
set_option linter.unusedVariables false
namespace Go.Proofs.Ytjkelpelmljanaa
open Go Go.RowKit

theorem IndexFunc_any (s : ByteArray) (w : World) :
    Calls Try.prog 43 #[.string s, .func (.func 37) #[] #[]] w fun e w' => (∃ i : Int, e = .returned (.int .i64 i) ∧ decide (0 ≤ i) = !(s.data.toList.all fun b => isAl b.toNat)) ∧ Below w.heap.size w w' := by
  have hi := fun W => indexFunc_any s W
  have Hi := hide hi
  clear hi
  go_enter Try.func43, Try.ntmps43
  have HB := hide (Below.refl w.heap.size w)
  go_wp2_with fail
  refine (Hi.out _).mono ?_
  rintro e w1 ⟨⟨i, rfl, hd⟩, hb⟩
  replace HB := hide (onward HB.out hb)
  clear hb
  have Hd := hide hd
  clear hd
  go_wp2
  go_ret
  exact ⟨⟨i, rfl, Hd.out⟩, HB.out⟩
theorem ContainsFunc_any (s : ByteArray) (w : World) :
    Calls Try.prog 36 #[.string s, .func (.func 37) #[] #[]] w fun e w' => e = .returned (.bool (!(s.data.toList.all fun b => isAl b.toNat))) ∧ Below w.heap.size w w' := by
  have hi := fun W => IndexFunc_any s W
  have Hi := hide hi
  clear hi
  go_enter Try.func36, Try.ntmps36
  have HB := hide (Below.refl w.heap.size w)
  go_wp2_with fail
  refine (Hi.out _).mono ?_
  rintro e w1 ⟨⟨i, rfl, hd⟩, hb⟩
  replace HB := hide (onward HB.out hb)
  clear hb
  have Hd := hide hd
  clear hd
  go_wp2
  go_ret
  exact ⟨by rw [← Hd.out]; rfl, HB.out⟩
theorem empty_of (s : ByteArray) (h : s.size = 0) : s = ⟨#[]⟩ := by
  obtain ⟨a⟩ := s
  congr
  exact Array.eq_empty_of_size_eq_zero h
theorem get0 (s : ByteArray) (h : 0 < s.size) : s.data.toList.getD 0 0 = s[0]'h := by
  have := get_toList s 0 h
  simp [List.getD, this]
set_option maxHeartbeats 1000000 in
theorem Name_any (s : ByteArray) (w : World) (hs : s.size ≤ 9223372036854775807) :
    Calls Try.prog 18 #[.string s] w fun e w' => e = .returned (.bool (nameB s)) ∧ Below w.heap.size w w' := by
  by_cases h0 : s.size = 0
  · obtain rfl := empty_of s h0
    have e : nameB ⟨#[]⟩ = false := rfl
    rw [e]
    clear h0 hs e
    go_enter Try.func18, Try.ntmps18
    go_wp2
    go_ret
    exact ⟨rfl, Below.refl _ _⟩
  · have hpos : 0 < s.size := by omega
    have hne : s.toList.isEmpty = false := by
      rw [Lib.toList_data]
      cases h : s.data.toList with
      | nil => have : s.data.toList.length = s.size := by simp
               rw [h] at this; simp at this; omega
      | cons a l => rfl
    have hne2 : ¬ s.toList = [] := fun h => by rw [h] at hne; cases hne
    have hi := fun W => ContainsFunc_any s W
    have hB : nameB s = (decide (s.size ≤ 12) && decide (97 ≤ (s[0]'hpos).toNat) && decide ((s[0]'hpos).toNat ≤ 122) && s.data.toList.all fun b => isAl b.toNat) := by
      unfold nameB
      rw [get0 s hpos, decide_eq_true (show s.size ≠ 0 from h0), Bool.true_and]
    generalize (s.data.toList.all fun b => isAl b.toNat) = r at *
    have Hi := hide hi
    have HBn := hide hB
    clear hi hB
    by_cases h1 : (s.size : Int) ≤ 12
    · by_cases h2 : (97 : Int) ≤ ((s[0]'hpos).toNat : Int)
      · by_cases h3 : ((s[0]'hpos).toNat : Int) ≤ 122
        · go_enter Try.func18, Try.ntmps18
          have HB := hide (Below.refl w.heap.size w)
          go_wp2_with fail
          refine (Hi.out _).mono ?_
          rintro e w1 ⟨rfl, hb⟩
          replace HB := hide (onward HB.out hb)
          clear hb
          go_wp2
          go_ret
          exact ⟨by rw [HBn.out, decide_eq_true (show s.size ≤ 12 by omega), decide_eq_true (show 97 ≤ (s[0]'hpos).toNat by omega), decide_eq_true (show (s[0]'hpos).toNat ≤ 122 by omega)]; simp, HB.out⟩
        · go_enter Try.func18, Try.ntmps18
          go_wp2
          go_ret
          exact ⟨by rw [HBn.out, decide_eq_false (show ¬ (s[0]'hpos).toNat ≤ 122 by omega)]; simp, Below.refl _ _⟩
      · go_enter Try.func18, Try.ntmps18
        go_wp2
        go_ret
        exact ⟨by rw [HBn.out, decide_eq_false (show ¬ 97 ≤ (s[0]'hpos).toNat by omega)]; simp, Below.refl _ _⟩
    · go_enter Try.func18, Try.ntmps18
      go_wp2
      go_ret
      exact ⟨by rw [HBn.out, decide_eq_false (show ¬ s.size ≤ 12 by omega)]; simp, Below.refl _ _⟩
theorem isAl_cases {n : Nat} (h : isAl n = true) : ((97 : Int) ≤ n ∧ (n : Int) ≤ 122) ∨ ((48 : Int) ≤ n ∧ (n : Int) ≤ 57) ∨ n = 95 := by
  unfold isAl at h
  simp only [Bool.or_eq_true, Bool.and_eq_true, decide_eq_true_eq] at h
  omega
theorem isAl_not {n : Nat} (h : ¬ isAl n = true) : ¬ (97 ≤ n ∧ n ≤ 122) ∧ ¬ (48 ≤ n ∧ n ≤ 57) ∧ n ≠ 95 := by
  unfold isAl at h
  simp only [Bool.or_eq_true, Bool.and_eq_true, decide_eq_true_eq] at h
  omega
end Go.Proofs.Ytjkelpelmljanaa
