/-
  The law's small functions: whether two lists of spans are equal, a span with one number, the tables of the examples.
-/
import Derived.Test.YtmglgahagbfbkaaLeaf
import Derived.Test.YtmglgahagbfbkaaRegionMem
import Derived.Test.YtmglgahagbfbkaaValues
import Derived.BigQuiet
namespace Go.Proofs.Ytmglgahagbfbkaa
open Go.RowKit

theorem point_any (n : Int) (w : World) :
    Calls Try.prog 24 #[.int .i64 n] w fun e w' => e = .returned (.agg #[.int .i64 n, .int .i64 n]) ∧ Below w.heap.size w w' := by
  go_enter Try.func24, Try.ntmps24
  go_wp2
  refine bodyPost_ret (v := .agg #[.int .i64 n, .int .i64 n]) (by simp [results, Try.results24, go_sem]) rfl ⟨rfl, ?_⟩
  exact (Below.refl _ _).alloc (Nat.le_refl _) _

theorem T_any (w : World) :
    Calls Try.prog 21 #[] w fun e w' => e = .returned (.slice (some ⟨w.heap.size, 0, none⟩) 3 3) ∧ w.alloc (.cells #[.int .i64 0, .int .i64 0, .int .i64 100, .int .i64 10, .int .i64 200, .int .i64 110] 94) = w' := by
  go_enter Try.func21, Try.ntmps21
  go_wp2
  go_ret
  exact ⟨rfl, rfl⟩
theorem L_any (w : World) :
    Calls Try.prog 42 #[] w fun e w' => e = .returned (.slice (some ⟨w.heap.size, 0, none⟩) 2 2) ∧ w.alloc (.cells #[.int .i64 0, .int .i64 0, .int .i64 1000, .int .i64 32768] 94) = w' := by
  go_enter Try.func42, Try.ntmps42
  go_wp2
  go_ret
  exact ⟨rfl, rfl⟩

theorem ext_getD {l m : List (Int × Int)} (h : l.length = m.length) (hh : ∀ j, j < l.length → l.getD j (0, 0) = m.getD j (0, 0)) : l = m := by
  apply List.ext_getElem h
  intro j h1 h2
  have := hh j h1
  simpa [List.getD, h1, h2] using this

set_option maxHeartbeats 800000 in
theorem same_any (A : Option Addr) (n c : Nat) (l : List (Int × Int)) (A' : Option Addr) (n' c' : Nat) (m : List (Int × Int)) (w : World) (hn : l.length = n) (hmax : n ≤ 9223372036854775807) (hn' : m.length = n') (hmax' : n' ≤ 9223372036854775807)
    (hl : Ints w w.heap.size .i64 A (flat2 l)) (hm : Ints w w.heap.size .i64 A' (flat2 m)) :
    Calls Try.prog 39 #[.slice A n c, .slice A' n' c'] w fun e w' => e = .returned (.bool (decide (l = m))) ∧ Below w.heap.size w w' := by
  by_cases hnn : n = n'
  · subst hnn
    have Hl := hide hl
    have Hm := hide hm
    have Hn := hide hn
    have Hn' := hide hn'
    have hq : ((n : Int) != n) = false := by simp
    clear hl hm hn hn'
    go_enter Try.func39, Try.ntmps39
    go_wp2_with fail
    go_loopw [5] (fun i wr => ∃ k q : Nat, k ≤ n ∧ i = .int .i64 k ∧ wr = w.drewN q ∧ (∀ j, j < k → l.getD j (0, 0) = m.getD j (0, 0))) (fun i _ => n - (intOf i).toNat)
    case atStart => exact ⟨0, 0, by omega, rfl, rfl, fun j hj => by omega⟩
    case round =>
      obtain ⟨k, q, hk, rfl, rfl, hall⟩ := hrel
      have Hall := hide hall
      clear hall hq
      by_cases hlt : k < n
      · obtain ⟨b, off, rfl, hb, hc⟩ := Hl.out.pt (by have := Hn.out; omega)
        obtain ⟨b', off', rfl, hb', hc'⟩ := Hm.out.pt (by have := Hn'.out; omega)
        obtain ⟨p0, p1⟩ := hc k (by have := Hn.out; omega)
        obtain ⟨q0, q1⟩ := hc' k (by have := Hn'.out; omega)
        have hne : l.getD k (0, 0) ≠ m.getD k (0, 0) → ¬ l = m := fun h e => h (by rw [e])
        have hst : l.getD k (0, 0) = m.getD k (0, 0) → ∀ j, j < k + 1 → l.getD j (0, 0) = m.getD j (0, 0) := fun h j hj => by
          rcases Nat.lt_or_ge j k with h1 | h1
          · exact Hall.out j h1
          · obtain rfl : j = k := by omega
            exact h
        clear hc hc'
        generalize l.getD k (0, 0) = x at *
        generalize m.getD k (0, 0) = y at *
        obtain ⟨x0, x1⟩ := x
        obtain ⟨y0, y1⟩ := y
        simp only at p0 p1 q0 q1
        have Hne := hide hne
        have Hst := hide hst
        clear hne hst
        by_cases he : x0 = y0 ∧ x1 = y1
        · obtain ⟨rfl, rfl⟩ := he
          go_wp2_with fail
          go_quiet (fail)
          go_wp2
          go_roundw
          case rel => exact ⟨k + 1, _, by omega, by go_num, rfl, Hst.out trivial⟩
          case measure => simp [intOf]; omega
        · have hn2 := Hne.out (by simp; omega)
          have Hn2 := hide hn2
          clear hn2
          by_cases h0 : x0 = y0
          · subst h0
            have h1 : (x1 == y1) = false := beq_eq_false_iff_ne.2 (fun e => he ⟨rfl, e⟩)
            clear he
            go_wp2_with fail
            go_quiet (fail)
            go_wp2
            go_ret
            exact ⟨ret_bool (decide_eq_false Hn2.out).symm, below_drewN (below_drewN (Below.refl _ _) _) _⟩
          · have h1 : (x0 == y0) = false := beq_eq_false_iff_ne.2 h0
            clear he h0
            go_wp2_with fail
            go_quiet (fail)
            go_wp2
            go_ret
            exact ⟨ret_bool (decide_eq_false Hn2.out).symm, below_drewN (below_drewN (Below.refl _ _) _) _⟩
      · have hlm : l = m := ext_getD (by rw [Hn.out, Hn'.out]) (fun j hj => Hall.out j (by have := Hn.out; omega))
        have Hlm := hide hlm
        clear hlm
        go_wp2
        go_ret
        exact ⟨ret_bool (decide_eq_true Hlm.out).symm, below_drewN (Below.refl _ _) _⟩
  · have hlm : ¬ l = m := fun e => hnn (by rw [← hn, ← hn', e])
    have Hlm := hide hlm
    have hq : ((n : Int) != n') = true := by simp; omega
    clear hlm hl hm hn hn' hnn
    go_enter Try.func39, Try.ntmps39
    go_wp2
    go_ret
    exact ⟨ret_bool (decide_eq_false Hlm.out).symm, Below.refl _ _⟩
end Go.Proofs.Ytmglgahagbfbkaa
