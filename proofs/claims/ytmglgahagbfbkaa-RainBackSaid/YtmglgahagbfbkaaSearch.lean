/-
  slices.BinarySearchFunc over a table, with rain's comparison: the first point whose power is not below the one that is asked for.
-/
import Derived.Test.YtmglgahagbfbkaaDivs
import Derived.Test.YtmglgahagbfbkaaValueMath
import Derived.Test.YtmglgahagbfbkaaRegionMem
import Derived.Handy
namespace Go.Proofs.Ytmglgahagbfbkaa
open Go.RowKit

theorem cmp_any (z r t : Int) (w : World) (h1 : 0 ≤ z) (h2 : z ≤ 1073741824) (h3 : 0 ≤ t) (h4 : t ≤ 1073741824) :
    Calls Try.prog 69 #[.agg #[.int .i64 z, .int .i64 r], .int .i64 t] w fun e w' => e = .returned (.int .i64 (z - t)) ∧ Below w.heap.size w w' := by
  go_enter Try.func69, Try.ntmps69
  go_wp2
  go_ret
  exact ⟨rfl, (Below.refl _ _).alloc (Nat.le_refl _) _⟩

def SearchPost (l : List (Int × Int)) (n : Nat) (z : Int) (w : World) (e : Ending) (w' : World) : Prop :=
  ∃ i : Nat, i ≤ n ∧ (∀ k, k < i → (l.getD k P0).1 < z) ∧ (∀ k, i ≤ k → k < n → z ≤ (l.getD k P0).1) ∧ e = .returned (.tuple #[.int .i64 i, .bool (decide (i < n ∧ (l.getD i P0).1 = z))]) ∧ Below w.heap.size w w'

set_option maxHeartbeats 800000 in
theorem search_any (A : Option Addr) (n c : Nat) (l : List (Int × Int)) (most z : Int) (w : World) (hn : l.length = n) (hT : Tab l most) (hz0 : 0 ≤ z) (hz : z ≤ 1073741824) (hl : Ints w w.heap.size .i64 A (flat2 l)) :
    Calls Try.prog 68 #[.slice A n c, .int .i64 z, .func (.func 69) #[] #[]] w (SearchPost l n z w) := by
  obtain ⟨hlen1, hlen2⟩ := hT.len
  obtain ⟨b, off, rfl, hb, hc⟩ := hl.pt (by omega)
  have Hc := hide hc
  have HT := hide hT
  clear hc hl hT
  have Hn := hide hn
  rw [hn] at hlen1 hlen2
  clear hn
  go_enter Try.func68, Try.ntmps68
  go_wp2_with fail
  go_loopw [9, 10] (fun i j wr => ∃ p q : Nat, p ≤ q ∧ q ≤ n ∧ i = .int .i64 p ∧ j = .int .i64 q ∧ Below w.heap.size w wr ∧ (∀ k, k < p → (l.getD k P0).1 < z) ∧ (∀ k, q ≤ k → k < n → z ≤ (l.getD k P0).1))
    (fun i j _ => (intOf j).toNat - (intOf i).toNat)
  case atStart => exact ⟨0, n, by omega, by omega, rfl, rfl, Below.refl _ _, fun k hk => by omega, fun k h1 h2 => by omega⟩
  case round =>
    obtain ⟨p, q, hpq, hqn, rfl, rfl, hbw, hlo, hhi⟩ := hrel
    have Hlo := hide hlo
    have Hhi := hide hhi
    have Hbw := hide hbw
    clear hlo hhi
    by_cases hlt : p < q
    · have hm : (p + q) / 2 < n := by omega
      have hc := Hc.out ((p + q) / 2) (by have := Hn.out; omega)
      have hr := HT.out.rng ((p + q) / 2) (by have := Hn.out; omega)
      have up : ∀ k, k ≤ (p + q) / 2 → (l.getD k P0).1 ≤ (l.getD ((p + q) / 2) P0).1 := fun k hk => tab_le HT.out hk (by have := Hn.out; omega)
      have dn : ∀ k, (p + q) / 2 ≤ k → k < n → (l.getD ((p + q) / 2) P0).1 ≤ (l.getD k P0).1 := fun k hk hk2 => tab_le HT.out hk (by have := Hn.out; omega)
      have Up := hide up
      have Dn := hide dn
      clear up dn
      generalize hze : (l.getD ((p + q) / 2) P0).1 = ze at *
      generalize (l.getD ((p + q) / 2) P0).2 = re at *
      have Hze := hide hze
      clear hze
      obtain ⟨hc0, hc1⟩ := hc
      rw [← hbw.cell hb] at hc0 hc1
      clear hbw
      go_wp2_with (first | (go_at_call 69; refine (cmp_any _ _ _ _ (by omega) (by omega) hz0 hz).mono ?_; rintro e w1 ⟨rfl, hb1⟩))
      · go_roundw
        case rel =>
          exact ⟨(p + q) / 2 + 1, q, by omega, hqn, by go_num, rfl, onward Hbw.out hb1, fun k hk => by have := Up.out k (by omega); omega, Hhi.out⟩
        case measure => simp [intOf]; omega
      · go_roundw
        case rel =>
          exact ⟨p, (p + q) / 2, by omega, by omega, rfl, by go_num, onward Hbw.out hb1, Hlo.out, fun k hk hk2 => by have := Dn.out k hk hk2; omega⟩
        case measure => simp [intOf]; omega
    · obtain rfl : p = q := by omega
      by_cases hpn : p < n
      · have hc := Hc.out p (by have := Hn.out; omega)
        have hr := HT.out.rng p (by have := Hn.out; omega)
        have hge := Hhi.out p (by omega) hpn
        have fin : ∀ w1 : World, Later wr w1 → SearchPost l n z w (.returned (.tuple #[.int .i64 p, .bool ((l.getD p P0).1 - z == 0)])) w1 := fun w1 h1 =>
          ⟨p, by omega, Hlo.out, Hhi.out, by
            have e : ((l.getD p P0).1 - z == 0) = decide (p < n ∧ (l.getD p P0).1 = z) := by
              rw [Bool.eq_iff_iff]; simp; omega
            rw [e], onward Hbw.out h1⟩
        have Fin := hide fin
        clear fin
        generalize (l.getD p P0).1 = ze at *
        generalize (l.getD p P0).2 = re at *
        obtain ⟨hc0, hc1⟩ := hc
        rw [← hbw.cell hb] at hc0 hc1
        clear hbw
        go_wp2_with (first | (go_at_call 69; refine (cmp_any _ _ _ _ (by omega) (by omega) hz0 hz).mono ?_; rintro e w1 ⟨rfl, hb1⟩))
        go_ret2
        exact Fin.out w1 hb1
      · have fin : SearchPost l n z w (.returned (.tuple #[.int .i64 p, .bool false])) wr :=
          ⟨p, by omega, Hlo.out, Hhi.out, by
            have e : false = decide (p < n ∧ (l.getD p P0).1 = z) := by simp; omega
            rw [← e], Hbw.out⟩
        have Fin := hide fin
        clear fin hbw
        go_wp2_with fail
        go_ret2
        exact Fin.out
end Go.Proofs.Ytmglgahagbfbkaa
