/-
  Middles of pixels, lists of numbers: the reference's Middle, the law's numbers.
-/
import Derived.Test.YthhhecidogcmjaaViewMath
namespace Go.Proofs.Ythhhecidogcmjaa
open Go Go.RowKit

set_option maxHeartbeats 2000000 in
set_option maxRecDepth 100000 in
theorem Middle_any (gx gy gs wi hi i : Int) (w : World) (a1 : -1048576 ≤ gx) (a2 : gx ≤ 1048576) (b1 : -1048576 ≤ gy) (b2 : gy ≤ 1048576) (c1 : 1 ≤ gs) (c2 : gs ≤ 10000) (d1 : 1 ≤ wi) (d2 : wi ≤ 64) (i0 : 0 ≤ i) (i1 : i ≤ 4096) :
    Calls Try.prog 82 #[gridV gx gy gs wi hi, .int .i64 i] w fun e w' => e = .returned (.tuple #[.int .i64 (midX gx gs wi i), .int .i64 (midY gy gs wi i)]) ∧ Below w.heap.size w w' := by
  have e1 := Int.emod_nonneg i (show wi ≠ 0 by omega)
  have e2 := Int.emod_lt_of_pos i (show 0 < wi by omega)
  have f1 : 0 ≤ i / wi := Int.ediv_nonneg i0 (by omega)
  have f2 : i / wi ≤ 4096 := Int.le_trans (Int.ediv_le_self _ i0) i1
  obtain ⟨m1, m2⟩ := mul_bdB (a := i % wi) (b := gs) (A := 64) (B := 10000) e1 (by omega) (by omega) c2
  obtain ⟨n1, n2⟩ := mul_bdB (a := i / wi) (b := gs) (A := 4096) (B := 10000) f1 f2 (by omega) c2
  have g1 : 0 ≤ gs / 2 := by omega
  have g2 : gs / 2 ≤ 5000 := by omega
  have c3 : wi ≠ 0 := by omega
  have c4 : 0 < wi := by omega
  unfold gridV midX midY
  go_enter Try.func82, Try.ntmps82
  have HB := hide (Below.refl w.heap.size w)
  go_wp2_with fail
  refine code_world fun W hW => ?_
  have bq0 : Blk W w.heap.size 35 #[.int .i64 gx, .int .i64 gy, .int .i64 gs, .int .i64 wi, .int .i64 hi] := by rw [hW]; exact Blk.new _ _ _
  have LW : Later w W := by rw [hW]; exact ((Below.refl _ _).alloc (Nat.le_refl _) _)
  have szW : W.heap.size = w.heap.size + 1 := by rw [hW]; simp
  clear hW
  replace HB := hide (onward HB.out LW)
  have Hg := hide bq0
  clear bq0 LW szW
  obtain ⟨k0, k1, k2, k3, k4⟩ := Hg.out.c5
  have ltk := Hg.out.lt
  apply wp_region_L (w0 := W) [[], [], [], [], [], [], [], [], [], [], [], [], [], [], [], [], [], [], [], [], [], [], [], [], [], [], [], [], [], []] [true, true, true, true, true, true, true, true, true, true, true, true, true, true, true, true, true, true, true, true, true, true, true, true, true, true, true, true, true, true] [] (fun ixq y => match ixq with  | _ => undef) (fun ixq x F wq => match ixq with  | _ => True) (fun a x => a) (by kernel_rfl) (by kernel_rfl) (fun _ => rfl) [] (by kernel_rfl)
  · intro x D hD
    have hne := hD.some
    have k0 := liftB hD k0 (by first | assumption | omega)
    have k1 := liftB hD k1 (by first | assumption | omega)
    have k2 := liftB hD k2 (by first | assumption | omega)
    have k3 := liftB hD k3 (by first | assumption | omega)
    simp only [takeOps, Act.put, List.setIfInBounds_toArray, List.set_cons_succ, List.set_cons_zero]
    repeat (go_big_quiet_step (fail))
    exact wpQuiet_nil rfl
  · exact fun _ h => absurd h (by simp)
  · exact trivial
  · exact trivial
  intro xx w2 F hL hlv1
  clear hlv1
  replace HB := hide (onward HB.out hL)
  replace Hg := hide (blk_later Hg.out hL)
  clear hL k0 k1 k2 k3 k4 ltk
  go_wp2
  refine bodyPost_ret (v := .tuple #[.int .i64 (gx + i % wi * gs + gs / 2), .int .i64 (gy + i / wi * gs + gs / 2)]) (by simp [results, Try.results82, go_sem]) rfl ⟨rfl, HB.out⟩

set_option maxHeartbeats 1000000 in
set_option maxRecDepth 100000 in
theorem numbers_any (A B : Option Addr) (n ca cb BB : Nat) (l : List Int) (w : World) (hn : l.length = n) (hmax : n ≤ 9223372036854775807) (hBB : BB ≤ w.heap.size) (ha : Ints w BB .i64 A l) (hb : Ints w BB .i64 B l) :
    Calls Try.prog 54 #[.slice A n ca, .slice B n cb] w fun e w' => e = .returned (.bool true) ∧ Below w.heap.size w w' := by
  have Hn := hide hn
  have Ha := hide ha
  have Hb := hide hb
  clear hn ha hb
  go_enter Try.func54, Try.ntmps54
  go_wp2_with fail
  go_loopw [5] (fun i wr => ∃ k : Nat, k ≤ n ∧ i = .int .i64 k ∧ Below w.heap.size w wr) (fun i _ => n - (intOf i).toNat)
  case atStart => exact ⟨0, by omega, rfl, Below.refl _ _⟩
  case round =>
    obtain ⟨k, hk, rfl, hbw⟩ := hrel
    have HB := hide hbw
    clear hbw
    have hsw := HB.out.size
    by_cases hlt : k < n
    · obtain ⟨b, off, rfl, hb1, hc⟩ := Ha.out (by have := Hn.out; omega)
      obtain ⟨b', off', rfl, hb2, hc'⟩ := Hb.out (by have := Hn.out; omega)
      have p0 := hc k (by have := Hn.out; omega)
      have p1 := hc' k (by have := Hn.out; omega)
      rw [← HB.out.cell (show b < w.heap.size by omega)] at p0
      rw [← HB.out.cell (show b' < w.heap.size by omega)] at p1
      generalize l.getD k 0 = v at p0 p1
      clear hc hc'
      go_wp2_with fail
      go_quiet (fail)
      go_wp2
      go_roundw
      case rel => exact ⟨k + 1, by omega, by go_num, below_drewN HB.out _⟩
      case measure => simp [intOf]; omega
    · obtain rfl : k = n := by omega
      go_wp2
      go_ret
      exact ⟨rfl, HB.out⟩
end Go.Proofs.Ythhhecidogcmjaa
