/-
  Contracts of the small functions of the books.
-/
import Derived.Test.YtiggefmckomilaaProg
import Derived.Test.YtiggefmckomilaaTraceMath3
import Derived.Test.YtiggefmckomilaaRegQ
import Derived.Test.YtiggefmckomilaaDivMath
namespace Go.Proofs.Ytiggefmckomilaa
open Go Go.RowKit

theorem tdiv_pos {a b : Int} (ha : 0 ≤ a) : a.tdiv b = a / b := Int.tdiv_eq_ediv_of_nonneg ha
theorem within_any (n lo hi : Int) (w : World) :
    Calls Try.prog 60 #[.int .i64 n, .int .i64 lo, .int .i64 hi] w fun e w' => e = .returned (.bool (inR n lo hi)) ∧ w = w' := by
  by_cases h1 : lo ≤ n <;> by_cases h2 : n ≤ hi
  all_goals
    go_enter Try.func60, Try.ntmps60
    go_wp2
    go_ret
    exact ⟨by simp [inR, *], rfl⟩
theorem inside_any (a b lo hi : Int) (w : World) :
    Calls Try.prog 53 #[.agg #[.int .i64 a, .int .i64 b], .int .i64 lo, .int .i64 hi] w fun e w' => e = .returned (.bool (inS a b lo hi)) ∧ Below w.heap.size w w' := by
  by_cases h1 : lo ≤ a <;> by_cases h2 : a ≤ b <;> by_cases h3 : b ≤ hi
  all_goals
    go_enter Try.func53, Try.ntmps53
    go_wp2
    go_ret
    exact ⟨by simp [inS, *], (Below.refl _ _).alloc (Nat.le_refl _) _⟩
theorem up_any (a b : Int) (w : World) (ha : 0 ≤ a) (hb : 1 ≤ b) (ha2 : a ≤ 4611686018427387903) (hb2 : b ≤ 4611686018427387903) :
    Calls Try.prog 54 #[.int .i64 a, .int .i64 b] w fun e w' => e = .returned (.int .i64 (upD a b)) ∧ w = w' := by
  have h1 : 0 ≤ (a + b - 1) / b := Int.ediv_nonneg (by omega) (by omega)
  have h2 : (a + b - 1) / b ≤ a + b - 1 := Int.ediv_le_self b (by omega)
  go_enter Try.func54, Try.ntmps54
  go_wp2
  go_ret
  exact ⟨rfl, rfl⟩

set_option maxHeartbeats 1000000 in
set_option maxRecDepth 100000 in
theorem widen_any (a b d f t : Int) (w : World) (h0 : 0 ≤ d) (h1 : d ≤ 1000000) (f0 : 0 ≤ f) (f1 : f ≤ 4294967296) (t0 : 0 ≤ t) (t1 : t ≤ 4294967296) (a0 : -1000000000000000000 ≤ a) (a1 : a ≤ 1000000000000000000) (b0 : -1000000000000000000 ≤ b) (b1 : b ≤ 1000000000000000000) :
    Calls Try.prog 67 #[.agg #[.int .i64 a, .int .i64 b], .int .i64 d, .int .i64 f, .int .i64 t] w fun e w' => e = .returned (.agg #[.int .i64 (widenS (a, b) d f t).1, .int .i64 (widenS (a, b) d f t).2]) ∧ Below w.heap.size w w' := by
  obtain ⟨k1, k2, k3, k4⟩ := wide_bd (d := d) h0 h1 f0 f1 t0 t1
  have hmx : (if t - f < f - t then f - t else t - f) = max (t - f) (f - t) := by rw [Int.max_def]; split <;> split <;> omega
  have hW : widenS (a, b) d f t = (max 1 (a - upD (d * max (t - f) (f - t)) 86400), b + upD (d * max (t - f) (f - t)) 86400) := rfl
  have m1 : 0 ≤ max (t - f) (f - t) := by omega
  have m2 : max (t - f) (f - t) ≤ 4294967296 := by omega
  have hu := fun W => up_any (d * max (t - f) (f - t)) 86400 W k1 (by omega) (by omega) (by omega)
  generalize max (t - f) (f - t) = m at *
  generalize upD (d * m) 86400 = u at *
  rw [hW]
  have hm1 : (if 1 < a - u then a - u else 1) = max 1 (a - u) := by rw [Int.max_def]; split <;> split <;> omega
  have Hu := hide hu
  clear hu
  clear hW h0 h1
  go_enter Try.func67, Try.ntmps67
  have HB := hide (Below.refl w.heap.size w)
  go_wp2_with fail
  refine at_world fun W hW => ?_
  have bq0 : Blk W w.heap.size 23 #[.int .i64 a, .int .i64 b] := by rw [hW]; exact (Blk.new _ _ _).alloc _
  have bq1 : Blk W (w.heap.size + 1) 23 #[.int .i64 0, .int .i64 0] := by rw [hW]; exact blk_new_at (by simp)
  have LW : Later w W := by rw [hW]; exact (((Below.refl _ _).alloc (Nat.le_refl _) _).alloc (by simp; try omega) _)
  have szW : W.heap.size = w.heap.size + 2 := by rw [hW]; simp
  clear hW
  replace HB := hide (onward HB.out LW)
  have Hs := hide bq0
  have Ho := hide bq1
  clear bq0 bq1 LW szW
  refine (Hu.out _).mono ?_
  rintro e w' ⟨rfl, rfl⟩
  obtain ⟨s0, s1⟩ := Hs.out.c2
  have lts := Hs.out.lt
  obtain ⟨o0, o1⟩ := Ho.out.c2
  have lto := Ho.out.lt
  have fo0 := Ho.out.frozen 0
  have fo1 := Ho.out.frozen 1
  go_wp2
  refine bodyPost_ret (v := .agg #[.int .i64 (max 1 (a - u)), .int .i64 (b + u)]) (by simp [results, Try.results67, go_sem, o0, o1, fo0, fo1, lto]) rfl ⟨rfl, ?_⟩
  have hsz := HB.out.size
  repeat (first | exact HB.out | (refine Below.setCell ?_ (by first | omega | (simp; done) | (simp; omega)) _) | (refine Below.alloc ?_ (by first | omega | (simp; done) | (simp; omega)) _) | (refine below_drewN ?_ _))

set_option maxHeartbeats 1000000 in
set_option maxRecDepth 100000 in
theorem scaled_any (a b c d : Int) (w : World) (a0 : 1 ≤ a) (a1 : a ≤ b) (a2 : b ≤ 100000000000) (c0 : 1 ≤ c) (c1 : c ≤ d) (c2 : d ≤ 1000000) :
    Calls Try.prog 63 #[.agg #[.int .i64 a, .int .i64 b], .agg #[.int .i64 c, .int .i64 d], .int .i64 1000] w fun e w' => e = .returned (.agg #[.int .i64 (scaledS (a, b) (c, d)).1, .int .i64 (scaledS (a, b) (c, d)).2]) ∧ Below w.heap.size w w' := by
  obtain ⟨-, -, -, k1, k2, k3⟩ := scaledS_bd (s := (a, b)) (t := (c, d)) a0 a1 a2 c0 c1 c2
  simp only at k1 k2 k3
  have hS : scaledS (a, b) (c, d) = (max 1 (a * c / 1000), upD (b * d) 1000) := rfl
  have hu := fun W => up_any (b * d) 1000 W (by omega) (by omega) (by omega) (by omega)
  obtain ⟨q1, q2, -⟩ := div_bd (a := a * c) (b := 1000) k1 (by omega)
  rw [hS]
  have q3 : 0 ≤ b * d := by omega
  obtain ⟨m, hm⟩ : ∃ m : Int, (if 1 < a * c / 1000 then a * c / 1000 else 1) = m := ⟨_, rfl⟩
  rw [show max 1 (a * c / 1000) = m by rw [← hm, Int.max_def]; split <;> split <;> omega]
  generalize upD (b * d) 1000 = u at *
  have Hu := hide hu
  clear hu
  clear hS
  go_enter Try.func63, Try.ntmps63
  have HB := hide (Below.refl w.heap.size w)
  go_wp2_with fail
  refine code_world fun W hW => ?_
  have bq0 : Blk W w.heap.size 23 #[.int .i64 a, .int .i64 b] := by rw [hW]; exact ((Blk.new _ _ _).alloc _).alloc _
  have bq1 : Blk W (w.heap.size + 1) 23 #[.int .i64 c, .int .i64 d] := by rw [hW]; exact (blk_new_at (by simp)).alloc _
  have bq2 : Blk W (w.heap.size + 2) 23 #[.int .i64 0, .int .i64 0] := by rw [hW]; exact blk_new_at (by simp)
  have LW : Later w W := by rw [hW]; exact ((((Below.refl _ _).alloc (Nat.le_refl _) _).alloc (by simp; try omega) _).alloc (by simp; try omega) _)
  have szW : W.heap.size = w.heap.size + 3 := by rw [hW]; simp
  clear hW
  replace HB := hide (onward HB.out LW)
  have Hs := hide bq0
  have Ht := hide bq1
  have Ho := hide bq2
  clear bq0 bq1 bq2 LW szW
  obtain ⟨s0, s1⟩ := Hs.out.c2
  have lts := Hs.out.lt
  obtain ⟨t0, t1⟩ := Ht.out.c2
  have ltt := Ht.out.lt
  have hoo := Ho.out.lt
  apply wp_region_F (w0 := W) [[], [0], [], [2], [0, 1, 2, 3], [], [0, 1, 2, 3, 4, 5], [0, 1, 2, 3, 4, 5, 6], [], [8], [], [10], [8, 9, 10, 11], [], [8, 9, 10, 11, 12, 13], [0, 1, 2, 3, 4, 5, 6, 7, 8, 9, 10, 11, 12, 13, 14], [0, 1, 2, 3, 4, 5, 6, 7, 8, 9, 10, 11, 12, 13, 14, 15]] [true, true, true, true, true, true, true, true, true, true, true, true, true, true, true, true, false] [false, false, false, false, false, false, false, false, false, false, false, false, false, false, false, false, false] [⟨16, none, [], []⟩] [(16, (w.heap.size+2))] [16] (fun ixq y => match ixq with | 16 => undef | _ => undef) (fun ixq x F wq => match ixq with | 16 => F (w.heap.size+2) ∧ Blk wq (w.heap.size+2) 23 #[.int .i64 m, .int .i64 u] | _ => True) (fun a x => (a).put (none) (undef)) (by kernel_rfl) (by kernel_rfl) (by kernel_rfl) (fun _ => rfl) [21] (by kernel_rfl) (fills_lt1 (by omega)) fills_ne1
  · intro x D hD
    have hne := hD.some
    have k0 := liftS hD s0 (by exact early_all (by first | assumption | omega) (by rfl))
    have k1 := liftS hD s1 (by exact early_all (by first | assumption | omega) (by rfl))
    have k2 := liftS hD t0 (by exact early_all (by first | assumption | omega) (by rfl))
    have k3 := liftS hD t1 (by exact early_all (by first | assumption | omega) (by rfl))
    simp only [takeOps, Act.put, List.setIfInBounds_toArray, List.set_cons_succ, List.set_cons_zero]
    repeat (go_big_quiet_step ((go_at_call 54; exact calls_same _ (Hu.out _))))
    exact wpQuiet_nil rfl
  · exact fun x D hD => wpQuiet_nil rfl
  · intro d hd x x'
    simp only [List.mem_cons, List.not_mem_nil, or_false] at hd
    rcases hd with rfl
    all_goals rfl
  · refine ⟨?_, trivial⟩
    · exact obl_fill 23 23 6 22 (w.heap.size+2) _ (fun x => #[.int .i64 m, .int .i64 u]) (by kernel_rfl) (fun _ => rfl) (fun _ => rfl) Ho.out eb_fill1 (by simp [wrF]) (fun _ => by kernel_rfl) (fun _ => rfl) (fun _ => by simp [Value.oneCell']) (fun _ => rfl) (fun _ _ _ _ h1 h2 => ⟨h1, h2⟩)
  · refine ⟨?_, trivial⟩
    · exact owe_fill (w.heap.size+2) 23 (fun x => #[.int .i64 m, .int .i64 u]) (fun _ _ _ => rfl) (fun _ _ _ => rfl)
  intro xx w2 F hK hlv1
  obtain ⟨fct16, -⟩ := hlv1
  replace fct16 : (F 16) (w.heap.size+2) ∧ Blk w2 (w.heap.size+2) 23 #[.int .i64 m, .int .i64 u] := fct16 rfl
  have Hq := hide fct16.2
  have hB : Below w.heap.size w w2 := below_kept HB.out HB.out.size hK (fun p hp => by simp only [List.mem_singleton] at hp; subst hp; omega)
  obtain ⟨o0, o1⟩ := Hq.out.c2
  have lto := Hq.out.lt
  have fo0 := Hq.out.frozen 0
  have fo1 := Hq.out.frozen 1
  go_wp2
  refine bodyPost_ret (v := .agg #[.int .i64 m, .int .i64 u]) (by simp [results, Try.results63, go_sem, o0, o1, fo0, fo1, lto]) rfl ⟨rfl, hB⟩
end Go.Proofs.Ytiggefmckomilaa
