/-
  A span within a span: the law's 'inner'.
-/
import Derived.Test.YthhhecidogcmjaaRefDivs
namespace Go.Proofs.Ythhhecidogcmjaa
open Go.RowKit

set_option maxHeartbeats 1000000 in
set_option maxRecDepth 100000 in
theorem inner_any (a b x y : Int) (w : World) (h0 : 0 ≤ a) (h : a ≤ b) (h1 : b ≤ 1073741824) (hx : 0 ≤ x) (hx2 : x ≤ 4294967295) (hy : 0 ≤ y) (hy2 : y ≤ 4294967295) :
    Calls Try.prog 36 #[.agg #[.int .i64 a, .int .i64 b], .int .u32 x, .int .u32 y] w fun e w' =>
      e = .returned (.agg #[.int .i64 (a + x % (b - a + 1)), .int .i64 (a + x % (b - a + 1) + y % (b - (a + x % (b - a + 1)) + 1))]) ∧ Below w.heap.size w w' := by
  obtain ⟨d, hd⟩ : ∃ d, b - a + 1 = d := ⟨_, rfl⟩
  obtain ⟨r, hr⟩ : ∃ r, x % d = r := ⟨_, rfl⟩
  obtain ⟨p, hp⟩ : ∃ p, a + r = p := ⟨_, rfl⟩
  obtain ⟨d2, hd2⟩ : ∃ d2, b - p + 1 = d2 := ⟨_, rfl⟩
  obtain ⟨r2, hr2⟩ : ∃ r2, y % d2 = r2 := ⟨_, rfl⟩
  have k1 : 0 ≤ r := by rw [← hr]; exact Int.emod_nonneg _ (by omega)
  have k2 : r < d := by rw [← hr]; exact Int.emod_lt_of_pos _ (by omega)
  have k3 : 0 ≤ r2 := by rw [← hr2]; exact Int.emod_nonneg _ (by omega)
  have k4 : r2 < d2 := by rw [← hr2]; exact Int.emod_lt_of_pos _ (by omega)
  have n1 : d ≠ 0 := by omega
  have n2 : d2 ≠ 0 := by omega
  have n3 : 0 < d := by omega
  have n4 : 0 < d2 := by omega
  rw [hd, hr, hp, hd2, hr2]
  go_enter Try.func36, Try.ntmps36
  have HB := hide (Below.refl w.heap.size w)
  go_wp2_with fail
  refine code_world fun W hW => ?_
  have bq0 : Blk W w.heap.size 47 #[.int .i64 a, .int .i64 b] := by rw [hW]; exact (Blk.new _ _ _).alloc _
  have bq1 : Blk W (w.heap.size + 1) 47 #[.int .i64 0, .int .i64 0] := by rw [hW]; exact blk_new_at (by simp)
  have LW : Later w W := by rw [hW]; exact (((Below.refl _ _).alloc (Nat.le_refl _) _).alloc (by simp; try omega) _)
  have szW : W.heap.size = w.heap.size + 2 := by rw [hW]; simp
  clear hW
  replace HB := hide (onward HB.out LW)
  have Hs := hide bq0
  have Ho := hide bq1
  clear bq0 bq1 LW szW
  obtain ⟨s0, s1⟩ := Hs.out.c2
  have lts := Hs.out.lt
  apply wp_region_L (w0 := W) [[], [], [], [], [], [], [], [], [], [], [], [], []] [true, true, true, true, true, true, true, true, true, true, true, true, true] [] (fun ixq y => match ixq with  | _ => undef) (fun ixq x F wq => match ixq with  | _ => True) (fun a x => a) (by kernel_rfl) (by kernel_rfl) (fun _ => rfl) [] (by kernel_rfl)
  · intro x D hD
    have hne := hD.some
    have k0 := liftB hD s0 (by first | assumption | omega)
    have k1 := liftB hD s1 (by first | assumption | omega)
    simp only [takeOps, Act.put, List.setIfInBounds_toArray, List.set_cons_succ, List.set_cons_zero]
    repeat (go_big_quiet_step (fail))
    exact wpQuiet_nil rfl
  · exact fun _ h => absurd h (by simp)
  · exact trivial
  · exact trivial
  intro xx w2 F hL hlv1
  clear hlv1
  replace HB := hide (onward HB.out hL)
  replace Hs := hide (blk_later Hs.out hL)
  replace Ho := hide (blk_later Ho.out hL)
  clear hL s0 s1 lts
  obtain ⟨s0, s1⟩ := Hs.out.c2
  have lts := Hs.out.lt
  obtain ⟨o0, o1⟩ := Ho.out.c2
  have lto := Ho.out.lt
  have fo0 := Ho.out.frozen 0
  have fo1 := Ho.out.frozen 1
  go_wp2
  refine bodyPost_ret (v := .agg #[.int .i64 p, .int .i64 (p + r2)]) (by simp [results, Try.results36, go_sem, o0, o1, fo0, fo1, lto]) rfl ⟨rfl, ?_⟩
  have hsz := HB.out.size
  repeat (first | exact HB.out | (refine Below.setCell ?_ (by first | omega | (simp; done) | (simp; omega)) _) | (refine Below.alloc ?_ (by first | omega | (simp; done) | (simp; omega)) _) | (refine below_drewN ?_ _))
/-- What 'inner' answers lies within. -/
theorem inner_bd {a b x y : Int} (h : a ≤ b) (_hx : 0 ≤ x) (_hy : 0 ≤ y) : a ≤ a + x % (b - a + 1) ∧ a + x % (b - a + 1) ≤ a + x % (b - a + 1) + y % (b - (a + x % (b - a + 1)) + 1) ∧ a + x % (b - a + 1) + y % (b - (a + x % (b - a + 1)) + 1) ≤ b := by
  have h1 := Int.emod_nonneg x (show b - a + 1 ≠ 0 by omega)
  have h2 := Int.emod_lt_of_pos x (show 0 < b - a + 1 by omega)
  generalize x % (b - a + 1) = r at *
  have h3 := Int.emod_nonneg y (show b - (a + r) + 1 ≠ 0 by omega)
  have h4 := Int.emod_lt_of_pos y (show 0 < b - (a + r) + 1 by omega)
  omega
theorem lies_any (a b c d : Int) (w : World) :
    Calls Try.prog 37 #[.agg #[.int .i64 a, .int .i64 b], .agg #[.int .i64 c, .int .i64 d]] w fun e w' => e = .returned (.bool (decide (a ≤ b ∧ c ≤ a ∧ b ≤ d))) ∧ Below w.heap.size w w' := by
  by_cases h1 : a ≤ b <;> by_cases h2 : c ≤ a <;> by_cases h3 : b ≤ d
  all_goals
    go_enter Try.func37, Try.ntmps37
    go_wp2
    go_ret
    exact ⟨by simp [*], ((Below.refl _ _).alloc (Nat.le_refl _) _).alloc (by simp) _⟩
end Go.Proofs.Ythhhecidogcmjaa
