/-
  Quotients, and the error of a site: the program's contracts.
-/
import Derived.Test.YthhhecidogcmjaaBeam1
import Derived.Test.YthhhecidogcmjaaBeam2Math
namespace Go.Proofs.Ythhhecidogcmjaa
open Go.RowKit

theorem downB_any (a b : Int) (w : World) (hb : 1 ≤ b) (hb2 : b ≤ 4611686018427387903) (h1 : -4611686018427387903 ≤ a) (h2 : a ≤ 4611686018427387903) :
    Calls Try.prog 66 #[.int .i64 a, .int .i64 b] w fun e w' => e = .returned (.int .i64 (a / b)) ∧ w = w' := by
  obtain ⟨q1, q2, q3, q4⟩ := tdiv_bds hb h1 h2
  have HE := hide (down_floor (a := a) (b := b) (by omega))
  by_cases ha : 0 ≤ a
  · have hq := Int.tdiv_eq_ediv_of_nonneg ha (b := b)
    rw [hq] at q1 q2 q3 q4 HE
    clear hq
    have hm := Int.ediv_mul_le a (show b ≠ 0 by omega)
    go_enter Try.func66, Try.ntmps66
    go_wp2
    all_goals
      go_ret
      exact ⟨ret_int (HE.out.trans (by first | exact if_pos (by assumption) | exact if_neg (by omega))).symm, rfl⟩
  · go_enter Try.func66, Try.ntmps66
    go_wp2
    all_goals
      go_ret
      exact ⟨ret_int (HE.out.trans (by first | exact if_pos (by assumption) | exact if_neg (by omega))).symm, rfl⟩
theorem upB_any (a b : Int) (w : World) (hb : 1 ≤ b) (hb2 : b ≤ 4611686018427387903) (h1 : -4611686018427387903 ≤ a) (h2 : a ≤ 4611686018427387903) :
    Calls Try.prog 67 #[.int .i64 a, .int .i64 b] w fun e w' => e = .returned (.int .i64 (cdiv a b)) ∧ w = w' := by
  obtain ⟨q1, q2, q3, q4⟩ := tdiv_bds hb h1 h2
  have HE := hide (up_ceil (a := a) (b := b) (by omega))
  by_cases ha : 0 ≤ a
  · have hq := Int.tdiv_eq_ediv_of_nonneg ha (b := b)
    rw [hq] at q1 q2 q3 q4 HE
    clear hq
    go_enter Try.func67, Try.ntmps67
    go_wp2
    all_goals
      go_ret
      exact ⟨ret_int (HE.out.trans (by first | exact if_pos (by assumption) | exact if_neg (by omega))).symm, rfl⟩
  · go_enter Try.func67, Try.ntmps67
    go_wp2
    all_goals
      go_ret
      exact ⟨ret_int (HE.out.trans (by first | exact if_pos (by assumption) | exact if_neg (by omega))).symm, rfl⟩

theorem Blk.site8 {w : World} {g : Nat} {t : TypeId} {a0 a1 a2 a3 a4 a5 a6 a7 : Value} (h : Blk w g t #[a0, a1, a2, a3, a4, a5, a6, a7]) : w.cell? ⟨g, 0, none⟩ = some a0 ∧ w.cell? ⟨g, 1, none⟩ = some a1 ∧ w.cell? ⟨g, 2, none⟩ = some a2 ∧ w.cell? ⟨g, 3, none⟩ = some a3 ∧ w.cell? ⟨g, 4, none⟩ = some a4 ∧ w.cell? ⟨g, 5, none⟩ = some a5 ∧ w.cell? ⟨g, 6, none⟩ = some a6 ∧ w.cell? ⟨g, 7, none⟩ = some a7 :=
  ⟨h.c 0 rfl, h.c 1 rfl, h.c 2 rfl, h.c 3 rfl, h.c 4 rfl, h.c 5 rfl, h.c 6 rfl, h.c 7 rfl⟩
set_option maxHeartbeats 2000000 in
set_option maxRecDepth 100000 in
theorem CheckSite_any (s : ByteArray) (nb : Bool) (x y z r g st wd : Int) (w : World) (hnm : ∀ W, Calls Try.prog 20 #[.string s] W fun e w' => e = .returned (.bool nb) ∧ Below W.heap.size W w') :
    Calls Try.prog 22 #[.agg #[.string s, .int .i64 x, .int .i64 y, .int .i64 z, .int .i64 r, .int .i64 g, .int .i64 st, .int .i64 wd]] w fun e w' => e = .returned (.int .i64 (siteE nb x y z r g st wd)) ∧ Below w.heap.size w w' := by
  have Hnm := hide hnm
  clear hnm
  cases nb with
  | true =>
    go_enter Try.func22, Try.ntmps22
    have HB := hide (Below.refl w.heap.size w)
    go_wp2_with fail
    refine at_world fun W hW => ?_
    have bq0 : Blk W w.heap.size 33 #[.string s, .int .i64 x, .int .i64 y, .int .i64 z, .int .i64 r, .int .i64 g, .int .i64 st, .int .i64 wd] := by rw [hW]; exact Blk.new _ _ _
    have LW : Later w W := by rw [hW]; exact ((Below.refl _ _).alloc (Nat.le_refl _) _)
    have szW : W.heap.size = w.heap.size + 1 := by rw [hW]; simp
    clear hW
    replace HB := hide (onward HB.out LW)
    have Hs := hide bq0
    clear bq0 LW szW
    refine (Hnm.out _).mono ?_
    rintro e w1 ⟨rfl, hb⟩
    replace HB := hide (onward HB.out hb)
    replace Hs := hide (blk_later Hs.out hb)
    clear hb
    obtain ⟨q0, q1, q2, q3, q4, q5, q6, q7⟩ := Hs.out.site8
    have lts := Hs.out.lt
    go_wp2_with (go_at_call 56; refine (within_any _ _ _ _).mono ?_; rintro e w' ⟨rfl, rfl⟩)
    all_goals
      go_ret
      simp only [Bool.not_eq_true', Bool.not_eq_false'] at *
      refine ⟨ret_int ?_, HB.out⟩
      first | (simp [siteE, *]; done) | (exfalso; clear Hnm HB Hs q0 q1 q2 q3 q4 q5 q6 q7; simp_all; done)
  | false =>
    go_enter Try.func22, Try.ntmps22
    have HB := hide (Below.refl w.heap.size w)
    go_wp2_with fail
    refine at_world fun W hW => ?_
    have bq0 : Blk W w.heap.size 33 #[.string s, .int .i64 x, .int .i64 y, .int .i64 z, .int .i64 r, .int .i64 g, .int .i64 st, .int .i64 wd] := by rw [hW]; exact Blk.new _ _ _
    have LW : Later w W := by rw [hW]; exact ((Below.refl _ _).alloc (Nat.le_refl _) _)
    have szW : W.heap.size = w.heap.size + 1 := by rw [hW]; simp
    clear hW
    replace HB := hide (onward HB.out LW)
    have Hs := hide bq0
    clear bq0 LW szW
    refine (Hnm.out _).mono ?_
    rintro e w1 ⟨rfl, hb⟩
    replace HB := hide (onward HB.out hb)
    replace Hs := hide (blk_later Hs.out hb)
    clear hb
    go_wp2
    go_ret
    exact ⟨ret_int (by simp [siteE]), HB.out⟩
end Go.Proofs.Ythhhecidogcmjaa
