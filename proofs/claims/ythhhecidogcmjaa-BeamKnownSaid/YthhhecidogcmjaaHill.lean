/-
  The examples' ground, and the law BeamChecks' walk.
-/
import Derived.Test.YthhhecidogcmjaaFields
import Derived.Test.YthhhecidogcmjaaBeamLaw1
namespace Go.Proofs.Ythhhecidogcmjaa
open Go Go.RowKit

theorem G_any (w : World) : Calls Try.prog 55 #[] w fun e w' => e = .returned (gridV (-5000) (-5000) 5000 2 2) ∧ Below w.heap.size w w' := by
  go_enter Try.func55, Try.ntmps55
  go_wp2
  refine bodyPost_ret (v := gridV (-5000) (-5000) 5000 2 2) (by simp [gridV, results, Try.results55, go_sem]) rfl ⟨rfl, ?_⟩
  repeat (first | exact Below.refl _ _ | (refine Below.setCell ?_ (by first | omega | (simp; done) | (simp; omega)) _) | (refine Below.alloc ?_ (by first | omega | (simp; done) | (simp; omega)) _) | (refine below_drewN ?_ _))
def hillL : List (Int × Int) := [(0, 0), (0, 0), (0, 0), (150, 200)]
def hillV (A : Option Addr) (c : Nat) : Value := fieldV (-5000) (-5000) 5000 2 2 A 4 c
/-- What Hill returns: a field whose row of spans is new. -/
def HillPost (w : World) (e : Ending) (w' : World) : Prop := ∃ A c, e = .returned (hillV A c) ∧ Below w.heap.size w w' ∧ w'.ownsRow w.heap.size 47 2 (.slice A 4 c) 4 ((flat2 hillL).map (Value.int .i64))
set_option maxHeartbeats 1000000 in
theorem Hill_any (w : World) : Calls Try.prog 29 #[] w (HillPost w) := by
  go_enter Try.func29, Try.ntmps29
  have HB := hide (Below.refl w.heap.size w)
  go_wp2_with fail
  refine at_world fun W hW => ?_
  have bq0 : Blk W w.heap.size 38 #[.int .i64 0, .int .i64 0, .int .i64 0, .int .i64 0, .int .i64 0, .slice none 0 0] := by rw [hW]; exact Blk.new _ _ _
  have LW : Later w W := by rw [hW]; exact ((Below.refl _ _).alloc (Nat.le_refl _) _)
  have szW : W.heap.size = w.heap.size + 1 := by rw [hW]; simp
  clear hW
  replace HB := hide (onward HB.out LW)
  have Hf := hide bq0
  clear bq0 LW szW
  refine (G_any _).mono ?_
  rintro e w1 ⟨rfl, hb⟩
  replace HB := hide (onward HB.out hb)
  replace Hf := hide (blk_later Hf.out hb)
  clear hb
  unfold gridV
  obtain ⟨q0, q1, q2, q3, q4, q5⟩ := Hf.out.c6
  have ltq := Hf.out.lt
  have fq0 := Hf.out.frozen 0
  have fq1 := Hf.out.frozen 1
  have fq2 := Hf.out.frozen 2
  have fq3 := Hf.out.frozen 3
  have fq4 := Hf.out.frozen 4
  have fq5 := Hf.out.frozen 5
  have hsz := HB.out.size
  go_wp2
  refine bodyPost_ret (v := hillV (some ⟨w1.heap.size, 0, none⟩) 4) (by simp [hillV, fieldV, results, Try.results29, go_sem, q0, q1, q2, q3, q4, q5, ltq]) rfl ⟨some ⟨w1.heap.size, 0, none⟩, 4, rfl, ?_, ?_⟩
  · exact ((((((HB.out.setCell (Nat.le_refl _) _).setCell (Nat.le_refl _) _).setCell (Nat.le_refl _) _).setCell (Nat.le_refl _) _).setCell (Nat.le_refl _) _).setCell (Nat.le_refl _) _).alloc (by simp; omega) _
  · obtain ⟨W6, hW⟩ : ∃ W6, (((((w1.setCell ⟨w.heap.size, 0, none⟩ (.int .i64 (-5000))).setCell ⟨w.heap.size, 1, none⟩ (.int .i64 (-5000))).setCell ⟨w.heap.size, 2, none⟩ (.int .i64 5000)).setCell ⟨w.heap.size, 3, none⟩ (.int .i64 2)).setCell ⟨w.heap.size, 4, none⟩ (.int .i64 2)).setCell ⟨w.heap.size, 5, none⟩ (.slice (some ⟨w1.heap.size, 0, none⟩) 4 4) = W6 := ⟨_, rfl⟩
    have hs6 : w1.heap.size = W6.heap.size := by rw [← hW]; simp
    rw [hW, hs6]
    exact (own_new (w0 := w) (w := W6) (elem := 47) (size := 2) (n := 4) (cells := #[.int .i64 0, .int .i64 0, .int .i64 0, .int .i64 0, .int .i64 0, .int .i64 0, .int .i64 150, .int .i64 200]) (by omega) rfl (by decide)).1
end Go.Proofs.Ythhhecidogcmjaa
