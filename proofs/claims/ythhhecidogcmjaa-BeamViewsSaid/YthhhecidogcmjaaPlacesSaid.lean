/-
  The law's example of places.
-/
import Derived.Test.YthhhecidogcmjaaRefFind
namespace Go.Proofs.Ythhhecidogcmjaa
open Go Go.RowKit

theorem find_S : findR (siteE (nameB ⟨#[115]⟩) 0 0 100 2 4 1000 1) 0 2 1000 4 0 0 705 1323 = ((0, 1), 0) := by decide +kernel
theorem place_S : placeR (siteE (nameB ⟨#[115]⟩) 0 0 100 2 4 1000 1) 0 0 1 4 0 0 2 1000 = ((705, 1323), 0) := by decide +kernel

set_option maxHeartbeats 1000000 in
set_option maxRecDepth 100000 in
theorem places_any (w : World) : Calls Try.prog 51 #[] w fun e w' => e = .returned (.bool true) ∧ Below w.heap.size w w' := by
  have hS := fun W => S_any W
  have hf := fun W => Find_any ⟨#[115]⟩ 0 0 100 2 4 1000 1 0 705 1323 W (by decide)
  have hp := fun W => Place_any ⟨#[115]⟩ 0 0 100 2 4 1000 1 0 0 1 W (by decide)
  rw [find_S] at hf
  rw [place_S] at hp
  unfold twoE at hf hp
  simp only at hf hp
  have HS := hide hS
  have Hf := hide hf
  have Hp := hide hp
  clear hS hf hp
  go_enter Try.func51, Try.ntmps51
  have HB := hide (Below.refl w.heap.size w)
  go_wp2_with fail
  refine (HS.out _).mono ?_
  rintro e w1 ⟨rfl, hb⟩
  replace HB := hide (onward HB.out hb)
  clear hb
  go_wp2_with fail
  refine (Hf.out _).mono ?_
  rintro e w2 ⟨rfl, hb⟩
  replace HB := hide (onward HB.out hb)
  clear hb
  go_wp2_with fail
  refine (HS.out _).mono ?_
  rintro e w3 ⟨rfl, hb⟩
  replace HB := hide (onward HB.out hb)
  clear hb
  go_wp2_with fail
  refine (Hp.out _).mono ?_
  rintro e w4 ⟨rfl, hb⟩
  replace HB := hide (onward HB.out hb)
  clear hb
  go_wp2
  go_ret
  exact ⟨rfl, HB.out⟩
end Go.Proofs.Ythhhecidogcmjaa
