/-
  works: a table, losses and a gauge are there: it returns true.
-/
import Derived.Test.YtmglgahagbfbkaaSame
import Derived.Test.YtmglgahagbfbkaaPass
import Derived.Test.YtmglgahagbfbkaaGauge
import Derived.Test.YtmglgahagbfbkaaRegionStep
namespace Go.Proofs.Ytmglgahagbfbkaa
open Go.RowKit

def tabT : List (Int × Int) := [(0, 0), (100, 10), (200, 110)]
def tabL : List (Int × Int) := [(0, 0), (1000, 32768)]
theorem valueT : valueR tabT 50 = ((5, 5), 0) := by decide +kernel
theorem passL : passR tabL [1000, 1000, 500] = ([(1000, 1000), (500, 500), (125, 125)], 0) := by decide +kernel
theorem fell3 : fellR 3 200 = ((401, 799), 0) := by decide +kernel
theorem ints_new {w : World} {g : Nat} {t : TypeId} {cs : Array Value} {zs : List Int} (hb : Blk w g t cs) (h : cs.toList = zs.map (Value.int .i64)) : Ints w (g + 1) .i64 (some ⟨g, 0, none⟩) zs := fun _ => by
  refine ⟨g, 0, rfl, by omega, fun j hj => ?_⟩
  rw [Nat.zero_add, hb.cell j, ← Array.getElem?_toList, h]
  simp [List.getD, hj]

set_option maxHeartbeats 2000000 in
set_option maxRecDepth 100000 in
theorem works_any (w : World) : Calls Try.prog 12 #[] w fun e w' => e = .returned (.bool true) ∧ Below w.heap.size w w' := by
  go_enter Try.func12, Try.ntmps12
  go_wp2_with fail
  refine (T_any _).mono ?_
  rintro e w1 ⟨rfl, rfl⟩
  go_wp2_with fail
  refine (Value_any _ 3 3 tabT 50 _ rfl (by decide) ((ints_new (zs := flat2 tabT) (Blk.new w 94 _) rfl).more (by simp))).mono ?_
  rintro e w2 ⟨rfl, hb2⟩
  rw [valueT]
  have B2 : Below w.heap.size w w2 := ((Below.refl _ _).alloc (Nat.le_refl _) _).trans (hb2.mono (by simp))
  unfold spanE
  clear hb2
  go_wp2_with fail
  refine (L_any _).mono ?_
  rintro e w3 ⟨rfl, rfl⟩
  go_wp2_with fail
  refine at_world fun W hW => ?_
  have bS : Blk W w2.heap.size 24 #[.int .i64 5, .int .i64 5] := by rw [hW]; exact ((Blk.new _ _ _).alloc _).alloc _
  have bL : Blk W (w2.heap.size + 1) 94 #[.int .i64 0, .int .i64 0, .int .i64 1000, .int .i64 32768] := by rw [hW]; exact (blk_new_at (by simp)).alloc _
  have bP : Blk W (w2.heap.size + 1 + 1) 3 #[.int .i64 1000, .int .i64 1000, .int .i64 500] := by rw [hW]; exact blk_new_at (by simp)
  have hsz : W.heap.size = w2.heap.size + 3 := by rw [hW]; simp
  have BW : Below w.heap.size w W := by
    have := B2.size
    rw [hW]; exact ((B2.alloc this _).alloc (by simp; omega) _).alloc (by simp; omega) _
  clear hW B2
  refine (Pass_any _ 2 2 tabL _ 3 3 [1000, 1000, 500] W rfl (by decide) rfl (by decide) ((ints_new (zs := flat2 tabL) bL rfl).more (by omega)) ((ints_new (zs := [1000, 1000, 500]) bP rfl).more (by omega))).mono ?_
  rintro e w4 ⟨v, rfl, hown, hb4⟩
  rw [passL] at hown
  rw [passL]
  simp only at hown
  obtain ⟨gv, cv, rfl⟩ := own_form hown (by decide)
  have BS4 := bS.below hb4 bS.lt
  have B4 := onward BW hb4
  have HO := hide hown
  have HBS := hide BS4
  have HB := hide B4
  clear bS bL bP BW hown BS4 hb4 hsz B4
  go_wp2_with fail
  refine (Fell_any 3 200 _).mono ?_
  rintro e w5 ⟨rfl, hb5⟩
  rw [fell3]
  have HO5 := hide (own_later HO.out hb5)
  have HBS5 := hide (HBS.out.below hb5 HBS.out.lt)
  have HB5 := hide (onward HB.out hb5)
  unfold spanE
  clear HO HBS HB hb5
  go_wp2_with fail
  refine code_world fun W5 hW5 => ?_
  have b1 : Blk W5 w2.heap.size 24 #[.int .i64 5, .int .i64 5] := by rw [hW5]; exact HBS5.out.alloc _
  have b2 : Blk W5 w5.heap.size 24 #[.int .i64 401, .int .i64 799] := by rw [hW5]; exact Blk.new _ _ _
  have o5 := HO5.out.alloc (.cells #[.int .i64 401, .int .i64 799] 24)
  rw [← hW5] at o5
  have hB5 : Below w.heap.size w W5 := by rw [hW5]; exact HB5.out.alloc HB5.out.size _
  have hi5 : Ints W5 W5.heap.size .i64 (some ⟨gv, 0, none⟩) (flat2 [(1000, 1000), (500, 500), (125, 125)]) := Ints.own o5 rfl (Nat.le_refl _)
  have HB := hide hB5
  have HI := hide hi5
  have HB2 := hide b2
  have l1 := b1.lt
  have l2 := b2.lt
  obtain ⟨c0, c1⟩ := b1.c2
  obtain ⟨d0, d1⟩ := b2.c2
  clear b1 b2 o5 hB5 hi5 hW5 HO5 HBS5 HB5
  refine wp_region_R (fun k => k < W5.heap.size) 29 (by kernel_rfl) ?_
  apply anyR_peel (fuel := 17) 29 [true, true, true, true, true, true, true, true, true, true, true, true, false, false, false, false, false, false, false, false, false, false, false, false, false, false, false, false, false] #[true, true, true, true, true, true, true, true, true, true, true, true, false, false, false, false, false, false, false, false, false, false, false, false, false, false, false, false, false] (by kernel_rfl) rfl (fun j hj => decide_eq_true hj) (fun k hk => by first | exact hk | omega | (simp at hk ⊢; omega))
  · intro D hD
    have hne := hD.some
    have k0 := liftB hD c0 (by omega)
    have k1 := liftB hD c1 (by omega)
    simp only [takeOps]
    repeat (go_big_quiet_step ((go_at_call 24; exact calls_later hD _ (point_any _ _))))
    exact wpQuiet_nil rfl
  refine anyR_new (f := 16) 12 #[true, true, true, true, true, true, true, true, true, true, true, true, true, false, false, false, false, false, false, false, false, false, false, false, false, false, false, false, false] (by kernel_rfl) (by kernel_rfl) rfl rfl rfl rfl 24 #[.int .i64 1000, .int .i64 1000, .int .i64 500, .int .i64 500, .int .i64 125, .int .i64 125] (fun b => .slice (some ⟨b, 0, none⟩) 3 3) (fun _ => by kernel_rfl) (fun k hk => hk) ?_
  intro w6 hl6
  simp only [Act.put, List.setIfInBounds_toArray, List.set_cons_succ, List.set_cons_zero]
  have hi6 : Ints w6 w6.heap.size .i64 (some ⟨gv, 0, none⟩) (flat2 [(1000, 1000), (500, 500), (125, 125)]) := (HI.out.below hl6).more hl6.size
  refine anyR_call (f := 15) 13 #[true, true, true, true, true, true, true, true, true, true, true, true, true, true, false, false, false, false, false, false, false, false, false, false, false, false, false, false, false] (by kernel_rfl) (by kernel_rfl) rfl rfl rfl rfl 39 #[.slice (some ⟨gv, 0, none⟩) 3 cv, .slice (some ⟨w6.heap.size, 0, none⟩) 3 3] (fun _ => by kernel_rfl) (fun k hk => Nat.lt_of_lt_of_le hk (by have := hl6.size; simp; omega)) (fun v _ _ => v = .bool true)
    (fun w7 hl7 => (same_any _ 3 cv [(1000, 1000), (500, 500), (125, 125)] _ 3 3 [(1000, 1000), (500, 500), (125, 125)] w7 rfl (by decide) rfl (by decide) ?_ ?_).mono fun e w8 ⟨he, hb⟩ => ⟨_, he, hb, by simp⟩) ?_
  · exact (hi6.below (((Below.refl _ _).alloc (Nat.le_refl _) _).trans (Below.mono hl7 (by simp)))).more (by have := hl7.size; simp at this; omega)
  · exact (ints_new (zs := flat2 [(1000, 1000), (500, 500), (125, 125)]) ((Blk.new w6 _ _).below hl7 (by simp)) rfl).more (by have := hl7.size; simp at this; omega)
  rintro v w7 w8 hl7 hl8 rfl
  simp only [Act.put, List.setIfInBounds_toArray, List.set_cons_succ, List.set_cons_zero]
  have b8 := (((HB2.out.below hl6 HB2.out.lt).alloc (.cells #[.int .i64 1000, .int .i64 1000, .int .i64 500, .int .i64 500, .int .i64 125, .int .i64 125] 24))).below hl8 (by have := hl6.size; simp; omega)
  obtain ⟨x0, x1⟩ := b8.c2
  have B8 : Below w.heap.size w w8 := (((onward HB.out hl6).alloc (by have := HB.out.size; have := hl6.size; omega) _)).trans (Below.mono hl8 (by have := HB.out.size; have := hl6.size; simp; omega))
  have HB8 := hide B8
  have hs8 := hl8.size
  simp only [World.size_alloc] at hs8
  have hs6 := hl6.size
  clear b8 B8 c0 c1 d0 d1 hi6 hl7
  refine anyR_sub (S' := fun k => k < W5.heap.size) (fun k hk => by first | exact hk | omega | (simp at hk ⊢; omega)) ?_
  apply anyR_peel (fuel := 0) 29 [false, false, false, false, false, false, false, false, false, false, false, false, false, false, true, true, true, true, true, true, true, true, true, true, true, true, true, true, true] #[true, true, true, true, true, true, true, true, true, true, true, true, true, true, true, true, true, true, true, true, true, true, true, true, true, true, true, true, true] (by kernel_rfl) rfl (fun j hj => decide_eq_true hj) (fun k hk => by first | exact hk | omega | (simp at hk ⊢; omega))
  · intro D hD
    have hne := hD.some
    have k0 := liftB hD x0 (by omega)
    have k1 := liftB hD x1 (by omega)
    simp only [takeOps]
    repeat (go_big_quiet_step (fail))
    exact wpQuiet_nil rfl
  refine anyR_done (by kernel_rfl) fun w9 hl9 => ?_
  have HB9 := hide (onward HB8.out hl9)
  go_wp2
  go_ret
  exact ⟨rfl, HB9.out⟩
end Go.Proofs.Ytmglgahagbfbkaa
