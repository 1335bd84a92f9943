/-
  The law RainTables returns true: for every model and every pair of numbers.
-/
import Derived.Test.YtmglgahagbfbkaaPoints
import Derived.Test.YtmglgahagbfbkaaWorks
namespace Go.Proofs.Ytmglgahagbfbkaa
open Go.RowKit

theorem chkT110 : chk tabT 110 = 0 := by decide +kernel
theorem chkT109 : chk tabT 109 = 3 := by decide +kernel
theorem chkNil : chk [] 1 = 18 := by decide +kernel

set_option maxHeartbeats 4000000 in
set_option maxRecDepth 100000 in
theorem RainTables_any (A : Option Addr) (n c : Nat) (l : List (Int × Int)) (A' : Option Addr) (n' c' : Nat) (m : List (Int × Int)) (melt inn above : Int × Int) (most z : Int) (w : World) (hn : l.length = n) (hmax : n ≤ 9223372036854775807) (hn' : m.length = n') (hmax' : n' ≤ 9223372036854775807)
    (hl : Ints w w.heap.size .i64 A (flat2 l)) (hm : Ints w w.heap.size .i64 A' (flat2 m)) :
    Calls Try.prog 3 #[mdlV A n c A' n' c' melt inn above, .int .i64 most, .int .i64 z] w fun e w' => e = .returned (.bool true) ∧ Below w.heap.size w w' := by
  obtain ⟨a0, a1⟩ := melt
  obtain ⟨b0, b1⟩ := inn
  obtain ⟨c0, c1⟩ := above
  have hV : mdlV A n c A' n' c' (a0, a1) (b0, b1) (c0, c1) = .agg #[.slice A n c, .slice A' n' c', .int .i64 a0, .int .i64 a1, .int .i64 b0, .int .i64 b1, .int .i64 c0, .int .i64 c1] := rfl
  have HV := hide hV
  rw [hV]
  clear hV
  have Hl := hide hl
  have Hm := hide hm
  have Hn := hide hn
  have Hn' := hide hn'
  clear hl hm hn hn'
  by_cases h1 : (100 : Int) < n
  · go_enter Try.func3, Try.ntmps3
    go_wp2_with fail
    refine (works_any _).mono ?_
    rintro e w1 ⟨rfl, hb⟩
    go_wp2
    go_ret
    exact ⟨rfl, ((Below.refl _ _).alloc (Nat.le_refl _) _).trans (hb.mono (by simp))⟩
  by_cases h2 : (100 : Int) < n'
  · go_enter Try.func3, Try.ntmps3
    go_wp2_with fail
    refine (works_any _).mono ?_
    rintro e w1 ⟨rfl, hb⟩
    go_wp2
    go_ret
    exact ⟨rfl, ((Below.refl _ _).alloc (Nat.le_refl _) _).trans (hb.mono (by simp))⟩
  go_enter Try.func3, Try.ntmps3
  go_wp2_with fail
  refine code_world fun W hW => ?_
  have b1' : Blk W w.heap.size 26 #[.slice A n c, .slice A' n' c', .int .i64 a0, .int .i64 a1, .int .i64 b0, .int .i64 b1, .int .i64 c0, .int .i64 c1] := by rw [hW]; exact Blk.new _ _ _
  have BW : Below w.heap.size w W := by rw [hW]; exact (Below.refl _ _).alloc (Nat.le_refl _) _
  have hsz : W.heap.size = w.heap.size + 1 := by rw [hW]; simp
  have HlW := hide ((Hl.out.below BW).more BW.size)
  have HmW := hide ((Hm.out.below BW).more BW.size)
  obtain ⟨x0, x1, x2, x3, x4, x5, x6, x7⟩ := b1'.c8
  have HBW := hide BW
  have HB1 := hide b1'
  clear hW b1' BW Hl Hm
  refine wp_region_R (fun k => k < W.heap.size) 18 (by kernel_rfl) ?_
  apply anyR_peel (fuel := 11) 18 [true, true, true, true, true, true, false, true, false, false, false, false, false, false, false, false, false, false] #[true, true, true, true, true, true, false, true, false, false, false, false, false, false, false, false, false, false] (by kernel_rfl) rfl (fun j hj => decide_eq_true hj) (fun k hk => by first | exact hk | omega | (simp at hk ⊢; omega))
  · intro D hD
    have hne := hD.some
    have k0 := liftB hD x0 (by omega)
    have k1 := liftB hD x1 (by omega)
    have k2 := liftB hD x2 (by omega)
    have k3 := liftB hD x3 (by omega)
    have k4 := liftB hD x4 (by omega)
    have k5 := liftB hD x5 (by omega)
    have k6 := liftB hD x6 (by omega)
    have k7 := liftB hD x7 (by omega)
    simp only [takeOps]
    repeat (go_big_quiet_step ((go_at_call 13; exact calls_later hD _ (CheckTable_any A n c l most _ Hn.out hmax ((HlW.out.below (kb hD _)).more (kb hD _).size)))))
    exact wpQuiet_nil rfl
  refine anyR_call (f := 10) 6 #[true, true, true, true, true, true, true, true, false, false, false, false, false, false, false, false, false, false] (by kernel_rfl) (by kernel_rfl) rfl rfl rfl rfl 15 #[.slice A n c] (fun _ => by kernel_rfl) (fun k hk => hk) (fun v w1 w2 => w2.ownsRow w1.heap.size 96 2 v n ((flat2 l).map (Value.int .i64)))
    (fun w1 l1 => points_any A n c l w1 Hn.out (by omega) ((HlW.out.below l1).more l1.size)) ?_
  intro v1 w1 w2 l1 l2 o1
  simp only [Act.put, List.setIfInBounds_toArray, List.set_cons_succ, List.set_cons_zero]
  obtain ⟨A1, e1, rfl⟩ := own_slice o1
  have I1 := hide (Ints.own o1 rfl (Nat.le_refl _))
  have hs2 := l2.size
  have HL2 := hide l2
  clear o1 l1 l2 x0 x1 x2 x3 x4 x5 x6 x7
  have b2 := blk_later HB1.out HL2.out
  obtain ⟨x0, x1, x2, x3, x4, x5, x6, x7⟩ := b2.c8
  have HlW2 := hide ((HlW.out.below HL2.out).more hs2)
  have HmW2 := hide ((HmW.out.below HL2.out).more hs2)
  clear b2
  refine anyR_sub (S' := fun k => k < w2.heap.size) (fun k hk => by first | exact hk | omega | (simp at hk ⊢; omega)) ?_
  apply anyR_peel (fuel := 4) 18 [false, false, false, false, false, false, false, false, true, true, true, true, true, true, false, false, false, false] #[true, true, true, true, true, true, true, true, true, true, true, true, true, true, false, false, false, false] (by kernel_rfl) rfl (fun j hj => decide_eq_true hj) (fun k hk => by first | exact hk | omega | (simp at hk ⊢; omega))
  · intro D hD
    have hne := hD.some
    have k0 := liftB hD x0 (by omega)
    have k1 := liftB hD x1 (by omega)
    have k2 := liftB hD x2 (by omega)
    have k3 := liftB hD x3 (by omega)
    have k4 := liftB hD x4 (by omega)
    have k5 := liftB hD x5 (by omega)
    have k6 := liftB hD x6 (by omega)
    have k7 := liftB hD x7 (by omega)
    simp only [takeOps]
    repeat (go_big_quiet_step ((first | (go_at_call 14; exact calls_later hD _ (RefCheckTable_any A1 n e1 l most _ Hn.out hmax ((I1.out.below (kb hD _)).more (kb hD _).size))) | (go_at_call 16; exact calls_later hD _ (CheckModel_any A n c l A' n' c' m (a0, a1) (b0, b1) (c0, c1) _ Hn.out hmax Hn'.out hmax' ((HlW2.out.below (kb hD _)).more (kb hD _).size) ((HmW2.out.below (kb hD _)).more (kb hD _).size))))))
    exact wpQuiet_nil rfl
  refine anyR_call (f := 3) 14 #[true, true, true, true, true, true, true, true, true, true, true, true, true, true, true, false, false, false] (by kernel_rfl) (by kernel_rfl) rfl rfl rfl rfl 18 #[.agg #[.slice A n c, .slice A' n' c', .int .i64 a0, .int .i64 a1, .int .i64 b0, .int .i64 b1, .int .i64 c0, .int .i64 c1]] (fun _ => by kernel_rfl) (fun k hk => hk) (fun v _ w2 => ModelPost n l n' m (a0, a1) (b0, b1) (c0, c1) v w2)
    (fun w3 l3 => model_any A n c l A' n' c' m (a0, a1) (b0, b1) (c0, c1) w3 Hn.out (by omega) Hn'.out (by omega) ((HlW2.out.below l3).more l3.size) ((HmW2.out.below l3).more l3.size)) ?_
  rintro v w3 w4 l3 l4 ⟨A2, e2, A3, e3, rfl, i2, i3⟩
  simp only [Act.put, List.setIfInBounds_toArray, List.set_cons_succ, List.set_cons_zero, mdlV]
  have I2 := hide i2
  have I3 := hide i3
  have hs4 := l4.size
  have HL4 := hide (Later.trans HL2.out l4)
  clear i2 i3 l3 l4 x0 x1 x2 x3 x4 x5 x6 x7
  refine anyR_sub (S' := fun k => k < w4.heap.size) (fun k hk => by first | exact hk | omega | (simp at hk ⊢; omega)) ?_
  apply anyR_peel (fuel := 0) 18 [false, false, false, false, false, false, false, false, false, false, false, false, false, false, false, true, true, true] #[true, true, true, true, true, true, true, true, true, true, true, true, true, true, true, true, true, true] (by kernel_rfl) rfl (fun j hj => decide_eq_true hj) (fun k hk => by first | exact hk | omega | (simp at hk ⊢; omega))
  · intro D hD
    have hne := hD.some
    simp only [takeOps]
    repeat (go_big_quiet_step ((go_at_call 17; exact calls_later hD _ (RefCheckModel_any A2 n e2 l A3 n' e3 m (a0, a1) (b0, b1) (c0, c1) _ Hn.out hmax Hn'.out hmax' ((I2.out.below (kb hD _)).more (kb hD _).size) ((I3.out.below (kb hD _)).more (kb hD _).size)))))
    exact wpQuiet_nil rfl
  refine anyR_done (by kernel_rfl) fun w5 hl5 => ?_
  have L5 := HL4.out.trans hl5
  have b5 := blk_later HB1.out L5
  have HmW5 := hide ((HmW.out.below L5).more L5.size)
  have HB5 := hide (onward HBW.out L5)
  have HC5 := hide b5
  obtain ⟨x0, x1, x2, x3, x4, x5, x6, x7⟩ := b5.c8
  clear hl5 L5 b5
  go_wp2_with fail
  refine (Value_any A' n' c' m z _ Hn'.out hmax' HmW5.out).mono ?_
  rintro e w6 ⟨rfl, hb6⟩
  have HmW6 := hide ((HmW5.out.below hb6).more hb6.size)
  have HB6 := hide (onward HB5.out hb6)
  have HC6 := hide (HC5.out.below hb6 HC5.out.lt)
  clear hb6 x0 x1 x2 x3 x4 x5 x6 x7
  unfold spanE
  have hvr : ∃ r1 r2 r3, valueR m z = ((r1, r2), r3) := ⟨_, _, _, rfl⟩
  obtain ⟨r1, r2, r3, hvr⟩ := hvr
  have HVR := hide hvr
  rw [hvr]
  clear hvr
  have hlt6 := HC6.out.lt
  obtain ⟨x0, x1, x2, x3, x4, x5, x6, x7⟩ := HC6.out.c8
  go_wp2_with fail
  refine at_world fun W6 hW6 => ?_
  have bs : Blk W6 w6.heap.size 24 #[.int .i64 r1, .int .i64 r2] := by rw [hW6]; exact Blk.new _ _ _
  have B6' : Below w.heap.size w W6 := by rw [hW6]; exact HB6.out.alloc HB6.out.size _
  have S6 : w6.heap.size ≤ W6.heap.size := by rw [hW6]; simp
  have L6 : Later w6 W6 := by rw [hW6]; exact (Below.refl _ _).alloc (Nat.le_refl _) _
  have HmW6' := hide ((HmW6.out.below L6).more S6)
  have HB6' := hide B6'
  have Hbs := hide bs
  clear hW6 bs B6' S6 L6 x0 x1 x2 x3 x4 x5 x6 x7
  refine (points_any A' n' c' m W6 Hn'.out (by omega) HmW6'.out).mono ?_
  rintro e w7 ⟨v7, rfl, hb7, o7⟩
  obtain ⟨A7, e7, rfl⟩ := own_slice o7
  have I7 := hide (Ints.own o7 rfl (Nat.le_refl _))
  have HB7 := hide (onward HB6'.out hb7)
  have Hbs7 := hide (Hbs.out.below hb7 Hbs.out.lt)
  clear o7 hb7
  go_wp2_with fail
  refine (RefValue_any A7 n' e7 m z w7 Hn'.out hmax' I7.out).mono ?_
  rintro e w8 ⟨rfl, hb8⟩
  rw [HVR.out]
  simp only [spanE]
  have HB8 := hide (onward HB7.out hb8)
  have Hbs8 := hide (Hbs7.out.below hb8 Hbs7.out.lt)
  obtain ⟨y0, y1⟩ := Hbs8.out.c2
  have hl8 := Hbs8.out.lt
  clear hb8
  go_wp2_with fail
  refine at_world fun W8 hW8 => ?_
  have B8' : Below w.heap.size w W8 := by rw [hW8]; exact HB8.out.alloc HB8.out.size _
  have HB8' := hide B8'
  clear hW8 B8' y0 y1
  refine (T_any W8).mono ?_
  rintro e _ ⟨rfl, rfl⟩
  go_wp2_with fail
  refine (CheckTable_any _ 3 3 tabT 110 _ rfl (by decide) ((ints_new (zs := flat2 tabT) (Blk.new W8 94 _) rfl).more (by simp))).mono ?_
  rintro e w9 ⟨rfl, hb9⟩
  rw [chkT110]
  have HB9 := hide ((HB8'.out.alloc HB8'.out.size _).trans (hb9.mono (by have := HB8'.out.size; simp; omega)))
  clear hb9
  go_wp2_with fail
  refine (T_any w9).mono ?_
  rintro e _ ⟨rfl, rfl⟩
  go_wp2_with fail
  refine (CheckTable_any _ 3 3 tabT 109 _ rfl (by decide) ((ints_new (zs := flat2 tabT) (Blk.new w9 94 _) rfl).more (by simp))).mono ?_
  rintro e w10 ⟨rfl, hb10⟩
  rw [chkT109]
  have HB10 := hide ((HB9.out.alloc HB9.out.size _).trans (hb10.mono (by have := HB9.out.size; simp; omega)))
  clear hb10
  go_wp2_with fail
  refine (CheckTable_any none 0 0 [] 1 w10 rfl (by decide) (Ints.nil_ _ _ _ _)).mono ?_
  rintro e w11 ⟨rfl, hb11⟩
  rw [chkNil]
  have HB11 := hide (onward HB10.out hb11)
  clear hb11
  go_wp2_with fail
  refine (works_any w11).mono ?_
  rintro e w12 ⟨rfl, hb12⟩
  have HB12 := hide (onward HB11.out hb12)
  clear hb12
  go_wp2
  go_ret
  exact ⟨rfl, HB12.out⟩
end Go.Proofs.Ytmglgahagbfbkaa
