/-
  The law RainGauges returns true: for every list of pairs.
-/
import Derived.Test.YtmglgahagbfbkaaRefAdjust
import Derived.Test.YtmglgahagbfbkaaAdjust
import Derived.Test.YtmglgahagbfbkaaPoints
import Derived.Test.YtmglgahagbfbkaaWorks
import Derived.Test.YtmglgahagbfbkaaArr
namespace Go.Proofs.Ytmglgahagbfbkaa
open Go.RowKit

theorem pairInfo : (Try.prog.info? 69).map (fun i => (i.zero, i.size, i.bytes)) = some (some (.agg #[.int .i64 0, .int .i64 0, .int .i64 0, .int .i64 0]), 4, 32) := by kernel_rfl
theorem eqAt (a b a' b' : Int) (w : World) : (Op.equalIn 10000 72 (.agg #[.int .i64 a, .int .i64 b]) (.agg #[.int .i64 a', .int .i64 b'])).run Try.prog w = .ok (a == a' && b == b') w :=
  run_equalIn_arr2 Try.underlying72 Try.underlying3 (by kernel_rfl) 9998 a b a' b' w
theorem take_snoc4 (zs : List Int) (k n : Nat) (hz : zs.length = n * 4) (hk : k < n) : (zs.map (Value.int .i64)).take (k * 4) ++ [.int .i64 (zs.getD (k * 4) 0), .int .i64 (zs.getD (k * 4 + 1) 0), .int .i64 (zs.getD (k * 4 + 2) 0), .int .i64 (zs.getD (k * 4 + 3) 0)] = (zs.map (Value.int .i64)).take ((k + 1) * 4) := by
  have hl : (zs.map (Value.int .i64)).length = n * 4 := by simp [hz]
  rw [show (k + 1) * 4 = k * 4 + 1 + 1 + 1 + 1 by omega, List.take_succ_eq_append_getElem (by omega : k * 4 + 1 + 1 + 1 < (zs.map (Value.int .i64)).length), List.take_succ_eq_append_getElem (by omega : k * 4 + 1 + 1 < (zs.map (Value.int .i64)).length), List.take_succ_eq_append_getElem (by omega : k * 4 + 1 < (zs.map (Value.int .i64)).length), List.take_succ_eq_append_getElem (by omega : k * 4 < (zs.map (Value.int .i64)).length)]
  simp [List.getD, show k * 4 < zs.length by omega, show k * 4 + 1 < zs.length by omega, show k * 4 + 1 + 1 < zs.length by omega, show k * 4 + 1 + 1 + 1 < zs.length by omega]

set_option maxHeartbeats 4000000 in
set_option maxRecDepth 100000 in
theorem RainGauges_any (A : Option Addr) (n c : Nat) (zs : List Int) (w : World) (hz : zs.length = n * 4) (hmax : n ≤ 9223372036854775807) (hcap : n ≤ c) (hcm : c ≤ 9223372036854775807) (hl : Ints w w.heap.size .i64 A zs) :
    Calls Try.prog 7 #[.slice A n c] w fun e w' => e = .returned (.bool true) ∧ Below w.heap.size w w' := by
  have Hl := hide hl
  have Hz := hide hz
  have Hcap := hide hcap
  have Hcm := hide hcm
  clear hl hz hcap hcm
  by_cases h200 : (200 : Int) < n
  · have h40 : (40 : Int) < n := by omega
    have h100 : ¬ (n : Int) ≤ 100 := by omega
    go_enter Try.func7, Try.ntmps7
    go_wp2_with fail
    refine (works_any _).mono ?_
    rintro e w1 ⟨rfl, hb⟩
    go_wp2
    go_ret
    exact ⟨rfl, hb⟩
  have hgo : ((40 : Int) < n ∧ (n : Int) ≤ 100) ∨ ((40 : Int) < n ∧ ¬ (n : Int) ≤ 100) ∨ ¬ (40 : Int) < n := by omega
  rcases hgo with ⟨h40, h100⟩ | hgo
  · go_enter Try.func7, Try.ntmps7
    go_wp2_with fail
    refine (works_any _).mono ?_
    rintro e w1 ⟨rfl, hb⟩
    go_wp2
    go_ret
    exact ⟨rfl, hb⟩
  obtain ⟨i0, hi, hz0, hz1, hz2⟩ := info_parts pairInfo
  have Hi := hide hi
  have Hz0 := hide hz0
  have Hz1 := hide hz1
  have Hz2 := hide hz2
  clear hi hz0 hz1 hz2
  go_enter Try.func7, Try.ntmps7
  rcases hgo with ⟨h40, h100⟩ | h40
  all_goals
    go_wp2_with fail
    go_loopw [3, 4] (fun o i wr => ∃ k : Nat, k ≤ n ∧ i = .int .i64 k ∧ wr.ownsRow w.heap.size 69 4 o k ((zs.map (Value.int .i64)).take (k * 4)) ∧ Below w.heap.size w wr) (fun _ i _ => n - (intOf i).toNat)
    case atStart => exact ⟨0, by omega, rfl, by simpa using World.ownsRow_nil _ _ _ _, Below.refl _ _⟩
    case round =>
      obtain ⟨k, hk, rfl, hown, hbw⟩ := hrel
      have hsw := hbw.size
      have Hown := hide hown
      have HB := hide hbw
      clear hown hbw
      by_cases hlt : k < n
      · obtain ⟨b, off, rfl, hb, hc⟩ := Hl.out.pt4 Hz.out (by omega)
        have hcc := hc k hlt
        have hts := take_snoc4 zs k n Hz.out hlt
        have Hts := hide hts
        clear hts hc
        generalize zs.getD (k * 4) 0 = x0 at *
        generalize zs.getD (k * 4 + 1) 0 = x1 at *
        generalize zs.getD (k * 4 + 2) 0 = x2 at *
        generalize zs.getD (k * 4 + 3) 0 = x3 at *
        have Hcc := hide hcc
        clear hcc
        obtain ⟨p0, p1, p2, p3⟩ := Hcc.out
        rw [← HB.out.cell hb] at p0 p1 p2 p3
        go_wp2_with fail
        refine wp_region_R (fun k => k < wr.heap.size) 13 (by kernel_rfl) ?_
        apply anyR_peel (fuel := 3) 13 [true, true, true, true, true, true, true, true, true, true, true, true, false, false, false] #[true, true, true, true, true, true, true, true, true, true, true, true, false, false, false] (by kernel_rfl) rfl (fun j hj => decide_eq_true hj) (fun k hk => by first | exact hk | omega | (simp at hk ⊢; omega))
        · intro D hD
          have hne := hD.some
          have k0 := liftB hD p0 (by omega)
          have k1 := liftB hD p1 (by omega)
          have k2 := liftB hD p2 (by omega)
          have k3 := liftB hD p3 (by omega)
          simp only [takeOps]
          repeat (go_big_quiet_step (fail))
          exact wpQuiet_nil rfl
        refine anyR_push (f := 0) 12 13 14 62 69 35 47 48 3 46 (by kernel_rfl) (by decide) rfl rfl rfl rfl rfl rfl rfl rfl rfl rfl rfl rfl rfl w.heap.size i0 _ 4 32 Try.underlying62 Hi.out Hz0.out Hz1.out Hz2.out rfl (by omega) #[.int .i64 x0, .int .i64 x1, .int .i64 x2, .int .i64 x3] (fun _ => by kernel_rfl) rfl (by simp [Value.oneCell']) _ k ((zs.map (Value.int .i64)).take (k * 4)) rfl (by exact of_decide_eq_true rfl) (by exact of_decide_eq_true rfl) Hown.out (by unfold maxLen; omega) (by omega) hsw (fun h => by simp at h) (fun k hk => hk) ?_
        intro g v' w2 hown2 hgr2
        simp only [Act.put, List.setIfInBounds_toArray, List.set_cons_succ, List.set_cons_zero]
        replace HB := hide (below_grown HB.out hgr2 HB.out.size fun k hk => (Hown.out.lt k hk).1)
        replace Hown := hide hown2
        clear hown2 hgr2
        clear p0 p1 p2 p3
        obtain ⟨p0, p1, p2, p3⟩ := Hcc.out
        rw [← HB.out.cell hb] at p2 p3
        clear p0 p1
        obtain ⟨f1, f2, f3, hf⟩ : ∃ f1 f2 f3, fellR x2 x3 = ((f1, f2), f3) := ⟨_, _, _, rfl⟩
        have HF := hide hf
        clear hf
        go_wp2_with fail
        refine (Fell_any x2 x3 _).mono ?_
        rintro e w3 ⟨rfl, hb⟩
        replace Hown := hide (own_later Hown.out hb)
        replace HB := hide (onward HB.out hb)
        clear hb
        rw [HF.out]
        unfold spanE
        simp only
        clear p2 p3
        obtain ⟨p0, p1, p2, p3⟩ := Hcc.out
        rw [← HB.out.cell hb] at p2 p3
        clear p0 p1
        have hb3 : b < w3.heap.size := by have := HB.out.size; omega
        go_wp2_with fail
        refine at_world fun W4 hW => ?_
        have bq0 : Blk W4 w3.heap.size 24 #[.int .i64 f1, .int .i64 f2] := by rw [hW]; exact Blk.new _ _ _
        have LW : Later w3 W4 := by rw [hW]; exact ((Below.refl _ _).alloc (Nat.le_refl _) _)
        have szW : W4.heap.size = w3.heap.size + 1 := by rw [hW]; simp
        clear hW
        replace Hown := hide (own_later Hown.out LW)
        replace HB := hide (onward HB.out LW)
        have Hba := hide bq0
        clear bq0 LW szW
        refine (RefFell_any x2 x3 _).mono ?_
        rintro e w5 ⟨rfl, hb⟩
        replace Hown := hide (own_later Hown.out hb)
        replace HB := hide (onward HB.out hb)
        replace Hba := hide (blk_later Hba.out hb)
        clear hb
        rw [HF.out]
        unfold spanE
        simp only
        clear p2 p3
        obtain ⟨y0, y1⟩ := Hba.out.c2
        have lty := Hba.out.lt
        go_wp2
        go_roundw
        case rel =>
          refine ⟨k + 1, by omega, by go_num, ?_, HB.out.alloc HB.out.size _⟩
          have := Hown.out.alloc (.cells #[.int .i64 f1, .int .i64 f2] 24)
          rw [Hts.out] at this; exact this
        case measure => simp [intOf] <;> omega
      · obtain rfl : k = n := by omega
        have hown := Hown.out
        rw [List.take_of_length_le (by have := Hz.out; simp; omega)] at hown
        obtain ⟨A1, e1, rfl⟩ := own_slice hown
        replace Hown := hide hown
        clear hown
        go_wp2_with fail
        have hq := Adjust_any A k c zs wr Hz.out (by omega) Hcap.out Hcm.out ((Hl.out.below HB.out).more HB.out.size)
        have hs := fun W (hI : Ints W W.heap.size .i64 A1 zs) => RefAdjust_any A1 k e1 zs W Hz.out (by omega) hI
        rw [adj_eq] at hq
        obtain ⟨r1, r2, r3, r4, r5, hr⟩ : ∃ r1 r2 r3 r4 r5, adjG (okZ fun j => zs.getD j 0) (scY fun j => zs.getD j 0) k = (((r1, r2), (r3, r4)), r5) := ⟨_, _, _, _, _, rfl⟩
        rw [hr] at hq
        simp only [hr] at hs
        unfold adjV at hq hs
        have heq := eqAt r3 r4 r3 r4
        have Hs := hide hs
        clear hr hs
        refine (hq).mono ?_
        rintro e w1 ⟨rfl, hb⟩
        replace Hown := hide (own_later Hown.out hb)
        replace HB := hide (onward HB.out hb)
        clear hb
        clear hq
        go_wp2_with fail
        refine at_world fun W2 hW => ?_
        have bq0 : Blk W2 w1.heap.size 24 #[.int .i64 r1, .int .i64 r2] := by rw [hW]; exact (Blk.new _ _ _).alloc _
        have bq1 : Blk W2 (w1.heap.size + 1) 72 #[.int .i64 r3, .int .i64 r4] := by rw [hW]; exact blk_new_at (by simp)
        have LW : Later w1 W2 := by rw [hW]; exact (((Below.refl _ _).alloc (Nat.le_refl _) _).alloc (by simp; try omega) _)
        have szW : W2.heap.size = w1.heap.size + 2 := by rw [hW]; simp
        clear hW
        replace Hown := hide (own_later Hown.out LW)
        replace HB := hide (onward HB.out LW)
        have Hba := hide bq0
        have Hbb := hide bq1
        clear bq0 bq1 LW szW
        refine (Hs.out _ (Ints.own Hown.out rfl (Nat.le_refl _))).mono ?_
        rintro e w3 ⟨rfl, hb⟩
        replace Hown := hide (own_later Hown.out hb)
        replace HB := hide (onward HB.out hb)
        replace Hba := hide (blk_later Hba.out hb)
        replace Hbb := hide (blk_later Hbb.out hb)
        clear hb
        clear Hown
        clear Hs
        obtain ⟨x0, x1⟩ := Hba.out.c2
        have ltx := Hba.out.lt
        obtain ⟨y0, y1⟩ := Hbb.out.c2
        have lty := Hbb.out.lt
        go_wp2_with fail
        refine at_world fun W4 hW => ?_
        have bq0 : Blk W4 w3.heap.size 24 #[.int .i64 r1, .int .i64 r2] := by rw [hW]; exact (Blk.new _ _ _).alloc _
        have bq1 : Blk W4 (w3.heap.size + 1) 72 #[.int .i64 r3, .int .i64 r4] := by rw [hW]; exact blk_new_at (by simp)
        have LW : Later w3 W4 := by rw [hW]; exact (((Below.refl _ _).alloc (Nat.le_refl _) _).alloc (by simp; try omega) _)
        have szW : W4.heap.size = w3.heap.size + 2 := by rw [hW]; simp
        clear hW x0 x1 ltx y0 y1 lty
        replace HB := hide (onward HB.out LW)
        replace Hba := hide (blk_later Hba.out LW)
        replace Hbb := hide (blk_later Hbb.out LW)
        have Hbc := hide bq0
        have Hbd := hide bq1
        clear bq0 bq1 LW szW
        refine (works_any _).mono ?_
        rintro e w5 ⟨rfl, hb⟩
        replace HB := hide (onward HB.out hb)
        replace Hba := hide (blk_later Hba.out hb)
        replace Hbb := hide (blk_later Hbb.out hb)
        replace Hbc := hide (blk_later Hbc.out hb)
        replace Hbd := hide (blk_later Hbd.out hb)
        clear hb
        go_wp2
        go_ret
        exact ⟨rfl, HB.out⟩
end Go.Proofs.Ytmglgahagbfbkaa
